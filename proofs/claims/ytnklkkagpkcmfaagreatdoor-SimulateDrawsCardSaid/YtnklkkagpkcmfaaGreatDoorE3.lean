import Derived.Test.YtnklkkagpkcmfaaGreatDoorE2
import Derived.Sort.OwnSortedInts
import Derived.SizedLaws
import Derived.ChangeArms
import Derived.Recover
set_option linter.all false
namespace Go.Eng
open Go.RowKit

/-- The contract: the result is F of a new row's name, the row holds es; the rest of the result holds no memory. -/
def ACO (P : Program) (f : FuncId) (args : List V) (sz : Nat) (ty : TypeId) (R : (Nat → Nat → V) → List V → Prop) : Prop :=
  ∀ (w : World) (N : Nat → Prop) (xs : List Value), (∀ b, N b → b < w.heap.size) → xs.length = args.length → (∀ (i : Nat) x v, xs[i]? = some x → args[i]? = some v → Pur w N x v) →
    Calls P f xs.toArray w (fun e w' => ∃ x F es l, e = .returned x ∧ R F es ∧ Below w.heap.size w w' ∧
      ∀ d v μ N', μ d v = some l → Enc w' N' μ x (F d v) ∧ ObEnc w' N' μ ⟨w, fun _ => False, fun _ _ => none, []⟩ ⟨v, sz, ty, es⟩ l)

theorem ACO.mono {P : Program} {f : FuncId} {args : List V} {sz : Nat} {ty : TypeId} {R R' : (Nat → Nat → V) → List V → Prop} (h : ACO P f args sz ty R) (hr : ∀ F es, R F es → R' F es) : ACO P f args sz ty R' :=
  fun w N xs h1 h2 h3 => (h w N xs h1 h2 h3).mono fun _ _ ⟨x, F, es, l, he, hR, hp⟩ => ⟨x, F, es, l, he, hr F es hR, hp⟩

def flatE (e : V) : Bool := e.cells.all V.flat
def V.reC (q vq d v : Nat) : V → V
  | .sl d' v' sz len => if d' = q ∧ v' = vq then .sl d v sz len else .sl d' v' sz len
  | u => u
def V.re (q vq d v : Nat) : V → V
  | .agg cs => .agg (cs.map (V.reC q vq d v))
  | u => u.reC q vq d v
def V.liteC (q vq : Nat) : V → Bool
  | .sl d' v' _ _ => (d' == q) && (v' == vq)
  | u => u.flat
def V.liteE (q vq : Nat) : V → Bool
  | .agg cs => cs.all (V.liteC q vq)
  | u => u.liteC q vq

section
variable {P : Program} {w0 : Bs} {N0 : Nat → Prop} {Q : Exit → AS → Prop} {S : AS}

theorem Enc.reC {w : World} {N N' : Nat → Prop} {μ μ' : Mu} {q vq d v : Nat} {x : Value} {u : V} (h : Enc w N μ x u) (hl : u.liteC q vq = true) (hμ : ∀ l, μ q vq = some l → μ' d v = some l) : Enc w N' μ' x (u.reC q vq d v) ∧ (u.reC q vq d v).isCell = true := by
  cases h with
  | pur h =>
    cases h with
    | bool b => exact ⟨.pur (.bool b), rfl⟩
    | int k n => exact ⟨.pur (.int k n), rfl⟩
    | str l => exact ⟨.pur (.str l), rfl⟩
    | nils A => exact ⟨.pur (.nils A), rfl⟩
    | fn f => exact ⟨.pur (.fn f), rfl⟩
    | nilp => exact ⟨.pur .nilp, rfl⟩
    | nili => exact ⟨.pur .nili, rfl⟩
    | nilf => exact ⟨.pur .nilf, rfl⟩
    | ifc t x v h1 h2 => exact ⟨.pur (.ifc t x v h1 (h2.of_flat2 h1)), rfl⟩
    | agg | tup | ro | rp | mp | fc | dm | rm => simp [V.liteC, V.flat] at hl
  | slr d' v' sz len g cap h1 h2 h3 =>
    simp only [V.liteC, Bool.and_eq_true, beq_iff_eq] at hl
    obtain ⟨rfl, rfl⟩ := hl
    simp only [V.reC, and_self, if_true]
    exact ⟨.slr d v sz len g cap (hμ _ h1) h2 h3, rfl⟩
  | slv d' v' sz A h1 =>
    simp only [V.liteC, Bool.and_eq_true, beq_iff_eq] at hl
    obtain ⟨rfl, rfl⟩ := hl
    simp only [V.reC, and_self, if_true]
    exact ⟨.slv d v sz A (hμ _ h1), rfl⟩
  | ifc t x v hc h => exact ⟨.pur ((Pur.ifc t x v hl (h.flat2 hc hl)).of_flat hl), rfl⟩
  | ss | bp | agg | tup | whn | clo | mr => simp [V.liteC, V.flat] at hl

theorem Enc.re {w : World} {N N' : Nat → Prop} {μ μ' : Mu} {q vq d v : Nat} {x : Value} {u : V} (h : Enc w N μ x u) (hl : u.liteE q vq = true) (hμ : ∀ l, μ q vq = some l → μ' d v = some l) : Enc w N' μ' x (u.re q vq d v) := by
  have key : ∀ (xs : List Value) (cs : List V), xs.length = cs.length → (∀ (i : Nat) x c, xs[i]? = some x → cs[i]? = some c → Enc w N μ x c) → cs.all (V.liteC q vq) = true → Enc w N' μ' (.agg xs.toArray) (.agg (cs.map (V.reC q vq d v))) := by
    intro xs cs h1 h2 h3
    refine .agg xs _ (by simp [h1]) (fun c hc => ?_) (fun i x c hx hc => ?_)
    · simp only [List.mem_map] at hc
      obtain ⟨c0, hc0, rfl⟩ := hc
      obtain ⟨i, hi⟩ := List.getElem?_of_mem hc0
      have hlt : i < xs.length := by rw [h1]; exact (List.getElem?_eq_some_iff.1 hi).1
      exact ((h2 i xs[i] c0 (List.getElem?_eq_getElem hlt) hi).reC (N' := N') (List.all_eq_true.1 h3 c0 hc0) hμ).2
    · simp only [List.getElem?_map, Option.map_eq_some_iff] at hc
      obtain ⟨c0, hc0, rfl⟩ := hc
      exact ((h2 i x c0 hx hc0).reC (List.all_eq_true.1 h3 c0 (List.mem_of_getElem? hc0)) hμ).1
  cases u with
  | agg cs =>
    cases h with
    | pur h => cases h with
      | agg xs _ h1 h2 h3 => exact key xs cs h1 (fun i x c a b => .pur (h3 i x c a b)) hl
    | agg xs _ h1 h2 h3 => exact key xs cs h1 h3 hl
  | _ => exact (h.reC hl hμ).1

/-- A call that hands back a new row d. -/
theorem awl_callO {ops : List Oper} {i : Nat} {o : Oper} {rest : List Oper} {f : Operand} {fid : FuncId} {fn : Func} {args : Array Operand} {ats : Array TypeId} {vs us : List V} {sz : Nat} {ty : TypeId} {R : (Nat → Nat → V) → List V → Prop} (d : Nat)
    (hg : o.guard = none) (ho : o.op = .call { callee := .value f, args := args, argTypes := ats }) (hf : S.evc true f = some (.fn fid)) (hfn : P.funcs[fid]? = some fn) (hb : fn.body.isSome = true) (hn : (fn.name == "runtime.NumGoroutine") = false)
    (ha : S.args true args.toList = some vs) (hp : S.views vs = some us) (hc : ACO P fid us sz ty R)
    (h : ∀ F es, R F es → ∃ S', ({ S with objs := (d, ⟨S.nx + i, sz, ty, es⟩) :: S.objs } : AS).putv o.dst (F d (S.nx + i)) = some S' ∧ AWL P w0 N0 ops Q (i + 1) rest S') : AWL P w0 N0 ops Q i (o :: rest) S := by
  rintro D a w hD ⟨μ, hr⟩
  refine wpList_plain hg fun K hK => ?_
  have hfv := hr.evc hf rfl
  have hfe : a.eval f = .func (.func fid) #[] #[] := by
    generalize a.eval f = y at hfv
    cases hfv with
    | pur hfv => cases hfv with
      | fn => rfl
  obtain ⟨h1, h2⟩ := args_spec hr rfl ha
  obtain ⟨h3, h4⟩ := views_spec hp
  unfold Oper.wp
  rw [run_call_fn ho hfe hfn hb hn]
  have hcall := hc w N0 (args.toList.map a.eval) (fun b hb => Nat.lt_of_lt_of_le (hr.n0.1 b hb).1 hr.below.size) (by simp [h1, h3]) (fun j x v hx hv => by
    simp only [List.getElem?_map, Option.map_eq_some_iff] at hx
    obtain ⟨y, hy, rfl⟩ := hx
    have hj : j < vs.length := by rw [← h3]; exact (List.getElem?_eq_some_iff.1 hv).1
    exact hr.view (h2 j y vs[j] hy (List.getElem?_eq_getElem hj)) (h4 j vs[j] v (List.getElem?_eq_getElem hj) hv))
  have harr : (args.toList.map a.eval).toArray = args.map a.eval := by apply Array.ext'; simp
  rw [harr] at hcall
  refine hcall.mono ?_
  rintro e w' ⟨x, F, es, l, rfl, hR, hbw, hpx⟩
  obtain ⟨S', hs, hrest⟩ := h F es hR
  have hi : ¬ D i := fun hd => absurd (hD i hd) (by omega)
  have hmono := hr.muSet_mono hi d l
  obtain ⟨hrel, _⟩ := hr.update (D' := fun j => D j ∨ j = i) (d := d) (o' := ⟨S.nx + i, sz, ty, es⟩) (l' := l) (w' := w') (μ' := muSet μ d (S.nx + i) l) hmono (hr.muSet_fresh i d _) (muSet_same _ _ _ _)
    (hr.below.trans (hbw.mono hr.below.size)) (Keeps.of_below hbw _) (fun d1 o1 g c _ h1 h2 => hbw.block g (hr.block_lt h1 h2))
    (fun g c e => by
      have := (hpx d (S.nx + i) (muSet μ d (S.nx + i) l) (fun _ => False) (muSet_same _ _ _ _)).2
      rw [e] at this
      exact .inl (this.1.elim id (fun h => h.elim)))
    (fun N' _ => by
      have := (hpx d (S.nx + i) (muSet μ d (S.nx + i) l) N' (muSet_same _ _ _ _)).2
      cases l with
      | none => exact this
      | some gc => exact ⟨.inl (Nat.le_trans hr.below.size (this.1.elim id (fun h => h.elim))), this.2⟩)
  refine hK _ _ (hrest (fun j => D j ∨ j = i) _ w' (fun j hj => ?_) ⟨_, hrel.putv hs (hpx d (S.nx + i) _ _ (muSet_same _ _ _ _)).1⟩)
  rcases hj with hj | hj
  · have := hD j hj; omega
  · omega

theorem awl_callO1 {ops : List Oper} {i : Nat} {o : Oper} {rest : List Oper} {f : Operand} {fid : FuncId} {fn : Func} {args : Array Operand} {ats : Array TypeId} {vs us : List V} {sz : Nat} {ty : TypeId} {F : Nat → Nat → V} {es : List V} {S' : AS} (d : Nat)
    (hc : ACO P fid us sz ty (fun F' es' => F' = F ∧ es' = es)) (hfn : P.funcs[fid]? = some fn) (hb : fn.body.isSome = true) (hn : (fn.name == "runtime.NumGoroutine") = false)
    (hg : o.guard = none) (ho : o.op = .call { callee := .value f, args := args, argTypes := ats }) (hf : S.evc true f = some (.fn fid))
    (ha : S.args true args.toList = some vs) (hp : S.views vs = some us) (hs : ({ S with objs := (d, ⟨S.nx + i, sz, ty, es⟩) :: S.objs } : AS).putv o.dst (F d (S.nx + i)) = some S')
    (h : AWL P w0 N0 ops Q (i + 1) rest S') : AWL P w0 N0 ops Q i (o :: rest) S :=
  awl_callO d hg ho hf hfn hb hn ha hp hc (fun _ _ ⟨h1, h2⟩ => by subst h1; subst h2; exact ⟨S', hs, h⟩)

def aresL (P : Program) (S : AS) : List ResultVar → Option (List V)
  | [] => some []
  | r :: rs => match aresult P S r, aresL P S rs with
    | some v, some vs => some (v :: vs)
    | _, _ => none

/-- The results as a function of the name of row q of version vq. -/
def aresO (P : Program) (S : AS) (q vq : Nat) (rs : List ResultVar) : Option (Nat → Nat → V) :=
  match aresL P S rs with
  | some [v] => if v.liteE q vq = true then some (fun d w => v.re q vq d w) else none
  | some vs => if vs.all (V.liteE q vq) = true then some (fun d w => .tup (vs.map (V.re q vq d w))) else none
  | none => none

def EndsO (P : Program) (fn : Func) (sz : Nat) (ty : TypeId) (R : (Nat → Nat → V) → List V → Prop) (e : Exit) (S : AS) : Prop :=
  (e = .ret ∨ e = .normal) ∧ ((∃ q o F, get S.objs q = some o ∧ o.sz = sz ∧ o.ty = ty ∧ o.es.all flatE = true ∧ aresO P S q o.v fn.results.toList = some F ∧ R F o.es) ∨
    ∃ F, aresO P S 0 (S.nx + 1) fn.results.toList = some F ∧ R F [])

theorem aresO_run {D : Nat → Prop} {μ : Mu} {a : Act} {w : World} (h : RelM D w0 N0 μ S a w) {fn : Func} {q vq : Nat} {F : Nat → Nat → V} (hv : aresO P S q vq fn.results.toList = some F) :
    ∃ x, (results fn a.tmps).run P w = .ok x w ∧ ∀ d v (μ' : Mu) N', (∀ l, μ q vq = some l → μ' d v = some l) → Enc w N' μ' x (F d v) := by
  have key : ∀ (l : List ResultVar) (vs : List V), aresL P S l = some vs → ∃ xs : List Value, (l.mapM (resSem a.tmps)).run P w = .ok xs w ∧
      xs.length = vs.length ∧ ∀ (i : Nat) x v, xs[i]? = some x → vs[i]? = some v → Enc w (Own N0 μ S) μ x v := by
    intro l
    induction l with
    | nil => intro vs hvs; simp only [aresL, Option.some.injEq] at hvs; subst hvs; exact ⟨[], rfl, rfl, by simp⟩
    | cons q l ih =>
      intro vs hvs
      simp only [aresL] at hvs
      split at hvs
      case h_2 => cases hvs
      rename_i v vs' h1 h2
      injection hvs with hvs
      subst hvs
      obtain ⟨x, hx, hex⟩ := aresult_run h h1
      obtain ⟨xs, hxs, hl, hh⟩ := ih vs' h2
      refine ⟨x :: xs, ?_, by simp [hl], fun i y v hy hv => ?_⟩
      · rw [List.mapM_cons, Sem.run_bind, hx, Result.andThen_ok, Sem.run_bind, hxs, Result.andThen_ok]
        rfl
      · rcases i with _ | i
        · simp at hy hv; subst hy; subst hv; exact hex
        · simp at hy hv; exact hh i y v hy hv
  have hmap : ∀ xs : List Value, (fn.results.toList.mapM (resSem a.tmps)).run P w = .ok xs w →
      (results fn a.tmps).run P w = .ok (if h : xs.toArray.size = 1 then xs.toArray[0] else .tuple xs.toArray) w := by
    intro xs hxs
    rw [results_eq, Sem.run_bind, Array.mapM_eq_mapM_toList, Sem.run_map, hxs]
    rfl
  unfold aresO at hv
  split at hv
  · rename_i v hvs
    split at hv
    case isFalse => cases hv
    rename_i hl
    injection hv with hv
    subst hv
    obtain ⟨xs, h1, h2, h3⟩ := key _ _ hvs
    match xs, h2 with
    | [x], _ => exact ⟨x, hmap [x] h1, fun d v' μ' N' hμ => (h3 0 x _ rfl rfl).re hl hμ⟩
  · rename_i vs hne hvs
    split at hv
    case isFalse => cases hv
    rename_i hl
    injection hv with hv
    subst hv
    obtain ⟨xs, h1, h2, h3⟩ := key _ _ hvs
    refine ⟨.tuple xs.toArray, ?_, fun d v' μ' N' hμ => .tup xs _ (by simp [h2]) (fun i x c hx hc => ?_)⟩
    · rw [hmap xs h1]
      have : ¬ xs.toArray.size = 1 := by
        intro h0
        have hl : vs.length = 1 := by simp at h0; omega
        match vs, hl with
        | [v], _ => exact hne v rfl
      rw [dif_neg this]
    · simp only [List.getElem?_map, Option.map_eq_some_iff] at hc
      obtain ⟨c0, hc0, rfl⟩ := hc
      exact (h3 i x c0 hx hc0).re (List.all_eq_true.1 hl c0 (List.mem_of_getElem? hc0)) hμ
  · cases hv

theorem aco_intro {f : FuncId} {fn : Func} {c : Code} {args : List V} {sz : Nat} {ty : TypeId} {R : (Nat → Nat → V) → List V → Prop} (hf : P.funcs[f]? = some fn) (hb : fn.body = some c) (hl : args.length ≤ fn.ntmps)
    (h : ∀ w0 N0, AW P w0 N0 c (EndsO P fn sz ty R) ⟨env0 0 args, [], 0, fn.ntmps⟩) : ACO P f args sz ty R := by
  intro w N xs hN hlen hp
  refine calls_of_wp hf hb (wp_mono (h ⟨w, fun _ => False, fun _ _ => none, []⟩ N _ w ⟨fun _ _ => none, ⟨rfl, ?_, Bs.Below.refl _, ⟨fun b hb => ⟨hN b hb, fun h => h⟩, fun _ _ _ h => by cases h⟩, fun d v hv => absurd rfl hv, fun d o hd => ?_, fun d o _ _ _ _ _ hd => ?_, fun t v hv => ?_⟩⟩) ?_)
  · simp only [Array.size_append, List.size_toArray, Array.size_replicate]; omega
  · simp [get] at hd
  · simp [get] at hd
  · obtain ⟨_, h2⟩ := get_env0 hv
    simp only [Nat.sub_zero] at h2
    have ht : t < args.length := (List.getElem?_eq_some_iff.1 h2).1
    refine ⟨by simp only; omega, .pur ?_⟩
    have hx : xs[t]? = some xs[t] := List.getElem?_eq_getElem (by omega)
    have := hp t xs[t] v hx h2
    have hget : (xs.toArray ++ Array.replicate (fn.ntmps - xs.toArray.size) undef).getD t undef = xs[t] := by
      rw [Array.getD_eq_getD_getElem?, Array.getElem?_append_left (by simp; omega)]
      simp [hx]
    rw [hget]
    exact this.keep (Keeps.refl _ _) (fun b hb ho => by
      rcases ho with h0 | ⟨d, o, c, h1, _⟩
      · exact h0
      · simp [get] at h1)
  · rintro e a' w' ⟨S', ⟨he, hE⟩, ⟨μ, hr⟩⟩
    have key : ∃ v, (results fn a'.tmps).run P w' = .ok v w' ∧ ∃ x F es l, Ending.returned v = .returned x ∧ R F es ∧ Below w.heap.size w w' ∧
        ∀ d v μ N', μ d v = some l → Enc w' N' μ x (F d v) ∧ ObEnc w' N' μ ⟨w, fun _ => False, fun _ _ => none, []⟩ ⟨v, sz, ty, es⟩ l := by
      rcases hE with ⟨q, o, F, hq, hsz, hty, hfl, hres, hR⟩ | ⟨F, hres, hR⟩
      · obtain ⟨x, hx, hex⟩ := aresO_run hr hres
        obtain ⟨l, hl, hob⟩ := hr.objs q o hq
        refine ⟨x, hx, x, F, o.es, l, rfl, hR, hr.below.plain, fun d v μ' N' hμ => ⟨hex d v μ' N' (fun l' hl' => ?_), ?_⟩⟩
        · rw [hl] at hl'; injection hl' with hl'; subst hl'; exact hμ
        · subst hsz; subst hty
          cases l with
          | none => exact hob
          | some gc =>
            obtain ⟨h1, h2, h3, h4, arr, h5, h6, h7⟩ := hob
            refine ⟨h1, h2, h3, h4, arr, h5, h6, fun k e j c he' hj => ?_⟩
            obtain ⟨y, hy, hey⟩ := h7 k e j c he' hj
            have hfc : c.flat = true := List.all_eq_true.1 (List.all_eq_true.1 hfl e (List.mem_of_getElem? he')) c (List.mem_of_getElem? hj)
            refine ⟨y, hy, ?_⟩
            exact .pur ((hey.flatP hfc).of_flat hfc)
      · obtain ⟨x, hx, hex⟩ := aresO_run hr hres
        refine ⟨x, hx, x, F, [], none, rfl, hR, hr.below.plain, fun d v μ' N' hμ => ⟨hex d v μ' N' (fun l' hl' => ?_), rfl⟩⟩
        exfalso
        rcases hr.fresh 0 (S'.nx + 1) (by rw [hl']; simp) with h1 | ⟨j, hj, _⟩
        · omega
        · exact hj
    rcases he with rfl | rfl
    · exact ⟨hr.defers, key⟩
    · exact ⟨hr.defers, key⟩

theorem endso_row {fn : Func} {sz : Nat} {ty : TypeId} {R : (Nat → Nat → V) → List V → Prop} {F : Nat → Nat → V} (q : Nat) {o : Ob} (ho : get S.objs q = some o) (hsz : o.sz = sz) (hty : o.ty = ty) (hfl : o.es.all flatE = true) (hr : aresO P S q o.v fn.results.toList = some F) (h : R F o.es) : EndsO P fn sz ty R .ret S :=
  ⟨.inl rfl, .inl ⟨q, o, F, ho, hsz, hty, hfl, hr, h⟩⟩
theorem endso_none {fn : Func} {sz : Nat} {ty : TypeId} {R : (Nat → Nat → V) → List V → Prop} {F : Nat → Nat → V} (hr : aresO P S 0 (S.nx + 1) fn.results.toList = some F) (h : R F []) : EndsO P fn sz ty R .ret S :=
  ⟨.inl rfl, .inr ⟨F, hr, h⟩⟩

attribute [simp] aresO aresL V.liteE V.liteC V.re V.reC flatE

end
end Go.Eng

namespace Go.Eng
open Go.RowKit

def V.slen : V → Option Nat
  | .ro _ es => some es.length
  | .nils => some 0
  | .sl _ _ _ n => some n
  | .ss _ _ _ _ n => some n
  | _ => none
attribute [simp] V.slen
def tslice (P : Program) (t : TypeId) : Bool := match P.underlying t with | some (.slice _) => true | _ => false

section
variable {P : Program} {w0 : Bs} {N0 : Nat → Prop} {Q : Exit → AS → Prop} {S : AS}

theorem Enc.slen {w : World} {N : Nat → Prop} {μ : Mu} {x : Value} {v : V} {n : Nat} (h : Enc w N μ x v) (hn : v.slen = some n) : ∃ A l c, x = .slice A l c ∧ (A = none → n = 0) := by
  cases h with
  | pur h =>
    cases h with
    | ro A ad m cap sz es g h1 h2 h3 h4 =>
      simp only [V.slen, Option.some.injEq] at hn
      refine ⟨A, m, cap, rfl, fun hA => ?_⟩
      rcases Nat.eq_zero_or_pos m with h0 | h0
      · omega
      · have := (h4 h0).1; rw [hA] at this; cases this
    | nils A => simp only [V.slen, Option.some.injEq] at hn; exact ⟨A, 0, 0, rfl, fun _ => hn.symm⟩
    | _ => simp [V.slen] at hn
  | slr d v sz len g cap h1 h2 h3 => exact ⟨_, _, _, rfl, fun hA => by cases hA⟩
  | slv d v sz A h1 => simp only [V.slen, Option.some.injEq] at hn; exact ⟨A, 0, 0, rfl, fun _ => hn.symm⟩
  | ss d v sz off len g c cap A h1 h2 h3 =>
    simp only [V.slen, Option.some.injEq] at hn
    refine ⟨A, len, c, rfl, fun hA => ?_⟩
    rcases Nat.eq_zero_or_pos len with h0 | h0
    · omega
    · have := (h3 h0).2; rw [hA] at this; cases this
  | _ => simp [V.slen] at hn

theorem run_equal_nil {t e : TypeId} {w : World} (hty : P.underlying t = some (.slice e)) (A : Option Addr) (m c l c' : Nat) : ∀ d, (Op.equalIn (d + 1) t (.slice A m c) (.slice none l c')).run P w = .ok A.isNone w := by
  intro d
  have hu := run_underlying (w := w) hty
  cases A with
  | none => simp [Op.equalIn, hu]
  | some ad => simp [Op.equalIn, hu]

theorem awl_isnil {ops : List Oper} {i : Nat} {o : Oper} {rest : List Oper} {x : Operand} {t t' : TypeId} {v : V} {n l c : Nat} (hg : o.guard = none) (ho : o.op = .binOp .eql t x (.const (.slice none l c)) t') (hx : S.evc true x = some v) (hn : v.slen = some n) (ht : tslice P t = true)
    (h : ∀ b : Bool, (b = true → n = 0) → ∃ S', S.putv o.dst (.bool b) = some S' ∧ AWL P w0 N0 ops Q (i + 1) rest S') : AWL P w0 N0 ops Q i (o :: rest) S := by
  rintro D a w hD ⟨μ, hr⟩
  refine wpList_plain hg fun K hK => ?_
  obtain ⟨A, m, cc, he, hA⟩ := (hr.evc hx rfl).slen hn
  obtain ⟨S', hs, hrest⟩ := h A.isNone (fun hb => hA (by simpa using hb))
  have hty : ∃ e, P.underlying t = some (.slice e) := by
    unfold tslice at ht
    split at ht
    · exact ⟨_, by assumption⟩
    · cases ht
  obtain ⟨e, hty⟩ := hty
  unfold Oper.wp
  have hrun : (execOp a.eval o).run P w = .ok (.value (.bool A.isNone)) w := by
    unfold execOp
    rw [ho]
    have hq := run_equal_nil (w := w) hty A m cc l c 9999
    have hb : (binOp .eql t (.slice A m cc) (.slice none l c) : Sem Value) = (do pure (.bool (← Op.equalIn (9999 + 1) t (.slice A m cc) (.slice none l c)))) := rfl
    have he2 : a.eval (.const (.slice none l c)) = .slice none l c := rfl
    have hgd : (eqGuard .eql t x (.const (.slice none l c)) (.slice A m cc) (.slice none l c) : Sem Unit) = pure () := rfl
    simp only [he, he2, hgd, hb, Sem.run_bind, Sem.run_pure, Result.andThen_ok, hq]
  rw [hrun]
  exact hK _ _ (hrest D _ w (fun j hj => Nat.lt_succ_of_lt (hD j hj)) ⟨μ, hr.putv hs (.pur (.bool _))⟩)
end
end Go.Eng

namespace Go.Eng
open Go.RowKit

section
variable {P : Program} {w0 : Bs} {N0 : Nat → Prop} {Q : Exit → AS → Prop} {S : AS}

/-- A call under a guard that lets it run, which reads slices of the call's own and hands back a value without memory. -/
theorem awl_gcallv {ops : List Oper} {i : Nat} {o : Oper} {rest : List Oper} {f : Operand} {fid : FuncId} {fn : Func} {args : Array Operand} {ats : Array TypeId} {vs us : List V} {res : V} {S' : AS}
    (hc : AC P fid us (fun r => r = res)) (hfn : P.funcs[fid]? = some fn) (hb : fn.body.isSome = true) (hn : (fn.name == "runtime.NumGoroutine") = false)
    (hg : S.gv ops o = some true) (ho : o.op = .call { callee := .value f, args := args, argTypes := ats }) (hf : S.evc true f = some (.fn fid))
    (ha : S.args true args.toList = some vs) (hp : S.views vs = some us) (hl : res.light = true) (hs : S.putv o.dst (wrapG o true res) = some S') (h : AWL P w0 N0 ops Q (i + 1) rest S') : AWL P w0 N0 ops Q i (o :: rest) S := by
  rintro D a w hD ⟨μ, hr⟩
  refine wpList_step fun K hK => ?_
  have hw : Region.wanted o (yielded ops.toArray a.tmps) = true := by
    unfold AS.gv at hg
    split at hg
    · rename_i hgn; simp [Region.wanted, hgn]
    · rename_i j want hgn; exact gd_spec hr hgn hg
  rw [if_pos hw]
  have hfv := hr.evc hf rfl
  have hfe : a.eval f = .func (.func fid) #[] #[] := by
    generalize a.eval f = y at hfv
    cases hfv with
    | pur hfv => cases hfv with
      | fn => rfl
  obtain ⟨h1, h2⟩ := args_spec hr rfl ha
  obtain ⟨h3, h4⟩ := views_spec hp
  unfold Oper.wp
  rw [run_call_fn ho hfe hfn hb hn]
  have hcall := hc w N0 (args.toList.map a.eval) (fun b hb => Nat.lt_of_lt_of_le (hr.n0.1 b hb).1 hr.below.size) (by simp [h1, h3]) (fun j x v hx hv => by
    simp only [List.getElem?_map, Option.map_eq_some_iff] at hx
    obtain ⟨y, hy, rfl⟩ := hx
    have hj : j < vs.length := by rw [← h3]; exact (List.getElem?_eq_some_iff.1 hv).1
    exact hr.view (h2 j y vs[j] hy (List.getElem?_eq_getElem hj)) (h4 j vs[j] v (List.getElem?_eq_getElem hj) hv))
  have harr : (args.toList.map a.eval).toArray = args.map a.eval := by apply Array.ext'; simp
  rw [harr] at hcall
  refine hcall.mono ?_
  rintro e w' ⟨x, r, rfl, rfl, hpx, hbw⟩
  refine hK _ _ (h D _ w' (fun j hj => Nat.lt_succ_of_lt (hD j hj)) ⟨μ, (hr.later hbw).putv hs ?_⟩)
  unfold wrapG
  split
  · exact .pur (hpx.of_light hl)
  · exact .whn _ _ _ (fun _ => .pur (hpx.of_light hl)) (fun hf => by cases hf)
end
end Go.Eng

namespace Go.Eng
open Go.RowKit

/-- The cells of a row. -/
def RowAt (w : World) (g : Nat) (ty : TypeId) (sz cap : Nat) (es : List V) : Prop :=
  es.length ≤ cap ∧ (∀ e ∈ es, e.fits sz) ∧ ∃ arr, w.heap[g]? = some (.cells arr ty (0, 0)) ∧ arr.size = cap * sz ∧
    ∀ (k : Nat) e (j : Nat) c, es[k]? = some e → e.cells[j]? = some c → ∃ x, arr[k * sz + j]? = some x ∧ Pur w (fun _ => False) x c

/-- The contract: handed the whole row es, f leaves es' there and hands back F of the row's name. -/
def ACI (P : Program) (f : FuncId) (sz : Nat) (ty : TypeId) (es es' : List V) (F : Nat → Nat → V) : Prop :=
  (∀ (w : World) (g cap : Nat), cap ≤ maxLen → RowAt w g ty sz cap es → Calls P f #[.slice (some ⟨g, 0, none⟩) es.length cap] w (fun e w' => ∃ x, e = .returned x ∧ w.grownBy w' (some g) ∧ RowAt w' g ty sz cap es' ∧
      ∀ d v μ N', μ d v = some (some (g, cap)) → Enc w' N' μ x (F d v))) ∧
  (es = [] → es' = [] ∧ ∀ (w : World) A, Calls P f #[.slice A 0 0] w (fun e w' => ∃ x, e = .returned x ∧ w.grownBy w' none ∧ ∀ d v μ N', μ d v = some none → Enc w' N' μ x (F d v)))

section
variable {P : Program} {w0 : Bs} {N0 : Nat → Prop} {Q : Exit → AS → Prop} {S : AS}

/-- A part of a body that ends in one state. -/
theorem aw_via {x y : Code} (S1 : AS) (h1 : AW P w0 N0 x (fun e T => e = .normal ∧ T = S1) S) (h2 : AW P w0 N0 y Q S1) : AW P w0 N0 (.seq x y) Q S :=
  aw_seq (h1.mono fun e T ⟨he, hT⟩ => by subst he; subst hT; exact h2)

theorem Keeps.of_grown {w w' : World} {row : Option Nat} {N : Nat → Prop} (h : w.grownBy w' row) (hr : ∀ g, row = some g → N g) : Keeps w N w' :=
  ⟨h.size, fun b hb hN => h.block b hb (fun e => hN (hr b e.symm))⟩

theorem awl_callI {ops : List Oper} {i : Nat} {o : Oper} {rest : List Oper} {f x : Operand} {fid : FuncId} {fn : Func} {ats : Array TypeId} {d v sz : Nat} {ty : TypeId} {es es' : List V} {F : Nat → Nat → V} {S' : AS}
    (hc : ACI P fid sz ty es es' F) (hfl : es.all flatE = true) (hfl' : es'.all flatE = true) (hfn : P.funcs[fid]? = some fn) (hb : fn.body.isSome = true) (hn : (fn.name == "runtime.NumGoroutine") = false)
    (hg : o.guard = none) (hop : o.op = .call { callee := .value f, args := #[x], argTypes := ats }) (hf : S.evc true f = some (.fn fid))
    (hx : S.evc true x = some (.sl d v sz es.length)) (ho : get S.objs d = some ⟨v, sz, ty, es⟩) (hs : ({ S with objs := (d, ⟨v, sz, ty, es'⟩) :: S.objs } : AS).putv o.dst (F d v) = some S')
    (h : AWL P w0 N0 ops Q (i + 1) rest S') : AWL P w0 N0 ops Q i (o :: rest) S := by
  rintro D a w hD ⟨μ, hr⟩
  refine wpList_plain hg fun K hK => ?_
  have hfv := hr.evc hf rfl
  have hfe : a.eval f = .func (.func fid) #[] #[] := by
    generalize a.eval f = y at hfv
    cases hfv with
    | pur hfv => cases hfv with
      | fn => rfl
  have hxv := hr.evc hx rfl
  obtain ⟨l, hl, hob⟩ := hr.objs d _ ho
  unfold Oper.wp
  rw [run_call_fn hop hfe hfn hb hn]
  have hmap : #[x].map a.eval = #[a.eval x] := by simp
  rw [hmap]
  have finish : ∀ (e : Ending) (w' : World) (xv : Value) (row : Option Nat), e = .returned xv → w.grownBy w' row → (∀ g, row = some g → ∃ c, l = some (g, c)) → (∀ N', ObEnc w' N' μ w0 ⟨v, sz, ty, es'⟩ l) → (∀ N', Enc w' N' μ xv (F d v)) →
      ∃ r, e = .returned r ∧ K (a.put o.dst r) w' := by
    rintro e w' xv row rfl hgr hrow hob' henc
    refine ⟨xv, rfl, ?_⟩
    have hbel : w0.Below w' := hr.below.grown hgr hr.below.size (fun k hk => by
      obtain ⟨c, e⟩ := hrow k hk
      rw [e] at hob
      exact hob.1)
    obtain ⟨hrel, _⟩ := hr.update (D' := D) (d := d) (o' := ⟨v, sz, ty, es'⟩) (l' := l) (w' := w') (μ' := μ) (fun _ _ _ hh => hh) hr.fresh hl hbel
      (Keeps.of_grown hgr (fun g hg => by obtain ⟨c, e⟩ := hrow g hg; exact .inr ⟨d, _, c, ho, by rw [hl, e]⟩))
      (fun d1 o1 g c hne h1 h2 => hgr.block g (hr.block_lt h1 h2) (fun e => by
        obtain ⟨c', e'⟩ := hrow g e.symm
        exact hne (hr.inj _ _ _ _ _ _ _ h1 ho h2 (by rw [hl, e']))))
      (fun g c e => .inr ⟨_, c, ho, by rw [hl, e]⟩) (fun N' _ => hob' N')
    exact hK _ _ (h D _ w' (fun j hj => Nat.lt_succ_of_lt (hD j hj)) ⟨μ, hrel.putv hs (henc _)⟩)
  have flatEnc : ∀ {w1 w2 : World} {N1 : Nat → Prop} {μ1 : Mu} {y : Value} {c : V}, c.flat = true → Enc w1 N1 μ1 y c → Pur w2 (fun _ => False) y c := by
    intro w1 w2 N1 μ1 y c hcf hy
    exact (hy.flatP hcf).of_flat hcf
  generalize hxe : a.eval x = xv at hxv
  have hcall : Calls P fid #[xv] w (fun e w' => ∃ r, e = .returned r ∧ K (a.put o.dst r) w') := by
    generalize hve : V.sl d v sz es.length = sv at hxv
    cases hxv with
    | pur hxv => cases hxv <;> cases hve
    | slr d' v' sz' len g cap h1 h2 h3 =>
      cases hve
      rw [hl] at h1
      injection h1 with h1
      subst h1
      obtain ⟨b1, b2, b3, b4, arr, b5, b6, b7⟩ := hob
      refine (hc.1 w g cap h3 ⟨b2, b4, arr, b5, b6, fun k e j c he hj => ?_⟩).mono ?_
      · obtain ⟨y, hy, hey⟩ := b7 k e j c he hj
        exact ⟨y, hy, flatEnc (List.all_eq_true.1 (List.all_eq_true.1 hfl e (List.mem_of_getElem? he)) c (List.mem_of_getElem? hj)) hey⟩
      · rintro e w' ⟨r, he, hgr, ⟨c1, c2, arr', c3, c4, c5⟩, henc⟩
        refine finish e w' r (some g) he hgr (fun g' hg' => by cases hg'; exact ⟨cap, rfl⟩) (fun N' => ⟨b1, c1, h3, c2, arr', c3, c4, fun k e j c he hj => ?_⟩) (fun N' => henc d v μ N' hl)
        obtain ⟨y, hy, hey⟩ := c5 k e j c he hj
        exact ⟨y, hy, .pur (hey.of_flat (List.all_eq_true.1 (List.all_eq_true.1 hfl' e (List.mem_of_getElem? he)) c (List.mem_of_getElem? hj)))⟩
    | slv d' v' sz' A h1 =>
      injection hve with e1 e2 e3 e4
      subst e1; subst e2; subst e3
      rw [hl] at h1
      injection h1 with h1
      subst h1
      have he0 : es = [] := hob
      obtain ⟨h2, h3⟩ := hc.2 he0
      refine (h3 w A).mono ?_
      rintro e w' ⟨r, he, hgr, henc⟩
      exact finish e w' r none he hgr (fun g hg => by cases hg) (fun N' => h2) (fun N' => henc d v μ N' hl)
    | _ => cases hve
  refine hcall.mono ?_
  rintro e w' ⟨r, rfl, hk⟩
  exact hk
end
end Go.Eng

namespace Go.Eng
open Go.RowKit

/-- A value or the values of a tuple with the row read as a list. -/
def AS.viewT (S : AS) : V → Option V
  | .tup vs => match S.views vs with
    | some us => some (.tup us)
    | none => none
  | v => S.view v

theorem ACO.ac {P : Program} {f : FuncId} {args : List V} {sz : Nat} {ty : TypeId} {R : (Nat → Nat → V) → List V → Prop} {R' : V → Prop} (h : ACO P f args sz ty R)
    (hv : ∀ F es, R F es → ∃ u, AS.viewT ⟨[], [(0, ⟨0, sz, ty, es⟩)], 1, 0⟩ (F 0 0) = some u ∧ R' u) : AC P f args R' := by
  intro w N xs h1 h2 h3
  refine (h w N xs h1 h2 h3).mono ?_
  rintro e w' ⟨x, F, es, l, rfl, hR, hb, henc⟩
  obtain ⟨u, hu, hR'⟩ := hv F es hR
  refine ⟨x, u, rfl, hR', ?_, hb⟩
  generalize hS : (⟨[], [(0, ⟨0, sz, ty, es⟩)], 1, 0⟩ : AS) = S at hu
  let μ : Mu := fun d v => if d = 0 ∧ v = 0 then some l else none
  have hμ : μ 0 0 = some l := by simp [μ]
  have hr : RelM (fun _ => False) ⟨w, fun _ => False, fun _ _ => none, []⟩ N μ S ⟨#[], []⟩ w' := by
    subst hS
    refine ⟨rfl, rfl, ⟨hb.os, hb.tape, hb.output, hb.size, fun k hk _ => hb.block k hk⟩, ⟨fun b hb => ⟨h1 b hb, fun h => h⟩, fun _ _ _ h => by cases h⟩, fun d v hdv => ?_, fun d o hd => ?_, fun d o d' o' g c c' g1 g2 _ _ => ?_, fun t v ht => by simp [get] at ht⟩
    · left
      by_cases e : d = 0 ∧ v = 0
      · simp only; omega
      · simp [μ, e] at hdv
    · simp only [get_cons] at hd
      split at hd
      · rename_i e0
        subst e0
        injection hd with hd
        subst hd
        exact ⟨l, hμ, (henc 0 0 μ _ hμ).2⟩
      · simp [get] at hd
    · simp only [get_cons] at g1 g2
      split at g1
      · split at g2
        · omega
        · simp [get] at g2
      · simp [get] at g1
  have hx := (henc 0 0 μ (Own N μ S) hμ).1
  generalize F 0 0 = r at hx hu
  unfold AS.viewT at hu
  split at hu
  · rename_i vs
    split at hu
    case h_2 => cases hu
    rename_i us hus
    injection hu with hu
    subst hu
    obtain ⟨h4, h5⟩ := views_spec hus
    have key : ∀ ys : List Value, ys.length = vs.length → (∀ (i : Nat) y c, ys[i]? = some y → vs[i]? = some c → Enc w' (Own N μ S) μ y c) → Pur w' N (.tuple ys.toArray) (.tup us) := by
      intro ys hl hh
      refine .tup ys us (by rw [hl, h4]) (fun i y c hy hc => ?_)
      have hi : i < vs.length := by rw [← h4]; exact (List.getElem?_eq_some_iff.1 hc).1
      exact hr.view (hh i y vs[i] hy (List.getElem?_eq_getElem hi)) (h5 i vs[i] c (List.getElem?_eq_getElem hi) hc)
    cases hx with
    | pur hx => cases hx with
      | tup ys _ hl hh => exact key ys hl (fun i y c a b => .pur (hh i y c a b))
    | tup ys _ hl hh => exact key ys hl hh
  · exact hr.view hx hu

attribute [simp] AS.viewT
end Go.Eng

namespace Go.Eng
open Go.RowKit

/-- A part of a body whose ways all end in a state that says no less than S1. -/
theorem aw_viale {P : Program} {w0 : Bs} {N0 : Nat → Prop} {Q : Exit → AS → Prop} {S : AS} {x y : Code} (S1 : AS) (h1 : AW P w0 N0 x (fun e T => e = .normal ∧ T.le S1) S) (h2 : AW P w0 N0 y Q S1) : AW P w0 N0 (.seq x y) Q S :=
  aw_seq (h1.mono fun e T ⟨he, hT⟩ => by subst he; exact aw_le hT h2)
/-- The same, where some ways leave. -/
theorem aw_viax {P : Program} {w0 : Bs} {N0 : Nat → Prop} {Q : Exit → AS → Prop} {S : AS} {x y : Code} (S1 : AS) (h1 : AW P w0 N0 x (ethen (fun T => T.le S1) Q) S) (h2 : AW P w0 N0 y Q S1) : AW P w0 N0 (.seq x y) Q S :=
  aw_seq (h1.mono fun e T hT => by
    cases e with
    | normal => exact aw_le hT h2
    | _ => exact hT)
theorem le_to {S S' : AS} (L M : List Nat) (he : (S.keep L M).env = S'.env) (ho : (S.keep L M).objs = S'.objs) (hn : S'.nt = S.nt) (hx : S.nx ≤ S'.nx) : S.le S' :=
  AS.le_trans (le_keep S L M) (le_of_get hn hx (fun t v h => by rw [he]; exact h) (fun d o h => by rw [ho]; exact h))
theorem le_nx {S S' : AS} (he : S.env = S'.env) (ho : S.objs = S'.objs) (hn : S'.nt = S.nt) (hx : S.nx ≤ S'.nx) : S.le S' :=
  le_of_get hn hx (fun t v h => by rw [he]; exact h) (fun d o h => by rw [ho]; exact h)
end Go.Eng

namespace Go.Eng
open Go.RowKit Go.ChangeShapes Go.WideShapes Go.ChangeAt

/-- A type whose parts are types of L. -/
def okT1 (P : Program) (L : List TypeId) (t : TypeId) : Bool := match P.underlying t with
  | some .bool | some (.int _) | some .string => P.cellsOf t == 1
  | some (.slice e) => (P.cellsOf t == 1) && decide (0 < P.cellsOf e) && L.contains e
  | some (.struct fs) => laidFs P fs.toList 0 (P.cellsOf t) && fs.toList.all fun f => L.contains f.type
  | _ => false
def okL (P : Program) (L : List TypeId) : Bool := L.all (okT1 P L)

section
variable {H : Type} {enc : TypeId × Value → H} {P : Program} {w : World} {base : Nat} {spare : Nat → Bool} {held : Bool}

theorem trod_pursL {L : List TypeId} (hL : okL P L = true) : ∀ {fuel : Nat} {t : TypeId} {cs : List Value} {x : DataW H × List MemPlace}, t ∈ L → DataW.trod enc P w base spare held fuel t cs = some x →
    ∃ vs, Purs w (fun _ => False) cs vs ∧ (∀ v ∈ vs, v.isCell = true) ∧ Rd P fuel t vs ∧ cs.length = P.cellsOf t
  | 0, _, _, _, _, h => by simp [DataW.trod] at h
  | fuel + 1, t, cs, x, ht, h => by
    have ho := List.all_eq_true.1 hL t ht
    unfold okT1 at ho
    unfold DataW.trod at h
    unfold Rd
    generalize hu : P.underlying t = u at ho h ⊢
    split at ho
    · -- bool
      simp only [beq_iff_eq] at ho
      split at h <;> simp_all
      rename_i b
      exact ⟨[.bool b], Purs.one (.bool _), by simp [V.isCell], by cases b <;> simp⟩
    · simp only [beq_iff_eq] at ho
      split at h <;> simp_all
      exact ⟨[.int _ _], Purs.one (.int _ _), by simp [V.isCell], _, rfl, h.1.2⟩
    · simp only [beq_iff_eq] at ho
      split at h <;> simp_all
      rename_i s
      refine ⟨[.str s.data.toList], Purs.one ?_, by simp [V.isCell], _, rfl, by simpa using h.1⟩
      have := Pur.str (w := w) (N := fun _ => False) s.data.toList
      simpa using this
    · rename_i e
      simp only [Bool.and_eq_true, beq_iff_eq, decide_eq_true_eq] at ho
      obtain ⟨⟨ho1, ho2⟩, ho3⟩ := ho
      split at h
      all_goals try (exfalso; first | (rename_i he; cases he; done) | (rename_i he _; cases he; done) | (rename_i he _ _; cases he; done) | (cases h; done))
      · refine ⟨[.ro (P.cellsOf e) []], Purs.one (.ro none ⟨0, 0, none⟩ 0 0 _ [] (fun _ _ => undef) rfl (Nat.le_refl _) (Nat.zero_le _) (fun h0 => by omega) (by simp) (by simp) (by simp)), by simp [V.isCell], ⟨[], rfl, by simp, by simp⟩, by simp [ho1]⟩
      · rename_i e' a len cap heq
        cases heq
        simp only at h
        split at h
        case isFalse => cases h
        rename_i hb
        simp only [Option.bind_eq_some_iff] at h
        obtain ⟨elems, he, _⟩ := h
        have hlen : elems.length = len := by simpa using mapM_some_length he
        have hel : ∀ i, i < len → ∃ vs : List V, ∃ ci : List Value, w.cells? base (a.add (i * P.cellsOf e)) (P.cellsOf e) = some ci ∧ Purs w (fun _ => False) ci vs ∧ (∀ v ∈ vs, v.isCell = true) ∧ Rd P fuel e vs ∧ ci.length = P.cellsOf e := by
          intro i hi
          have h1 := mapM_some_get he i i (by simp [hi])
          rw [List.getElem?_eq_getElem (by omega)] at h1
          simp only [Option.bind_eq_some_iff] at h1
          obtain ⟨ci, h2, h3⟩ := h1
          obtain ⟨vs, h4, h5, h6, h7⟩ := trod_pursL hL (by simpa using ho3) h3
          exact ⟨vs, ci, h2, h4, h5, h6, h7⟩
        obtain ⟨es, hes, hp⟩ := list_of hel
        have hcells : ∀ (k : Nat) us, es[k]? = some us → (mkV (tagg P e) us).cells = us ∧ (mkV (tagg P e) us).fits (P.cellsOf e) := by
          intro k us hk
          obtain ⟨ci, h1, h2, h3, h4, h5⟩ := hp k us hk
          have hc : (mkV (tagg P e) us).cells = us := by
            unfold mkV
            split
            · rfl
            · rename_i hna
              have h1' : us.length = 1 := by
                rw [← h2.1, h5]
                have ho4 := List.all_eq_true.1 hL e (by simpa using ho3)
                unfold okT1 at ho4
                unfold tagg at hna
                generalize P.underlying e = ue at ho4 hna
                split at ho4
                · simpa using ho4
                · simpa using ho4
                · simpa using ho4
                · simp only [Bool.and_eq_true, beq_iff_eq] at ho4; exact ho4.1.1
                · simp at hna
                · cases ho4
              match us, h1', h3 with
              | [c], _, h3 => simpa using V.cells_one (h3 c (by simp))
          exact ⟨hc, by rw [hc, ← h2.1, h5], by rw [hc]; exact h3⟩
        refine ⟨[.ro (P.cellsOf e) (es.map (mkV (tagg P e)))], Purs.one (.ro (some a) a len cap _ _ (fun k j => (w.cell? (a.add (k * P.cellsOf e + j))).getD undef) (by simp [hes]) hb.2.1 hb.2.2 (fun h0 => ⟨rfl, ?_, id⟩) ?_ ?_ ?_), by simp [V.isCell], ⟨es, rfl, by omega, ?_⟩, by simp [ho1]⟩
        · obtain ⟨vs, ci, h1, _, _, _, h5⟩ := hel 0 h0
          obtain ⟨_, h6, h7⟩ := World.cells?_some h1
          have := h7 0 ho2
          rw [List.getElem?_eq_getElem (by omega)] at this
          have := World.block_lt_of_cell? _ _ this
          rwa [add_block, add_block] at this
        · intro v hv
          simp only [List.mem_map] at hv
          obtain ⟨us, hus, rfl⟩ := hv
          obtain ⟨k, hk⟩ := List.getElem?_of_mem hus
          exact (hcells k us hk).2
        all_goals
          try
            intro k v j c hk hj
            simp only [List.getElem?_map, Option.map_eq_some_iff] at hk
            obtain ⟨us, hk, rfl⟩ := hk
            rw [(hcells k us hk).1] at hj
            obtain ⟨ci, h1, h2, h3, h4, h5⟩ := hp k us hk
            obtain ⟨_, h6, h7⟩ := World.cells?_some h1
            have hjl : j < us.length := (List.getElem?_eq_some_iff.1 hj).1
            have hji : j < ci.length := by rw [h2.1]; exact hjl
            have h8 := h7 j (by omega)
            rw [add_add', List.getElem?_eq_getElem hji] at h8
        · rw [h8]; rfl
        · rw [h8]; exact h2.2 j _ c (List.getElem?_eq_getElem hji) hj
        · intro us hus
          obtain ⟨k, hk⟩ := List.getElem?_of_mem hus
          exact (hp k us hk).choose_spec.2.2.2.1
    · rename_i fs
      simp only [Bool.and_eq_true, List.all_eq_true] at ho
      obtain ⟨hlaid, hall⟩ := ho
      replace h : (if cs.length = P.cellsOf t then (fs.toList.mapM fun f => DataW.trod enc P w base spare held fuel f.type ((cs.drop f.offset).take (P.cellsOf f.type))).map fun xs => (DataW.agg (xs.map (·.1)), xs.flatMap (·.2)) else none) = some x := h
      split at h
      case isFalse => cases h
      rename_i hlen
      simp only [Option.map_eq_some_iff] at h
      obtain ⟨xs, hxs, _⟩ := h
      have hf : ∀ f ∈ fs.toList, ∃ vs, Purs w (fun _ => False) ((cs.drop f.offset).take (P.cellsOf f.type)) vs ∧ (∀ v ∈ vs, v.isCell = true) ∧ Rd P fuel f.type vs ∧ ((cs.drop f.offset).take (P.cellsOf f.type)).length = P.cellsOf f.type := by
        intro f hfm
        obtain ⟨i, hi⟩ := List.getElem?_of_mem hfm
        have h1 := mapM_some_get hxs i f hi
        have hl := mapM_some_length hxs
        have hil : i < xs.length := by rw [hl]; exact (List.getElem?_eq_some_iff.1 hi).1
        rw [List.getElem?_eq_getElem hil] at h1
        exact trod_pursL hL (by simpa using hall f hfm) h1
      have key : ∀ (l : List Field) (off : Nat), laidFs P l off (P.cellsOf t) = true → (∀ f ∈ l, ∃ vs, Purs w (fun _ => False) ((cs.drop f.offset).take (P.cellsOf f.type)) vs ∧ (∀ v ∈ vs, v.isCell = true) ∧ Rd P fuel f.type vs ∧ ((cs.drop f.offset).take (P.cellsOf f.type)).length = P.cellsOf f.type) →
          ∃ vs, Purs w (fun _ => False) (cs.drop off) vs ∧ (∀ v ∈ vs, v.isCell = true) ∧ RdF P (Rd P fuel) l vs := by
        intro l
        induction l with
        | nil =>
          intro off hl _
          simp only [laidFs, beq_iff_eq] at hl
          refine ⟨[], ⟨by simp; omega, by simp⟩, by simp, rfl⟩
        | cons f l ih =>
          intro off hl hh
          simp only [laidFs, Bool.and_eq_true, beq_iff_eq] at hl
          obtain ⟨ho, hl⟩ := hl
          subst ho
          obtain ⟨ws, h1, h2, h3⟩ := ih _ hl (fun g hg => hh g (by simp [hg]))
          obtain ⟨us, g1, g2, g3, _⟩ := hh f (by simp)
          refine ⟨us ++ ws, ?_, ?_, us, ws, rfl, g3, h3⟩
          · have := g1.append h1
            rwa [← List.drop_drop, List.take_append_drop] at this
          · intro v hv
            rcases List.mem_append.1 hv with hv | hv
            · exact g2 v hv
            · exact h2 v hv
      obtain ⟨vs, h1, h2, h3⟩ := key fs.toList 0 hlaid hf
      exact ⟨vs, by simpa using h1, h2, h3, hlen⟩
    · cases ho

/-- What an argument of a type looks like. -/
def RdW (P : Program) (t : TypeId) (v : V) : Prop := ∃ n vs, Rd P n t vs ∧ v = mkV (tagg P t) vs

theorem arg_purL {L : List TypeId} (hL : okL P L = true) {r : Reach} {b0 : Nat} {t : TypeId} {v : Value} {d : DataW H} {ps : List MemPlace} (ht : t ∈ L) (hval : Value.okWide P w r b0 t v) (hd : DataW.Trod enc P w base spare held t v d ps) :
    ∃ u, Pur w (fun _ => False) v u ∧ RdW P t u := by
  obtain ⟨fuel, hf⟩ := hd
  obtain ⟨vs, h1, h2, h3, h4⟩ := trod_pursL hL ht hf
  refine ⟨mkV (tagg P t) vs, ?_, fuel, vs, h3, rfl⟩
  have ho := List.all_eq_true.1 hL t ht
  unfold okT1 at ho
  generalize hu : P.underlying t = u at ho
  have one : v.cells = #[v] → tagg P t = some false → Pur w (fun _ => False) v (mkV (tagg P t) vs) := by
    intro hv hb
    have hl := h1.1
    rw [hv] at hl h1
    match vs, hl, h1 with
    | [c], _, h1 =>
      rw [hb]
      exact h1.2 0 v c rfl rfl
  split at ho
  · obtain ⟨b, rfl⟩ := okWide_bool hu hval
    exact one rfl (by simp [tagg, hu])
  · obtain ⟨b, rfl⟩ := okWide_int hu hval
    exact one rfl (by simp [tagg, hu])
  · obtain ⟨b, rfl⟩ := okWide_string hu hval
    exact one rfl (by simp [tagg, hu])
  · obtain ⟨a, l, c, rfl⟩ := okWide_slice hu hval
    exact one rfl (by simp [tagg, hu])
  · obtain ⟨cs, rfl, _⟩ := okWide_struct hu hval
    have : tagg P t = some true := by simp [tagg, hu]
    rw [this]
    have := Pur.agg cs.toList vs h1.1 h2 h1.2
    simpa [mkV] using this
  · cases ho

end

/-- Values one by one of their types. -/
def RdAllW (P : Program) : List TypeId → List V → Prop
  | [], vs => vs = []
  | t :: ts, vs => ∃ u us, vs = u :: us ∧ RdW P t u ∧ RdAllW P ts us

theorem args_purL {H : Type} {enc : TypeId × Value → H} {P : Program} {L : List TypeId} {W : World} {r : Reach} {b0 : Nat} {sp : Nat → Bool} {hd : Bool} (hL : okL P L = true) : ∀ {ts : List TypeId} {vs : List Value} {ds : List (DataW H)} {ps : List MemPlace}, (∀ t ∈ ts, t ∈ L) →
    (∀ (j : Nat) t v, ts[j]? = some t → vs[j]? = some v → Value.okWide P W r b0 t v) → DataW.TrodAll enc P W 0 sp hd ts vs ds ps → ∃ us, RdAllW P ts us ∧ Purs W (fun _ => False) vs us
  | [], vs, ds, ps, _, _, h => by
    obtain ⟨rfl, rfl, rfl⟩ := trodAll_nil h
    exact ⟨[], rfl, rfl, by simp⟩
  | t :: ts, vs, ds, ps, ho, hv, h => by
    obtain ⟨v, vs', d, ds', p, q, rfl, rfl, rfl, h1, h2⟩ := trodAll_cons h
    obtain ⟨u, g1, g2⟩ := arg_purL hL (ho t (by simp)) (hv 0 t v rfl rfl) h1
    obtain ⟨us, g3, g4⟩ := args_purL hL (fun t ht => ho t (by simp [ht])) (fun j t' v' ht hv' => hv (j + 1) t' v' ht hv') h2
    exact ⟨u :: us, ⟨u, us, rfl, g2, g3⟩, (Purs.one g1).append g4⟩

/-- The row's step from a contract: for all that can come in the law returns true. -/
theorem row_contractL {H : Type} {enc : TypeId × Value → H} {P : Program} {f : FuncId} {fn : Func} {s : ChangeSpec} {L : List TypeId} {tb : TypeId} {ts : List TypeId} (hts : fn.params.toList = ts) (hL : okL P L = true) (hok : (ts.all fun t => L.contains t && P.readableRec t && decide (t < P.types.size)) = true) (hlaid : laidOutB P = true) (hres : fn.resultTypes = #[tb]) (htb : P.underlying tb = some .bool)
    (hvars : s.vars = []) (hs : ∀ ds : List (DataW H), ds.length = ts.length → s.fn H ds = { results := [.lit (.bool true)], args := ds }) (hc : ∀ vs, RdAllW P ts vs → AC P f vs (fun r => r = .bool true))
    {W : World} {base : Nat} {args : Array Value} {ds gs : List (DataW H)} {before : List MemPlace}
    (hval : ∀ (j : Nat) t v, fn.params[j]? = some t → args[j]? = some v → Value.okWide P W .any base t v) (hW : DataW.Whole enc P fn.params.toList s.vars false W args.toList ds gs before) :
    Calls P f args W fun e W' => ∃ v, e = .returned v ∧ s.post enc P fn false true false false W args v W' := by
  have hW' := hW
  obtain ⟨p, q, hA, hV, rfl, hfz, hnd⟩ := hW
  rw [hvars] at hV
  obtain ⟨rfl, rfl⟩ := trodVars_none hV
  have hdl : ds.length = ts.length := by
    have : ∀ (ts : List TypeId) (vs : List Value) (ds : List (DataW H)) (ps : List MemPlace), DataW.TrodAll enc P W 0 (fun _ => true) true ts vs ds ps → ds.length = ts.length := by
      intro ts
      induction ts with
      | nil => intro vs ds ps h; obtain ⟨_, rfl, _⟩ := trodAll_nil h; rfl
      | cons t ts ih => intro vs ds ps h; obtain ⟨v, vs', d, ds', p, q, rfl, rfl, rfl, _, h2⟩ := trodAll_cons h; simp [ih _ _ _ h2]
    rw [← hts]; exact this _ _ _ _ hA
  have hall : ∀ t ∈ ts, t ∈ L ∧ P.readableRec t = true ∧ t < P.types.size := by
    intro t ht
    have := List.all_eq_true.1 hok t ht
    simp only [Bool.and_eq_true, decide_eq_true_eq] at this
    exact ⟨by simpa using this.1.1, this.1.2, this.2⟩
  obtain ⟨us, h1, h2⟩ := args_purL (L := L) hL (ts := ts) (fun t ht => (hall t ht).1) (fun j t v ht hv => hval j t v (by rw [← hts] at ht; simpa using ht) (by simpa using hv)) (hts ▸ hA)
  have hcall := hc us h1 W (fun _ => False) args.toList (fun _ hb => hb.elim) h2.1 h2.2
  rw [show args.toList.toArray = args by simp] at hcall
  refine hcall.mono ?_
  rintro e W1 ⟨x, r, rfl, rfl, hp, hb⟩
  obtain rfl : x = .bool true := by cases hp; rfl
  refine ⟨_, rfl, ds, [], p ++ [], [], p, [], hW', ?_, ?_, ?_, hb.frame _, fun h => by cases h⟩
  · rw [List.append_nil, hs ds hdl, hres]
    exact trodAll_mk1 (shut_bool htb true)
  · rw [List.append_nil, hs ds hdl]
    exact trodAll_below hlaid hb (fun t ht => (hall t (hts ▸ ht)).2) hA
  · rw [List.append_nil, hs ds hdl, hvars]
    exact rfl

end Go.Eng

namespace Go.Eng
open Go.RowKit

/-- Whatever reads as v reads as v'. -/
def Relax (v v' : V) : Prop := (∀ (w : World) (N : Nat → Prop) (x : Value), Pur w N x v → Pur w N x v') ∧ (v.isCell = true → v'.isCell = true)
inductive RelaxL : List V → List V → Prop
  | nil : RelaxL [] []
  | cons {v v' : V} {l l' : List V} (h : Relax v v') (t : RelaxL l l') : RelaxL (v :: l) (v' :: l')

theorem Relax.refl (v : V) : Relax v v := ⟨fun _ _ _ h => h, id⟩
theorem Relax.trans {u v w : V} (h : Relax u v) (k : Relax v w) : Relax u w := ⟨fun a b c d => k.1 a b c (h.1 a b c d), fun c => k.2 (h.2 c)⟩
theorem Pur.nils_ro {w : World} {N : Nat → Prop} {x : Value} (sz : Nat) (h : Pur w N x .nils) : Pur w N x (.ro sz []) := by
  cases h with
  | nils A => exact .ro A ⟨0, 0, none⟩ 0 0 sz [] (fun _ _ => undef) rfl (Nat.le_refl _) (Nat.zero_le _) (fun h0 => by omega) (by simp) (by simp) (by simp)
theorem Relax.nils (sz : Nat) : Relax .nils (.ro sz []) := ⟨fun _ _ _ h => h.nils_ro sz, fun _ => rfl⟩
theorem RelaxL.length {l l' : List V} (h : RelaxL l l') : l.length = l'.length := by induction h <;> simp_all
theorem RelaxL.get {l l' : List V} (h : RelaxL l l') : ∀ (i : Nat) v', l'[i]? = some v' → ∃ v, l[i]? = some v ∧ Relax v v' := by
  induction h with
  | nil => intro i v' h; simp at h
  | cons h _ ih =>
    intro i v' hv
    rcases i with _ | i
    · simp at hv; subst hv; exact ⟨_, rfl, h⟩
    · simp at hv; obtain ⟨v, h1, h2⟩ := ih i v' hv; exact ⟨v, by simpa using h1, h2⟩
theorem RelaxL.refl : ∀ l : List V, RelaxL l l
  | [] => .nil
  | v :: l => .cons (Relax.refl v) (RelaxL.refl l)
theorem Relax.agg {cs ds : List V} (h : RelaxL cs ds) : Relax (.agg cs) (.agg ds) := by
  refine ⟨fun w N x hx => ?_, fun h => by simp [V.isCell] at h⟩
  cases hx with
  | agg xs _ hl hc hh =>
    refine .agg xs ds (by rw [hl, h.length]) (fun c hc' => ?_) (fun i x c hx' hc' => ?_)
    · obtain ⟨i, hi⟩ := List.getElem?_of_mem hc'
      obtain ⟨v, h1, h2⟩ := h.get i c hi
      exact h2.2 (hc v (List.mem_of_getElem? h1))
    · obtain ⟨v, h1, h2⟩ := h.get i c hc'
      exact h2.1 _ _ _ (hh i x v hx' h1)
theorem Relax.tup {cs ds : List V} (h : RelaxL cs ds) : Relax (.tup cs) (.tup ds) := by
  refine ⟨fun w N x hx => ?_, fun h => by simp [V.isCell] at h⟩
  cases hx with
  | tup xs _ hl hh =>
    refine .tup xs ds (by rw [hl, h.length]) (fun i x c hx' hc' => ?_)
    obtain ⟨v, h1, h2⟩ := h.get i c hc'
    exact h2.1 _ _ _ (hh i x v hx' h1)
/-- The elements of a list that is read. -/
theorem Relax.ro {sz : Nat} {es fs : List V} (h : RelaxL es fs) (hf : ∀ (k : Nat) e f, es[k]? = some e → fs[k]? = some f → e.cells.length = f.cells.length ∧ (∀ (j : Nat) c d, e.cells[j]? = some c → f.cells[j]? = some d → Relax c d)) : Relax (.ro sz es) (.ro sz fs) := by
  refine ⟨fun w N x hx => ?_, fun _ => rfl⟩
  cases hx with
  | ro A ad n cap _ _ g hn hcap hmax hA hfit hc hh =>
    have hl := h.length
    have at_ : ∀ (k : Nat) f, fs[k]? = some f → ∃ e, es[k]? = some e ∧ e.cells.length = f.cells.length ∧ (∀ (j : Nat) c d, e.cells[j]? = some c → f.cells[j]? = some d → Relax c d) := by
      intro k f hk
      obtain ⟨e, h1, _⟩ := h.get k f hk
      exact ⟨e, h1, hf k e f h1 hk⟩
    refine .ro A ad n cap sz fs g (by rw [← hl]; exact hn) hcap hmax hA (fun f hf' => ?_) (fun k f j d hk hj => ?_) (fun k f j d hk hj => ?_)
    · obtain ⟨k, hk⟩ := List.getElem?_of_mem hf'
      obtain ⟨e, h1, h2, h3⟩ := at_ k f hk
      have hfe := hfit e (List.mem_of_getElem? h1)
      refine ⟨by rw [← h2]; exact hfe.1, fun d hd => ?_⟩
      obtain ⟨j, hj⟩ := List.getElem?_of_mem hd
      have hlt : j < e.cells.length := by rw [h2]; exact (List.getElem?_eq_some_iff.1 hj).1
      exact (h3 j _ d (List.getElem?_eq_getElem hlt) hj).2 (hfe.2 _ (List.getElem_mem hlt))
    · obtain ⟨e, h1, h2, h3⟩ := at_ k f hk
      have hlt : j < e.cells.length := by rw [h2]; exact (List.getElem?_eq_some_iff.1 hj).1
      exact hc k e j _ h1 (List.getElem?_eq_getElem hlt)
    · obtain ⟨e, h1, h2, h3⟩ := at_ k f hk
      have hlt : j < e.cells.length := by rw [h2]; exact (List.getElem?_eq_some_iff.1 hj).1
      exact (h3 j _ d (List.getElem?_eq_getElem hlt) hj).1 _ _ _ (hh k e j _ h1 (List.getElem?_eq_getElem hlt))

theorem AC.relax {P : Program} {f : FuncId} {args : List V} {v v' : V} (h : AC P f args (fun r => r = v)) (hr : Relax v v') : AC P f args (fun r => r = v') :=
  fun w N xs h1 h2 h3 => (h w N xs h1 h2 h3).mono fun _ _ ⟨x, _, he, hR, hp, hb⟩ => ⟨x, v', he, rfl, hr.1 _ _ _ (hR ▸ hp), hb⟩
theorem AC.argsR {P : Program} {f : FuncId} {args args' : List V} {R : V → Prop} (h : AC P f args' R) (hr : RelaxL args args') : AC P f args R :=
  fun w N xs h1 h2 h3 => h w N xs h1 (by rw [h2, hr.length]) (fun i x v hx hv => by
    obtain ⟨u, h4, h5⟩ := hr.get i v hv
    exact h5.1 _ _ _ (h3 i x u hx h4))

theorem Enc.relax {w : World} {N : Nat → Prop} {μ : Mu} {x : Value} {v v' : V} (h : Enc w N μ x v) (hp : v.pureV = true) (hr : Relax v v') : Enc w N μ x v' := .pur (hr.1 _ _ _ (h.pureV hp))
theorem le_relax {S : AS} {t : Nat} {v v' : V} (ht : get S.env t = some v) (hp : v.pureV = true) (hr : Relax v v') : S.le { S with env := (t, v') :: S.env } := by
  rintro w0 N0 a w ⟨μ, h⟩
  refine ⟨μ, h.defers, h.size, h.below, h.n0, h.fresh, h.objs, h.inj, fun u x hu => ?_⟩
  rw [get_cons] at hu
  by_cases e : t = u
  · subst e
    simp only [if_true, Option.some.injEq] at hu
    subst hu
    exact ⟨(h.env t v ht).1, (h.env t v ht).2.relax hp hr⟩
  · simp only [e, if_false] at hu
    exact h.env u x hu
/-- A slot that is read as less. -/
theorem aw_relax {P : Program} {w0 : Bs} {N0 : Nat → Prop} {Q : Exit → AS → Prop} {S S' : AS} {c : Code} (t : Nat) {v : V} (v' : V) (L M : List Nat) (ht : get S.env t = some v) (hp : v.pureV = true) (hr : Relax v v') (hS : AS.keep { S with env := (t, v') :: S.env } L M = S') (h : AW P w0 N0 c Q S') : AW P w0 N0 c Q S :=
  aw_le (le_relax ht hp hr) (aw_keep L M hS h)
end Go.Eng

namespace Go.Eng
open Go.RowKit

theorem Pur.ro_len {w : World} {N : Nat → Prop} {x : Value} {sz : Nat} {es : List V} (h : Pur w N x (.ro sz es)) : es.length ≤ maxLen := by
  cases h with
  | ro A ad n cap _ _ g hn hcap hmax _ _ _ _ => omega
theorem ac_lenR {P : Program} {f : FuncId} {args : List V} {R : V → Prop} (i : Nat) {sz : Nat} {es : List V} (h : args[i]? = some (.ro sz es)) (k : es.length ≤ maxLen → AC P f args R) : AC P f args R := by
  intro w N xs h1 h2 h3
  have hi : i < xs.length := by rw [h2]; exact (List.getElem?_eq_some_iff.1 h).1
  exact k (h3 i xs[i] _ (List.getElem?_eq_getElem hi) h).ro_len w N xs h1 h2 h3
theorem ac_lenC {P : Program} {f : FuncId} {args : List V} {R : V → Prop} (i j : Nat) {sz : Nat} {cs es : List V} (h : args[i]? = some (.agg cs)) (hj : cs[j]? = some (.ro sz es)) (k : es.length ≤ maxLen → AC P f args R) : AC P f args R := by
  intro w N xs h1 h2 h3
  have hi : i < xs.length := by rw [h2]; exact (List.getElem?_eq_some_iff.1 h).1
  have hp := h3 i xs[i] _ (List.getElem?_eq_getElem hi) h
  refine k ?_ w N xs h1 h2 h3
  generalize xs[i] = x at hp
  cases hp with
  | agg ys _ hl _ hh =>
    have hlt : j < ys.length := by rw [hl]; exact (List.getElem?_eq_some_iff.1 hj).1
    exact (hh j ys[j] _ (List.getElem?_eq_getElem hlt) hj).ro_len
theorem aw_len {P : Program} {w0 : Bs} {N0 : Nat → Prop} {Q : Exit → AS → Prop} {S : AS} {c : Code} (t : Nat) {sz : Nat} {es : List V} (h : get S.env t = some (.ro sz es)) (k : es.length ≤ maxLen → AW P w0 N0 c Q S) : AW P w0 N0 c Q S := by
  rintro a w ⟨μ, hr⟩
  have := (hr.env t _ h).2
  refine k ?_ a w ⟨μ, hr⟩
  generalize a.tmps.getD t undef = x at this
  cases this with
  | pur hp => exact hp.ro_len
theorem acO_lenR {P : Program} {f : FuncId} {args : List V} {sz' : Nat} {ty : TypeId} {R : (Nat → Nat → V) → List V → Prop} (i : Nat) {sz : Nat} {es : List V} (h : args[i]? = some (.ro sz es)) (k : es.length ≤ maxLen → ACO P f args sz' ty R) : ACO P f args sz' ty R := by
  intro w N xs h1 h2 h3
  have hi : i < xs.length := by rw [h2]; exact (List.getElem?_eq_some_iff.1 h).1
  exact k (h3 i xs[i] _ (List.getElem?_eq_getElem hi) h).ro_len w N xs h1 h2 h3

/-- A row of zeros whose first k elements are filled from l. -/
def fillK (l : List V) (z : V) (k : Nat) : List V := l.take k ++ List.replicate (l.length - k) z
theorem fillK_zero (l : List V) (z : V) : fillK l z 0 = List.replicate l.length z := by simp [fillK]
theorem fillK_all (l : List V) (z : V) (k : Nat) (h : l.length ≤ k) : fillK l z k = l := by
  rw [fillK, List.take_of_length_le h, show l.length - k = 0 by omega]; simp
theorem fillK_len (l : List V) (z : V) (k : Nat) (h : k ≤ l.length) : (fillK l z k).length = l.length := by simp [fillK]; omega
theorem fillK_nth (l : List V) (z : V) (k : Nat) (h : k < l.length) : nth (fillK l z k) k = some z := by
  rw [nth_eq, fillK, List.getElem?_append_right (by simp; omega)]
  rw [List.getElem?_replicate, List.length_take, Nat.min_eq_left (Nat.le_of_lt h), if_pos (by omega)]
theorem fillK_set (l : List V) (z : V) (k : Nat) (h : k < l.length) {x : V} (hx : l[k]? = some x) : (fillK l z k).set k x = fillK l z (k + 1) := by
  have hx' : l[k] = x := by rw [List.getElem?_eq_getElem h] at hx; injection hx
  unfold fillK
  rw [List.set_append_right _ _ (by simp; omega), List.take_succ_eq_append_getElem h, hx']
  simp only [List.length_take, Nat.min_eq_left (Nat.le_of_lt h), Nat.sub_self]
  rw [show l.length - k = (l.length - (k + 1)) + 1 by omega, List.replicate_succ, List.set_cons_zero]
  simp
theorem nth_set {l : List V} {k : Nat} {x : V} (h : k < l.length) : nth (l.set k x) k = some x := by rw [nth_eq]; simp [h]
theorem nth_append_len {l : List V} {x : V} : nth (l ++ [x]) l.length = some x := by rw [nth_eq]; simp
end Go.Eng

namespace Go.Eng
open Go.RowKit

/-- A cell with the slices of row d read as lists. -/
def V.frzC (d v sz : Nat) (es : List V) : V → V
  | .sl d' v' sz' len => if d' = d ∧ v' = v ∧ sz' = sz ∧ es.length = len then .ro sz es else .sl d' v' sz' len
  | .ss d' v' sz' off len => if d' = d ∧ v' = v ∧ sz' = sz ∧ off + len ≤ es.length then .ro sz ((es.drop off).take len) else .ss d' v' sz' off len
  | .bp d' v' sz' k off => if d' = d ∧ v' = v ∧ sz' = sz ∧ off = 0 then (match nth es k with | some e => .rp e | none => .bp d' v' sz' k off) else .bp d' v' sz' k off
  | u => u
def V.frzA (d v sz : Nat) (es : List V) : V → V
  | .agg cs => .agg (cs.map (V.frzC d v sz es))
  | u => u.frzC d v sz es
def V.frz (d v sz : Nat) (es : List V) : V → V
  | .agg cs => .agg (cs.map (V.frzC d v sz es))
  | .tup vs => .tup (vs.map (V.frzA d v sz es))
  | u => u.frzC d v sz es
def eraseK {α : Type} (d : Nat) : List (Nat × α) → List (Nat × α)
  | [] => []
  | (k, x) :: r => if k = d then eraseK d r else (k, x) :: eraseK d r
theorem get_eraseK {α : Type} (d t : Nat) : ∀ (l : List (Nat × α)) (x : α), get (eraseK d l) t = some x → t ≠ d ∧ get l t = some x
  | [], x, h => by simp [eraseK, get] at h
  | (k, y) :: r, x, h => by
    unfold eraseK at h
    split at h
    · rename_i e
      obtain ⟨h1, h2⟩ := get_eraseK d t r x h
      refine ⟨h1, ?_⟩
      rw [get_cons, if_neg (by omega)]
      exact h2
    · rename_i e
      rw [get_cons] at h ⊢
      split at h
      · rename_i e2; exact ⟨by omega, by rw [if_pos e2]; exact h⟩
      · rename_i e2
        obtain ⟨h1, h2⟩ := get_eraseK d t r x h
        exact ⟨h1, by rw [if_neg e2]; exact h2⟩
theorem get_mapK {α β : Type} (f : α → β) (t : Nat) : ∀ (l : List (Nat × α)) (y : β), get (mapK f l) t = some y → ∃ x, get l t = some x ∧ f x = y
  | [], y, h => by simp [mapK, get] at h
  | (k, x) :: r, y, h => by
    unfold mapK at h
    rw [get_cons] at h
    rw [get_cons]
    split at h
    · rename_i e; rw [if_pos e]; injection h with h; exact ⟨x, rfl, h⟩
    · rename_i e; rw [if_neg e]; exact get_mapK f t r y h

/-- The row d is given up and read from now on. -/
def AS.freeze (S : AS) (d : Nat) : Option AS :=
  match get S.objs d with
  | some o => if o.es.all V.pureE = true then some { S with env := mapK (V.frz d o.v o.sz o.es) S.env, objs := mapK (fun q => { q with es := q.es.map (V.frzA d o.v o.sz o.es) }) (eraseK d S.objs) } else none
  | none => none
def AS.freezeK (S : AS) (d : Nat) (L M : List Nat) : Option AS :=
  match S.freeze d with
  | some S' => some (S'.keep L M)
  | none => none
attribute [simp] V.frzC V.frzA V.frz eraseK mapK AS.freeze AS.freezeK

section
variable {P : Program} {D : Nat → Prop} {w0 : Bs} {w : World} {N0 : Nat → Prop} {μ : Mu} {S : AS} {a : Act} {Q : Exit → AS → Prop}

theorem RelM.frzC (h : RelM D w0 N0 μ S a w) {d : Nat} {o : Ob} (ho : get S.objs d = some o) (hp : o.es.all V.pureE = true) {N' : Nat → Prop} (hsub : ∀ b, b < w.heap.size → N' b → Own N0 μ S b)
    (hd : ∀ g c, μ d o.v = some (some (g, c)) → ¬ N' g) {x : Value} {v : V} (hx : Enc w (Own N0 μ S) μ x v) : Enc w N' μ x (v.frzC d o.v o.sz o.es) := by
  have other : Enc w N' μ x v := hx.keep (Keeps.refl _ _) hsub (fun _ _ _ hh => hh)
  have key : ∀ (v : V) (es : List V), Enc w (Own N0 μ S) μ x v → S.elems v = some (o.sz, es) → es.all V.pureE = true → (∃ off len, v = .ss d o.v o.sz off len ∨ v = .sl d o.v o.sz len) → Enc w N' μ x (.ro o.sz es) := by
    intro v es hx hes hp hform
    refine .pur ?_
    obtain ⟨A, c, rfl, hlc, hrest⟩ := h.elems hx hes
    by_cases hne : es = []
    · subst hne
      have hc : c ≤ maxLen := by
        obtain ⟨off, len, rfl | rfl⟩ := hform
        · cases hx with
          | pur hx => cases hx
          | ss _ _ _ _ _ g c' cap A' h1 h2 h3 => exact h2
        · cases hx with
          | pur hx => cases hx
          | slr _ _ _ _ g cap h1 h2 h3 => exact h3
          | slv => simp [maxLen]
      exact .ro A ⟨0, 0, none⟩ 0 c _ [] (fun _ _ => undef) rfl hlc hc (fun h0 => absurd h0 (by simp)) (by simp) (by simp) (by simp)
    · obtain ⟨hf, ad, vs, rfl, hvl, hvc, hrow⟩ := hrest hne
      have hblk : ad.block < w.heap.size ∧ ¬ N' ad.block ∧ c ≤ maxLen := by
        have hpos := List.length_pos_iff.2 hne
        obtain ⟨off, len, rfl | rfl⟩ := hform
        · simp only [AS.elems, ho] at hes
          split at hes
          case isFalse => cases hes
          rename_i hb
          obtain ⟨_, _, hb3⟩ := hb
          simp only [Option.some.injEq, Prod.mk.injEq, true_and] at hes
          subst hes
          have hl' : ((o.es.drop off).take len).length = len := by simp; omega
          rw [hl'] at hpos hx
          cases hx with
          | pur hx => cases hx
          | ss _ _ _ _ _ g c' cap A' h1 h2 h3 =>
            obtain ⟨hm, hA⟩ := h3 hpos
            injection hA with hA
            subst hA
            exact ⟨h.block_lt ho hm, hd _ _ hm, h2⟩
        · simp only [AS.elems, ho] at hes
          split at hes
          case isFalse => cases hes
          rename_i hb
          obtain ⟨_, _, hb3⟩ := hb
          simp only [Option.some.injEq, Prod.mk.injEq, true_and] at hes
          subst hes
          rw [hb3] at hpos hx
          cases hx with
          | pur hx => cases hx
          | slr _ _ _ _ g cap hm h2 h3 => exact ⟨h.block_lt ho hm, hd _ _ hm, h3⟩
          | slv => exact absurd hpos (by simp)
      have hat : ∀ (k : Nat) e (j : Nat) c, es[k]? = some e → e.cells[j]? = some c → ∃ y, vs[k * o.sz + j]? = some y ∧ Enc w (Own N0 μ S) μ y c := by
        intro k e j c hk hj
        have hfl := flat_get hf hk hj
        have hlt : k * o.sz + j < vs.length := by rw [hrow.1]; exact (List.getElem?_eq_some_iff.1 hfl).1
        exact ⟨_, List.getElem?_eq_getElem hlt, hrow.2 _ _ c (List.getElem?_eq_getElem hlt) hfl⟩
      refine .ro _ ad es.length c o.sz es (fun k j => (vs[k * o.sz + j]?).getD undef) rfl hlc hblk.2.2 (fun _ => ⟨rfl, hblk.1, hblk.2.1⟩) hf (fun k e j c hk hj => ?_) (fun k e j c hk hj => ?_)
      · obtain ⟨y, hy, _⟩ := hat k e j c hk hj
        simp only [hy, Option.getD_some]
        exact hvc _ _ hy
      · obtain ⟨y, hy, hey⟩ := hat k e j c hk hj
        simp only [hy, Option.getD_some]
        have hpc : c.pureC = true := List.all_eq_true.1 (List.all_eq_true.1 hp e (List.mem_of_getElem? hk)) c (List.mem_of_getElem? hj)
        exact (hey.pureC hpc).keep (Keeps.refl _ _) hsub
  unfold V.frzC
  split
  · split
    · rename_i d' v' sz' len hc
      obtain ⟨rfl, rfl, rfl, hl⟩ := hc
      exact key _ o.es hx (by simp [AS.elems, ho, hl]) hp ⟨0, len, .inr rfl⟩
    · exact other
  · split
    · rename_i d' v' sz' off len hc
      obtain ⟨rfl, rfl, rfl, hl⟩ := hc
      refine key _ _ hx (by simp [AS.elems, ho, hl]) ?_ ⟨off, len, .inl rfl⟩
      rw [List.all_eq_true] at hp ⊢
      exact fun e he => hp e (List.mem_of_mem_drop (List.mem_of_mem_take he))
    · exact other
  · split
    · rename_i d' v' sz' k off hc
      obtain ⟨rfl, rfl, rfl, rfl⟩ := hc
      split
      · rename_i e he
        rw [nth_eq] at he
        cases hx with
        | pur hx => cases hx
        | bp _ _ _ _ _ g cap hm =>
          obtain ⟨l, hl, hob⟩ := h.objs d' o ho
          rw [hm] at hl
          injection hl with hl
          subst hl
          obtain ⟨b1, b2, b3, b4, arr, b5, b6, b7⟩ := hob
          have hpe := List.all_eq_true.1 hp e (List.mem_of_getElem? he)
          have hcell : ∀ j, w.cell? ((⟨g, k * o.sz + 0, none⟩ : Addr).add j) = arr[k * o.sz + j]? := by
            intro j
            rw [Addr.add_lit, Nat.add_zero]
            simp [World.cell?, b5]
          refine .pur (.rp ⟨g, k * o.sz + 0, none⟩ o.sz e (fun j => (arr[k * o.sz + j]?).getD undef) (h.block_lt ho hm) (hd _ _ hm) (b4 e (List.mem_of_getElem? he)) (fun j c hj => ?_) (fun j c hj => ?_))
          · obtain ⟨y, hy, _⟩ := b7 k e j c he hj
            rw [hcell, hy]; rfl
          · obtain ⟨y, hy, hey⟩ := b7 k e j c he hj
            simp only [hy, Option.getD_some]
            exact (hey.pureC (List.all_eq_true.1 hpe c (List.mem_of_getElem? hj))).keep (Keeps.refl _ _) hsub
      · exact other
    · exact other
  · exact other

theorem frzC_cell (d v sz : Nat) (es : List V) {c : V} (h : c.isCell = true) : (c.frzC d v sz es).isCell = true := by
  unfold V.frzC
  split
  · split <;> first | rfl | exact h
  · split <;> first | rfl | exact h
  · split
    · split <;> rfl
    · exact h
  · exact h
theorem frz_cells (d v sz : Nat) (es : List V) (e : V) : (e.frzA d v sz es).cells = e.cells.map (V.frzC d v sz es) := by
  cases e with
  | agg cs => rfl
  | sl d' v' sz' len => simp only [V.frzA, V.frzC, V.cells, List.map_cons, List.map_nil]; by_cases hc : d' = d ∧ v' = v ∧ sz' = sz ∧ es.length = len <;> simp [hc]
  | ss d' v' sz' off len => simp only [V.frzA, V.frzC, V.cells, List.map_cons, List.map_nil]; by_cases hc : d' = d ∧ v' = v ∧ sz' = sz ∧ off + len ≤ es.length <;> simp [hc]
  | bp d' v' sz' k off =>
    simp only [V.frzA, V.frzC, V.cells, List.map_cons, List.map_nil]
    by_cases hc : d' = d ∧ v' = v ∧ sz' = sz ∧ off = 0
    · simp only [if_pos hc]; cases nth es k <;> rfl
    · simp only [if_neg hc]
  | _ => rfl

theorem RelM.frzA (h : RelM D w0 N0 μ S a w) {d : Nat} {o : Ob} (ho : get S.objs d = some o) (hp : o.es.all V.pureE = true) {N' : Nat → Prop} (hsub : ∀ b, b < w.heap.size → N' b → Own N0 μ S b)
    (hd : ∀ g c, μ d o.v = some (some (g, c)) → ¬ N' g) {x : Value} {v : V} (hx : Enc w (Own N0 μ S) μ x v) : Enc w N' μ x (v.frzA d o.v o.sz o.es) := by
  cases v with
  | agg cs =>
    have key : ∀ xs : List Value, xs.length = cs.length → (∀ c ∈ cs, c.isCell = true) → (∀ (i : Nat) x c, xs[i]? = some x → cs[i]? = some c → Enc w (Own N0 μ S) μ x c) → Enc w N' μ (.agg xs.toArray) (.agg (cs.map (V.frzC d o.v o.sz o.es))) := by
      intro xs hl hc hh
      refine .agg xs _ (by simp [hl]) (fun c hc' => ?_) (fun i x c hx' hc' => ?_)
      · simp only [List.mem_map] at hc'
        obtain ⟨c0, hc0, rfl⟩ := hc'
        exact frzC_cell _ _ _ _ (hc c0 hc0)
      · simp only [List.getElem?_map, Option.map_eq_some_iff] at hc'
        obtain ⟨c0, hc0, rfl⟩ := hc'
        exact h.frzC ho hp hsub hd (hh i x c0 hx' hc0)
    cases hx with
    | pur hx => cases hx with
      | agg xs _ hl hc hh => exact key xs hl hc (fun i x c a b => .pur (hh i x c a b))
    | agg xs _ hl hc hh => exact key xs hl hc hh
  | _ => exact h.frzC ho hp hsub hd hx

theorem RelM.frz (h : RelM D w0 N0 μ S a w) {d : Nat} {o : Ob} (ho : get S.objs d = some o) (hp : o.es.all V.pureE = true) {N' : Nat → Prop} (hsub : ∀ b, b < w.heap.size → N' b → Own N0 μ S b)
    (hd : ∀ g c, μ d o.v = some (some (g, c)) → ¬ N' g) {x : Value} {v : V} (hx : Enc w (Own N0 μ S) μ x v) : Enc w N' μ x (v.frz d o.v o.sz o.es) := by
  cases v with
  | tup vs =>
    have key : ∀ xs : List Value, xs.length = vs.length → (∀ (i : Nat) x c, xs[i]? = some x → vs[i]? = some c → Enc w (Own N0 μ S) μ x c) → Enc w N' μ (.tuple xs.toArray) (.tup (vs.map (V.frzA d o.v o.sz o.es))) := by
      intro xs hl hh
      refine .tup xs _ (by simp [hl]) (fun i x c hx' hc' => ?_)
      simp only [List.getElem?_map, Option.map_eq_some_iff] at hc'
      obtain ⟨c0, hc0, rfl⟩ := hc'
      exact h.frzA ho hp hsub hd (hh i x c0 hx' hc0)
    cases hx with
    | pur hx => cases hx with
      | tup xs _ hl hh => exact key xs hl (fun i x c a b => .pur (hh i x c a b))
    | tup xs _ hl hh => exact key xs hl hh
  | agg cs => exact h.frzA ho hp hsub hd hx
  | _ => exact h.frzC ho hp hsub hd hx

theorem le_freeze {d : Nat} {S' : AS} (hs : S.freeze d = some S') : S.le S' := by
  rintro w0 N0 a w ⟨μ, h⟩
  unfold AS.freeze at hs
  split at hs
  case h_2 => cases hs
  rename_i o ho
  split at hs
  case isFalse => cases hs
  rename_i hp
  injection hs with hs
  subst hs
  generalize hS' : ({ S with env := mapK (V.frz d o.v o.sz o.es) S.env, objs := mapK (fun q => { q with es := q.es.map (V.frzA d o.v o.sz o.es) }) (eraseK d S.objs) } : AS) = S'
  have hob : ∀ d1 o1, get S'.objs d1 = some o1 → d1 ≠ d ∧ ∃ q, get S.objs d1 = some q ∧ o1 = { q with es := q.es.map (V.frzA d o.v o.sz o.es) } := by
    subst hS'
    intro d1 o1 h1
    obtain ⟨q, h2, h3⟩ := get_mapK _ _ _ _ h1
    obtain ⟨h4, h5⟩ := get_eraseK _ _ _ _ h2
    exact ⟨h4, q, h5, h3.symm⟩
  have hsub : ∀ b, b < w.heap.size → Own N0 μ S' b → Own N0 μ S b := by
    rintro b hb (h0 | ⟨d1, o1, c, h1, h2⟩)
    · exact .inl h0
    · obtain ⟨_, q, h3, rfl⟩ := hob d1 o1 h1
      exact .inr ⟨d1, q, c, h3, h2⟩
  have hd : ∀ g c, μ d o.v = some (some (g, c)) → ¬ Own N0 μ S' g := by
    rintro g c hm (h0 | ⟨d1, o1, c1, h1, h2⟩)
    · have := h.n0.1 g h0
      obtain ⟨l, hl, hobl⟩ := h.objs d o ho
      rw [hm] at hl
      injection hl with hl
      subst hl
      exact hobl.1.elim (fun h => by have := this.1; omega) this.2
    · obtain ⟨hne, q, h3, rfl⟩ := hob d1 o1 h1
      exact hne (h.inj _ _ _ _ _ _ _ h3 ho h2 hm)
  refine ⟨μ, h.defers, by subst hS'; exact h.size, h.below, h.n0, by subst hS'; exact h.fresh, fun d1 o1 h1 => ?_, fun d1 o1 d2 o2 g c c' h1 h2 h3 h4 => ?_, fun t v hv => ?_⟩
  · obtain ⟨_, q, h3, rfl⟩ := hob d1 o1 h1
    obtain ⟨l, hl, hobl⟩ := h.objs d1 q h3
    refine ⟨l, hl, ?_⟩
    cases l with
    | none =>
      have : q.es = [] := hobl
      show q.es.map _ = []
      rw [this]; rfl
    | some gc =>
      obtain ⟨b1, b2, b3, b4, arr, b5, b6, b7⟩ := hobl
      refine ⟨b1, by simpa using b2, b3, fun e he => ?_, arr, b5, b6, fun k e j c he hj => ?_⟩
      · simp only [List.mem_map] at he
        obtain ⟨e0, he0, rfl⟩ := he
        have hf := b4 e0 he0
        refine ⟨by rw [frz_cells, List.length_map]; exact hf.1, fun c hc => ?_⟩
        rw [frz_cells] at hc
        simp only [List.mem_map] at hc
        obtain ⟨c0, hc0, rfl⟩ := hc
        exact frzC_cell _ _ _ _ (hf.2 c0 hc0)
      · simp only [List.getElem?_map, Option.map_eq_some_iff] at he
        obtain ⟨e0, he0, rfl⟩ := he
        rw [frz_cells, List.getElem?_map, Option.map_eq_some_iff] at hj
        obtain ⟨c0, hc0, rfl⟩ := hj
        obtain ⟨x, hx, hex⟩ := b7 k e0 j c0 he0 hc0
        exact ⟨x, hx, h.frzC ho hp hsub hd hex⟩
  · obtain ⟨_, q1, h5, rfl⟩ := hob d1 o1 h1
    obtain ⟨_, q2, h6, rfl⟩ := hob d2 o2 h2
    exact h.inj _ _ _ _ _ _ _ h5 h6 h3 h4
  · have hv' : get (mapK (V.frz d o.v o.sz o.es) S.env) t = some v := by subst hS'; exact hv
    obtain ⟨u, h1, rfl⟩ := get_mapK _ _ _ _ hv'
    obtain ⟨h2, h3⟩ := h.env t u h1
    exact ⟨by subst hS'; exact h2, h.frz ho hp hsub hd h3⟩

theorem aw_freeze {c : Code} {S' : AS} (d : Nat) (L M : List Nat) (hS : S.freezeK d L M = some S') (h : AW P w0 N0 c Q S') : AW P w0 N0 c Q S := by
  unfold AS.freezeK at hS
  split at hS
  case h_2 => cases hS
  rename_i S1 h1
  injection hS with hS
  exact aw_le (le_freeze h1) (aw_keep L M hS h)
/-- A state in which the row d is read. -/
theorem le_frz {S1 S' : AS} (d : Nat) (L M : List Nat) (hS : S.freezeK d L M = some S1) (he : S1.env = S'.env) (ho : S1.objs = S'.objs) (hn : S'.nt = S1.nt) (hx : S1.nx ≤ S'.nx) : S.le S' := by
  unfold AS.freezeK at hS
  split at hS
  case h_2 => cases hS
  rename_i S2 h1
  injection hS with hS
  subst hS
  exact AS.le_trans (le_freeze h1) (AS.le_trans (le_keep _ L M) (le_nx he ho hn hx))
end
end Go.Eng

namespace Go.Eng
open Go.RowKit

section
variable {P : Program} {w0 : Bs} {N0 : Nat → Prop} {Q : Exit → AS → Prop} {S : AS}

theorem awl_skip {ops : List Oper} {i : Nat} {o : Oper} {rest : List Oper} {S' : AS} (hg : S.gv ops o = some false) (hs : S.putv o.dst (.whn false (.bool true)) = some S') (h : AWL P w0 N0 ops Q (i + 1) rest S') : AWL P w0 N0 ops Q i (o :: rest) S := by
  rintro D a w hD ⟨μ, hr⟩
  refine wpList_step fun K hK => ?_
  have hw : Region.wanted o (yielded ops.toArray a.tmps) = false := by
    unfold AS.gv at hg
    split at hg
    · cases hg
    · rename_i j want hgn; exact gd_spec hr hgn hg
  rw [hw, if_neg (by simp)]
  exact hK _ _ (h D _ w (fun j hj => Nat.lt_succ_of_lt (hD j hj)) ⟨μ, hr.putv hs (.whn _ _ _ (fun hf => by cases hf) (fun _ => rfl))⟩)

/-- Operations none of which runs. -/
def skipOps (ops : List Oper) : List Oper → AS → Option AS
  | [], S => some S
  | o :: r, S => match S.gv ops o with
    | some false => (match S.putv o.dst (.whn false (.bool true)) with
      | some S' => skipOps ops r S'
      | none => none)
    | _ => none
attribute [simp] skipOps

theorem awl_skipl {ops : List Oper} : ∀ {l1 l2 : List Oper} {i : Nat} {S S1 : AS}, skipOps ops l1 S = some S1 → AWL P w0 N0 ops Q (i + l1.length) l2 S1 → AWL P w0 N0 ops Q i (l1 ++ l2) S
  | [], l2, i, S, S1, hs, h => by
    simp only [skipOps, Option.some.injEq] at hs
    subst hs
    exact h
  | o :: r, l2, i, S, S1, hs, h => by
    simp only [skipOps] at hs
    split at hs
    case h_2 => cases hs
    rename_i hg
    split at hs
    case h_2 => cases hs
    rename_i S' hp
    refine awl_skip hg hp (awl_skipl hs ?_)
    rw [show i + 1 + r.length = i + (o :: r).length by simp; omega]
    exact h

/-- The first n operations of what is left are passed over. -/
theorem awl_skips {ops l : List Oper} {i : Nat} {S1 : AS} (n : Nat) (hs : skipOps ops (l.take n) S = some S1) (h : AWL P w0 N0 ops Q (i + (l.take n).length) (l.drop n) S1) : AWL P w0 N0 ops Q i l S := by
  have := awl_skipl (Q := Q) (P := P) (w0 := w0) (N0 := N0) hs h
  rwa [List.take_append_drop] at this
end
end Go.Eng

namespace Go.Eng
open Go.RowKit

/-- A part of a body each way of which ends in a state st a with I a, or leaves. -/
theorem aw_viaE {P : Program} {w0 : Bs} {N0 : Nat → Prop} {Q : Exit → AS → Prop} {S : AS} {x y : Code} {α : Type} (st : α → AS) (I : α → Prop) (h1 : AW P w0 N0 x (ethen (fun T => ∃ a, I a ∧ T.le (st a)) Q) S) (h2 : ∀ a, I a → AW P w0 N0 y Q (st a)) : AW P w0 N0 (.seq x y) Q S :=
  aw_seq (h1.mono fun e T hT => by
    cases e with
    | normal =>
      obtain ⟨a, ha, hle⟩ := hT
      exact aw_le hle (h2 a ha)
    | _ => exact hT)
end Go.Eng

namespace Go.Eng
open Go.RowKit
attribute [simp] assoc lookV V.mset okMs V.okM V.okM1 V.flat0 mapK

section
variable {P : Program} {w0 : Bs} {N0 : Nat → Prop} {Q : Exit → AS → Prop} {S : AS}

/-- make(map[K]V). -/
theorem awl_makeMap {ops : List Oper} {i : Nat} {o : Oper} {rest : List Oper} {t : TypeId} (k : IntKind) (hg : o.guard = none) (ho : o.op = .makeMap t none)
    (h : ∀ b, w0.free b → (∀ t' b' k' m', get S.env t' = some (.mp b' k' m') → b' ≠ b) → ∃ S', S.putv o.dst (.mp b k []) = some S' ∧ AWL P w0 N0 ops Q (i + 1) rest S') : AWL P w0 N0 ops Q i (o :: rest) S := by
  rintro D a w hD ⟨μ, hr⟩
  refine wpList_plain hg fun K hK => ?_
  obtain ⟨S', hs, hrest⟩ := h w.heap.size (.inl hr.below.size) (fun t' b' k' m' hm => by
    have := (hr.env t' _ hm).2
    generalize a.tmps.getD t' undef = y at this
    cases this with
    | pur hp => cases hp with
      | mp _ _ _ es cl g hN hb => have := (Array.getElem?_eq_some_iff.1 hb).1; omega)
  have hb : Below w.heap.size w (w.alloc (.map #[] 0)) := (Below.refl _ _).alloc (Nat.le_refl _) _
  unfold Oper.wp
  have hrun : (execOp a.eval o).run P w = .ok (.value (.map (some w.heap.size))) (w.alloc (.map #[] 0)) := by
    unfold execOp
    rw [ho]
    rfl
  rw [hrun]
  refine hK _ _ (hrest D _ _ (fun j hj => Nat.lt_succ_of_lt (hD j hj)) ⟨μ, (hr.later hb).putv hs (.pur ?_)⟩)
  exact .mp _ k [] #[] 0 (fun _ => undef) (fun hn => by have := hr.own_lt _ hn; omega) (heap_alloc_new w _) (by simp) (by simp [assoc]) (by simp [findA]) (by simp) (by simp [assoc])

theorem okMs_get : ∀ {l : List (Nat × V)}, okMs l = true → ∀ t v, get l t = some v → v.okM = true := fun h t v => okMs_iff h t v

/-- The step of m[k] = v. -/
theorem mapStep {ops : List Oper} {i : Nat} {o : Oper} {S' : AS} {t e : TypeId} {m x v : Operand} {b : Nat} {k : IntKind} {es : List (Int × V)} {a : Int} {u : V} (hb : w0.free b) (hg : o.guard = none) (hd : o.dst = none) (ho : o.op = .mapUpdate t m x v)
    (hm : S.evc true m = some (.mp b k es)) (hx : S.evc true x = some (.int k a)) (hv : S.evc true v = some u) (hf : u.flat0 = true) (ht : tmap P t = some (k, e)) (hok : okMs S.env = true) (hS : ({ S with env := mapK (V.mset b k ((a, u) :: es)) S.env } : AS) = S') : Step P 0 w0 ops i o S S' :=
  .inr (.inr ⟨t, m, x, v, b, k, es, a, u, e, hg, hd, ho, hm, hx, hv, hf, ht, hb, okMs_get hok, hS.symm⟩)
theorem awl_mapUpdate {ops : List Oper} {i : Nat} {o : Oper} {rest : List Oper} {S' : AS} {t e : TypeId} {m x v : Operand} {b : Nat} {k : IntKind} {es : List (Int × V)} {a : Int} {u : V} (hb : w0.free b) (hg : o.guard = none) (hd : o.dst = none) (ho : o.op = .mapUpdate t m x v)
    (hm : S.evc true m = some (.mp b k es)) (hx : S.evc true x = some (.int k a)) (hv : S.evc true v = some u) (hf : u.flat0 = true) (ht : tmap P t = some (k, e)) (hok : okMs S.env = true) (hS : ({ S with env := mapK (V.mset b k ((a, u) :: es)) S.env } : AS) = S')
    (h : AWL P w0 N0 ops Q (i + 1) rest S') : AWL P w0 N0 ops Q i (o :: rest) S := awl_st (mapStep hb hg hd ho hm hx hv hf ht hok hS) h
theorem awo_mapUpdate {ops : List Oper} {i : Nat} {ks : List Nat} {l : List (Nat × List Nat)} {o : Oper} {S' : AS} {t e : TypeId} {m x v : Operand} {b : Nat} {k : IntKind} {es : List (Int × V)} {a : Int} {u : V} (hb : w0.free b) (hi : ops[i]? = some o) (hks : (ks.all fun d => (get S.objs (0 + d)).isNone) = true) (hg : o.guard = none) (hd : o.dst = none) (ho : o.op = .mapUpdate t m x v)
    (hm : S.evc true m = some (.mp b k es)) (hx : S.evc true x = some (.int k a)) (hv : S.evc true v = some u) (hf : u.flat0 = true) (ht : tmap P t = some (k, e)) (hok : okMs S.env = true) (hS : ({ S with env := mapK (V.mset b k ((a, u) :: es)) S.env } : AS) = S')
    (h : AWO P 0 w0 ops Q l S') : AWO P 0 w0 ops Q ((i, ks) :: l) S := ⟨o, S', hi, hks, mapStep hb hg hd ho hm hx hv hf ht hok hS, h⟩
end
end Go.Eng

namespace Go.Eng
open Go.RowKit

/-- A guarded operation that makes or writes memory and is run. -/
def GActStep (P : Program) (kb : Nat) (ops : List Oper) (i : Nat) (o : Oper) (S S' : AS) : Prop :=
  ∃ j want O v, o.guard = some (j, want) ∧ S.gd ops j want = some true ∧ acore P i S o.dst (kb + o.dst.getD 0) o.op = some (O, v) ∧ ({ S with objs := O } : AS).putv o.dst (.whn true v) = some S'
/-- A step that the model takes, whatever it is. -/
def GenStep (P : Program) (w0 : Bs) (ops : List Oper) (i : Nat) (o : Oper) (S S' : AS) : Prop :=
  ∀ (N0 : Nat → Prop) (D : Nat → Prop) (a : Act) (w : World), RelD D w0 N0 S a w → ¬ D i → (∀ j, D j → j < ops.length) → ∀ (K : Act → World → Prop) (Q' : Exit → Act → World → Prop), (∀ a' w', RelD (fun j => D j ∨ j = i) w0 N0 S' a' w' → K a' w') →
    if Region.wanted o (yielded ops.toArray a.tmps) = true then o.wp P a w K Q' else K (a.put o.dst undef) w
/-- A step that the model takes in every state that looks alike. -/
def OpqStep (P : Program) (w0 : Bs) (ops : List Oper) (i : Nat) (o : Oper) (S S' : AS) : Prop :=
  ∃ u O, S' = S.ap o.dst u O ∧ ∀ T, Alike ops o S T → (∀ d, get S.objs d = get T.objs d) → GenStep P w0 ops i o T (T.ap o.dst u O)
/-- An operation that ends the region by a panic, in every state that looks alike. -/
def PanStep (P : Program) (w0 : Bs) (ops : List Oper) (i : Nat) (o : Oper) (Q : Exit → AS → Prop) (S : AS) : Prop :=
  ∀ T, Alike ops o S T → (∀ d, get S.objs d = get T.objs d) → ∀ (N0 : Nat → Prop) (D : Nat → Prop) (a : Act) (w : World), RelD D w0 N0 T a w → ¬ D i → (∀ j, D j → j < ops.length) →
    Region.wanted o (yielded ops.toArray a.tmps) = true ∧ ∀ (K : Act → World → Prop), o.wp P a w K (post w0 N0 Q)
def StepX (P : Program) (kb : Nat) (w0 : Bs) (X : List Nat) (ops : List Oper) (i : Nat) (o : Oper) (S S' : AS) : Prop := Step P kb w0 ops i o S S' ∨ GActStep P kb ops i o S S' ∨ (i ∈ X ∧ OpqStep P w0 ops i o S S')
/-- What writes memory. -/
def actX (X : List Nat) (j : Nat) (o : Oper) : Bool := acts o.op || X.contains j
def makX (X : List Nat) (j : Nat) (o : Oper) : Bool := makes o.op && !X.contains j

section
variable {P : Program} {kb : Nat} {w0 : Bs} {N0 : Nat → Prop} {Q : Exit → AS → Prop}

theorem RelM.whn {D : Nat → Prop} {μ : Mu} {S S1 S' : AS} {a : Act} {w : World} {dst : Option Nat} {v : V} (h1 : S.putv dst v = some S1) (h2 : S.putv dst (.whn true v) = some S') (h : RelM D w0 N0 μ S1 a w) : RelM D w0 N0 μ S' a w := by
  obtain ⟨rfl, _⟩ := putv_ap h1
  obtain ⟨rfl, _⟩ := putv_ap h2
  refine ⟨h.defers, h.size, h.below, h.n0, h.fresh, h.objs, h.inj, fun t u hu => ?_⟩
  cases dst with
  | none => exact h.env t u hu
  | some d =>
    simp only [AS.ap, get_cons] at hu
    by_cases hd : d = t
    · rw [if_pos hd] at hu
      injection hu with hu
      subst hu
      have := h.env t v (by simp only [AS.ap, get_cons]; rw [if_pos hd])
      exact ⟨this.1, .whn _ _ _ (fun _ => this.2) (fun hf => by cases hf)⟩
    · rw [if_neg hd] at hu
      exact h.env t u (by simp only [AS.ap, get_cons]; rw [if_neg hd]; exact hu)

theorem RelM.of_eqv {D : Nat → Prop} {μ : Mu} {S T : AS} {a : Act} {w : World} (he : S.eqv T) (h : RelM D w0 N0 μ S a w) : RelM D w0 N0 μ T a w := by
  have hown : Own N0 μ T = Own N0 μ S := by
    funext b
    unfold Own
    simp only [he.2.1]
  refine ⟨h.defers, by rw [← he.2.2.2]; exact h.size, h.below, h.n0, fun d v hv => by rw [← he.2.2.1]; exact h.fresh d v hv, fun d o ho => ?_, fun d o d' o' g c c' h1 h2 => h.inj d o d' o' g c c' (by rw [he.2.1]; exact h1) (by rw [he.2.1]; exact h2), fun t v hv => ?_⟩
  · rw [hown]; exact h.objs d o (by rw [he.2.1]; exact ho)
  · rw [hown, ← he.2.2.2]; exact h.env t v (by rw [he.1]; exact hv)
theorem RelD.of_eqv {D : Nat → Prop} {S T : AS} {a : Act} {w : World} (he : S.eqv T) : RelD D w0 N0 S a w → RelD D w0 N0 T a w := fun ⟨μ, h⟩ => ⟨μ, h.of_eqv he⟩
theorem AS.eqv.refl (S : AS) : S.eqv S := ⟨fun _ => rfl, fun _ => rfl, rfl, rfl⟩

theorem gact_sound {S S' : AS} {ops : List Oper} {i : Nat} {o : Oper} (hs : GActStep P kb ops i o S S') : GenStep P w0 ops i o S S' := by
  intro N0 D a w hr hi _ K Q' hK
  obtain ⟨j, want, O, v, hg, hc, hco, hput⟩ := hs
  obtain ⟨μ, hr⟩ := hr
  rw [gd_spec hr hg hc, if_pos rfl]
  obtain ⟨h1, h2⟩ := putv_ap hput
  have heff : aeff P i S o.dst (kb + o.dst.getD 0) o.op = some (({ S with objs := O } : AS).ap o.dst v []) := by
    unfold aeff
    simp only [hco]
    exact ap_putv v h2
  obtain ⟨x, w', hdo, μ', hrel⟩ := aeff_run hr hi heff
  have hrel' : RelD (fun j => D j ∨ j = i) w0 N0 S' (a.put o.dst x) w' := ⟨μ', hrel.whn (ap_putv v h2) hput⟩
  unfold Oper.wp
  rcases hdo with hx | ⟨hx, rfl⟩
  · rw [hx]; exact hK _ _ hrel'
  · rw [hx]; exact hK _ _ hrel'

theorem stepX_sound {X : List Nat} {S S' : AS} {D : Nat → Prop} {a : Act} {w : World} {ops : List Oper} {i : Nat} {o : Oper} (hr : RelD D w0 N0 S a w) (hi : ¬ D i) (hDb : ∀ j, D j → j < ops.length) (hs : StepX P kb w0 X ops i o S S') {K : Act → World → Prop} {Q' : Exit → Act → World → Prop}
    (hK : ∀ a' w', RelD (fun j => D j ∨ j = i) w0 N0 S' a' w' → K a' w') :
    if Region.wanted o (yielded ops.toArray a.tmps) = true then o.wp P a w K Q' else K (a.put o.dst undef) w := by
  rcases hs with hs | hs | ⟨_, hs⟩
  · exact step_sound hr hi hs hK
  · exact gact_sound hs N0 D a w hr hi hDb K Q' hK
  · obtain ⟨u, O, rfl, hall⟩ := hs
    exact hall S ⟨fun _ _ => rfl, rfl, rfl⟩ (fun _ => rfl) N0 D a w hr hi hDb K Q' hK

theorem gact_alike {ops : List Oper} {i : Nat} {o : Oper} {S S' : AS} (hs : GActStep P kb ops i o S S') : ∃ d ob v, S' = S.ap o.dst (.whn true v) [(d, ob)] ∧ acts o.op = true ∧ (makes o.op = true → ∃ e, o.dst = some e ∧ d = kb + e) ∧
    ∀ T, Alike ops o S T → (∀ d, get S.objs d = get T.objs d) → GActStep P kb ops i o T (T.ap o.dst (.whn true v) [(d, ob)]) := by
  obtain ⟨j, want, O, v, hg, hc, hco, hput⟩ := hs
  obtain ⟨h1, h2⟩ := putv_ap hput
  obtain ⟨d, ob, rfl, _, hmk⟩ := acore_congr (ops := ops) (T := S) ⟨fun _ _ => rfl, rfl, rfl⟩ (fun _ => rfl) hco
  refine ⟨d, ob, v, by rw [h1]; rfl, ?_, fun hm => by
    obtain ⟨m1, m2⟩ := hmk hm
    obtain ⟨e, he⟩ := Option.isSome_iff_exists.1 m1
    exact ⟨e, he, by rw [m2, he]; rfl⟩, fun T hT hob => ?_⟩
  · cases h0 : acts o.op with
    | true => rfl
    | false => rw [acts_core h0] at hco; cases hco
  · obtain ⟨d', ob', he, hcT, _⟩ := acore_congr hT hob hco
    injection he with he _
    injection he with he1 he2
    subst he1; subst he2
    have hgvS : S.gv ops o = some true := by simp only [AS.gv, hg]; exact hc
    have hgT : T.gd ops j want = some true := by have := hT.gv; rw [hgvS] at this; simp only [AS.gv, hg] at this; exact this.symm
    refine ⟨j, want, _, v, hg, hgT, hcT, ?_⟩
    have := ap_putv (S := { T with objs := (d, ob) :: T.objs }) (dst := o.dst) (.whn true v) (fun d1 hd1 => by have := h2 d1 hd1; simp only at this ⊢; rw [← hT.2.1]; exact this)
    rw [this]
    rfl

theorem stepX_eqv {X : List Nat} {ops : List Oper} {i : Nat} {o : Oper} {S S' T : AS} (hs : StepX P kb w0 X ops i o S S') (h : S.eqv T) : ∃ T', StepX P kb w0 X ops i o T T' ∧ S'.eqv T' := by
  rcases hs with hs | hs | ⟨hX, hs⟩
  · obtain ⟨T', h1, h2⟩ := step_eqv hs h
    exact ⟨T', .inl h1, h2⟩
  · obtain ⟨d, ob, v, rfl, _, _, hall⟩ := gact_alike hs
    exact ⟨_, .inr (.inl (hall T ⟨fun t _ => h.1 t, h.2.2.2, h.2.2.1⟩ h.2.1)), ap_eqv h _ _ _⟩
  · obtain ⟨u, O, rfl, hall⟩ := hs
    refine ⟨T.ap o.dst u O, .inr (.inr ⟨hX, u, O, rfl, fun T' hT hob => hall T' ⟨fun t ht => (h.1 t).trans (hT.1 t ht), h.2.2.2.trans hT.2.1, h.2.2.1.trans hT.2.2⟩ (fun d => (h.2.1 d).trans (hob d))⟩), ap_eqv h _ _ _⟩

theorem stepX_spec {X : List Nat} {ops : List Oper} {i : Nat} {o : Oper} {S S' : AS} (hs : StepX P kb w0 X ops i o S S') (hmu : mapUp o.op = false) :
    ∃ u O, S' = S.ap o.dst u O ∧ (actX X i o = false → O = []) ∧ (makX X i o = true → ∀ d ob, (d, ob) ∈ O → ∃ e, o.dst = some e ∧ d = kb + e) ∧
      ∀ T, Alike ops o S T → (actX X i o = true → ∀ d, get S.objs d = get T.objs d) → (loads o.op = true → ∀ p r, S.place p = some r → T.place p = some r) → StepX P kb w0 X ops i o T (T.ap o.dst u O) := by
  have hacts : actX X i o = false → acts o.op = false := fun h => by simp only [actX, Bool.or_eq_false_iff] at h; exact h.1
  have hacts' : acts o.op = true → actX X i o = true := fun h => by simp [actX, h]
  have hmakes : makX X i o = true → makes o.op = true := fun h => by simp only [makX, Bool.and_eq_true] at h; exact h.1
  rcases hs with hs | hs | ⟨hX, u, O, h1, hall⟩
  · obtain ⟨u, O, h1, h2, h3, h4⟩ := step_spec hs (.inl hmu)
    exact ⟨u, O, h1, fun h => h2 (hacts h), fun h => h3 (hmakes h), fun T a b c => .inl (h4 T a (fun h => b (hacts' h)) c)⟩
  · obtain ⟨d, ob, v, h1, h2, h3, h4⟩ := gact_alike hs
    refine ⟨_, _, h1, fun h0 => (by rw [hacts' h2] at h0; cases h0), fun hm d' ob' hmem => ?_, fun T a b c => .inr (.inl (h4 T a (b (hacts' h2))))⟩
    simp at hmem
    rw [hmem.1]
    exact h3 (hmakes hm)
  · have hax : actX X i o = true := by simp [actX, hX]
    refine ⟨u, O, h1, fun h0 => (by rw [hax] at h0; cases h0), fun hm => ?_, fun T a b c => .inr (.inr ⟨hX, u, O, rfl, fun T' hT hob => hall T' ⟨fun t ht => (a.1 t ht).trans (hT.1 t ht), a.2.1.trans hT.2.1, a.2.2.trans hT.2.2⟩ (fun d => (b hax d).trans (hob d))⟩)⟩
    simp [makX, hX] at hm

theorem panStep_alike {ops : List Oper} {i : Nat} {o : Oper} {S T : AS} (h : PanStep P w0 ops i o Q S) (hT : Alike ops o S T) (hob : ∀ d, get S.objs d = get T.objs d) : PanStep P w0 ops i o Q T :=
  fun T' hT' hob' => h T' ⟨fun t ht => (hT.1 t ht).trans (hT'.1 t ht), hT.2.1.trans hT'.2.1, hT.2.2.trans hT'.2.2⟩ (fun d => (hob d).trans (hob' d))

/-- Whatever order is picked. -/
def xAny (P : Program) (kb : Nat) (w0 : Bs) (X : List Nat) (ops : List Oper) (Q : Exit → AS → Prop) (K : AS → Prop) : Nat → Array Bool → AS → Prop
  | 0, listed, S => Region.ready .any ops.toArray listed = [] ∧ K S
  | n + 1, listed, S => (Region.ready .any ops.toArray listed = [] → K S) ∧ ∀ i ∈ Region.ready .any ops.toArray listed, (∃ o S', ops[i]? = some o ∧ StepX P kb w0 X ops i o S S' ∧ xAny P kb w0 X ops Q K n (listed.setIfInBounds i true) S') ∨ ∃ o, ops[i]? = some o ∧ PanStep P w0 ops i o Q S

theorem xany_eqv {X : List Nat} {ops : List Oper} {K : AS → Prop} (hK : ∀ S T, S.eqv T → K S → K T) : ∀ (n : Nat) (listed : Array Bool) (S T : AS), S.eqv T → xAny P kb w0 X ops Q K n listed S → xAny P kb w0 X ops Q K n listed T
  | 0, _, _, _, h, ha => ⟨ha.1, hK _ _ h ha.2⟩
  | n + 1, listed, S, T, h, ha => ⟨fun h0 => hK _ _ h (ha.1 h0), fun i hi => by
    rcases ha.2 i hi with ⟨o, S', ho, hs, hrest⟩ | ⟨o, ho, hp⟩
    · obtain ⟨T', hT, he⟩ := stepX_eqv hs h
      exact .inl ⟨o, T', ho, hT, xany_eqv hK n _ S' T' he hrest⟩
    · exact .inr ⟨o, ho, panStep_alike hp ⟨fun t _ => h.1 t, h.2.2.2, h.2.2.1⟩ h.2.1⟩⟩

/-- The model follows whatever order is picked. -/
theorem xany_sound {X : List Nat} {ops : List Oper} {K : AS → Prop} (hK : ∀ S a w, K S → RelD (fun j => j < ops.length) w0 N0 S a w → post w0 N0 Q .normal a w) : ∀ (n : Nat) (listed : Array Bool) (S : AS) (a : Act) (w : World), listed.size = ops.length →
    RelD (fun j => listed.getD j false = true) w0 N0 S a w → xAny P kb w0 X ops Q K n listed S → wpAny P .any ops.toArray (post w0 N0 Q) n listed a w
  | 0, listed, S, a, w, hsz, hr, ha => by
    obtain ⟨μ, hr⟩ := hr
    refine ⟨ha.1, hK S a w ha.2 ⟨μ, hr.more (fun j hj => ?_)⟩⟩
    rcases Nat.lt_or_ge j listed.size with h | h
    · omega
    · simp [Array.getElem?_eq_none h] at hj
  | n + 1, listed, S, a, w, hsz, hr, ha => by
    refine ⟨fun h0 => ?_, fun i hi => ?_⟩
    · obtain ⟨μ, hr⟩ := hr
      refine hK S a w (ha.1 h0) ⟨μ, hr.more (fun j hj => ?_)⟩
      rcases Nat.lt_or_ge j listed.size with h | h
      · omega
      · simp [Array.getElem?_eq_none h] at hj
    · have hun := (mem_ready.1 hi).1
      have hil : i < listed.size := by
        rcases Nat.lt_or_ge i listed.size with h | h
        · exact h
        · simp [Array.getElem?_eq_none h] at hun
      have hni : ¬ (listed.getD i false = true) := by
        intro h1
        simp [hil] at hun h1
        rw [hun] at h1
        cases h1
      have hDb : ∀ j, listed.getD j false = true → j < ops.length := fun j hj => by
        rcases Nat.lt_or_ge j listed.size with h | h
        · omega
        · simp [Array.getElem?_eq_none h] at hj
      rcases ha.2 i hi with ⟨o, S', ho, hs, hrest⟩ | ⟨o, ho, hp⟩
      case inr =>
        unfold wpOp
        have ho' : ops.toArray[i]? = some o := by simpa using ho
        simp only [ho']
        obtain ⟨hw, hwp⟩ := hp S ⟨fun _ _ => rfl, rfl, rfl⟩ (fun _ => rfl) N0 _ a w hr hni hDb
        rw [if_pos hw]
        exact .inl (hwp _)
      unfold wpOp
      have ho' : ops.toArray[i]? = some o := by simpa using ho
      simp only [ho']
      have := stepX_sound (P := P) hr hni hDb hs (K := wpAny P .any ops.toArray (post w0 N0 Q) n (listed.setIfInBounds i true)) (Q' := post w0 N0 Q) (fun a' w' hr' => by
        obtain ⟨μ', hr'⟩ := hr'
        refine xany_sound hK n _ S' a' w' (by simpa using hsz) ⟨μ', hr'.more (fun j hj => ?_)⟩ hrest
        rcases hj with hj | hj
        · by_cases hij : i = j
          · subst hij; simp [hil]
          · rw [getD_set_ne false hij]; exact hj
        · subst hj; simp [hil])
      split
      · rename_i hw; rw [if_pos hw] at this; exact .inl this
      · rename_i hw; rw [if_neg hw] at this; exact this

theorem xany_first {X : List Nat} {ops : List Oper} {K : AS → Prop} (hK : ∀ S T, S.eqv T → K S → K T) {i : Nat} {oi : Oper} (hi : ops[i]? = some oi) (hq : actX X i oi = false) (hxi : mapUp oi.op = false) (hnd : mkOk ops = true) (B : List Nat) :
    ∀ (n : Nat) (listed : Array Bool) (S S1 : AS), Waits ops listed i B →
      (∀ j oj, ops[j]? = some oj → j ≠ i → listed.getD j true = false → j ∉ B → oi.apart ops.toArray oj = true ∧ (loads oi.op = true → actX X j oj = true → makX X j oj = true) ∧ mapUp oj.op = false) →
      (loads oi.op = true → ∀ j oj d, ops[j]? = some oj → listed.getD j true = false → makX X j oj = true → oj.dst = some d → get S.objs (kb + d) = none) →
      i ∈ Region.ready .any ops.toArray listed → StepX P kb w0 X ops i oi S S1 →
      xAny P kb w0 X ops Q K n (listed.setIfInBounds i true) S1 → xAny P kb w0 X ops Q K (n + 1) listed S := by
  intro n
  induction n with
  | zero =>
    intro listed S S1 _ _ _ hr hs H
    refine ⟨fun h => (by rw [h] at hr; cases hr), fun j hj => ?_⟩
    by_cases hji : j = i
    · subst hji; exact .inl ⟨oi, S1, hi, hs, H⟩
    · have := ready_mono hj hji
      rw [H.1] at this
      cases this
  | succ n ih =>
    intro listed S S1 hB hfree hfr hr hs H
    refine ⟨fun h => (by rw [h] at hr; cases hr), fun j hj => ?_⟩
    by_cases hji : j = i
    · subst hji; exact .inl ⟨oi, S1, hi, hs, H⟩
    · obtain ⟨hjun, oj', hoj', hall⟩ := mem_ready.1 hj
      have hoj : ops[j]? = some oj' := by simpa using hoj'
      have hiun := (mem_ready.1 hr).1
      have hun1 : ∀ k, listed.getD k true = false → ∀ e ∈ oj'.after, Region.binds .any e = true → e.on ≠ k := fun k hk e he hb heq => by
        have h1 := hall e he hb
        rw [heq] at h1
        rcases Nat.lt_or_ge k listed.size with h' | h'
        · simp [h'] at hk h1; rw [hk] at h1; cases h1
        · simp [Array.getElem?_eq_none h'] at h1
      have hnot : j ∉ B := fun hjB => by
        obtain ⟨_, oq, hoq, e, he, hb, hon⟩ := hB j hjB
        have : oq = oj' := by rw [hoj] at hoq; exact (Option.some.inj hoq).symm
        subst this
        rcases hon with hon | hon
        · exact hun1 i hiun e he hb hon
        · exact hun1 e.on (hB e.on hon).1 e he hb rfl
      obtain ⟨hap, hload, hmuj⟩ := hfree j oj' hoj hji hjun hnot
      obtain ⟨a1, a2, a3⟩ := Oper.apart_spec hap
      obtain ⟨u, O, rfl, hO, _, hall1⟩ := stepX_spec hs hxi
      have hOn := hO hq
      subst hOn
      rcases H.2 j (ready_mono hj hji) with ⟨oj, T', hoj2, hsj, hrest⟩ | ⟨oj, hoj2, hpj⟩
      case inr =>
        rw [hoj] at hoj2
        have := Option.some.inj hoj2
        subst this
        refine .inr ⟨oj', hoj, panStep_alike hpj ⟨fun t ht => ?_, rfl, rfl⟩ (fun _ => rfl)⟩
        cases hd : oi.dst with
        | none => rfl
        | some d =>
          simp only [AS.ap, get_cons]
          rw [if_neg (fun e => a1 d hd (by rw [e]; exact ht))]
      rw [hoj] at hoj2
      have := Option.some.inj hoj2
      subst this
      obtain ⟨u2, O2, rfl, hO2, hmk2, hall2⟩ := stepX_spec hsj hmuj
      -- j before i
      have hjS : StepX P kb w0 X ops j oj' S (S.ap oj'.dst u2 O2) := by
        refine hall2 S ⟨fun t ht => ?_, rfl, rfl⟩ (fun _ d => rfl) (fun _ p r hp => by rw [← place_congr (S := S.ap oj'.dst u2 [] |>.ap none u2 []) (T := S) (fun d => rfl)]; rw [place_congr (S := S.ap oi.dst u []) (T := S.ap oj'.dst u2 [] |>.ap none u2 []) (fun d => rfl)] at hp; exact hp)
        cases hd : oi.dst with
        | none => rfl
        | some d =>
          simp only [AS.ap, get_cons]
          rw [if_neg (fun e => a1 d hd (by rw [e]; exact ht))]
      -- i behind j
      have hplace : loads oi.op = true → ∀ p r, S.place p = some r → (S.ap oj'.dst u2 O2).place p = some r := by
        intro hl p r hp
        cases hact : actX X j oj' with
        | false =>
          rw [hO2 hact]
          rw [← place_congr (S := S) (T := S.ap oj'.dst u2 []) (fun d => rfl)]
          exact hp
        | true =>
          have hm := hload hl hact
          have hk : ∀ d, get S.objs d ≠ none → get (S.ap oj'.dst u2 O2).objs d = get S.objs d := by
            intro d hd
            have hnotin : ∀ ob, (d, ob) ∉ O2 := fun ob hmem => by
              obtain ⟨e, he, hde⟩ := hmk2 hm d ob hmem
              exact hd (by rw [hde]; exact hfr hl j oj' e hoj hjun hm he)
            show get (O2 ++ S.objs) d = get S.objs d
            clear hmk2 hall2 hsj hrest hjS hO2
            induction O2 with
            | nil => rfl
            | cons q O2 ihq =>
              obtain ⟨k, ob⟩ := q
              simp only [List.cons_append, get_cons]
              rw [if_neg (fun e => hnotin ob (by rw [e]; simp))]
              exact ihq (fun ob' hmem => hnotin ob' (by simp [hmem]))
          cases p <;> simp only [AS.place] at hp ⊢ <;> try (first | exact hp | (cases hp; done))
          rename_i d v sz k off
          cases hg : get S.objs d with
          | none => rw [hg] at hp; cases hp
          | some ob =>
            rw [hk d (by rw [hg]; simp)]
            exact hp
      have hiT : StepX P kb w0 X ops i oi (S.ap oj'.dst u2 O2) ((S.ap oj'.dst u2 O2).ap oi.dst u []) := by
        refine hall1 _ ⟨fun t ht => ?_, rfl, rfl⟩ (fun h0 => by rw [hq] at h0; cases h0) hplace
        cases hd : oj'.dst with
        | none => rfl
        | some d =>
          simp only [AS.ap, get_cons]
          rw [if_neg (fun e => a3 d hd (by rw [e]; exact ht))]
      have heq : ((S.ap oi.dst u []).ap oj'.dst u2 O2).eqv ((S.ap oj'.dst u2 O2).ap oi.dst u []) := by
        refine ⟨fun t => ?_, fun d => rfl, rfl, rfl⟩
        cases hd1 : oi.dst with
        | none => rfl
        | some d1 =>
          cases hd2 : oj'.dst with
          | none => rfl
          | some d2 =>
            have hne : d2 ≠ d1 := fun e => a2 d1 hd1 (by rw [hd2, e])
            simp only [AS.ap, get_cons]
            by_cases h1 : d1 = t <;> by_cases h2 : d2 = t <;> simp [h1, h2]
            exact absurd (h2.trans h1.symm) hne
      refine .inl ⟨oj', _, hoj, hjS, ih (listed.setIfInBounds j true) _ _ (fun k hk => by
        have hjk : j ≠ k := by rintro rfl; exact hnot hk
        exact ⟨by rw [getD_set_ne true hjk]; exact (hB k hk).1, (hB k hk).2⟩) (fun k ok hk hki hun hno => hfree k ok hk hki ?_ hno) (fun hl k ok d hk hun hm hd => ?_) (ready_mono hr (Ne.symm hji)) hiT ?_⟩
      · by_cases hjk : j = k
        · subst hjk; exact hjun
        · rw [getD_set_ne true hjk] at hun; exact hun
      · have hjk : j ≠ k := by
          rintro rfl
          have hjl : j < listed.size := by
            rcases Nat.lt_or_ge j listed.size with h | h
            · exact h
            · simp [Array.getElem?_eq_none h] at hjun
          simp [hjl] at hun
        have hun' : listed.getD k true = false := by rwa [getD_set_ne true hjk] at hun
        have h0 := hfr hl k ok d hk hun' hm hd
        show get (O2 ++ S.objs) (kb + d) = none
        cases hact : actX X j oj' with
        | false => rw [hO2 hact]; exact h0
        | true =>
          have hmj := hload hl hact
          have hnotin : ∀ ob, (kb + d, ob) ∉ O2 := fun ob hmem => by
            obtain ⟨e, hdj, hde⟩ := hmk2 hmj _ ob hmem
            have hed : d = e := Nat.add_left_cancel hde
            exact hjk (mkOk_spec hnd hoj hk (by simp only [makX, Bool.and_eq_true] at hmj; exact hmj.1) (by simp only [makX, Bool.and_eq_true] at hm; exact hm.1) (by rw [hdj, hd, hed]))
          clear hmk2 hall2 hsj hrest hjS hO2 hplace hiT heq
          induction O2 with
          | nil => exact h0
          | cons q O2 ihq =>
            obtain ⟨k', ob⟩ := q
            simp only [List.cons_append, get_cons]
            rw [if_neg (fun e => hnotin ob (by rw [e]; simp))]
            exact ihq (fun ob' hmem => hnotin ob' (by simp [hmem]))
      · rw [Array.setIfInBounds_comm _ _ hji]
        exact xany_eqv hK n _ _ _ heq hrest


/-- What is asked of an operation that is taken first. -/
def xfirstOk (X : List Nat) (ops : List Oper) (listed : Array Bool) (i : Nat) (oi : Oper) : Bool :=
  blkOk ops listed i (blk ops listed i) && (List.range ops.length).all fun j => j == i || listed.getD j true || (match ops[j]? with
    | some oj => (blk ops listed i).contains j || (oi.apart ops.toArray oj && !mapUp oj.op && (!loads oi.op || !actX X j oj || makX X j oj))
    | none => true)
theorem xfirstOk_spec {X : List Nat} {ops : List Oper} {listed : Array Bool} {i : Nat} {oi : Oper} (h : xfirstOk X ops listed i oi = true) : ∃ B, Waits ops listed i B ∧ ∀ j oj, ops[j]? = some oj → j ≠ i → listed.getD j true = false → j ∉ B →
    oi.apart ops.toArray oj = true ∧ (loads oi.op = true → actX X j oj = true → makX X j oj = true) ∧ mapUp oj.op = false := by
  unfold xfirstOk at h
  rw [Bool.and_eq_true] at h
  refine ⟨blk ops listed i, blkOk_spec h.1, ?_⟩
  intro j oj hj hji hun hno
  have hlt : j < ops.length := (List.getElem?_eq_some_iff.1 hj).1
  have h1 := List.all_eq_true.1 h.2 j (List.mem_range.2 hlt)
  simp only [hj, hun, Bool.or_false, Bool.or_eq_true, beq_iff_eq, Bool.and_eq_true] at h1
  rcases h1 with h1 | h1 | h1
  · exact absurd h1 hji
  · exact absurd (by simpa using h1) hno
  · refine ⟨h1.1.1, fun hl ha => ?_, by simpa using h1.1.2⟩
    rcases h1.2 with (h2 | h2) | h2
    · simp [hl] at h2
    · simp [ha] at h2
    · exact h2
def xmayTake (X : List Nat) (ops : List Oper) (listed : Array Bool) (i : Nat) (ks : List Nat) : Bool :=
  match ops[i]? with
  | some o => (!actX X i o && !mapUp o.op && (Region.ready .any ops.toArray listed).contains i && xfirstOk X ops listed i o && (!loads o.op || (List.range ops.length).all fun j => listed.getD j true || (match ops[j]? with
      | some oj => !makX X j oj || (match oj.dst with | some d => ks.contains d | none => true)
      | none => true))) || (Region.ready .any ops.toArray listed == [i])
  | none => false

/-- What is done so far, as the model lists it. -/
def lst (ops : List Oper) : List Nat → Array Bool
  | [] => Array.replicate ops.length false
  | i :: l => (lst ops l).setIfInBounds i true
/-- A region of which the operations 'done' are done. -/
def AT (P : Program) (kb : Nat) (w0 : Bs) (X : List Nat) (ops : List Oper) (Q : Exit → AS → Prop) (done : List Nat) (S : AS) : Prop :=
  xAny P kb w0 X ops Q (fun S => ∃ S', ({ S with nx := S.nx + ops.length } : AS).le S' ∧ Q .normal S') (ops.length - done.length) (lst ops done) S
theorem K_eqv {ops : List Oper} {S T : AS} (he : S.eqv T) (h : ∃ S', ({ S with nx := S.nx + ops.length } : AS).le S' ∧ Q .normal S') : ∃ S', ({ T with nx := T.nx + ops.length } : AS).le S' ∧ Q .normal S' := by
  obtain ⟨S2, h5, h6⟩ := h
  have he' : ({ T with nx := T.nx + ops.length } : AS).eqv { S with nx := S.nx + ops.length } := ⟨fun t => (he.1 t).symm, fun d => (he.2.1 d).symm, by simp only; rw [he.2.2.1], he.2.2.2.symm⟩
  exact ⟨S2, AS.le_trans he'.le h5, h6⟩

variable {X : List Nat} {ops : List Oper} {done : List Nat} {S S' : AS}
theorem at_fin (h0 : (Region.ready .any ops.toArray (lst ops done)).isEmpty = true) (hle : ({ S with nx := S.nx + ops.length } : AS).le S') (h : Q .normal S') : AT P kb w0 X ops Q done S := by
  have h0' : Region.ready .any ops.toArray (lst ops done) = [] := by simpa using h0
  unfold AT
  cases ops.length - done.length with
  | zero => exact ⟨h0', S', hle, h⟩
  | succ n => exact ⟨fun _ => ⟨S', hle, h⟩, fun i hi => by rw [h0'] at hi; cases hi⟩
theorem at_step {i : Nat} {ks : List Nat} {o : Oper} (hc : (Nat.blt done.length ops.length && mkOk ops && xmayTake X ops (lst ops done) i ks) = true) (hi : ops[i]? = some o) (hks : (ks.all fun d => (get S.objs (kb + d)).isNone) = true) (hs : StepX P kb w0 X ops i o S S') (h : AT P kb w0 X ops Q (i :: done) S') : AT P kb w0 X ops Q done S := by
  simp only [Bool.and_eq_true, Nat.blt_eq] at hc
  obtain ⟨⟨hlt, hk⟩, hm⟩ := hc
  unfold AT at h ⊢
  rw [show ops.length - done.length = (ops.length - (i :: done).length) + 1 by simp only [List.length_cons]; omega]
  unfold xmayTake at hm
  simp only [hi, Bool.or_eq_true, Bool.and_eq_true, beq_iff_eq] at hm
  rcases hm with ⟨⟨⟨⟨h1, h1'⟩, h2⟩, h3⟩, h4⟩ | hm
  · obtain ⟨B, hB, hfree⟩ := xfirstOk_spec h3
    refine xany_first (fun S T he hh => K_eqv (Q := Q) (ops := ops) he hh) hi (by simpa using h1) (by simpa using h1') hk B _ _ S S' hB hfree (fun hl j oj d hj hun hmk hd => ?_) (by simpa using h2) hs h
    rcases h4 with h4 | h4
    · simp [hl] at h4
    · have h5 := List.all_eq_true.1 h4 j (List.mem_range.2 (List.getElem?_eq_some_iff.1 hj).1)
      simp only [hun, hj, hmk, hd, Bool.not_true, Bool.false_or] at h5
      have h6 := List.all_eq_true.1 hks d (by simpa using h5)
      simpa using h6
  · refine ⟨fun h0 => (by rw [hm] at h0; cases h0), fun j hj => ?_⟩
    rw [hm] at hj
    have : j = i := by simpa using hj
    subst this
    exact .inl ⟨o, S', hi, hs, h⟩
/-- Ways that part. -/
theorem at_fork (l : List Nat) (hc : (Nat.blt done.length ops.length && Region.ready .any ops.toArray (lst ops done) == l && !l.isEmpty) = true) (h : ∀ i ∈ l, ∃ o S', ops[i]? = some o ∧ StepX P kb w0 X ops i o S S' ∧ AT P kb w0 X ops Q (i :: done) S') : AT P kb w0 X ops Q done S := by
  simp only [Bool.and_eq_true, Nat.blt_eq, beq_iff_eq] at hc
  obtain ⟨⟨hlt, hm⟩, hne⟩ := hc
  unfold AT
  rw [show ops.length - done.length = (ops.length - (done.length + 1)) + 1 by omega]
  refine ⟨fun h0 => ?_, fun i hi => ?_⟩
  · rw [hm] at h0; subst h0; simp at hne
  · rw [hm] at hi
    obtain ⟨o, S', h1, h2, h3⟩ := h i hi
    exact .inl ⟨o, S', h1, h2, h3⟩
/-- The one operation that can come up panics. -/
theorem at_pan {i : Nat} {o : Oper} (hc : (Nat.blt done.length ops.length && Region.ready .any ops.toArray (lst ops done) == [i]) = true) (hi : ops[i]? = some o) (hp : PanStep P w0 ops i o Q S) : AT P kb w0 X ops Q done S := by
  simp only [Bool.and_eq_true, Nat.blt_eq, beq_iff_eq] at hc
  obtain ⟨hlt, hm⟩ := hc
  unfold AT
  rw [show ops.length - done.length = (ops.length - (done.length + 1)) + 1 by omega]
  refine ⟨fun h0 => (by rw [hm] at h0; cases h0), fun j hj => ?_⟩
  rw [hm] at hj
  have : j = i := by simpa using hj
  subst this
  exact .inr ⟨o, hi, hp⟩
/-- States that hold the same; what is done counts as a set. -/
theorem at_perm {done' : List Nat} (hl : (lst ops done == lst ops done' && done.length == done'.length) = true) (he : S'.eqv S) (h : AT P kb w0 X ops Q done' S') : AT P kb w0 X ops Q done S := by
  simp only [Bool.and_eq_true, beq_iff_eq] at hl
  unfold AT at h ⊢
  rw [hl.1, hl.2]
  exact xany_eqv (fun S T he hh => K_eqv (Q := Q) (ops := ops) he hh) _ _ _ _ he h

def xgood (X : List Nat) (ops : List Oper) : List Nat → List (Nat × List Nat) → Bool
  | _, [] => true
  | done, (i, ks) :: l => Nat.blt done.length ops.length && mkOk ops && xmayTake X ops (lst ops done) i ks && xgood X ops (i :: done) l
def xdone : List Nat → List (Nat × List Nat) → List Nat
  | done, [] => done
  | done, (i, _) :: l => xdone (i :: done) l
theorem at_go : ∀ (l : List (Nat × List Nat)) {done : List Nat} {S S1 : AS}, xgood X ops done l = true → runOK P kb ops l S = some S1 → AT P kb w0 X ops Q (xdone done l) S1 → AT P kb w0 X ops Q done S
  | [], done, S, S1, _, hs, h => by
    simp only [runOK, Option.some.injEq] at hs
    subst hs
    exact h
  | (i, ks) :: l, done, S, S1, hg, hs, h => by
    simp only [xgood, Bool.and_eq_true] at hg
    simp only [runOK] at hs
    split at hs
    case h_2 => cases hs
    rename_i o ho
    split at hs
    case isFalse => cases hs
    rename_i hks
    split at hs
    case h_2 => cases hs
    rename_i S2 h2
    rw [nth_eq] at ho
    exact at_step (by simp only [Bool.and_eq_true]; exact hg.1) ho hks (.inl (.inl h2)) (at_go l hg.2 hs h)

theorem awk_drawX {id : Nat} {l : List Oper} {S : AS} (kb : Nat) (X : List Nat) (hm : P.follows .mixedOrders = true) (h : AT P kb w0 X l Q [] S) : AW P w0 N0 (.region id l.toArray true) Q S := by
  rintro a w ⟨μ, hr⟩
  refine wp_region_any hm ?_
  have hsz : l.toArray.size = l.length := by simp
  rw [hsz]
  refine xany_sound (K := fun S => ∃ S', ({ S with nx := S.nx + l.length } : AS).le S' ∧ Q .normal S') ?_ l.length _ S a _ (by simp) ⟨μ, ?_⟩ h
  · rintro S a w ⟨S', h1, h2⟩ ⟨μ, hr⟩
    refine ⟨S', h2, h1 _ _ _ _ ⟨μ, ⟨hr.defers, hr.size, hr.below, hr.n0, fun d v hv => ?_, hr.objs, hr.inj, hr.env⟩⟩⟩
    rcases hr.fresh d v hv with h3 | ⟨j, hj, e⟩
    · exact .inl (by simp only; omega)
    · exact .inl (by simp only; omega)
  · have := hr.drew
    exact this.more (fun j hj => hj.elim)

theorem aw_drawX {id : Nat} {l : List Oper} {S : AS} (X : List Nat) (hm : P.follows .mixedOrders = true) (h : AT P 0 w0 X l Q [] S) : AW P w0 N0 (.region id l.toArray true) Q S := awk_drawX 0 X hm h
/-- The step of a guarded operation that is run. -/
def gact (P : Program) (kb : Nat) (ops : List Oper) (i : Nat) (o : Oper) (S : AS) : Option AS :=
  match o.guard with
  | none => none
  | some (j, want) => match S.gd ops j want with
    | some true => match acore P i S o.dst (kb + o.dst.getD 0) o.op with
      | some (O, v) => ({ S with objs := O } : AS).putv o.dst (.whn true v)
      | none => none
    | _ => none
theorem gact_spec {i : Nat} {o : Oper} (h : gact P kb ops i o S = some S') : GActStep P kb ops i o S S' := by
  unfold gact at h
  split at h
  · cases h
  · rename_i j want hg
    split at h
    · rename_i hc
      split at h
      · rename_i O v hco
        exact ⟨j, want, O, v, hg, hc, hco, h⟩
      · cases h
    · cases h
theorem sx_act {i : Nat} {o : Oper} (h : gact P kb ops i o S = some S') : StepX P kb w0 X ops i o S S' := .inr (.inl (gact_spec h))
theorem sx_go {i : Nat} {o : Oper} (h : astepK P kb ops i o S = some S') : StepX P kb w0 X ops i o S S' := .inl (.inl h)

theorem views_congr {S T : AS} (h : ∀ d, get S.objs d = get T.objs d) : ∀ (vs : List V), S.views vs = T.views vs := by
  have hC : ∀ v, S.viewC v = T.viewC v := by
    intro v
    cases v <;> simp only [AS.viewC] <;> rw [elems_congr h]
  have hL : ∀ l, S.viewL l = T.viewL l := by
    intro l
    induction l with
    | nil => rfl
    | cons v l ih => simp only [AS.viewL, hC, ih]
  have hV : ∀ v, S.view v = T.view v := by
    intro v
    cases v <;> simp only [AS.view, hC, hL]
  intro vs
  induction vs with
  | nil => rfl
  | cons v l ih => simp only [AS.views, hV, ih]

theorem wanted_of {D : Nat → Prop} {μ : Mu} {a : Act} {w : World} {o : Oper} (hr : RelM D w0 N0 μ S a w) (hg : S.gv ops o = some true) : Region.wanted o (yielded ops.toArray a.tmps) = true := by
  unfold AS.gv at hg
  split at hg
  · rename_i hgn; simp [Region.wanted, hgn]
  · rename_i j want hgn; exact gd_spec hr hgn hg

/-- A call that reads slices of the call's own and hands back a value without memory. -/
theorem sx_callv {i : Nat} {o : Oper} {f : Operand} {fid : FuncId} {fn : Func} {args : Array Operand} {ats : Array TypeId} {vs us : List V} {res : V}
    (hX : i ∈ X) (hc : AC P fid us (fun r => r = res)) (hfn : P.funcs[fid]? = some fn) (hb : fn.body.isSome = true) (hn : (fn.name == "runtime.NumGoroutine") = false)
    (hg : S.gv ops o = some true) (ho : o.op = .call { callee := .value f, args := args, argTypes := ats }) (hf : S.evc true f = some (.fn fid))
    (ha : S.args true args.toList = some vs) (hp : S.views vs = some us) (hl : res.light = true) (hs : S.putv o.dst (wrapG o true res) = some S') : StepX P kb w0 X ops i o S S' := by
  obtain ⟨hs1, hs2⟩ := putv_ap hs
  refine .inr (.inr ⟨hX, wrapG o true res, [], hs1, fun T hT hob N0 D a w hr hi hDb K Q' hK => ?_⟩)
  replace hg : T.gv ops o = some true := by rw [← hT.gv]; exact hg
  replace hf : T.evc true f = some (.fn fid) := by rw [← hT.evc (by rw [ho]; simp [Op.operands, Call.operands])]; exact hf
  replace ha : T.args true args.toList = some vs := by rw [← args_congr (S := S) (T := T) (fun x hx => hT.evc (by rw [ho]; simp [Op.operands, Call.operands]; right; simpa using hx) true)]; exact ha
  replace hp : T.views vs = some us := by rw [← views_congr hob]; exact hp
  have hs := ap_putv (S := T) (wrapG o true res) (fun d hd => by rw [← hT.2.1]; exact hs2 d hd)
  obtain ⟨μ, hr⟩ := hr
  rw [wanted_of hr hg, if_pos rfl]
  have hfv := hr.evc hf rfl
  have hfe : a.eval f = .func (.func fid) #[] #[] := by
    generalize a.eval f = y at hfv
    cases hfv with
    | pur hfv => cases hfv with
      | fn => rfl
  obtain ⟨h1, h2⟩ := args_spec hr rfl ha
  obtain ⟨h3, h4⟩ := views_spec hp
  unfold Oper.wp
  rw [run_call_fn ho hfe hfn hb hn]
  have hcall := hc w N0 (args.toList.map a.eval) (fun b hb => Nat.lt_of_lt_of_le (hr.n0.1 b hb).1 hr.below.size) (by simp [h1, h3]) (fun j x v hx hv => by
    simp only [List.getElem?_map, Option.map_eq_some_iff] at hx
    obtain ⟨y, hy, rfl⟩ := hx
    have hj : j < vs.length := by rw [← h3]; exact (List.getElem?_eq_some_iff.1 hv).1
    exact hr.view (h2 j y vs[j] hy (List.getElem?_eq_getElem hj)) (h4 j vs[j] v (List.getElem?_eq_getElem hj) hv))
  have harr : (args.toList.map a.eval).toArray = args.map a.eval := by apply Array.ext'; simp
  rw [harr] at hcall
  refine hcall.mono ?_
  rintro e w' ⟨x, r, rfl, rfl, hpx, hbw⟩
  refine hK _ _ ⟨μ, ((hr.later hbw).putv hs ?_).more (fun j hj => .inl hj)⟩
  unfold wrapG
  split
  · exact .pur (hpx.of_light hl)
  · exact .whn _ _ _ (fun _ => .pur (hpx.of_light hl)) (fun hf => by cases hf)

/-- A call that hands back a new row d. -/
theorem sx_callO {i : Nat} {o : Oper} {f : Operand} {fid : FuncId} {fn : Func} {args : Array Operand} {ats : Array TypeId} {vs us : List V} {sz : Nat} {ty : TypeId} {F : Nat → Nat → V} {es : List V} (d : Nat)
    (hX : i ∈ X) (hc : ACO P fid us sz ty (fun F' es' => F' = F ∧ es' = es)) (hfn : P.funcs[fid]? = some fn) (hb : fn.body.isSome = true) (hn : (fn.name == "runtime.NumGoroutine") = false)
    (hg : S.gv ops o = some true) (ho : o.op = .call { callee := .value f, args := args, argTypes := ats }) (hf : S.evc true f = some (.fn fid))
    (ha : S.args true args.toList = some vs) (hp : S.views vs = some us) (hs : ({ S with objs := (d, ⟨S.nx + i, sz, ty, es⟩) :: S.objs } : AS).putv o.dst (wrapG o true (F d (S.nx + i))) = some S') : StepX P kb w0 X ops i o S S' := by
  obtain ⟨hs1, hs2⟩ := putv_ap hs
  refine .inr (.inr ⟨hX, wrapG o true (F d (S.nx + i)), [(d, ⟨S.nx + i, sz, ty, es⟩)], hs1, fun T hT hob N0 D a w hr hi hDb K Q' hK => ?_⟩)
  replace hg : T.gv ops o = some true := by rw [← hT.gv]; exact hg
  replace hf : T.evc true f = some (.fn fid) := by rw [← hT.evc (by rw [ho]; simp [Op.operands, Call.operands])]; exact hf
  replace ha : T.args true args.toList = some vs := by rw [← args_congr (S := S) (T := T) (fun x hx => hT.evc (by rw [ho]; simp [Op.operands, Call.operands]; right; simpa using hx) true)]; exact ha
  replace hp : T.views vs = some us := by rw [← views_congr hob]; exact hp
  have hnx : S.nx = T.nx := hT.2.2
  have hs := ap_putv (S := { T with objs := (d, ⟨T.nx + i, sz, ty, es⟩) :: T.objs }) (dst := o.dst) (wrapG o true (F d (T.nx + i))) (fun d hd => by have := hs2 d hd; simp only at this ⊢; rw [← hT.2.1]; exact this)
  rw [hnx] at hK
  obtain ⟨μ, hr⟩ := hr
  rw [wanted_of hr hg, if_pos rfl]
  have hfv := hr.evc hf rfl
  have hfe : a.eval f = .func (.func fid) #[] #[] := by
    generalize a.eval f = y at hfv
    cases hfv with
    | pur hfv => cases hfv with
      | fn => rfl
  obtain ⟨h1, h2⟩ := args_spec hr rfl ha
  obtain ⟨h3, h4⟩ := views_spec hp
  unfold Oper.wp
  rw [run_call_fn ho hfe hfn hb hn]
  have hcall := hc w N0 (args.toList.map a.eval) (fun b hb => Nat.lt_of_lt_of_le (hr.n0.1 b hb).1 hr.below.size) (by simp [h1, h3]) (fun j x v hx hv => by
    simp only [List.getElem?_map, Option.map_eq_some_iff] at hx
    obtain ⟨y, hy, rfl⟩ := hx
    have hj : j < vs.length := by rw [← h3]; exact (List.getElem?_eq_some_iff.1 hv).1
    exact hr.view (h2 j y vs[j] hy (List.getElem?_eq_getElem hj)) (h4 j vs[j] v (List.getElem?_eq_getElem hj) hv))
  have harr : (args.toList.map a.eval).toArray = args.map a.eval := by apply Array.ext'; simp
  rw [harr] at hcall
  refine hcall.mono ?_
  rintro e w' ⟨x, F', es', l, rfl, ⟨rfl, rfl⟩, hbw, hpx⟩
  have hmono := hr.muSet_mono hi d l
  obtain ⟨hrel, _⟩ := hr.update (D' := fun j => D j ∨ j = i) (d := d) (o' := ⟨T.nx + i, sz, ty, es'⟩) (l' := l) (w' := w') (μ' := muSet μ d (T.nx + i) l) hmono (hr.muSet_fresh i d _) (muSet_same _ _ _ _)
    (hr.below.trans (hbw.mono hr.below.size)) (Keeps.of_below hbw _) (fun d1 o1 g c _ h1 h2 => hbw.block g (hr.block_lt h1 h2))
    (fun g c e => by
      have := (hpx d (T.nx + i) (muSet μ d (T.nx + i) l) (fun _ => False) (muSet_same _ _ _ _)).2
      rw [e] at this
      exact .inl (this.1.elim id (fun h => h.elim)))
    (fun N' _ => by
      have := (hpx d (T.nx + i) (muSet μ d (T.nx + i) l) N' (muSet_same _ _ _ _)).2
      cases l with
      | none => exact this
      | some gc => exact ⟨.inl (Nat.le_trans hr.below.size (this.1.elim id (fun h => h.elim))), this.2⟩)
  refine hK _ _ ⟨_, hrel.putv hs ?_⟩
  unfold wrapG
  split
  · exact (hpx d (T.nx + i) _ _ (muSet_same _ _ _ _)).1
  · exact .whn _ _ _ (fun _ => (hpx d (T.nx + i) _ _ (muSet_same _ _ _ _)).1) (fun hf => by cases hf)

theorem at_call {i : Nat} {ks : List Nat} {o : Oper} {c : Bool} {f : Operand} {fid : FuncId} {fn : Func} {args : Array Operand} {ats : Array TypeId} {vs : List V} {res : V}
    (hm : (Nat.blt done.length ops.length && mkOk ops && xmayTake X ops (lst ops done) i ks) = true)
    (hc : c = true → AC P fid vs (fun r => r = res)) (hfn : P.funcs[fid]? = some fn) (hb : fn.body.isSome = true) (hn : (fn.name == "runtime.NumGoroutine") = false) (hi : nth ops i = some o) (hks : (ks.all fun d => (get S.objs (kb + d)).isNone) = true)
    (hg : S.gv ops o = some c) (ho : o.op = .call { callee := .value f, args := args, argTypes := ats }) (hf : S.evc c f = some (.fn fid)) (ha : S.args c args.toList = some vs) (hp : vs.all V.pureV = true) (hs : S.putv o.dst (wrapG o c res) = some S') (h : AT P kb w0 X ops Q (i :: done) S') : AT P kb w0 X ops Q done S := by
  rw [nth_eq] at hi
  exact at_step hm hi hks (.inl (.inr (.inl ⟨c, f, args, ats, fid, fn, vs, res, hg, ho, hf, hfn, hb, hn, ha, hp, fun h => (hc h).b, hs⟩))) h
def fin (l : List Oper) (L M : List Nat) (S : AS) : AS := (S.bump l.length).keep L M
theorem at_end (L M : List Nat) (h0 : (Region.ready .any ops.toArray (lst ops done)).isEmpty = true) (hs : fin ops L M S = S') (h : Q .normal S') : AT P kb w0 X ops Q done S := by
  subst hs
  exact at_fin h0 (le_keep _ L M) h
attribute [simp] gact fin xdone
end
end Go.Eng

namespace Go.Eng
open Go.ChangeShapes Go.WideShapes Go.ChangeAt Go.RowKit

theorem trodAll_get {H : Type} {enc : TypeId × Value → H} {P : Program} {W : World} : ∀ {ts : List TypeId} {vs : List Value} {ds : List (DataW H)} {ps : List MemPlace},
    DataW.TrodAll enc P W 0 (fun _ => true) true ts vs ds ps → ∀ (j : Nat) t x, ts[j]? = some t → vs[j]? = some x → ∃ d p, ds[j]? = some d ∧ DataW.Trod enc P W 0 (fun _ => true) true t x d p
  | [], _, _, _, _, j, t, x, ht, _ => by simp at ht
  | t0 :: ts, vs, ds, ps, h, j, t, x, ht, hx => by
    obtain ⟨v, vs', d, ds', p, q, rfl, rfl, rfl, h1, h2⟩ := trodAll_cons h
    rcases j with _ | j
    · simp at ht hx
      subst ht; subst hx
      exact ⟨d, p, rfl, h1⟩
    · simp at ht hx
      obtain ⟨d', p', h3, h4⟩ := trodAll_get h2 j t x ht hx
      exact ⟨d', p', by simpa using h3, h4⟩

/-- The lengths of the lists that come in. -/
def Sized (P : Program) (ts : List TypeId) (vs : List V) : Prop :=
  ∀ (j : Nat) t e sz es, ts[j]? = some t → P.underlying t = some (.slice e) → vs[j]? = some (.ro sz es) → es.length * P.bytesOf e ≤ reachBytes

theorem row_contractS {H : Type} {enc : TypeId × Value → H} {P : Program} {f : FuncId} {fn : Func} {s : ChangeSpec} {n : Nat} {tb : TypeId} {ts : List TypeId} (hts : fn.params.toList = ts) (hok : (ts.all fun t => okT P n t && P.readableRec t && decide (t < P.types.size)) = true) (hlaid : laidOutB P = true) (hres : fn.resultTypes = #[tb]) (htb : P.underlying tb = some .bool)
    (hvars : s.vars = []) (hs : ∀ ds : List (DataW H), ds.length = ts.length → s.fn H ds = { results := [.lit (.bool true)], args := ds }) (hc : ∀ vs, RdAll P n ts vs → Sized P ts vs → AC P f vs (fun r => r = .bool true))
    {W : World} {base : Nat} {args : Array Value} {ds gs : List (DataW H)} {before : List MemPlace}
    (hval : ∀ (j : Nat) t v, fn.params[j]? = some t → args[j]? = some v → Value.okWide P W .any base t v) (hW : DataW.Whole enc P fn.params.toList s.vars false W args.toList ds gs before)
    (hz : (DataW.weightsEach P (fn.params.toList ++ s.plain.varTypes P) (ds ++ gs)).all (· ≤ reachBytes) = true) :
    Calls P f args W fun e W' => ∃ v, e = .returned v ∧ s.post enc P fn false true false false W args v W' := by
  have hW' := hW
  obtain ⟨p, q, hA, hV, rfl, hfz, hnd⟩ := hW
  rw [hvars] at hV
  obtain ⟨rfl, rfl⟩ := trodVars_none hV
  have hdl : ds.length = ts.length := by
    have : ∀ (ts : List TypeId) (vs : List Value) (ds : List (DataW H)) (ps : List MemPlace), DataW.TrodAll enc P W 0 (fun _ => true) true ts vs ds ps → ds.length = ts.length := by
      intro ts
      induction ts with
      | nil => intro vs ds ps h; obtain ⟨_, rfl, _⟩ := trodAll_nil h; rfl
      | cons t ts ih => intro vs ds ps h; obtain ⟨v, vs', d, ds', p, q, rfl, rfl, rfl, _, h2⟩ := trodAll_cons h; simp [ih _ _ _ h2]
    rw [← hts]; exact this _ _ _ _ hA
  have hall : ∀ t ∈ ts, okT P n t = true ∧ P.readableRec t = true ∧ t < P.types.size := by
    intro t ht
    have := List.all_eq_true.1 hok t ht
    simp only [Bool.and_eq_true, decide_eq_true_eq] at this
    exact ⟨this.1.1, this.1.2, this.2⟩
  obtain ⟨us, h1, h2⟩ := args_pur (n := n) (ts := ts) (fun t ht => (hall t ht).1) (fun j t v ht hv => hval j t v (by rw [← hts] at ht; simpa using ht) (by simpa using hv)) (hts ▸ hA)
  have hsz : Sized P ts us := by
    intro j t e sz es ht hu hes
    have hj : j < us.length := (List.getElem?_eq_some_iff.1 hes).1
    have hja : j < args.toList.length := by rw [h2.1]; exact hj
    have hx : args.toList[j]? = some args.toList[j] := List.getElem?_eq_getElem hja
    have hp := h2.2 j _ _ hx hes
    obtain ⟨d, p', hd, fuel, hf⟩ := trodAll_get (hts ▸ hA) j t _ ht hx
    generalize args.toList[j] = x at hp hf
    cases hp with
    | ro A ad m cap sz es g hn hcap hmax hA' hfit hcell hsub =>
      have hjt : j < ts.length := (List.getElem?_eq_some_iff.1 ht).1
      have hcs : (Value.slice A m cap).cells.toList = [.slice A m cap] := rfl
      rw [hcs] at hf
      rcases DataW.trod_slice hu hf with ⟨e1, e2⟩ | ⟨a, len, cap', elems, rest, k, _, e1, e2, _, _, _, hlen, _⟩
      · injection e1 with e1
        injection e1 with _ e1
        have : es.length = 0 := by omega
        rw [this]; omega
      · injection e1 with e1
        injection e1 with _ e1
        injection e2 with e2 _
        subst e2
        have := sized_slice (H := H) (P := P) hz (j := j) (t := t) (e := e) (elems := elems.map (·.1)) (spare := rest.map (·.1)) (by rw [hts, List.getElem?_append_left hjt]; exact ht) (by rw [List.getElem?_append_left (by omega)]; exact hd) hu
        refine Nat.le_trans (Nat.mul_le_mul_right _ ?_) this
        simp
        omega
  have hcall := hc us h1 hsz W (fun _ => False) args.toList (fun _ hb => hb.elim) h2.1 h2.2
  rw [show args.toList.toArray = args by simp] at hcall
  refine hcall.mono ?_
  rintro e W1 ⟨x, r, rfl, rfl, hp, hb⟩
  obtain rfl : x = .bool true := by cases hp; rfl
  refine ⟨_, rfl, ds, [], p ++ [], [], p, [], hW', ?_, ?_, ?_, hb.frame _, fun h => by cases h⟩
  · rw [List.append_nil, hs ds hdl, hres]
    exact trodAll_mk1 (shut_bool htb true)
  · rw [List.append_nil, hs ds hdl]
    exact trodAll_below hlaid hb (fun t ht => (hall t (hts ▸ ht)).2) hA
  · rw [List.append_nil, hs ds hdl, hvars]
    exact rfl
end Go.Eng

namespace Go.Eng
open Go.RowKit

/-- The results of a function, as they are. -/
def aresR (P : Program) (S : AS) : List ResultVar → Option (List V)
  | [] => some []
  | r :: rs => match aresult P S r, aresR P S rs with
    | some v, some vs => some (v :: vs)
    | _, _ => none
def aresT (P : Program) (S : AS) (rs : List ResultVar) : Option V :=
  match aresR P S rs with
  | some [v] => some v
  | some vs => some (.tup vs)
  | none => none
attribute [simp] aresR aresT

/-- The contract: called on values that read as args, with the objects ins of the caller's own, f returns a value r and leaves the objects outs, as R says, or panics, as E says. Nothing else that was there changes. -/
def ACS (P : Program) (f : FuncId) (args : List V) (ins : List (Nat × Ob)) (R : V → List (Nat × Ob) → Prop) (E : List PanicEntry → Prop) : Prop :=
  ∀ (B : Bs) (N : Nat → Prop) (μ : Mu) (nx : Nat) (xs : List Value), xs.length = args.length → B.df = [] →
    RelM (fun _ => False) B N μ ⟨env0 0 args, ins, nx, args.length⟩ ⟨xs.toArray, []⟩ B.w →
    Calls P f xs.toArray B.w (fun e w' => (∃ x r outs nx' μ', e = .returned x ∧ R r outs ∧ nx ≤ nx' ∧ RelM (fun _ => False) B N μ' ⟨[(0, r)], outs, nx', 1⟩ ⟨#[x], []⟩ w') ∨ (∃ ch, e = .panicked ch ∧ E ch ∧ B.Below w'))

theorem ACS.mono {P : Program} {f : FuncId} {args : List V} {ins : List (Nat × Ob)} {R R' : V → List (Nat × Ob) → Prop} {E E' : List PanicEntry → Prop} (h : ACS P f args ins R E) (hR : ∀ r o, R r o → R' r o) (hE : ∀ c, E c → E' c) : ACS P f args ins R' E' :=
  fun B N μ nx xs h1 h2 h3 => (h B N μ nx xs h1 h2 h3).mono fun _ _ hh => hh.imp (fun ⟨x, r, outs, nx', μ', a, b, c⟩ => ⟨x, r, outs, nx', μ', a, hR _ _ b, c⟩) (fun ⟨ch, a, b, c⟩ => ⟨ch, a, hE _ b, c⟩)

/-- What must hold where a body ends. -/
def EndsS (P : Program) (fn : Func) (R : V → List (Nat × Ob) → Prop) (E : List PanicEntry → Prop) (nx : Nat) : Exit → AS → Prop
  | .ret, S | .normal, S => nx ≤ S.nx ∧ ∃ r outs, aresT P S fn.results.toList = some r ∧ (∀ k o, get outs k = some o → get S.objs k = some o) ∧ R r outs
  | .panic ch, _ => E ch
  | _, _ => False

section
variable {P : Program} {w0 : Bs} {N0 : Nat → Prop} {Q : Exit → AS → Prop} {S : AS}

theorem aresT_run {D : Nat → Prop} {μ : Mu} {a : Act} {w : World} (h : RelM D w0 N0 μ S a w) {fn : Func} {r : V} (hv : aresT P S fn.results.toList = some r) : ∃ x, (results fn a.tmps).run P w = .ok x w ∧ Enc w (Own N0 μ S) μ x r := by
  have key : ∀ (l : List ResultVar) (vs : List V), aresR P S l = some vs → ∃ xs : List Value, (l.mapM (resSem a.tmps)).run P w = .ok xs w ∧
      xs.length = vs.length ∧ ∀ (i : Nat) x v, xs[i]? = some x → vs[i]? = some v → Enc w (Own N0 μ S) μ x v := by
    intro l
    induction l with
    | nil => intro vs hvs; simp only [aresR, Option.some.injEq] at hvs; subst hvs; exact ⟨[], rfl, rfl, by simp⟩
    | cons q l ih =>
      intro vs hvs
      simp only [aresR] at hvs
      split at hvs
      case h_2 => cases hvs
      rename_i v vs' h1 h2
      injection hvs with hvs
      subst hvs
      obtain ⟨x, hx, hex⟩ := aresult_run h h1
      obtain ⟨xs, hxs, hl, hh⟩ := ih vs' h2
      refine ⟨x :: xs, ?_, by simp [hl], fun i y v hy hv => ?_⟩
      · rw [List.mapM_cons, Sem.run_bind, hx, Result.andThen_ok, Sem.run_bind, hxs, Result.andThen_ok]
        rfl
      · rcases i with _ | i
        · simp at hy hv; subst hy; subst hv; exact hex
        · simp at hy hv; exact hh i y v hy hv
  unfold aresT at hv
  have hmap : ∀ xs : List Value, (fn.results.toList.mapM (resSem a.tmps)).run P w = .ok xs w →
      (results fn a.tmps).run P w = .ok (if h : xs.toArray.size = 1 then xs.toArray[0] else .tuple xs.toArray) w := by
    intro xs hxs
    rw [results_eq, Sem.run_bind, Array.mapM_eq_mapM_toList, Sem.run_map, hxs]
    rfl
  split at hv
  · rename_i v hvs
    injection hv with hv
    subst hv
    obtain ⟨xs, h1, h2, h3⟩ := key _ _ hvs
    match xs, h2 with
    | [x], _ => exact ⟨x, hmap [x] h1, h3 0 x _ rfl rfl⟩
  · rename_i vs hne hvs
    injection hv with hv
    subst hv
    obtain ⟨xs, h1, h2, h3⟩ := key _ _ hvs
    refine ⟨.tuple xs.toArray, ?_, .tup xs vs h2 h3⟩
    rw [hmap xs h1]
    have : ¬ xs.toArray.size = 1 := by
      intro h0
      have hl : vs.length = 1 := by simp at h0; omega
      match vs, hl with
      | [v], _ => exact hne v rfl
    rw [dif_neg this]
  · cases hv

/-- The frame in which a function begins. -/
theorem RelM.enter {μ : Mu} {args : List V} {objs : List (Nat × Ob)} {nx nt : Nat} {xs : List Value} {w : World} (hlen : xs.length = args.length) (hl : args.length ≤ nt) (hd : w0.df = [])
    (h : RelM (fun _ => False) w0 N0 μ ⟨env0 0 args, objs, nx, args.length⟩ ⟨xs.toArray, []⟩ w) :
    RelM (fun _ => False) w0 N0 μ ⟨env0 0 args, objs, nx, nt⟩ { tmps := xs.toArray ++ Array.replicate (nt - xs.toArray.size) undef, defers := [] } w := by
  refine ⟨hd.symm, ?_, h.below, h.n0, h.fresh, h.objs, h.inj, fun t v hv => ?_⟩
  · simp only [Array.size_append, List.size_toArray, Array.size_replicate]; omega
  · obtain ⟨h1, h2⟩ := h.env t v hv
    refine ⟨by simp only at h1 ⊢; omega, ?_⟩
    have hget : (xs.toArray ++ Array.replicate (nt - xs.toArray.size) undef).getD t undef = xs.toArray.getD t undef := by
      simp only at h1
      simp only [Array.getD_eq_getD_getElem?]
      rw [Array.getElem?_append_left (by simp; omega)]
    rw [hget]
    exact h2

/-- The value and the objects that a function hands back. -/
theorem RelM.leave {μ : Mu} {a : Act} {w : World} (h : RelM (fun _ => False) w0 N0 μ S a w) (hd : w0.df = []) {x : Value} {r : V} {outs : List (Nat × Ob)} (hx : Enc w (Own N0 μ S) μ x r) (ho : ∀ k o, get outs k = some o → get S.objs k = some o) :
    RelM (fun _ => False) w0 N0 μ ⟨[(0, r)], outs, S.nx, 1⟩ ⟨#[x], []⟩ w := by
  have hsub : ∀ b, b < w.heap.size → Own N0 μ ⟨[(0, r)], outs, S.nx, 1⟩ b → Own N0 μ S b := by
    rintro b _ (h0 | ⟨d, o, c, h1, h2⟩)
    · exact .inl h0
    · exact .inr ⟨d, o, c, ho d o h1, h2⟩
  have hk := Keeps.refl w (Own N0 μ S)
  refine ⟨hd.symm, rfl, h.below, h.n0, h.fresh, fun d o hd => ?_, fun d o d' o' g c c' h1 h2 => h.inj d o d' o' g c c' (ho _ _ h1) (ho _ _ h2), fun t v hv => ?_⟩
  · obtain ⟨l, hl, hob⟩ := h.objs d o (ho _ _ hd)
    exact ⟨l, hl, hob.keep hk hsub (fun _ _ _ hh => hh) (fun _ _ _ => rfl)⟩
  · simp only [get_cons, get] at hv
    split at hv
    · rename_i e
      subst e
      injection hv with hv
      subst hv
      exact ⟨Nat.one_pos, by simpa using hx.keep hk hsub (fun _ _ _ hh => hh)⟩
    · cases hv

/-- A contract from the body. -/
theorem acs_intro {f : FuncId} {fn : Func} {c : Code} {args : List V} {ins : List (Nat × Ob)} {R : V → List (Nat × Ob) → Prop} {E : List PanicEntry → Prop} (hf : P.funcs[f]? = some fn) (hb : fn.body = some c) (hl : args.length ≤ fn.ntmps)
    (h : ∀ w0 N0 nx, AW P w0 N0 c (EndsS P fn R E nx) ⟨env0 0 args, ins, nx, fn.ntmps⟩) : ACS P f args ins R E := by
  intro B N μ nx xs hlen hd hr
  refine calls_of_wp hf hb (wp_mono (h B N nx _ B.w ⟨μ, hr.enter hlen hl hd⟩) ?_)
  rintro e a' w' ⟨S', hE, ⟨μ', hr'⟩⟩
  have hdf : a'.defers = [] := by rw [hr'.defers, hd]
  have key : nx ≤ S'.nx ∧ (∃ r outs, aresT P S' fn.results.toList = some r ∧ (∀ k o, get outs k = some o → get S'.objs k = some o) ∧ R r outs) → ∃ v, (results fn a'.tmps).run P w' = .ok v w' ∧
      ((∃ x r outs nx' μ', Ending.returned v = .returned x ∧ R r outs ∧ nx ≤ nx' ∧ RelM (fun _ => False) B N μ' ⟨[(0, r)], outs, nx', 1⟩ ⟨#[x], []⟩ w') ∨ (∃ ch, Ending.returned v = .panicked ch ∧ E ch ∧ B.Below w')) := by
    rintro ⟨hnx, r, outs, h1, h2, h3⟩
    obtain ⟨x, hx, hex⟩ := aresT_run hr' h1
    exact ⟨x, hx, .inl ⟨x, r, outs, S'.nx, μ', rfl, h3, hnx, hr'.leave hd hex h2⟩⟩
  cases e with
  | ret => exact ⟨hdf, key hE⟩
  | normal => exact ⟨hdf, key hE⟩
  | panic ch => exact ⟨hdf, .inr ⟨ch, rfl, hE, hr'.below⟩⟩
  | exit id => exact hE.elim
  | goto l => exact hE.elim
  | outgrown => exact hE.elim

theorem get_app {α : Type} (r : List (Nat × α)) (t : Nat) : ∀ (l : List (Nat × α)), get (l ++ r) t = match get l t with | some x => some x | none => get r t
  | [] => rfl
  | (k, x) :: l => by
    simp only [List.cons_append, get_cons]
    split
    · rfl
    · exact get_app r t l

/-- Objects of the call's own: their blocks. -/
def OwnB (μ : Mu) (objs : List (Nat × Ob)) (b : Nat) : Prop := ∃ d o cap, get objs d = some o ∧ μ d o.v = some (some (b, cap))

/-- The frame of a callee that is handed the objects ins. -/
theorem RelM.hand {D : Nat → Prop} {μ : Mu} {a : Act} {w : World} (h : RelM D w0 N0 μ S a w) {nx : Nat} (hnx : ∀ d v, μ d v ≠ none → v < nx) {vs : List V} {xs : List Value} {ins : List (Nat × Ob)} (hlen : xs.length = vs.length)
    (hins : ∀ k o, get ins k = some o → get S.objs k = some o) (hx : ∀ (i : Nat) x v, xs[i]? = some x → vs[i]? = some v → Enc w (Own N0 μ S) μ x v) :
    RelM (fun _ => False) ⟨w, OwnB μ ins, μ, []⟩ (fun b => Own N0 μ S b ∧ ¬ OwnB μ ins b) μ ⟨env0 0 vs, ins, nx, vs.length⟩ ⟨xs.toArray, []⟩ w := by
  have hk := Keeps.refl w (Own N0 μ S)
  have hsub : ∀ b, b < w.heap.size → Own (fun b => Own N0 μ S b ∧ ¬ OwnB μ ins b) μ ⟨env0 0 vs, ins, nx, vs.length⟩ b → Own N0 μ S b := by
    rintro b _ (h0 | ⟨d, o, c, h1, h2⟩)
    · exact h0.1
    · exact .inr ⟨d, o, c, hins _ _ h1, h2⟩
  refine ⟨rfl, by simp [hlen], Bs.Below.refl _, ⟨fun b hb => ⟨?_, hb.2⟩, fun _ _ _ hh => hh⟩, fun d v hv => .inl (hnx d v hv), fun d o hd => ?_, fun d o d' o' g c c' h1 h2 => h.inj d o d' o' g c c' (hins _ _ h1) (hins _ _ h2), fun t v hv => ?_⟩
  · exact h.own_lt b hb.1
  · obtain ⟨l, hl, hob⟩ := h.objs d o (hins d o hd)
    refine ⟨l, hl, ?_⟩
    have := hob.keep hk hsub (fun _ _ _ hh => hh) (fun _ _ _ => rfl)
    cases l with
    | none => exact this
    | some gc => exact ⟨.inr ⟨d, o, gc.2, hd, hl⟩, this.2⟩
  · obtain ⟨_, h2⟩ := get_env0 hv
    simp only [Nat.sub_zero] at h2
    have ht : t < vs.length := (List.getElem?_eq_some_iff.1 h2).1
    refine ⟨ht, ?_⟩
    have hxt : xs[t]? = some xs[t] := List.getElem?_eq_getElem (by omega)
    have : xs.toArray.getD t undef = xs[t] := by simp [hxt]
    rw [this]
    exact (hx t xs[t] v hxt h2).keep hk hsub (fun _ _ _ hh => hh)

/-- The caller's state behind a call that was handed the objects ins and left outs. -/
theorem RelM.back {D : Nat → Prop} {μ μ' : Mu} {a : Act} {w w' : World} (h : RelM D w0 N0 μ S a w) {ins outs : List (Nat × Ob)} {nx' : Nat} {r : V} {x : Value} (hins : ∀ k o, get ins k = some o → get S.objs k = some o)
    (hcov : ∀ k, get outs k = none → get ins k = none)
    (hr : RelM (fun _ => False) ⟨w, OwnB μ ins, μ, []⟩ (fun b => Own N0 μ S b ∧ ¬ OwnB μ ins b) μ' ⟨[(0, r)], outs, nx', 1⟩ ⟨#[x], []⟩ w') :
    RelM (fun _ => False) w0 N0 μ' { S with objs := outs ++ S.objs, nx := nx' } a w' ∧ Enc w' (Own N0 μ' { S with objs := outs ++ S.objs, nx := nx' }) μ' x r := by
  have hμ : ∀ d v l, μ d v = some l → μ' d v = some l := hr.n0.2
  have happ : ∀ d o, get (outs ++ S.objs) d = some o → get outs d = some o ∨ (get outs d = none ∧ get S.objs d = some o) := by
    intro d o hd
    rw [get_app] at hd
    cases ho : get outs d with
    | none => rw [ho] at hd; exact .inr ⟨rfl, hd⟩
    | some q => rw [ho] at hd; exact .inl hd
  -- an object that was not handed over has a block of its own
  have hrest : ∀ d o g c, get S.objs d = some o → get ins d = none → μ d o.v = some (some (g, c)) → ¬ OwnB μ ins g := by
    rintro d o g c h1 h2 h3 ⟨d', o', c', h4, h5⟩
    have := h.inj d o d' o' g c c' h1 (hins _ _ h4) h3 h5
    subst this
    rw [h2] at h4
    cases h4
  have hkeep : Keeps w (Own N0 μ S) w' := ⟨hr.below.size, fun b hb hn => hr.below.block b hb (fun ⟨d, o, c, h1, h2⟩ => hn (.inr ⟨d, o, c, hins _ _ h1, h2⟩))⟩
  have hfreeB : ∀ g, (⟨w, OwnB μ ins, μ, []⟩ : Bs).free g → w0.free g := by
    rintro g (hg | ⟨d, o, c, h1, h2⟩)
    · exact .inl (Nat.le_trans h.below.size hg)
    · obtain ⟨l, hl, hob⟩ := h.objs d o (hins _ _ h1)
      rw [h2] at hl
      injection hl with hl
      subst hl
      exact hob.1
  have houtfree : ∀ d o g c, get outs d = some o → μ' d o.v = some (some (g, c)) → (⟨w, OwnB μ ins, μ, []⟩ : Bs).free g := by
    intro d o g c h1 h2
    obtain ⟨l, hl, hob⟩ := hr.objs d o h1
    rw [h2] at hl
    injection hl with hl
    subst hl
    exact hob.1
  have hsame : ∀ d o, get S.objs d = some o → ∀ l, μ' d o.v = some l → μ d o.v = some l := by
    intro d o h1 l h2
    obtain ⟨l', hl', _⟩ := h.objs d o h1
    have := hμ _ _ _ hl'
    rw [h2] at this
    injection this with this
    rw [hl', this]
  have hsub : ∀ b, b < w.heap.size → Own N0 μ' { S with objs := outs ++ S.objs, nx := nx' } b → Own N0 μ S b := by
    rintro b hb (h0 | ⟨d, o, c, h1, h2⟩)
    · exact .inl h0
    · rcases happ d o h1 with h3 | ⟨_, h4⟩
      · rcases houtfree d o b c h3 h2 with h5 | ⟨d', o', c', h6, h7⟩
        · exact absurd hb (Nat.not_lt.2 h5)
        · exact .inr ⟨d', o', c', hins _ _ h6, h7⟩
      · exact .inr ⟨d, o, c, h4, hsame d o h4 _ h2⟩
  have hsub' : ∀ b, b < w'.heap.size → Own N0 μ' { S with objs := outs ++ S.objs, nx := nx' } b → Own (fun b => Own N0 μ S b ∧ ¬ OwnB μ ins b) μ' ⟨[(0, r)], outs, nx', 1⟩ b := by
    rintro b hb (h0 | ⟨d, o, c, h1, h2⟩)
    · by_cases hB : OwnB μ ins b
      · obtain ⟨d, o, c, h1, h2⟩ := hB
        obtain ⟨l, hl, hob⟩ := h.objs d o (hins _ _ h1)
        rw [h2] at hl
        injection hl with hl
        subst hl
        exact absurd hob.1 (fun hf => hf.elim (fun h => by have := (‹RelM D w0 N0 μ S a w›.n0.1 b h0).1; omega) (‹RelM D w0 N0 μ S a w›.n0.1 b h0).2)
      · exact .inl ⟨.inl h0, hB⟩
    · rcases happ d o h1 with h3 | ⟨h3, h4⟩
      · exact .inr ⟨d, o, c, h3, h2⟩
      · have h5 := hsame d o h4 _ h2
        exact .inl ⟨.inr ⟨d, o, c, h4, h5⟩, hrest d o b c h4 (hcov d h3) h5⟩
  refine ⟨⟨h.defers, h.size, ?_, ⟨h.n0.1, fun d v l hl => hμ _ _ _ (h.n0.2 d v l hl)⟩, fun d v hv => ?_, fun d o hd => ?_, fun d o d' o' g c c' h1 h2 h3 h4 => ?_, fun t v hv => ⟨(h.env t v hv).1, (h.env t v hv).2.keep hkeep hsub hμ⟩⟩, ?_⟩
  · refine ⟨hr.below.os.trans h.below.os, hr.below.tape.trans h.below.tape, hr.below.output.trans h.below.output, Nat.le_trans h.below.size hr.below.size, fun k hk hX => ?_⟩
    refine (hr.below.block k (Nat.lt_of_lt_of_le hk h.below.size) (fun hB => ?_)).trans (h.below.block k hk hX)
    rcases hfreeB k (.inr hB) with h1 | h1
    · omega
    · exact hX h1
  · rcases hr.fresh d v hv with h1 | ⟨j, hj, _⟩
    · exact .inl h1
    · exact hj.elim
  · rcases happ d o hd with h1 | ⟨h1, h2⟩
    · obtain ⟨l, hl, hob⟩ := hr.objs d o h1
      refine ⟨l, hl, ?_⟩
      have := hob.keep (Keeps.refl w' _) hsub' (fun _ _ _ hh => hh) (fun _ _ _ => rfl)
      cases l with
      | none => exact this
      | some gc => exact ⟨hfreeB _ this.1, this.2⟩
    · obtain ⟨l, hl, hob⟩ := h.objs d o h2
      refine ⟨l, hμ _ _ _ hl, hob.keep hkeep hsub hμ (fun g c e => ?_)⟩
      subst e
      exact hr.below.block g (h.block_lt h2 hl) (hrest d o g c h2 (hcov d h1) hl)
  · have mixed : ∀ d o d' o' g c c', get outs d = some o → μ' d o.v = some (some (g, c)) → get outs d' = none → get S.objs d' = some o' → μ' d' o'.v = some (some (g, c')) → False := by
      intro d o d' o' g c c' h1 h2 h3 h4 h5
      have h6 := hsame d' o' h4 _ h5
      rcases houtfree d o g c h1 h2 with h7 | h7
      · exact absurd (h.block_lt h4 h6) (Nat.not_lt.2 h7)
      · exact hrest d' o' g c' h4 (hcov d' h3) h6 h7
    rcases happ d o h1 with a1 | ⟨a1, a2⟩ <;> rcases happ d' o' h2 with b1 | ⟨b1, b2⟩
    · exact hr.inj d o d' o' g c c' a1 b1 h3 h4
    · exact (mixed d o d' o' g c c' a1 h3 b1 b2 h4).elim
    · exact (mixed d' o' d o g c' c b1 h4 a1 a2 h3).elim
    · exact h.inj d o d' o' g c c' a2 b2 (hsame d o a2 _ h3) (hsame d' o' b2 _ h4)
  · have := (hr.env 0 r (by simp [get])).2
    simp only [Array.getD_eq_getD_getElem?] at this
    exact Enc.keep (Keeps.refl w' _) hsub' (fun _ _ _ hh => hh) (by simpa using this)

/-- The caller's state behind a call that panicked: what was not handed over is as it was. -/
theorem RelM.lost {D : Nat → Prop} {μ : Mu} {a : Act} {w w' : World} (h : RelM D w0 N0 μ S a w) {nx : Nat} (hnx : ∀ d v, μ d v ≠ none → v < nx) {ins : List (Nat × Ob)} {objs : List (Nat × Ob)} (hins : ∀ k o, get ins k = some o → get S.objs k = some o)
    (hobj : ∀ k o, get objs k = some o → get S.objs k = some o ∧ get ins k = none) (hb : (⟨w, OwnB μ ins, μ, []⟩ : Bs).Below w') : RelM (fun _ => False) w0 N0 μ { S with objs := objs, nx := nx } a w' := by
  have hkeep : Keeps w (Own N0 μ S) w' := ⟨hb.size, fun b hb' hn => hb.block b hb' (fun ⟨d, o, c, h1, h2⟩ => hn (.inr ⟨d, o, c, hins _ _ h1, h2⟩))⟩
  have hsub : ∀ b, b < w.heap.size → Own N0 μ { S with objs := objs, nx := nx } b → Own N0 μ S b := by
    rintro b _ (h0 | ⟨d, o, c, h1, h2⟩)
    · exact .inl h0
    · exact .inr ⟨d, o, c, (hobj _ _ h1).1, h2⟩
  have hrest : ∀ d o g c, get S.objs d = some o → get ins d = none → μ d o.v = some (some (g, c)) → ¬ OwnB μ ins g := by
    rintro d o g c h1 h2 h3 ⟨d', o', c', h4, h5⟩
    have := h.inj d o d' o' g c c' h1 (hins _ _ h4) h3 h5
    subst this
    rw [h2] at h4
    cases h4
  refine ⟨h.defers, h.size, ?_, h.n0, fun d v hv => .inl (hnx d v hv), fun d o hd => ?_, fun d o d' o' g c c' h1 h2 => h.inj d o d' o' g c c' (hobj _ _ h1).1 (hobj _ _ h2).1, fun t v hv => ⟨(h.env t v hv).1, (h.env t v hv).2.keep hkeep hsub (fun _ _ _ hh => hh)⟩⟩
  · refine ⟨hb.os.trans h.below.os, hb.tape.trans h.below.tape, hb.output.trans h.below.output, Nat.le_trans h.below.size hb.size, fun k hk hX => ?_⟩
    refine (hb.block k (Nat.lt_of_lt_of_le hk h.below.size) (fun ⟨d, o, c, h1, h2⟩ => ?_)).trans (h.below.block k hk hX)
    obtain ⟨l, hl, hob⟩ := h.objs d o (hins _ _ h1)
    rw [h2] at hl
    injection hl with hl
    subst hl
    rcases hob.1 with h3 | h3
    · omega
    · exact hX h3
  · obtain ⟨h1, h2⟩ := hobj d o hd
    obtain ⟨l, hl, hob⟩ := h.objs d o h1
    refine ⟨l, hl, hob.keep hkeep hsub (fun _ _ _ hh => hh) (fun g c e => ?_)⟩
    subst e
    exact hb.block g (h.block_lt h1 hl) (hrest d o g c h1 h2 hl)

theorem RelM.fresh_lt {D : Nat → Prop} {μ : Mu} {a : Act} {w : World} (h : RelM D w0 N0 μ S a w) {i : Nat} (hD : ∀ j, D j → j < i) : ∀ d v, μ d v ≠ none → v < S.nx + i + 1 := by
  intro d v hv
  rcases h.fresh d v hv with h1 | ⟨j, hj, e⟩
  · omega
  · have := hD j hj
    omega

theorem fn_eval {D : Nat → Prop} {μ : Mu} {a : Act} {w : World} (h : RelM D w0 N0 μ S a w) {f : Operand} {fid : FuncId} (hf : S.evc true f = some (.fn fid)) : a.eval f = .func (.func fid) #[] #[] := by
  have hfv := h.evc hf rfl
  generalize a.eval f = y at hfv
  cases hfv with
  | pur hfv => cases hfv with
    | fn => rfl

/-- Drops what is named. -/
def dropK {α : Type} (L : List Nat) : List (Nat × α) → List (Nat × α)
  | [] => []
  | (k, x) :: r => if L.contains k then dropK L r else (k, x) :: dropK L r
theorem get_dropK {α : Type} {L : List Nat} : ∀ {l : List (Nat × α)} {k : Nat} {x : α}, get (dropK L l) k = some x → get l k = some x ∧ k ∉ L
  | [], k, x, h => by simp [dropK, get] at h
  | (q, y) :: r, k, x, h => by
    simp only [dropK] at h
    split at h
    · rename_i hq
      obtain ⟨h1, h2⟩ := get_dropK h
      refine ⟨?_, h2⟩
      rw [get_cons, if_neg (fun e => h2 (by rw [← e]; simpa using hq))]
      exact h1
    · rename_i hq
      rw [get_cons] at h ⊢
      split
      · rename_i e
        rw [if_pos e] at h
        exact ⟨h, by rw [← e]; simpa using hq⟩
      · rename_i e
        rw [if_neg e] at h
        exact get_dropK h

theorem get_mem {α : Type} : ∀ {l : List (Nat × α)} {k : Nat} {x : α}, get l k = some x → k ∈ l.map (·.1)
  | [], k, x, h => by simp [get] at h
  | (q, y) :: r, k, x, h => by
    rw [get_cons] at h
    split at h
    · rename_i e; simp [e]
    · exact List.mem_cons_of_mem _ (get_mem h)

theorem call_run {o : Oper} {a : Act} {w : World} {f : Operand} {fid : FuncId} {fn : Func} {args : Array Operand} {ats : Array TypeId} (ho : o.op = .call { callee := .value f, args := args, argTypes := ats }) (hf : a.eval f = .func (.func fid) #[] #[])
    (hfn : P.funcs[fid]? = some fn) (hb : fn.body.isSome = true) (hn : (fn.name == "runtime.NumGoroutine") = false) {K : Act → World → Prop} {Q' : Exit → Act → World → Prop} {R : Ending → World → Prop}
    (hc : Calls P fid (args.toList.map a.eval).toArray w R) (h1 : ∀ x w', R (.returned x) w' → K (a.put o.dst x) w') (h2 : ∀ ch w', R (.panicked ch) w' → Q' (.panic ch) a w') (h3 : ∀ w', ¬ R .outgrown w') : o.wp P a w K Q' := by
  unfold Oper.wp
  rw [run_call_fn ho hf hfn hb hn]
  have harr : (args.toList.map a.eval).toArray = args.map a.eval := by apply Array.ext'; simp
  rw [harr] at hc
  refine hc.mono ?_
  intro e w' hR
  cases e with
  | returned x => exact h1 x w' hR
  | panicked ch => exact h2 ch w' hR
  | outgrown => exact (h3 w' hR).elim

/-- A call that is handed objects of the call's own. -/
theorem awl_callS {ops : List Oper} {i : Nat} {o : Oper} {rest : List Oper} {f : Operand} {fid : FuncId} {fn : Func} {args : Array Operand} {ats : Array TypeId} {vs : List V} {ins : List (Nat × Ob)} {R : V → List (Nat × Ob) → Prop} {E : List PanicEntry → Prop}
    (hc : ACS P fid vs ins R E) (hfn : P.funcs[fid]? = some fn) (hb : fn.body.isSome = true) (hn : (fn.name == "runtime.NumGoroutine") = false)
    (hg : S.gv ops o = some true) (ho : o.op = .call { callee := .value f, args := args, argTypes := ats }) (hf : S.evc true f = some (.fn fid))
    (ha : S.args true args.toList = some vs) (hins : ∀ k q, get ins k = some q → get S.objs k = some q)
    (h : ∀ r outs nx, R r outs → S.nx + i + 1 ≤ nx → (∀ k, get outs k = none → get ins k = none) ∧ ∃ S', ({ S with objs := outs ++ S.objs, nx := nx } : AS).putv o.dst (wrapG o true r) = some S' ∧ AWL P w0 N0 ops Q (i + 1) rest S')
    (hE : ∀ ch, E ch → Q (.panic ch) { S with objs := dropK (ins.map (·.1)) S.objs, nx := S.nx + i + 1 }) : AWL P w0 N0 ops Q i (o :: rest) S := by
  rintro D a w hD ⟨μ, hr⟩
  refine wpList_step fun K hK => ?_
  rw [wanted_of hr hg, if_pos rfl]
  have hfresh := hr.fresh_lt hD
  obtain ⟨h1, h2⟩ := args_spec hr rfl ha
  have hhand := hr.hand (nx := S.nx + i + 1) hfresh (vs := vs) (xs := args.toList.map a.eval) (ins := ins) (by simp [h1]) hins (fun j x v hx hv => by
    simp only [List.getElem?_map, Option.map_eq_some_iff] at hx
    obtain ⟨y, hy, rfl⟩ := hx
    exact h2 j y v hy hv)
  have hcall := hc ⟨w, OwnB μ ins, μ, []⟩ _ μ (S.nx + i + 1) (args.toList.map a.eval) (by simp [h1]) rfl hhand
  refine call_run ho (fn_eval hr hf) hfn hb hn hcall ?_ ?_ ?_
  · rintro x w' (⟨x', r, outs, nx', μ', he, hR, hnx, hrel⟩ | ⟨ch, he, _⟩)
    · injection he with he
      subst he
      obtain ⟨hcov, S', hs, hrest⟩ := h r outs nx' hR hnx
      obtain ⟨hb1, hb2⟩ := hr.back hins hcov hrel
      refine hK _ _ (hrest (fun _ => False) _ w' (fun j hj => hj.elim) ⟨μ', hb1.putv hs ?_⟩)
      unfold wrapG
      split
      · exact hb2
      · exact .whn _ _ _ (fun _ => hb2) (fun hf => by cases hf)
    · cases he
  · rintro ch w' (⟨x', r, outs, nx', μ', he, _⟩ | ⟨ch', he, hEc, hbw⟩)
    · cases he
    · injection he with he
      subst he
      refine ⟨_, hE ch hEc, μ, hr.lost hfresh hins (fun k q hq => ?_) hbw⟩
      obtain ⟨h3, h4⟩ := get_dropK hq
      refine ⟨h3, ?_⟩
      cases hk : get ins k with
      | none => rfl
      | some q' => exact absurd (get_mem hk) h4
  · rintro w' (⟨x', r, outs, nx', μ', he, _⟩ | ⟨ch', he, _⟩) <;> cases he
end
end Go.Eng

namespace Go.Eng
open Go.RowKit

/-- The objects outs are those of ins with other elements, which hold no reference to objects. -/
def storeOnly (ins outs : List (Nat × Ob)) : Bool :=
  (outs.all fun p => match get ins p.1 with | some q => q.v == p.2.v && q.sz == p.2.sz && q.ty == p.2.ty && p.2.es.all V.pureE | none => false) && (ins.all fun p => (get outs p.1).isSome)
attribute [simp] storeOnly

theorem get_in {α : Type} : ∀ {l : List (Nat × α)} {k : Nat} {x : α}, get l k = some x → (k, x) ∈ l
  | [], k, x, h => by simp [get] at h
  | (q, y) :: r, k, x, h => by
    rw [get_cons] at h
    split at h
    · rename_i e; injection h with h; subst e; subst h; simp
    · exact List.mem_cons_of_mem _ (get_in h)

theorem storeOnly_spec {ins outs : List (Nat × Ob)} (h : storeOnly ins outs = true) : (∀ k o, get outs k = some o → ∃ q, get ins k = some q ∧ q.v = o.v ∧ o.es.all V.pureE = true) ∧ ∀ k, get outs k = none → get ins k = none := by
  simp only [storeOnly, Bool.and_eq_true] at h
  refine ⟨fun k o ho => ?_, fun k hk => ?_⟩
  · have := List.all_eq_true.1 h.1 (k, o) (get_in ho)
    simp only at this
    split at this
    · rename_i q hq
      simp only [Bool.and_eq_true, beq_iff_eq] at this
      exact ⟨q, hq, this.1.1.1, this.2⟩
    · cases this
  · cases hq : get ins k with
    | none => rfl
    | some q =>
      have := List.all_eq_true.1 h.2 (k, q) (get_in hq)
      simp only [hk] at this
      cases this

section
variable {P : Program} {kb : Nat} {w0 : Bs} {N0 : Nat → Prop} {Q : Exit → AS → Prop} {S S' : AS}

/-- The caller's state behind a call that only wrote into the objects handed over: names stay. -/
theorem RelM.back0 {D : Nat → Prop} {μ μ' : Mu} {a : Act} {w w' : World} (h : RelM D w0 N0 μ S a w) {ins outs : List (Nat × Ob)} {nx' : Nat} {r : V} {x : Value} (hins : ∀ k o, get ins k = some o → get S.objs k = some o)
    (hso : storeOnly ins outs = true) (hp : r.pureV = true)
    (hr : RelM (fun _ => False) ⟨w, OwnB μ ins, μ, []⟩ (fun b => Own N0 μ S b ∧ ¬ OwnB μ ins b) μ' ⟨[(0, r)], outs, nx', 1⟩ ⟨#[x], []⟩ w') :
    RelM D w0 N0 μ { S with objs := outs ++ S.objs } a w' ∧ Pur w' (Own N0 μ { S with objs := outs ++ S.objs }) x r := by
  obtain ⟨hso1, hcov⟩ := storeOnly_spec hso
  obtain ⟨hb1, hb2⟩ := h.back hins hcov hr
  have hμ : ∀ d v l, μ d v = some l → μ' d v = some l := hr.n0.2
  have happ : ∀ d o, get (outs ++ S.objs) d = some o → get outs d = some o ∨ (get outs d = none ∧ get S.objs d = some o) := by
    intro d o hd
    rw [get_app] at hd
    cases ho : get outs d with
    | none => rw [ho] at hd; exact .inr ⟨rfl, hd⟩
    | some q => rw [ho] at hd; exact .inl hd
  -- every object's name is an old one
  have hold : ∀ d o, get (outs ++ S.objs) d = some o → ∃ l, μ d o.v = some l := by
    intro d o hd
    rcases happ d o hd with h1 | ⟨_, h1⟩
    · obtain ⟨q, h2, h3, _⟩ := hso1 d o h1
      obtain ⟨l, hl, _⟩ := h.objs d q (hins _ _ h2)
      exact ⟨l, by rw [← h3]; exact hl⟩
    · obtain ⟨l, hl, _⟩ := h.objs d o h1
      exact ⟨l, hl⟩
  have hsame : ∀ d o, get (outs ++ S.objs) d = some o → μ' d o.v = μ d o.v := by
    intro d o hd
    obtain ⟨l, hl⟩ := hold d o hd
    rw [hl, hμ _ _ _ hl]
  have hown : Own N0 μ' { S with objs := outs ++ S.objs, nx := nx' } = Own N0 μ { S with objs := outs ++ S.objs } := by
    funext b
    unfold Own
    refine propext ⟨?_, ?_⟩
    · rintro (h0 | ⟨d, o, c, h1, h2⟩)
      · exact .inl h0
      · exact .inr ⟨d, o, c, h1, by rw [← hsame d o h1]; exact h2⟩
    · rintro (h0 | ⟨d, o, c, h1, h2⟩)
      · exact .inl h0
      · exact .inr ⟨d, o, c, h1, by rw [hsame d o h1]; exact h2⟩
  have hkeep : Keeps w (Own N0 μ S) w' := ⟨hr.below.size, fun b hb hn => hr.below.block b hb (fun ⟨d, o, c, h1, h2⟩ => hn (.inr ⟨d, o, c, hins _ _ h1, h2⟩))⟩
  have hsub : ∀ b, b < w.heap.size → Own N0 μ { S with objs := outs ++ S.objs } b → Own N0 μ S b := by
    rintro b hb (h0 | ⟨d, o, c, h1, h2⟩)
    · exact .inl h0
    · rcases happ d o h1 with h3 | ⟨_, h4⟩
      · obtain ⟨q, h5, h6, _⟩ := hso1 d o h3
        exact .inr ⟨d, q, c, hins _ _ h5, by rw [h6]; exact h2⟩
      · exact .inr ⟨d, o, c, h4, h2⟩
  refine ⟨⟨h.defers, h.size, hb1.below, h.n0, h.fresh, fun d o hd => ?_, fun d o d' o' g c c' h1 h2 h3 h4 => hb1.inj d o d' o' g c c' h1 h2 (by rw [hsame d o h1]; exact h3) (by rw [hsame d' o' h2]; exact h4), fun t v hv => ⟨(h.env t v hv).1, (h.env t v hv).2.keep hkeep hsub (fun _ _ _ hh => hh)⟩⟩, ?_⟩
  · rcases happ d o hd with h1 | ⟨h1, h2⟩
    · obtain ⟨l, hl, hob⟩ := hb1.objs d o hd
      rw [hsame d o hd] at hl
      refine ⟨l, hl, ?_⟩
      obtain ⟨_, _, _, hpe⟩ := hso1 d o h1
      cases l with
      | none => exact hob
      | some gc =>
        obtain ⟨o1, o2, o3, o4, arr, o5, o6, o7⟩ := hob
        refine ⟨o1, o2, o3, o4, arr, o5, o6, fun k e j c he hj => ?_⟩
        obtain ⟨y, hy, hey⟩ := o7 k e j c he hj
        refine ⟨y, hy, .pur ?_⟩
        rw [← hown]
        exact hey.pureC (List.all_eq_true.1 (List.all_eq_true.1 hpe e (List.mem_of_getElem? he)) c (List.mem_of_getElem? hj))
    · obtain ⟨l, hl, hob⟩ := h.objs d o h2
      refine ⟨l, hl, hob.keep hkeep hsub (fun _ _ _ hh => hh) (fun g c e => ?_)⟩
      subst e
      refine hr.below.block g (h.block_lt h2 hl) ?_
      rintro ⟨d', q, c', h4, h5⟩
      have := h.inj d o d' q g c c' h2 (hins _ _ h4) hl h5
      subst this
      rw [hcov d h1] at h4
      cases h4
  · rw [← hown]
    exact hb2.pureV hp

/-- A call that writes into objects of the call's own. -/
theorem sx_callS {X : List Nat} {ops : List Oper} {i : Nat} {o : Oper} {f : Operand} {fid : FuncId} {fn : Func} {args : Array Operand} {ats : Array TypeId} {vs : List V} {ins outs : List (Nat × Ob)} {res : V}
    (hX : i ∈ X) (hc : ACS P fid vs ins (fun r q => r = res ∧ q = outs) (fun _ => False)) (hso : storeOnly ins outs = true) (hp : res.pureV = true) (hfn : P.funcs[fid]? = some fn) (hb : fn.body.isSome = true) (hn : (fn.name == "runtime.NumGoroutine") = false)
    (hg : S.gv ops o = some true) (ho : o.op = .call { callee := .value f, args := args, argTypes := ats }) (hf : S.evc true f = some (.fn fid))
    (ha : S.args true args.toList = some vs) (hins : ∀ k q, get ins k = some q → get S.objs k = some q) (hs : ({ S with objs := outs ++ S.objs } : AS).putv o.dst (wrapG o true res) = some S') : StepX P kb w0 X ops i o S S' := by
  obtain ⟨hs1, hs2⟩ := putv_ap hs
  refine .inr (.inr ⟨hX, wrapG o true res, outs, by rw [hs1]; rfl, fun T hT hob N0 D a w hr hi hDb K Q' hK => ?_⟩)
  replace hg : T.gv ops o = some true := by rw [← hT.gv]; exact hg
  replace hf : T.evc true f = some (.fn fid) := by rw [← hT.evc (by rw [ho]; simp [Op.operands, Call.operands])]; exact hf
  replace ha : T.args true args.toList = some vs := by rw [← args_congr (S := S) (T := T) (fun x hx => hT.evc (by rw [ho]; simp [Op.operands, Call.operands]; right; simpa using hx) true)]; exact ha
  replace hins : ∀ k q, get ins k = some q → get T.objs k = some q := fun k q hk => by rw [← hob]; exact hins k q hk
  obtain ⟨μ, hr⟩ := hr
  rw [wanted_of hr hg, if_pos rfl]
  obtain ⟨h1, h2⟩ := args_spec hr rfl ha
  have hfresh := hr.fresh_lt hDb
  have hhand := hr.hand (nx := T.nx + ops.length + 1) hfresh (vs := vs) (xs := args.toList.map a.eval) (ins := ins) (by simp [h1]) hins (fun j x v hx hv => by
    simp only [List.getElem?_map, Option.map_eq_some_iff] at hx
    obtain ⟨y, hy, rfl⟩ := hx
    exact h2 j y v hy hv)
  have hcall := hc ⟨w, OwnB μ ins, μ, []⟩ _ μ (T.nx + ops.length + 1) (args.toList.map a.eval) (by simp [h1]) rfl hhand
  refine call_run ho (fn_eval hr hf) hfn hb hn hcall ?_ ?_ ?_
  · rintro x w' (⟨x', r, outs', nx', μ', he, ⟨rfl, rfl⟩, hnx, hrel⟩ | ⟨ch, he, _⟩)
    · injection he with he
      subst he
      obtain ⟨hb1, hb2⟩ := hr.back0 hins hso hp hrel
      have hput := ap_putv (S := { T with objs := outs' ++ T.objs }) (dst := o.dst) (wrapG o true r) (fun d hd => by have := hs2 d hd; simp only at this ⊢; rw [← hT.2.1]; exact this)
      refine hK _ _ ⟨μ, (hb1.putv hput ?_).more (fun j hj => .inl hj)⟩
      unfold wrapG
      split
      · exact .pur hb2
      · exact .whn _ _ _ (fun _ => .pur hb2) (fun hf => by cases hf)
    · cases he
  · rintro ch w' (⟨x', r, outs', nx', μ', he, _⟩ | ⟨ch', _, hE, _⟩)
    · cases he
    · exact hE.elim
  · rintro w' (⟨x', r, outs', nx', μ', he, _⟩ | ⟨ch', he, _⟩) <;> cases he

/-- A call that panics. -/
theorem pan_callS {ops : List Oper} {i : Nat} {o : Oper} {f : Operand} {fid : FuncId} {fn : Func} {args : Array Operand} {ats : Array TypeId} {vs : List V} {ins : List (Nat × Ob)} {E : List PanicEntry → Prop}
    (hc : ACS P fid vs ins (fun _ _ => False) E) (hfn : P.funcs[fid]? = some fn) (hb : fn.body.isSome = true) (hn : (fn.name == "runtime.NumGoroutine") = false)
    (hg : S.gv ops o = some true) (ho : o.op = .call { callee := .value f, args := args, argTypes := ats }) (hf : S.evc true f = some (.fn fid))
    (ha : S.args true args.toList = some vs) (hins : ∀ k q, get ins k = some q → get S.objs k = some q) {objs : List (Nat × Ob)} (hobj : ∀ k q, get objs k = some q → get S.objs k = some q ∧ get ins k = none)
    (hE : ∀ ch, E ch → Q (.panic ch) ⟨[], objs, S.nx + ops.length + 1, S.nt⟩) : PanStep P w0 ops i o Q S := by
  intro T hT hob N0 D a w hr hi hDb
  replace hg : T.gv ops o = some true := by rw [← hT.gv]; exact hg
  replace hf : T.evc true f = some (.fn fid) := by rw [← hT.evc (by rw [ho]; simp [Op.operands, Call.operands])]; exact hf
  replace ha : T.args true args.toList = some vs := by rw [← args_congr (S := S) (T := T) (fun x hx => hT.evc (by rw [ho]; simp [Op.operands, Call.operands]; right; simpa using hx) true)]; exact ha
  replace hins : ∀ k q, get ins k = some q → get T.objs k = some q := fun k q hk => by rw [← hob]; exact hins k q hk
  replace hobj : ∀ k q, get objs k = some q → get T.objs k = some q ∧ get ins k = none := fun k q hk => by rw [← hob]; exact hobj k q hk
  obtain ⟨μ, hr⟩ := hr
  refine ⟨wanted_of hr hg, fun K => ?_⟩
  obtain ⟨h1, h2⟩ := args_spec hr rfl ha
  have hfresh := hr.fresh_lt hDb
  have hhand := hr.hand (nx := T.nx + ops.length + 1) hfresh (vs := vs) (xs := args.toList.map a.eval) (ins := ins) (by simp [h1]) hins (fun j x v hx hv => by
    simp only [List.getElem?_map, Option.map_eq_some_iff] at hx
    obtain ⟨y, hy, rfl⟩ := hx
    exact h2 j y v hy hv)
  have hcall := hc ⟨w, OwnB μ ins, μ, []⟩ _ μ (T.nx + ops.length + 1) (args.toList.map a.eval) (by simp [h1]) rfl hhand
  refine call_run ho (fn_eval hr hf) hfn hb hn hcall ?_ ?_ ?_
  · rintro x w' (⟨x', r, outs', nx', μ', he, hF, _⟩ | ⟨ch, he, _⟩)
    · exact hF.elim
    · cases he
  · rintro ch w' (⟨x', r, outs', nx', μ', he, _⟩ | ⟨ch', he, hEc, hbw⟩)
    · cases he
    · injection he with he
      subst he
      have hl := hr.lost hfresh hins hobj hbw
      refine ⟨_, hE ch hEc, μ, hl.defers, by rw [hT.2.1]; exact hl.size, hl.below, hl.n0, by rw [hT.2.2]; exact hl.fresh, hl.objs, hl.inj, fun t v hv => by simp [get] at hv⟩
  · rintro w' (⟨x', r, outs', nx', μ', he, _⟩ | ⟨ch', he, _⟩) <;> cases he

/-- The value of an interface that holds no memory. -/
def V.val1 : V → Option Value
  | .bool b => some (.bool b)
  | .int k n => some (.int k n)
  | .str l => some (.string ⟨l.toArray⟩)
  | _ => none
theorem Enc.val1 {w : World} {N : Nat → Prop} {μ : Mu} {x y : Value} {v : V} (h : Enc w N μ x v) (hv : v.val1 = some y) : x = y := by
  cases v <;> simp only [V.val1, Option.some.injEq] at hv <;> try (cases hv; done)
  all_goals
    subst hv
    cases h with
    | pur h => cases h; rfl
/-- panic(x). -/
theorem awl_panic {ops : List Oper} {i : Nat} {o : Oper} {rest : List Oper} {x : Operand} {t : TypeId} {v : V} {y : Value} (hg : S.gv ops o = some true) (ho : o.op = .panic x) (hx : S.evc true x = some (.ifc t v)) (hy : v.val1 = some y)
    (h : Q (.panic [{ v := .iface t y, recovered := false }]) { S with nx := S.nx + i + 1 }) : AWL P w0 N0 ops Q i (o :: rest) S := by
  rintro D a w hD ⟨μ, hr⟩
  refine wpList_step fun K hK => ?_
  rw [wanted_of hr hg, if_pos rfl]
  have hxe := hr.evc hx rfl
  have he : a.eval x = .iface t y := by
    generalize a.eval x = z at hxe
    cases hxe with
    | pur hxe => cases hxe with
      | ifc _ z' _ _ hz => rw [(Enc.pur (μ := μ) hz).val1 hy]
    | ifc _ z' _ _ hz => rw [hz.val1 hy]
  unfold Oper.wp
  have hrun : (execOp a.eval o).run P w = .halt (.panic (.iface t y)) w := by
    unfold execOp
    rw [ho]
    simp only [he, Instr.panic, goPanic, Sem.run_bind]
    rfl
  rw [hrun]
  refine ⟨_, h, μ, hr.defers, hr.size, hr.below, hr.n0, fun d v hv => .inl (hr.fresh_lt hD d v hv), hr.objs, hr.inj, hr.env⟩
end
end Go.Eng

namespace Go.Eng
open Go.RowKit

/-- What recover finds in a frame of the mode u, and the mode that it leaves. -/
def recv : FrameMode → Value × FrameMode
  | .panicking ({ v, recovered := false, goexit := false } :: older) => (v, .panicking ({ v, recovered := true } :: older))
  | u => (.nilIface, u)

/-- The contract of a deferred closure: run by a frame of the mode u, on captured values that read as args, with the objects ins, it leaves the objects outs, as R says, and the mode u'. -/
def ACD (P : Program) (f : FuncId) (args : List V) (ins : List (Nat × Ob)) (u u' : FrameMode) (R : List (Nat × Ob) → Prop) : Prop :=
  ∀ (B : Bs) (N : Nat → Prop) (μ : Mu) (nx : Nat) (xs : List Value), xs.length = args.length → B.df = [] →
    RelM (fun _ => False) B N μ ⟨env0 0 args, ins, nx, args.length⟩ ⟨xs.toArray, []⟩ B.w →
    CallsD P f xs.toArray u B.w (fun e q w' => ∃ x outs nx' μ', e = .returned x ∧ q = u' ∧ R outs ∧ nx ≤ nx' ∧ RelM (fun _ => False) B N μ' ⟨[], outs, nx', 0⟩ ⟨#[], []⟩ w')

/-- What must hold where such a closure ends. -/
def EndsD (R : List (Nat × Ob) → Prop) (nx : Nat) : Exit → AS → Prop
  | .ret, S | .normal, S => nx ≤ S.nx ∧ ∃ outs, (∀ k o, get outs k = some o → get S.objs k = some o) ∧ R outs
  | _, _ => False

section
variable {P : Program} {w0 : Bs} {N0 : Nat → Prop} {Q : Exit → AS → Prop} {S : AS}

theorem opsS_of_list {ops : Array Oper} {Q' : Exit → Act → World → Prop} {QS : Exit → Act → List Frame → World → Prop} {cs : List Frame} (hout : ∀ a w, ¬ Q' .outgrown a w) (hQ : ∀ e a w, Q' e a w → QS e a cs w) :
    ∀ (l : List Oper) (k : Nat) (a : Act) (w : World), (∀ j, l[j]? = ops[k + j]?) → wpList P ops Q' l a w → wpOpsS P ops QS (List.range' k l.length) a cs w
  | [], k, a, w, _, h => hQ _ _ _ h
  | o :: l, k, a, w, hk, h => by
    have h0 : ops[k]? = some o := by simpa using (hk 0).symm
    have ih := fun a w => opsS_of_list hout hQ l (k + 1) a w (fun j => by have := hk (j + 1); simpa [Nat.add_assoc, Nat.add_comm 1 j] using this)
    simp only [List.length_cons, List.range'_succ, wpOpsS, h0]
    unfold wpList at h
    split at h
    · rename_i hw
      rw [if_pos hw]
      have h1 : o.wp P a w (wpList P ops Q' l) Q' := by
        rcases h with h | ⟨_, a', w', h⟩
        · exact h
        · exact (hout _ _ h).elim
      unfold Oper.wp at h1
      generalize (execOp a.eval o).run P w = r at h1 ⊢
      cases r with
      | ok n w' =>
        cases n <;> simp only [Oper.upon] at h1 ⊢ <;> first | exact ih _ _ h1 | (exact h1.elim) | skip
        · refine h1.mono ?_
          intro e w'' he
          cases e with
          | returned v => exact ih _ _ he
          | panicked ch => exact hQ _ _ _ he
          | outgrown => obtain ⟨a', w3, h3⟩ := he; exact (hout _ _ h3).elim
        · exact h1.mono fun v w'' he => ih _ _ he
      | halt hh w' =>
        cases hh <;> simp only [Oper.upon] at h1 ⊢ <;> first | exact hQ _ _ _ h1 | (exact h1.elim)
    · rename_i hw
      rw [if_neg hw]
      exact ih _ _ h

theorem recoverD_mode {c₀ : Frame} {cs : List Frame} {u : FrameMode} (hu : c₀.mode = u) :
    (match recoverD (c₀ :: cs) with | some (v, cs') => (v, cs') | none => (.nilIface, c₀ :: cs)) = ((recv u).1, { c₀ with mode := (recv u).2 } :: cs) := by
  have hc : ({ c₀ with mode := u } : Frame) = c₀ := by subst hu; rfl
  simp only [recoverD, hu]
  split
  · rename_i v cs' h
    split at h
    · rename_i v' older
      simp only [Option.some.injEq, Prod.mk.injEq] at h
      obtain ⟨rfl, rfl⟩ := h
      rfl
    · cases h
  · rename_i h
    split at h
    · cases h
    · rename_i hne
      have : recv u = (.nilIface, u) := by
        unfold recv
        split
        · rename_i v older
          exact absurd rfl (hne v older)
        · rfl
      rw [this]
      simp only
      rw [hc]

/-- A closure that begins with recover(). -/
theorem acd_recover {f : FuncId} {fn : Func} {id : Nat} {o0 : Oper} {l : List Oper} {rest : Code} {args : List V} {ins : List (Nat × Ob)} {u : FrameMode} {v : V} {R : List (Nat × Ob) → Prop} {d0 : Nat} (hf : P.funcs[f]? = some fn) (hb : fn.body = some (.seq (.region id (o0 :: l).toArray false) rest)) (hl : args.length ≤ fn.ntmps)
    (ho : o0.op = .call { callee := .builtin .recover, args := #[], argTypes := #[] }) (hg : o0.guard = none) (hd : o0.dst = some d0) (hd0 : d0 < fn.ntmps) (hv : ∀ w N, Pur w N (recv u).1 v)
    (h : ∀ w0 N0 nx, AWL P w0 N0 (o0 :: l) (ethen (AW P w0 N0 rest (EndsD R nx)) (EndsD R nx)) 1 l ⟨(d0, v) :: env0 0 args, ins, nx, fn.ntmps⟩)
    (hres : fn.results = #[]) : ACD P f args ins u (recv u).2 R := by
  intro B N μ nx xs hlen hdf hr
  refine callsD_of_wpS hf hb (fun c₀ cs hu => wpS_seq (wpS_region ?_))
  have hrel := hr.enter hlen hl hdf
  have hrel2 : RelM (fun _ => False) B N μ ⟨(d0, v) :: env0 0 args, ins, nx, fn.ntmps⟩ (Act.put { tmps := xs.toArray ++ Array.replicate (fn.ntmps - xs.toArray.size) undef, defers := [] } o0.dst (recv u).1) B.w := by
    rw [hd]; exact hrel.put hd0 (.pur (hv _ _))
  have hwp := h B N nx (fun _ => False) _ B.w (fun j hj => hj.elim) ⟨μ, hrel2⟩
  have hend : ∀ e a w', post B N (EndsD R nx) e a w' → bodyPostS P fn c₀ cs (fun e q w' => ∃ x outs nx' μ', e = .returned x ∧ q = (recv u).2 ∧ R outs ∧ nx ≤ nx' ∧ RelM (fun _ => False) B N μ' ⟨[], outs, nx', 0⟩ ⟨#[], []⟩ w') e a ({ c₀ with mode := (recv u).2 } :: cs) w' := by
    rintro e a w' ⟨S', hE, μ', hr'⟩
    have key : nx ≤ S'.nx ∧ (∃ outs, (∀ k o, get outs k = some o → get S'.objs k = some o) ∧ R outs) → a.defers = [] ∧ ∃ u', { c₀ with mode := (recv u).2 } :: cs = { c₀ with mode := u' } :: cs ∧ ∃ v, (results fn a.tmps).run P w' = .ok v w' ∧
        ∃ x outs nx' μ', Ending.returned v = .returned x ∧ u' = (recv u).2 ∧ R outs ∧ nx ≤ nx' ∧ RelM (fun _ => False) B N μ' ⟨[], outs, nx', 0⟩ ⟨#[], []⟩ w' := by
      rintro ⟨hnx, outs, h1, h2⟩
      refine ⟨by rw [hr'.defers, hdf], (recv u).2, rfl, .tuple #[], by rw [results_eq, hres]; simp [Array.mapM_eq_mapM_toList], .tuple #[], outs, S'.nx, μ', rfl, rfl, h2, hnx, ?_⟩
      have hx : Enc w' (Own N μ' S') μ' (.bool true) (.bool true) := .pur (.bool _)
      have := hr'.leave hdf hx h1
      refine ⟨hdf.symm, rfl, this.below, this.n0, this.fresh, fun d o hd => ?_, fun d o d' o' g c c' a1 a2 => this.inj d o d' o' g c c' a1 a2, fun t v hv => by simp [get] at hv⟩
      exact this.objs d o hd
    cases e with
    | ret => exact key hE
    | normal => exact key hE
    | _ => exact hE.elim
  have hrange : List.range (o0 :: l).toArray.size = 0 :: List.range' 1 l.length := by
    rw [List.range_eq_range']
    simp [List.range'_succ]
  rw [hrange]
  have hx0 : (execOp (Act.eval { tmps := xs.toArray ++ Array.replicate (fn.ntmps - xs.toArray.size) undef, defers := [] }) o0).run P B.w = .ok .recover B.w := by
    unfold execOp
    rw [ho]
    simp [resolve, invoke, builtin]
  simp only [wpOpsS]
  have hw : Region.wanted o0 (yielded (o0 :: l).toArray (xs.toArray ++ Array.replicate (fn.ntmps - xs.toArray.size) undef)) = true := by simp [Region.wanted, hg]
  simp only [List.getElem?_toArray, List.getElem?_cons_zero, hw, if_true, hx0]
  have hmode := recoverD_mode (cs := cs) hu
  have fin : wpOpsS P (o0 :: l).toArray (Exit.thenS (rest.wpS P (bodyPostS P fn c₀ cs (fun e q w' => ∃ x outs nx' μ', e = .returned x ∧ q = (recv u).2 ∧ R outs ∧ nx ≤ nx' ∧ RelM (fun _ => False) B N μ' ⟨[], outs, nx', 0⟩ ⟨#[], []⟩ w'))) (bodyPostS P fn c₀ cs (fun e q w' => ∃ x outs nx' μ', e = .returned x ∧ q = (recv u).2 ∧ R outs ∧ nx ≤ nx' ∧ RelM (fun _ => False) B N μ' ⟨[], outs, nx', 0⟩ ⟨#[], []⟩ w'))) (List.range' 1 l.length)
      (Act.put { tmps := xs.toArray ++ Array.replicate (fn.ntmps - xs.toArray.size) undef, defers := [] } o0.dst (recv u).1) ({ c₀ with mode := (recv u).2 } :: cs) B.w := by
    refine opsS_of_list ?_ ?_ l 1 _ _ (fun j => by simp [Nat.add_comm 1 j]) hwp
    · rintro a w ⟨S', hE, _⟩
      exact hE
    · rintro e a w' ⟨S', hE, hR⟩
      cases e with
      | normal =>
        refine wpS_of_wp (wp_mono (hE a w' hR) ?_)
        intro e2 a2 w2 h2
        exact hend _ _ _ h2
      | ret => exact hend .ret a w' ⟨S', hE, hR⟩
      | _ => exact hE.elim
  split
  · rename_i v' cs' hrec
    rw [hrec] at hmode
    simp only [Prod.mk.injEq] at hmode
    rw [hmode.1, hmode.2]
    exact fin
  · rename_i hrec
    rw [hrec] at hmode
    simp only [Prod.mk.injEq] at hmode
    rw [hmode.1, hmode.2]
    exact fin

def V.isBp : V → Bool
  | .bp .. => true
  | _ => false

theorem Enc.bp_mono {w w' : World} {N N' : Nat → Prop} {μ μ' : Mu} {x : Value} {v : V} (h : Enc w N μ x v) (hb : v.isBp = true) (hμ : ∀ d v l, μ d v = some l → μ' d v = some l) : Enc w' N' μ' x v := by
  cases v <;> simp only [V.isBp] at hb <;> try (cases hb; done)
  cases h with
  | pur h => cases h
  | bp _ _ _ _ _ g cap h1 => exact .bp _ _ _ _ _ g cap (hμ _ _ _ h1)

/-- The mode in which a body that ends so leaves its frame. -/
def modeOf : Exit → Option FrameMode
  | .ret | .normal => some .returning
  | .panic ch => some (.panicking ch)
  | _ => none

/-- What must hold where the body of a function ends that has deferred the closure cf. -/
def EndsF (P : Program) (fn : Func) (cf : FuncId) (cvs : List V) (R : V → Prop) (e : Exit) (S : AS) : Prop :=
  ∃ u u' ins R', modeOf e = some u ∧ (∀ k o, get ins k = some o → get S.objs k = some o) ∧ ACD P cf cvs ins u u' R' ∧ settle u' = .returning ∧
    ∀ outs nx, R' outs → (∀ k, get outs k = none → get ins k = none) ∧ ∃ r, aresults P { S with objs := outs ++ S.objs, nx := nx } fn.results.toList = some r ∧ R r

/-- A function that defers a closure over variables of its own. -/
theorem ac_deferred {f : FuncId} {fn : Func} {c1 c2 : Code} {id : Nat} {om od : Oper} {args : List V} {R : V → Prop} {S1 : AS} {cf : FuncId} {cfn : Func} {caps : Array Operand} {cvs : List V} {dm : Nat} {ats : Array TypeId} (hf : P.funcs[f]? = some fn)
    (hb : fn.body = some (.seq c1 (.seq (.region id [om, od].toArray false) c2))) (hl : args.length ≤ fn.ntmps) (hcf : P.funcs[cf]? = some cfn) (hcb : cfn.body.isSome = true) (hcn : (cfn.name == "runtime.NumGoroutine") = false)
    (hom : om.op = .makeFunc (.func cf) #[] caps) (hog : om.guard = none) (hodst : om.dst = some dm) (hod : od.op = .defer { callee := .value (.tmp dm), args := #[], argTypes := ats }) (hdg : od.guard = none) (hdd : od.dst = none)
    (h1 : ∀ w0 N0, AW P w0 N0 c1 (fun e S => e = .normal ∧ S = S1) ⟨env0 0 args, [], 0, fn.ntmps⟩) (hcv : S1.args true caps.toList = some cvs) (hbp : cvs.all V.isBp = true) (hdm : dm < S1.nt)
    (h2 : ∀ w0 N0, AW P w0 N0 c2 (EndsF P fn cf cvs R) { S1 with nx := S1.nx + 2 }) (hdrop : get S1.env dm = none) : AC P f args R := by
  intro w N xs hN hlen hp
  have hr0 : RelM (fun _ => False) ⟨w, fun _ => False, fun _ _ => none, []⟩ N (fun _ _ => none) ⟨env0 0 args, [], 0, args.length⟩ ⟨xs.toArray, []⟩ w := by
    refine ⟨rfl, by simp [hlen], Bs.Below.refl _, ⟨fun b hb => ⟨hN b hb, fun h => h⟩, fun _ _ _ h => by cases h⟩, fun d v hv => absurd rfl hv, fun d o hd => by simp [get] at hd, fun d o _ _ _ _ _ hd => by simp [get] at hd, fun t v hv => ?_⟩
    obtain ⟨_, h2⟩ := get_env0 hv
    simp only [Nat.sub_zero] at h2
    have ht : t < args.length := (List.getElem?_eq_some_iff.1 h2).1
    have hxt : xs[t]? = some xs[t] := List.getElem?_eq_getElem (by omega)
    have he : xs.toArray.getD t undef = xs[t] := by simp [hxt]
    refine ⟨ht, .pur ?_⟩
    rw [he]
    exact (hp t xs[t] v hxt h2).keep (Keeps.refl _ _) (fun b hb ho => by
      rcases ho with h0 | ⟨d, o, c, h1, _⟩
      · exact h0
      · simp [get] at h1)
  refine calls_of_wp_defers hf hb (wp_seq (wp_mono (h1 ⟨w, fun _ => False, fun _ _ => none, []⟩ N _ w ⟨_, hr0.enter hlen hl rfl⟩) ?_))
  rintro e a w1 ⟨S, ⟨rfl, rfl⟩, μ1, hr1⟩
  refine wp_seq (wp_region_lit ?_)
  obtain ⟨hcl, hcx⟩ := args_spec hr1 rfl hcv
  -- the closure's value, and the deferred call
  refine wpList_plain hog fun K hK => ?_
  have hfv : (execOp a.eval om).run P w1 = .ok (.value (.func (.func cf) #[] (caps.map a.eval))) w1 := by
    unfold execOp
    rw [hom]
    simp [Instr.makeFunc]
  unfold Oper.wp
  rw [hfv, Oper.upon_value, hodst]
  refine hK _ _ (wpList_plain hdg fun K' hK' => ?_)
  have hsz : dm < a.tmps.size := by rw [hr1.size]; exact hdm
  have hev : (a.put (some dm) (.func (.func cf) #[] (caps.map a.eval))).eval (.tmp dm) = .func (.func cf) #[] (caps.map a.eval) := by
    show (a.put (some dm) _).tmps.getD dm undef = _
    rw [tmps_put a dm _ dm hsz, if_pos rfl]
  have hdf : (execOp (a.put (some dm) (.func (.func cf) #[] (caps.map a.eval))).eval od).run P w1 = .ok (.defer { target := .fn (.func cf) (caps.map a.eval), args := #[] }) w1 := by
    unfold execOp
    rw [hod]
    simp only [resolve, hev, Deferred.ofValue, Sem.run_bind, Sem.run_pure, Result.andThen_ok, List.map_toArray, List.map_nil]
    rfl
  unfold Oper.wp
  rw [hdf, Oper.upon_defer, hdd]
  refine hK' _ _ (wpList_nil ?_)
  -- the rest of the body
  have hr2 : RelM (fun _ => False) ⟨w, fun _ => False, μ1, [{ target := .fn (.func cf) (caps.map a.eval), args := #[] }]⟩ N μ1 { S with nx := S.nx + 2 } ({ (a.put (some dm) (.func (.func cf) #[] (caps.map a.eval))) with defers := { target := .fn (.func cf) (caps.map a.eval), args := #[] } :: (a.put (some dm) (.func (.func cf) #[] (caps.map a.eval))).defers } : Act) w1 := by
    have hd0 : (a.put (some dm) (.func (.func cf) #[] (caps.map a.eval))).defers = [] := hr1.defers
    refine ⟨by simp only [hd0], by simp [Act.put, hr1.size], ⟨hr1.below.os, hr1.below.tape, hr1.below.output, hr1.below.size, hr1.below.block⟩, ⟨hr1.n0.1, fun _ _ _ h => h⟩, fun d v hv => ?_, fun d o ho => ?_, hr1.inj, fun t v hv => ?_⟩
    · rcases hr1.fresh d v hv with h3 | ⟨j, hj, _⟩
      · exact .inl (by simp only; omega)
      · exact hj.elim
    · obtain ⟨l, hl', hob⟩ := hr1.objs d o ho
      refine ⟨l, hl', ?_⟩
      cases l with
      | none => exact hob
      | some gc => exact hob
    · have hne : dm ≠ t := by rintro rfl; simp only at hv; rw [hdrop] at hv; cases hv
      obtain ⟨h3, h4⟩ := hr1.env t v hv
      refine ⟨h3, ?_⟩
      simp only
      rw [tmps_put a dm _ t hsz, if_neg hne]
      exact h4
  refine wp_mono (h2 _ N _ w1 ⟨μ1, hr2⟩) ?_
  rintro e a' w2 ⟨S2, ⟨u, u', ins, R', hmode, hins, hacd, hset, hout⟩, μ2, hr3⟩
  have hdf2 : a'.defers = [{ target := .fn (.func cf) (caps.map a.eval), args := #[] }] := hr3.defers
  have hinv : (invoke (.fn (.func cf) (caps.map a.eval)) #[]).run P w2 = .ok (.enter cf (caps.map a.eval)) w2 := by
    have hn' : ¬ cfn.name = "runtime.NumGoroutine" := by simpa using hcn
    simp [invoke, callFunc, hcf, hn', Option.isNone_iff_eq_none, Option.isSome_iff_ne_none.1 hcb]
  have hleave : Leaves P fn a'.tmps (fun e w' => ∃ x r, e = .returned x ∧ R r ∧ Pur w' N x r ∧ Below w.heap.size w w') a'.defers u w2 := by
    rw [hdf2]
    have hu : u ≠ .run := by
      cases e <;> simp [modeOf] at hmode <;> rw [← hmode] <;> simp
    refine leaves_cons hu hinv ?_
    have hmono : ∀ d v l, μ1 d v = some l → μ2 d v = some l := hr3.n0.2
    have hhand := hr3.hand (nx := S2.nx + 0 + 1) (hr3.fresh_lt (fun j hj => hj.elim)) (vs := cvs) (xs := caps.toList.map a.eval) (ins := ins) (by simp [hcl]) hins (fun j x v hx hv => by
      simp only [List.getElem?_map, Option.map_eq_some_iff] at hx
      obtain ⟨y, hy, rfl⟩ := hx
      exact (hcx j y v hy hv).bp_mono (List.all_eq_true.1 hbp v (List.mem_of_getElem? hv)) hmono)
    have hcall := hacd ⟨w2, OwnB μ2 ins, μ2, []⟩ _ μ2 _ (caps.toList.map a.eval) (by simp [hcl]) rfl hhand
    have harr : (caps.toList.map a.eval).toArray = caps.map a.eval := by apply Array.ext'; simp
    rw [harr] at hcall
    refine hcall.mono ?_
    rintro e' q w3 ⟨x, outs, nx', μ3, rfl, rfl, hR', hnx, hrel⟩
    obtain ⟨hcov, r, hres, hRr⟩ := hout outs nx' hR'
    have hrel' : RelM (fun _ => False) ⟨w2, OwnB μ2 ins, μ2, []⟩ (fun b => Own N μ2 S2 b ∧ ¬ OwnB μ2 ins b) μ3 ⟨[(0, .bool true)], outs, nx', 1⟩ ⟨#[.bool true], []⟩ w3 := by
      refine ⟨rfl, rfl, hrel.below, hrel.n0, hrel.fresh, hrel.objs, hrel.inj, fun t v hv => ?_⟩
      simp only [get_cons, get] at hv
      split at hv
      · rename_i e; subst e; injection hv with hv; subst hv; exact ⟨Nat.one_pos, .pur (.bool _)⟩
      · cases hv
    obtain ⟨hb1, _⟩ := hr3.back hins hcov hrel'
    obtain ⟨y, hy, hpy⟩ := aresults_run (P := P) (fn := fn) (r := r) hb1 hres
    show Leaves P fn a'.tmps _ [] (settle q) w3
    rw [hset]
    exact ⟨y, hy, y, r, rfl, hRr, hpy, ⟨hb1.below.os, hb1.below.tape, hb1.below.output, hb1.below.size, fun k hk => hb1.below.block k hk (fun h => h)⟩⟩
  cases e with
  | ret => simp only [modeOf, Option.some.injEq] at hmode; subst hmode; exact hleave
  | normal => simp only [modeOf, Option.some.injEq] at hmode; subst hmode; exact hleave
  | panic ch => simp only [modeOf, Option.some.injEq] at hmode; subst hmode; exact hleave
  | _ => simp [modeOf] at hmode
end
end Go.Eng
