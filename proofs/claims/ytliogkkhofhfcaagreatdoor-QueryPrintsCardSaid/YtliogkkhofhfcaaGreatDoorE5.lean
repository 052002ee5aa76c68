import Derived.Test.YtliogkkhofhfcaaGreatDoorE4
import Derived.Sort.OwnSortedInts
/- Guarded calls that run and read slices of the call's own. No condition. -/
set_option linter.unusedSimpArgs false
namespace Go.Eng
open Go.RowKit

section
variable {P : Program} {w0 : Bs} {N0 : Nat → Prop} {Q : Exit → AS → Prop} {S : AS}

/-- A call under a guard that lets it run, which reads slices of the call's own and hands back a value without memory. -/
theorem awl_gcallv {ops : List Oper} {i : Nat} {o : Oper} {rest : List Oper} {f : Operand} {fid : FuncId} {fn : Func} {args : Array Operand} {ats : Array TypeId} {vs us : List V} {res : V} {S' : AS}
    (hc : AC P fid us (fun r => r = res)) (hfn : P.funcs[fid]? = some fn) (hb : fn.body.isSome = true) (hn : (fn.name == "runtime.NumGoroutine") = false)
    (hg : S.gv ops o = some true) (ho : o.op = .call { callee := .value f, args := args, argTypes := ats }) (hf : S.evc true f = some (.fn fid))
    (ha : S.args true args.toList = some vs) (hp : S.views vs = some us) (hl : res.light = true) (hs : S.putv o.dst (wrapG o true res) = some S') (h : AWL P w0 N0 ops Q (i + 1) rest S') : AWL P w0 N0 ops Q i (o :: rest) S := by
  rintro D a w hD ⟨μ, hr⟩
  refine wpList_step fun K hK => ?_
  have hw : Region.wanted o (yielded ops.toArray a.tmps) = true := by
    unfold AS.gv at hg
    split at hg
    · rename_i hgn; simp [Region.wanted, hgn]
    · rename_i j want hgn; exact gd_spec hr hgn hg
  rw [if_pos hw]
  have hfv := hr.evc hf rfl
  have hfe : a.eval f = .func (.func fid) #[] #[] := by
    generalize a.eval f = y at hfv
    cases hfv with
    | pur hfv => cases hfv with
      | fn => rfl
  obtain ⟨h1, h2⟩ := args_spec hr rfl ha
  obtain ⟨h3, h4⟩ := views_spec hp
  unfold Oper.wp
  rw [run_call_fn ho hfe hfn hb hn]
  have hcall := hc w N0 (args.toList.map a.eval) (fun b hb => Nat.lt_of_lt_of_le (hr.n0.1 b hb).1 hr.below.size) (by simp [h1, h3]) (fun j x v hx hv => by
    simp only [List.getElem?_map, Option.map_eq_some_iff] at hx
    obtain ⟨y, hy, rfl⟩ := hx
    have hj : j < vs.length := by rw [← h3]; exact (List.getElem?_eq_some_iff.1 hv).1
    exact hr.view (h2 j y vs[j] hy (List.getElem?_eq_getElem hj)) (h4 j vs[j] v (List.getElem?_eq_getElem hj) hv))
  have harr : (args.toList.map a.eval).toArray = args.map a.eval := by apply Array.ext'; simp
  rw [harr] at hcall
  refine hcall.mono ?_
  rintro e w' ⟨x, r, rfl, rfl, hpx, hbw⟩
  refine hK _ _ (h D _ w' (fun j hj => Nat.lt_succ_of_lt (hD j hj)) ⟨μ, (hr.later hbw).putv hs ?_⟩)
  unfold wrapG
  split
  · exact .pur (hpx.of_light hl)
  · exact .whn _ _ _ (fun _ => .pur (hpx.of_light hl)) (fun hf => by cases hf)
end
end Go.Eng

/- Calls that work in place on a row of the call's own (the library's sort). No condition. -/
set_option linter.unusedSimpArgs false
namespace Go.Eng
open Go.RowKit

/-- The cells of a row. -/
def RowAt (w : World) (g : Nat) (ty : TypeId) (sz cap : Nat) (es : List V) : Prop :=
  es.length ≤ cap ∧ (∀ e ∈ es, e.fits sz) ∧ ∃ arr, w.heap[g]? = some (.cells arr ty (0, 0)) ∧ arr.size = cap * sz ∧
    ∀ (k : Nat) e (j : Nat) c, es[k]? = some e → e.cells[j]? = some c → ∃ x, arr[k * sz + j]? = some x ∧ Pur w (fun _ => False) x c

/-- The contract: handed the whole row es, f leaves es' there and hands back F of the row's name. -/
def ACI (P : Program) (f : FuncId) (sz : Nat) (ty : TypeId) (es es' : List V) (F : Nat → Nat → V) : Prop :=
  (∀ (w : World) (g cap : Nat), cap ≤ maxLen → RowAt w g ty sz cap es → Calls P f #[.slice (some ⟨g, 0, none⟩) es.length cap] w (fun e w' => ∃ x, e = .returned x ∧ w.grownBy w' (some g) ∧ RowAt w' g ty sz cap es' ∧
      ∀ d v μ N', μ d v = some (some (g, cap)) → Enc w' N' μ x (F d v))) ∧
  (es = [] → es' = [] ∧ ∀ (w : World) A, Calls P f #[.slice A 0 0] w (fun e w' => ∃ x, e = .returned x ∧ w.grownBy w' none ∧ ∀ d v μ N', μ d v = some none → Enc w' N' μ x (F d v)))

section
variable {P : Program} {w0 : Bs} {N0 : Nat → Prop} {Q : Exit → AS → Prop} {S : AS}

/-- A part of a body that ends in one state. -/
theorem aw_via {x y : Code} (S1 : AS) (h1 : AW P w0 N0 x (fun e T => e = .normal ∧ T = S1) S) (h2 : AW P w0 N0 y Q S1) : AW P w0 N0 (.seq x y) Q S :=
  aw_seq (h1.mono fun e T ⟨he, hT⟩ => by subst he; subst hT; exact h2)

theorem Keeps.of_grown {w w' : World} {row : Option Nat} {N : Nat → Prop} (h : w.grownBy w' row) (hr : ∀ g, row = some g → N g) : Keeps w N w' :=
  ⟨h.size, fun b hb hN => h.block b hb (fun e => hN (hr b e.symm))⟩

theorem awl_callI {ops : List Oper} {i : Nat} {o : Oper} {rest : List Oper} {f x : Operand} {fid : FuncId} {fn : Func} {ats : Array TypeId} {d v sz : Nat} {ty : TypeId} {es es' : List V} {F : Nat → Nat → V} {S' : AS}
    (hc : ACI P fid sz ty es es' F) (hfl : es.all flatE = true) (hfl' : es'.all flatE = true) (hfn : P.funcs[fid]? = some fn) (hb : fn.body.isSome = true) (hn : (fn.name == "runtime.NumGoroutine") = false)
    (hg : o.guard = none) (hop : o.op = .call { callee := .value f, args := #[x], argTypes := ats }) (hf : S.evc true f = some (.fn fid))
    (hx : S.evc true x = some (.sl d v sz es.length)) (ho : get S.objs d = some ⟨v, sz, ty, es⟩) (hs : ({ S with objs := (d, ⟨v, sz, ty, es'⟩) :: S.objs } : AS).putv o.dst (F d v) = some S')
    (h : AWL P w0 N0 ops Q (i + 1) rest S') : AWL P w0 N0 ops Q i (o :: rest) S := by
  rintro D a w hD ⟨μ, hr⟩
  refine wpList_plain hg fun K hK => ?_
  have hfv := hr.evc hf rfl
  have hfe : a.eval f = .func (.func fid) #[] #[] := by
    generalize a.eval f = y at hfv
    cases hfv with
    | pur hfv => cases hfv with
      | fn => rfl
  have hxv := hr.evc hx rfl
  obtain ⟨l, hl, hob⟩ := hr.objs d _ ho
  unfold Oper.wp
  rw [run_call_fn hop hfe hfn hb hn]
  have hmap : #[x].map a.eval = #[a.eval x] := by simp
  rw [hmap]
  have finish : ∀ (e : Ending) (w' : World) (xv : Value) (row : Option Nat), e = .returned xv → w.grownBy w' row → (∀ g, row = some g → ∃ c, l = some (g, c)) → (∀ N', ObEnc w' N' μ w0 ⟨v, sz, ty, es'⟩ l) → (∀ N', Enc w' N' μ xv (F d v)) →
      ∃ r, e = .returned r ∧ K (a.put o.dst r) w' := by
    rintro e w' xv row rfl hgr hrow hob' henc
    refine ⟨xv, rfl, ?_⟩
    have hbel : w0.Below w' := hr.below.grown hgr hr.below.size (fun k hk => by
      obtain ⟨c, e⟩ := hrow k hk
      rw [e] at hob
      exact hob.1)
    obtain ⟨hrel, _⟩ := hr.update (D' := D) (d := d) (o' := ⟨v, sz, ty, es'⟩) (l' := l) (w' := w') (μ' := μ) (fun _ _ _ hh => hh) hr.fresh hl hbel
      (Keeps.of_grown hgr (fun g hg => by obtain ⟨c, e⟩ := hrow g hg; exact .inr ⟨d, _, c, ho, by rw [hl, e]⟩))
      (fun d1 o1 g c hne h1 h2 => hgr.block g (hr.block_lt h1 h2) (fun e => by
        obtain ⟨c', e'⟩ := hrow g e.symm
        exact hne (hr.inj _ _ _ _ _ _ _ h1 ho h2 (by rw [hl, e']))))
      (fun g c e => .inr ⟨_, c, ho, by rw [hl, e]⟩) (fun N' _ => hob' N')
    exact hK _ _ (h D _ w' (fun j hj => Nat.lt_succ_of_lt (hD j hj)) ⟨μ, hrel.putv hs (henc _)⟩)
  have flatEnc : ∀ {w1 w2 : World} {N1 : Nat → Prop} {μ1 : Mu} {y : Value} {c : V}, c.flat = true → Enc w1 N1 μ1 y c → Pur w2 (fun _ => False) y c := by
    intro w1 w2 N1 μ1 y c hcf hy
    exact (hy.flatP hcf).of_flat hcf
  generalize hxe : a.eval x = xv at hxv
  have hcall : Calls P fid #[xv] w (fun e w' => ∃ r, e = .returned r ∧ K (a.put o.dst r) w') := by
    generalize hve : V.sl d v sz es.length = sv at hxv
    cases hxv with
    | pur hxv => cases hxv <;> cases hve
    | slr d' v' sz' len g cap h1 h2 h3 =>
      cases hve
      rw [hl] at h1
      injection h1 with h1
      subst h1
      obtain ⟨b1, b2, b3, b4, arr, b5, b6, b7⟩ := hob
      refine (hc.1 w g cap h3 ⟨b2, b4, arr, b5, b6, fun k e j c he hj => ?_⟩).mono ?_
      · obtain ⟨y, hy, hey⟩ := b7 k e j c he hj
        exact ⟨y, hy, flatEnc (List.all_eq_true.1 (List.all_eq_true.1 hfl e (List.mem_of_getElem? he)) c (List.mem_of_getElem? hj)) hey⟩
      · rintro e w' ⟨r, he, hgr, ⟨c1, c2, arr', c3, c4, c5⟩, henc⟩
        refine finish e w' r (some g) he hgr (fun g' hg' => by cases hg'; exact ⟨cap, rfl⟩) (fun N' => ⟨b1, c1, h3, c2, arr', c3, c4, fun k e j c he hj => ?_⟩) (fun N' => henc d v μ N' hl)
        obtain ⟨y, hy, hey⟩ := c5 k e j c he hj
        exact ⟨y, hy, .pur (hey.of_flat (List.all_eq_true.1 (List.all_eq_true.1 hfl' e (List.mem_of_getElem? he)) c (List.mem_of_getElem? hj)))⟩
    | slv d' v' sz' A h1 =>
      injection hve with e1 e2 e3 e4
      subst e1; subst e2; subst e3
      rw [hl] at h1
      injection h1 with h1
      subst h1
      have he0 : es = [] := hob
      obtain ⟨h2, h3⟩ := hc.2 he0
      refine (h3 w A).mono ?_
      rintro e w' ⟨r, he, hgr, henc⟩
      exact finish e w' r none he hgr (fun g hg => by cases hg) (fun N' => h2) (fun N' => henc d v μ N' hl)
    | _ => cases hve
  refine hcall.mono ?_
  rintro e w' ⟨r, rfl, hk⟩
  exact hk
end
end Go.Eng

/- A row that is handed back may be read as a list. No condition. -/
set_option linter.unusedSimpArgs false
namespace Go.Eng
open Go.RowKit

/-- A value or the values of a tuple with the row read as a list. -/
def AS.viewT (S : AS) : V → Option V
  | .tup vs => match S.views vs with
    | some us => some (.tup us)
    | none => none
  | v => S.view v

theorem ACO.ac {P : Program} {f : FuncId} {args : List V} {sz : Nat} {ty : TypeId} {R : (Nat → Nat → V) → List V → Prop} {R' : V → Prop} (h : ACO P f args sz ty R)
    (hv : ∀ F es, R F es → ∃ u, AS.viewT ⟨[], [(0, ⟨0, sz, ty, es⟩)], 1, 0⟩ (F 0 0) = some u ∧ R' u) : AC P f args R' := by
  intro w N xs h1 h2 h3
  refine (h w N xs h1 h2 h3).mono ?_
  rintro e w' ⟨x, F, es, l, rfl, hR, hb, henc⟩
  obtain ⟨u, hu, hR'⟩ := hv F es hR
  refine ⟨x, u, rfl, hR', ?_, hb⟩
  generalize hS : (⟨[], [(0, ⟨0, sz, ty, es⟩)], 1, 0⟩ : AS) = S at hu
  let μ : Mu := fun d v => if d = 0 ∧ v = 0 then some l else none
  have hμ : μ 0 0 = some l := by simp [μ]
  have hr : RelM (fun _ => False) ⟨w, fun _ => False, fun _ _ => none, []⟩ N μ S ⟨#[], []⟩ w' := by
    subst hS
    refine ⟨rfl, rfl, ⟨hb.os, hb.tape, hb.output, hb.size, fun k hk _ => hb.block k hk⟩, ⟨fun b hb => ⟨h1 b hb, fun h => h⟩, fun _ _ _ h => by cases h⟩, fun d v hdv => ?_, fun d o hd => ?_, fun d o d' o' g c c' g1 g2 _ _ => ?_, fun t v ht => by simp [get] at ht⟩
    · left
      by_cases e : d = 0 ∧ v = 0
      · simp only; omega
      · simp [μ, e] at hdv
    · simp only [get_cons] at hd
      split at hd
      · rename_i e0
        subst e0
        injection hd with hd
        subst hd
        exact ⟨l, hμ, (henc 0 0 μ _ hμ).2⟩
      · simp [get] at hd
    · simp only [get_cons] at g1 g2
      split at g1
      · split at g2
        · omega
        · simp [get] at g2
      · simp [get] at g1
  have hx := (henc 0 0 μ (Own N μ S) hμ).1
  generalize F 0 0 = r at hx hu
  unfold AS.viewT at hu
  split at hu
  · rename_i vs
    split at hu
    case h_2 => cases hu
    rename_i us hus
    injection hu with hu
    subst hu
    obtain ⟨h4, h5⟩ := views_spec hus
    have key : ∀ ys : List Value, ys.length = vs.length → (∀ (i : Nat) y c, ys[i]? = some y → vs[i]? = some c → Enc w' (Own N μ S) μ y c) → Pur w' N (.tuple ys.toArray) (.tup us) := by
      intro ys hl hh
      refine .tup ys us (by rw [hl, h4]) (fun i y c hy hc => ?_)
      have hi : i < vs.length := by rw [← h4]; exact (List.getElem?_eq_some_iff.1 hc).1
      exact hr.view (hh i y vs[i] hy (List.getElem?_eq_getElem hi)) (h5 i vs[i] c (List.getElem?_eq_getElem hi) hc)
    cases hx with
    | pur hx => cases hx with
      | tup ys _ hl hh => exact key ys hl (fun i y c a b => .pur (hh i y c a b))
    | tup ys _ hl hh => exact key ys hl hh
  · exact hr.view hx hu

attribute [simp] AS.viewT
end Go.Eng

/- Ways that come together in one state. No condition. -/
set_option linter.unusedSimpArgs false
namespace Go.Eng
open Go.RowKit

/-- A part of a body whose ways all end in a state that says no less than S1. -/
theorem aw_viale {P : Program} {w0 : Bs} {N0 : Nat → Prop} {Q : Exit → AS → Prop} {S : AS} {x y : Code} (S1 : AS) (h1 : AW P w0 N0 x (fun e T => e = .normal ∧ T.le S1) S) (h2 : AW P w0 N0 y Q S1) : AW P w0 N0 (.seq x y) Q S :=
  aw_seq (h1.mono fun e T ⟨he, hT⟩ => by subst he; exact aw_le hT h2)
/-- The same, where some ways leave. -/
theorem aw_viax {P : Program} {w0 : Bs} {N0 : Nat → Prop} {Q : Exit → AS → Prop} {S : AS} {x y : Code} (S1 : AS) (h1 : AW P w0 N0 x (ethen (fun T => T.le S1) Q) S) (h2 : AW P w0 N0 y Q S1) : AW P w0 N0 (.seq x y) Q S :=
  aw_seq (h1.mono fun e T hT => by
    cases e with
    | normal => exact aw_le hT h2
    | _ => exact hT)
theorem le_to {S S' : AS} (L M : List Nat) (he : (S.keep L M).env = S'.env) (ho : (S.keep L M).objs = S'.objs) (hn : S'.nt = S.nt) (hx : S.nx ≤ S'.nx) : S.le S' :=
  AS.le_trans (le_keep S L M) (le_of_get hn hx (fun t v h => by rw [he]; exact h) (fun d o h => by rw [ho]; exact h))
theorem le_nx {S S' : AS} (he : S.env = S'.env) (ho : S.objs = S'.objs) (hn : S'.nt = S.nt) (hx : S.nx ≤ S'.nx) : S.le S' :=
  le_of_get hn hx (fun t v h => by rw [he]; exact h) (fun d o h => by rw [ho]; exact h)
end Go.Eng

/- Types that lead back into themselves: what comes in reads as pure values. No condition. -/
set_option linter.unusedSimpArgs false
namespace Go.Eng
open Go.RowKit Go.ChangeShapes Go.WideShapes Go.ChangeAt

/-- A type whose parts are types of L. -/
def okT1 (P : Program) (L : List TypeId) (t : TypeId) : Bool := match P.underlying t with
  | some .bool | some (.int _) | some .string => P.cellsOf t == 1
  | some (.slice e) => (P.cellsOf t == 1) && decide (0 < P.cellsOf e) && L.contains e
  | some (.struct fs) => laidFs P fs.toList 0 (P.cellsOf t) && fs.toList.all fun f => L.contains f.type
  | _ => false
def okL (P : Program) (L : List TypeId) : Bool := L.all (okT1 P L)

section
variable {H : Type} {enc : TypeId × Value → H} {P : Program} {w : World} {base : Nat} {spare : Nat → Bool} {held : Bool}

theorem trod_pursL {L : List TypeId} (hL : okL P L = true) : ∀ {fuel : Nat} {t : TypeId} {cs : List Value} {x : DataW H × List MemPlace}, t ∈ L → DataW.trod enc P w base spare held fuel t cs = some x →
    ∃ vs, Purs w (fun _ => False) cs vs ∧ (∀ v ∈ vs, v.isCell = true) ∧ Rd P fuel t vs ∧ cs.length = P.cellsOf t
  | 0, _, _, _, _, h => by simp [DataW.trod] at h
  | fuel + 1, t, cs, x, ht, h => by
    have ho := List.all_eq_true.1 hL t ht
    unfold okT1 at ho
    unfold DataW.trod at h
    unfold Rd
    generalize hu : P.underlying t = u at ho h ⊢
    split at ho
    · -- bool
      simp only [beq_iff_eq] at ho
      split at h <;> simp_all
      rename_i b
      exact ⟨[.bool b], Purs.one (.bool _), by simp [V.isCell], by cases b <;> simp⟩
    · simp only [beq_iff_eq] at ho
      split at h <;> simp_all
      exact ⟨[.int _ _], Purs.one (.int _ _), by simp [V.isCell], _, rfl, h.1.2⟩
    · simp only [beq_iff_eq] at ho
      split at h <;> simp_all
      rename_i s
      refine ⟨[.str s.data.toList], Purs.one ?_, by simp [V.isCell], _, rfl, by simpa using h.1⟩
      have := Pur.str (w := w) (N := fun _ => False) s.data.toList
      simpa using this
    · rename_i e
      simp only [Bool.and_eq_true, beq_iff_eq, decide_eq_true_eq] at ho
      obtain ⟨⟨ho1, ho2⟩, ho3⟩ := ho
      split at h
      all_goals try (exfalso; first | (rename_i he; cases he; done) | (rename_i he _; cases he; done) | (rename_i he _ _; cases he; done) | (cases h; done))
      · refine ⟨[.ro (P.cellsOf e) []], Purs.one (.ro none ⟨0, 0, none⟩ 0 0 _ [] (fun _ _ => undef) rfl (Nat.le_refl _) (Nat.zero_le _) (fun h0 => by omega) (by simp) (by simp) (by simp)), by simp [V.isCell], ⟨[], rfl, by simp, by simp⟩, by simp [ho1]⟩
      · rename_i e' a len cap heq
        cases heq
        simp only at h
        split at h
        case isFalse => cases h
        rename_i hb
        simp only [Option.bind_eq_some_iff] at h
        obtain ⟨elems, he, _⟩ := h
        have hlen : elems.length = len := by simpa using mapM_some_length he
        have hel : ∀ i, i < len → ∃ vs : List V, ∃ ci : List Value, w.cells? base (a.add (i * P.cellsOf e)) (P.cellsOf e) = some ci ∧ Purs w (fun _ => False) ci vs ∧ (∀ v ∈ vs, v.isCell = true) ∧ Rd P fuel e vs ∧ ci.length = P.cellsOf e := by
          intro i hi
          have h1 := mapM_some_get he i i (by simp [hi])
          rw [List.getElem?_eq_getElem (by omega)] at h1
          simp only [Option.bind_eq_some_iff] at h1
          obtain ⟨ci, h2, h3⟩ := h1
          obtain ⟨vs, h4, h5, h6, h7⟩ := trod_pursL hL (by simpa using ho3) h3
          exact ⟨vs, ci, h2, h4, h5, h6, h7⟩
        obtain ⟨es, hes, hp⟩ := list_of hel
        have hcells : ∀ (k : Nat) us, es[k]? = some us → (mkV (tagg P e) us).cells = us ∧ (mkV (tagg P e) us).fits (P.cellsOf e) := by
          intro k us hk
          obtain ⟨ci, h1, h2, h3, h4, h5⟩ := hp k us hk
          have hc : (mkV (tagg P e) us).cells = us := by
            unfold mkV
            split
            · rfl
            · rename_i hna
              have h1' : us.length = 1 := by
                rw [← h2.1, h5]
                have ho4 := List.all_eq_true.1 hL e (by simpa using ho3)
                unfold okT1 at ho4
                unfold tagg at hna
                generalize P.underlying e = ue at ho4 hna
                split at ho4
                · simpa using ho4
                · simpa using ho4
                · simpa using ho4
                · simp only [Bool.and_eq_true, beq_iff_eq] at ho4; exact ho4.1.1
                · simp at hna
                · cases ho4
              match us, h1', h3 with
              | [c], _, h3 => simpa using V.cells_one (h3 c (by simp))
          exact ⟨hc, by rw [hc, ← h2.1, h5], by rw [hc]; exact h3⟩
        refine ⟨[.ro (P.cellsOf e) (es.map (mkV (tagg P e)))], Purs.one (.ro (some a) a len cap _ _ (fun k j => (w.cell? (a.add (k * P.cellsOf e + j))).getD undef) (by simp [hes]) hb.2.1 hb.2.2 (fun h0 => ⟨rfl, ?_, id⟩) ?_ ?_ ?_), by simp [V.isCell], ⟨es, rfl, by omega, ?_⟩, by simp [ho1]⟩
        · obtain ⟨vs, ci, h1, _, _, _, h5⟩ := hel 0 h0
          obtain ⟨_, h6, h7⟩ := World.cells?_some h1
          have := h7 0 ho2
          rw [List.getElem?_eq_getElem (by omega)] at this
          have := World.block_lt_of_cell? _ _ this
          rwa [add_block, add_block] at this
        · intro v hv
          simp only [List.mem_map] at hv
          obtain ⟨us, hus, rfl⟩ := hv
          obtain ⟨k, hk⟩ := List.getElem?_of_mem hus
          exact (hcells k us hk).2
        all_goals
          try
            intro k v j c hk hj
            simp only [List.getElem?_map, Option.map_eq_some_iff] at hk
            obtain ⟨us, hk, rfl⟩ := hk
            rw [(hcells k us hk).1] at hj
            obtain ⟨ci, h1, h2, h3, h4, h5⟩ := hp k us hk
            obtain ⟨_, h6, h7⟩ := World.cells?_some h1
            have hjl : j < us.length := (List.getElem?_eq_some_iff.1 hj).1
            have hji : j < ci.length := by rw [h2.1]; exact hjl
            have h8 := h7 j (by omega)
            rw [add_add', List.getElem?_eq_getElem hji] at h8
        · rw [h8]; rfl
        · rw [h8]; exact h2.2 j _ c (List.getElem?_eq_getElem hji) hj
        · intro us hus
          obtain ⟨k, hk⟩ := List.getElem?_of_mem hus
          exact (hp k us hk).choose_spec.2.2.2.1
    · rename_i fs
      simp only [Bool.and_eq_true, List.all_eq_true] at ho
      obtain ⟨hlaid, hall⟩ := ho
      replace h : (if cs.length = P.cellsOf t then (fs.toList.mapM fun f => DataW.trod enc P w base spare held fuel f.type ((cs.drop f.offset).take (P.cellsOf f.type))).map fun xs => (DataW.agg (xs.map (·.1)), xs.flatMap (·.2)) else none) = some x := h
      split at h
      case isFalse => cases h
      rename_i hlen
      simp only [Option.map_eq_some_iff] at h
      obtain ⟨xs, hxs, _⟩ := h
      have hf : ∀ f ∈ fs.toList, ∃ vs, Purs w (fun _ => False) ((cs.drop f.offset).take (P.cellsOf f.type)) vs ∧ (∀ v ∈ vs, v.isCell = true) ∧ Rd P fuel f.type vs ∧ ((cs.drop f.offset).take (P.cellsOf f.type)).length = P.cellsOf f.type := by
        intro f hfm
        obtain ⟨i, hi⟩ := List.getElem?_of_mem hfm
        have h1 := mapM_some_get hxs i f hi
        have hl := mapM_some_length hxs
        have hil : i < xs.length := by rw [hl]; exact (List.getElem?_eq_some_iff.1 hi).1
        rw [List.getElem?_eq_getElem hil] at h1
        exact trod_pursL hL (by simpa using hall f hfm) h1
      have key : ∀ (l : List Field) (off : Nat), laidFs P l off (P.cellsOf t) = true → (∀ f ∈ l, ∃ vs, Purs w (fun _ => False) ((cs.drop f.offset).take (P.cellsOf f.type)) vs ∧ (∀ v ∈ vs, v.isCell = true) ∧ Rd P fuel f.type vs ∧ ((cs.drop f.offset).take (P.cellsOf f.type)).length = P.cellsOf f.type) →
          ∃ vs, Purs w (fun _ => False) (cs.drop off) vs ∧ (∀ v ∈ vs, v.isCell = true) ∧ RdF P (Rd P fuel) l vs := by
        intro l
        induction l with
        | nil =>
          intro off hl _
          simp only [laidFs, beq_iff_eq] at hl
          refine ⟨[], ⟨by simp; omega, by simp⟩, by simp, rfl⟩
        | cons f l ih =>
          intro off hl hh
          simp only [laidFs, Bool.and_eq_true, beq_iff_eq] at hl
          obtain ⟨ho, hl⟩ := hl
          subst ho
          obtain ⟨ws, h1, h2, h3⟩ := ih _ hl (fun g hg => hh g (by simp [hg]))
          obtain ⟨us, g1, g2, g3, _⟩ := hh f (by simp)
          refine ⟨us ++ ws, ?_, ?_, us, ws, rfl, g3, h3⟩
          · have := g1.append h1
            rwa [← List.drop_drop, List.take_append_drop] at this
          · intro v hv
            rcases List.mem_append.1 hv with hv | hv
            · exact g2 v hv
            · exact h2 v hv
      obtain ⟨vs, h1, h2, h3⟩ := key fs.toList 0 hlaid hf
      exact ⟨vs, by simpa using h1, h2, h3, hlen⟩
    · cases ho

/-- What an argument of a type looks like. -/
def RdW (P : Program) (t : TypeId) (v : V) : Prop := ∃ n vs, Rd P n t vs ∧ v = mkV (tagg P t) vs

theorem arg_purL {L : List TypeId} (hL : okL P L = true) {r : Reach} {b0 : Nat} {t : TypeId} {v : Value} {d : DataW H} {ps : List MemPlace} (ht : t ∈ L) (hval : Value.okWide P w r b0 t v) (hd : DataW.Trod enc P w base spare held t v d ps) :
    ∃ u, Pur w (fun _ => False) v u ∧ RdW P t u := by
  obtain ⟨fuel, hf⟩ := hd
  obtain ⟨vs, h1, h2, h3, h4⟩ := trod_pursL hL ht hf
  refine ⟨mkV (tagg P t) vs, ?_, fuel, vs, h3, rfl⟩
  have ho := List.all_eq_true.1 hL t ht
  unfold okT1 at ho
  generalize hu : P.underlying t = u at ho
  have one : v.cells = #[v] → tagg P t = some false → Pur w (fun _ => False) v (mkV (tagg P t) vs) := by
    intro hv hb
    have hl := h1.1
    rw [hv] at hl h1
    match vs, hl, h1 with
    | [c], _, h1 =>
      rw [hb]
      exact h1.2 0 v c rfl rfl
  split at ho
  · obtain ⟨b, rfl⟩ := okWide_bool hu hval
    exact one rfl (by simp [tagg, hu])
  · obtain ⟨b, rfl⟩ := okWide_int hu hval
    exact one rfl (by simp [tagg, hu])
  · obtain ⟨b, rfl⟩ := okWide_string hu hval
    exact one rfl (by simp [tagg, hu])
  · obtain ⟨a, l, c, rfl⟩ := okWide_slice hu hval
    exact one rfl (by simp [tagg, hu])
  · obtain ⟨cs, rfl, _⟩ := okWide_struct hu hval
    have : tagg P t = some true := by simp [tagg, hu]
    rw [this]
    have := Pur.agg cs.toList vs h1.1 h2 h1.2
    simpa [mkV] using this
  · cases ho

end

/-- Values one by one of their types. -/
def RdAllW (P : Program) : List TypeId → List V → Prop
  | [], vs => vs = []
  | t :: ts, vs => ∃ u us, vs = u :: us ∧ RdW P t u ∧ RdAllW P ts us

theorem args_purL {H : Type} {enc : TypeId × Value → H} {P : Program} {L : List TypeId} {W : World} {r : Reach} {b0 : Nat} {sp : Nat → Bool} {hd : Bool} (hL : okL P L = true) : ∀ {ts : List TypeId} {vs : List Value} {ds : List (DataW H)} {ps : List MemPlace}, (∀ t ∈ ts, t ∈ L) →
    (∀ (j : Nat) t v, ts[j]? = some t → vs[j]? = some v → Value.okWide P W r b0 t v) → DataW.TrodAll enc P W 0 sp hd ts vs ds ps → ∃ us, RdAllW P ts us ∧ Purs W (fun _ => False) vs us
  | [], vs, ds, ps, _, _, h => by
    obtain ⟨rfl, rfl, rfl⟩ := trodAll_nil h
    exact ⟨[], rfl, rfl, by simp⟩
  | t :: ts, vs, ds, ps, ho, hv, h => by
    obtain ⟨v, vs', d, ds', p, q, rfl, rfl, rfl, h1, h2⟩ := trodAll_cons h
    obtain ⟨u, g1, g2⟩ := arg_purL hL (ho t (by simp)) (hv 0 t v rfl rfl) h1
    obtain ⟨us, g3, g4⟩ := args_purL hL (fun t ht => ho t (by simp [ht])) (fun j t' v' ht hv' => hv (j + 1) t' v' ht hv') h2
    exact ⟨u :: us, ⟨u, us, rfl, g2, g3⟩, (Purs.one g1).append g4⟩

/-- The row's step from a contract: for all that can come in the law returns true. -/
theorem row_contractL {H : Type} {enc : TypeId × Value → H} {P : Program} {f : FuncId} {fn : Func} {s : ChangeSpec} {L : List TypeId} {tb : TypeId} {ts : List TypeId} (hts : fn.params.toList = ts) (hL : okL P L = true) (hok : (ts.all fun t => L.contains t && P.readableRec t && decide (t < P.types.size)) = true) (hlaid : laidOutB P = true) (hres : fn.resultTypes = #[tb]) (htb : P.underlying tb = some .bool)
    (hvars : s.vars = []) (hs : ∀ ds : List (DataW H), ds.length = ts.length → s.fn H ds = { results := [.lit (.bool true)], args := ds }) (hc : ∀ vs, RdAllW P ts vs → AC P f vs (fun r => r = .bool true))
    {W : World} {base : Nat} {args : Array Value} {ds gs : List (DataW H)} {before : List MemPlace}
    (hval : ∀ (j : Nat) t v, fn.params[j]? = some t → args[j]? = some v → Value.okWide P W .any base t v) (hW : DataW.Whole enc P fn.params.toList s.vars false W args.toList ds gs before) :
    Calls P f args W fun e W' => ∃ v, e = .returned v ∧ s.post enc P fn false true false false W args v W' := by
  have hW' := hW
  obtain ⟨p, q, hA, hV, rfl, hfz, hnd⟩ := hW
  rw [hvars] at hV
  obtain ⟨rfl, rfl⟩ := trodVars_none hV
  have hdl : ds.length = ts.length := by
    have : ∀ (ts : List TypeId) (vs : List Value) (ds : List (DataW H)) (ps : List MemPlace), DataW.TrodAll enc P W 0 (fun _ => true) true ts vs ds ps → ds.length = ts.length := by
      intro ts
      induction ts with
      | nil => intro vs ds ps h; obtain ⟨_, rfl, _⟩ := trodAll_nil h; rfl
      | cons t ts ih => intro vs ds ps h; obtain ⟨v, vs', d, ds', p, q, rfl, rfl, rfl, _, h2⟩ := trodAll_cons h; simp [ih _ _ _ h2]
    rw [← hts]; exact this _ _ _ _ hA
  have hall : ∀ t ∈ ts, t ∈ L ∧ P.readableRec t = true ∧ t < P.types.size := by
    intro t ht
    have := List.all_eq_true.1 hok t ht
    simp only [Bool.and_eq_true, decide_eq_true_eq] at this
    exact ⟨by simpa using this.1.1, this.1.2, this.2⟩
  obtain ⟨us, h1, h2⟩ := args_purL (L := L) hL (ts := ts) (fun t ht => (hall t ht).1) (fun j t v ht hv => hval j t v (by rw [← hts] at ht; simpa using ht) (by simpa using hv)) (hts ▸ hA)
  have hcall := hc us h1 W (fun _ => False) args.toList (fun _ hb => hb.elim) h2.1 h2.2
  rw [show args.toList.toArray = args by simp] at hcall
  refine hcall.mono ?_
  rintro e W1 ⟨x, r, rfl, rfl, hp, hb⟩
  obtain rfl : x = .bool true := by cases hp; rfl
  refine ⟨_, rfl, ds, [], p ++ [], [], p, [], hW', ?_, ?_, ?_, hb.frame _, fun h => by cases h⟩
  · rw [List.append_nil, hs ds hdl, hres]
    exact trodAll_mk1 (shut_bool htb true)
  · rw [List.append_nil, hs ds hdl]
    exact trodAll_below hlaid hb (fun t ht => (hall t (hts ▸ ht)).2) hA
  · rw [List.append_nil, hs ds hdl, hvars]
    exact rfl

end Go.Eng
