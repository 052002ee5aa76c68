/- Calls that work in place on a row of the call's own (the library's sort). No condition. -/
import Derived.Test.YtepkalebaaidcaaEng21
import Derived.Sort.OwnSortedInts
set_option linter.unusedSimpArgs false
namespace Go.Eng
open Go.RowKit

/-- The cells of a row. -/
def RowAt (w : World) (g : Nat) (ty : TypeId) (sz cap : Nat) (es : List V) : Prop :=
  es.length ≤ cap ∧ (∀ e ∈ es, e.fits sz) ∧ ∃ arr, w.heap[g]? = some (.cells arr ty (0, 0)) ∧ arr.size = cap * sz ∧
    ∀ (k : Nat) e (j : Nat) c, es[k]? = some e → e.cells[j]? = some c → ∃ x, arr[k * sz + j]? = some x ∧ Pur w (fun _ => False) x c

/-- The contract: handed the whole row es, f leaves es' there and hands back F of the row's name. -/
def ACI (P : Program) (f : FuncId) (sz : Nat) (ty : TypeId) (es es' : List V) (F : Nat → Nat → V) : Prop :=
  (∀ (w : World) (g cap : Nat), cap ≤ maxLen → RowAt w g ty sz cap es → Calls P f #[.slice (some ⟨g, 0, none⟩) es.length cap] w (fun e w' => ∃ x, e = .returned x ∧ w.grownBy w' (some g) ∧ RowAt w' g ty sz cap es' ∧
      ∀ d v μ N', μ d v = some (some (g, cap)) → Enc w' N' μ x (F d v))) ∧
  (es = [] → es' = [] ∧ ∀ (w : World) A, Calls P f #[.slice A 0 0] w (fun e w' => ∃ x, e = .returned x ∧ w.grownBy w' none ∧ ∀ d v μ N', μ d v = some none → Enc w' N' μ x (F d v)))

section
variable {P : Program} {w0 : World} {N0 : Nat → Prop} {Q : Exit → AS → Prop} {S : AS}

/-- A part of a body that ends in one state. -/
theorem aw_via {x y : Code} (S1 : AS) (h1 : AW P w0 N0 x (fun e T => e = .normal ∧ T = S1) S) (h2 : AW P w0 N0 y Q S1) : AW P w0 N0 (.seq x y) Q S :=
  aw_seq (h1.mono fun e T ⟨he, hT⟩ => by subst he; subst hT; exact h2)

theorem Keeps.of_grown {w w' : World} {row : Option Nat} {N : Nat → Prop} (h : w.grownBy w' row) (hr : ∀ g, row = some g → N g) : Keeps w N w' :=
  ⟨h.size, fun b hb hN => h.block b hb (fun e => hN (hr b e.symm))⟩

theorem awl_callI {ops : List Oper} {i : Nat} {o : Oper} {rest : List Oper} {f x : Operand} {fid : FuncId} {fn : Func} {ats : Array TypeId} {d v sz : Nat} {ty : TypeId} {es es' : List V} {F : Nat → Nat → V} {S' : AS}
    (hc : ACI P fid sz ty es es' F) (hfl : es.all flatE = true) (hfl' : es'.all flatE = true) (hfn : P.funcs[fid]? = some fn) (hb : fn.body.isSome = true) (hn : (fn.name == "runtime.NumGoroutine") = false)
    (hg : o.guard = none) (hop : o.op = .call { callee := .value f, args := #[x], argTypes := ats }) (hf : S.evc true f = some (.fn fid))
    (hx : S.evc true x = some (.sl d v sz es.length)) (ho : get S.objs d = some ⟨v, sz, ty, es⟩) (hs : ({ S with objs := (d, ⟨v, sz, ty, es'⟩) :: S.objs } : AS).putv o.dst (F d v) = some S')
    (h : AWL P w0 N0 ops Q (i + 1) rest S') : AWL P w0 N0 ops Q i (o :: rest) S := by
  rintro D a w hD ⟨μ, hr⟩
  refine wpList_plain hg fun K hK => ?_
  have hfv := hr.evc hf rfl
  have hfe : a.eval f = .func (.func fid) #[] #[] := by
    generalize a.eval f = y at hfv
    cases hfv with
    | pur hfv => cases hfv with
      | fn => rfl
  have hxv := hr.evc hx rfl
  obtain ⟨l, hl, hob⟩ := hr.objs d _ ho
  unfold Oper.wp
  rw [run_call_fn hop hfe hfn hb hn]
  have hmap : #[x].map a.eval = #[a.eval x] := by simp
  rw [hmap]
  have finish : ∀ (e : Ending) (w' : World) (xv : Value) (row : Option Nat), e = .returned xv → w.grownBy w' row → (∀ g, row = some g → ∃ c, l = some (g, c)) → (∀ N', ObEnc w' N' μ w0.heap.size ⟨v, sz, ty, es'⟩ l) → (∀ N', Enc w' N' μ xv (F d v)) →
      ∃ r, e = .returned r ∧ K (a.put o.dst r) w' := by
    rintro e w' xv row rfl hgr hrow hob' henc
    refine ⟨xv, rfl, ?_⟩
    have hbel : Below w0.heap.size w0 w' := hr.below.grown hgr hr.below.size (fun k hk => by
      obtain ⟨c, e⟩ := hrow k hk
      rw [e] at hob
      exact hob.1)
    obtain ⟨hrel, _⟩ := hr.update (D' := D) (d := d) (o' := ⟨v, sz, ty, es'⟩) (l' := l) (w' := w') (μ' := μ) (fun _ _ _ hh => hh) hr.fresh hl hbel
      (Keeps.of_grown hgr (fun g hg => by obtain ⟨c, e⟩ := hrow g hg; exact .inr ⟨d, _, c, ho, by rw [hl, e]⟩))
      (fun d1 o1 g c hne h1 h2 => hgr.block g (hr.block_lt h1 h2) (fun e => by
        obtain ⟨c', e'⟩ := hrow g e.symm
        exact hne (hr.inj _ _ _ _ _ _ _ h1 ho h2 (by rw [hl, e']))))
      (fun g c e => .inr ⟨_, c, ho, by rw [hl, e]⟩) (fun N' _ => hob' N')
    exact hK _ _ (h D _ w' (fun j hj => Nat.lt_succ_of_lt (hD j hj)) ⟨μ, hrel.putv hs (henc _)⟩)
  have flatEnc : ∀ {w1 w2 : World} {N1 : Nat → Prop} {μ1 : Mu} {y : Value} {c : V}, c.flat = true → Enc w1 N1 μ1 y c → Pur w2 (fun _ => False) y c := by
    intro w1 w2 N1 μ1 y c hcf hy
    cases hy with
    | pur hy => exact hy.of_flat hcf
    | _ => simp [V.flat] at hcf
  generalize hxe : a.eval x = xv at hxv
  have hcall : Calls P fid #[xv] w (fun e w' => ∃ r, e = .returned r ∧ K (a.put o.dst r) w') := by
    generalize hve : V.sl d v sz es.length = sv at hxv
    cases hxv with
    | pur hxv => cases hxv <;> cases hve
    | slr d' v' sz' len g cap h1 h2 h3 =>
      cases hve
      rw [hl] at h1
      injection h1 with h1
      subst h1
      obtain ⟨b1, b2, b3, b4, arr, b5, b6, b7⟩ := hob
      refine (hc.1 w g cap h3 ⟨b2, b4, arr, b5, b6, fun k e j c he hj => ?_⟩).mono ?_
      · obtain ⟨y, hy, hey⟩ := b7 k e j c he hj
        exact ⟨y, hy, flatEnc (List.all_eq_true.1 (List.all_eq_true.1 hfl e (List.mem_of_getElem? he)) c (List.mem_of_getElem? hj)) hey⟩
      · rintro e w' ⟨r, he, hgr, ⟨c1, c2, arr', c3, c4, c5⟩, henc⟩
        refine finish e w' r (some g) he hgr (fun g' hg' => by cases hg'; exact ⟨cap, rfl⟩) (fun N' => ⟨b1, c1, h3, c2, arr', c3, c4, fun k e j c he hj => ?_⟩) (fun N' => henc d v μ N' hl)
        obtain ⟨y, hy, hey⟩ := c5 k e j c he hj
        exact ⟨y, hy, .pur (hey.of_flat (List.all_eq_true.1 (List.all_eq_true.1 hfl' e (List.mem_of_getElem? he)) c (List.mem_of_getElem? hj)))⟩
    | slv d' v' sz' A h1 =>
      injection hve with e1 e2 e3 e4
      subst e1; subst e2; subst e3
      rw [hl] at h1
      injection h1 with h1
      subst h1
      have he0 : es = [] := hob
      obtain ⟨h2, h3⟩ := hc.2 he0
      refine (h3 w A).mono ?_
      rintro e w' ⟨r, he, hgr, henc⟩
      exact finish e w' r none he hgr (fun g hg => by cases hg) (fun N' => h2) (fun N' => henc d v μ N' hl)
    | _ => cases hve
  refine hcall.mono ?_
  rintro e w' ⟨r, rfl, hk⟩
  exact hk
end
end Go.Eng
