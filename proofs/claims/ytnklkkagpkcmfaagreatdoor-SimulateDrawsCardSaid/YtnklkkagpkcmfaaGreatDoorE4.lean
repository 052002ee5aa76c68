import Derived.Test.YtnklkkagpkcmfaaGreatDoorE3
import Derived.Laws.CopyOwn
import Derived.Laws.IdiomCopy
set_option linter.all false
namespace Go.Eng
open Go.RowKit

/-- The contract: handed the row es as its first argument, f hands it back with new behind it. -/
def ACA (P : Program) (f : FuncId) (args : List V) (sz : Nat) (ty : TypeId) (es new : List V) : Prop :=
  ∀ d v, ACS P f (.sl d v sz es.length :: args) [(d, ⟨v, sz, ty, es⟩)] (fun r outs => ∃ v', r = .sl d v' sz (es ++ new).length ∧ outs = [(d, ⟨v', sz, ty, es ++ new⟩)]) (fun _ => False)

@[simp] theorem kb_ne (d k : Nat) : (d + 1 + k = d) = False := by simp; omega
@[simp] theorem kb_ne' (d k : Nat) : (d = d + 1 + k) = False := by simp; omega
@[simp] theorem kb_lt (d k : Nat) : (d < d + 1 + k) = True := by simp; omega

section
variable {P : Program} {kb : Nat} {w0 : Bs} {N0 : Nat → Prop} {Q : Exit → AS → Prop} {S S' : AS}

/-- The caller's state behind such a call: the row has a new name. -/
theorem RelM.backA {D : Nat → Prop} {μ μ' : Mu} {a : Act} {w w' : World} (h : RelM D w0 N0 μ S a w) {i : Nat} (hi : ¬ D i) {d v sz nx' v' : Nat} {ty : TypeId} {es es' : List V} {x : Value} (hd : get S.objs d = some ⟨v, sz, ty, es⟩)
    (hfl : es'.all flatE = true)
    (hr : RelM (fun _ => False) ⟨w, OwnB μ [(d, ⟨v, sz, ty, es⟩)], μ, []⟩ (fun b => Own N0 μ S b ∧ ¬ OwnB μ [(d, ⟨v, sz, ty, es⟩)] b) μ' ⟨[(0, .sl d v' sz es'.length)], [(d, ⟨v', sz, ty, es'⟩)], nx', 1⟩ ⟨#[x], []⟩ w') :
    ∃ μ'', RelM (fun j => D j ∨ j = i) w0 N0 μ'' { S with objs := (d, ⟨S.nx + i, sz, ty, es'⟩) :: S.objs } a w' ∧ ∀ N, Enc w' N μ'' x (.sl d (S.nx + i) sz es'.length) := by
  have hins : ∀ k o, get [(d, (⟨v, sz, ty, es⟩ : Ob))] k = some o → get S.objs k = some o := by
    intro k o hk
    simp only [get_cons, get] at hk
    split at hk
    · rename_i e; subst e; injection hk with hk; subst hk; exact hd
    · cases hk
  obtain ⟨l, hl, hob⟩ := hr.objs d ⟨v', sz, ty, es'⟩ (by simp [get])
  simp only at hl
  have hX : ∀ b, OwnB μ [(d, (⟨v, sz, ty, es⟩ : Ob))] b → ∃ c, μ d v = some (some (b, c)) := by
    rintro b ⟨d', o', c, h1, h2⟩
    simp only [get_cons, get] at h1
    split at h1
    · rename_i e; subst e; injection h1 with h1; subst h1; exact ⟨c, h2⟩
    · cases h1
  have hkeep : Keeps w (Own N0 μ S) w' := ⟨hr.below.size, fun b hb hn => hr.below.block b hb (fun ⟨d, o, c, h1, h2⟩ => hn (.inr ⟨d, o, c, hins _ _ h1, h2⟩))⟩
  have hfreeX : ∀ b c, μ d v = some (some (b, c)) → w0.free b := by
    intro b c hm
    obtain ⟨l', hl', hob'⟩ := h.objs d _ hd
    simp only at hl'
    rw [hm] at hl'
    injection hl' with hl'
    subst hl'
    exact hob'.1
  have hbelow : w0.Below w' := by
    refine ⟨hr.below.os.trans h.below.os, hr.below.tape.trans h.below.tape, hr.below.output.trans h.below.output, Nat.le_trans h.below.size hr.below.size, fun k hk hXk => ?_⟩
    refine (hr.below.block k (Nat.lt_of_lt_of_le hk h.below.size) (fun hB => ?_)).trans (h.below.block k hk hXk)
    obtain ⟨c, hm⟩ := hX k hB
    rcases hfreeX k c hm with h1 | h1
    · omega
    · exact hXk h1
  have hmono := h.muSet_mono hi d l
  obtain ⟨hrel, _⟩ := h.update (D' := fun j => D j ∨ j = i) (d := d) (o' := ⟨S.nx + i, sz, ty, es'⟩) (l' := l) (w' := w') (μ' := muSet μ d (S.nx + i) l) hmono (h.muSet_fresh i d l) (muSet_same _ _ _ _) hbelow hkeep
    (fun d1 o1 g c hne h1 h2 => hr.below.block g (h.block_lt h1 h2) (fun hB => by
      obtain ⟨c', hm⟩ := hX g hB
      exact hne (h.inj d1 o1 d _ g c c' h1 hd h2 hm)))
    (fun g c e => by
      subst e
      rcases hob.1 with h1 | h1
      · exact .inl h1
      · obtain ⟨c', hm⟩ := hX g h1
        exact .inr ⟨_, c', hd, hm⟩)
    (fun N' _ => by
      cases l with
      | none => exact hob
      | some gc =>
        obtain ⟨o1, o2, o3, o4, arr, o5, o6, o7⟩ := hob
        refine ⟨?_, o2, o3, o4, arr, o5, o6, fun k e j c he hj => ?_⟩
        · rcases o1 with h1 | h1
          · exact .inl (Nat.le_trans h.below.size h1)
          · obtain ⟨c', hm⟩ := hX _ h1
            exact hfreeX _ _ hm
        · obtain ⟨y, hy, hey⟩ := o7 k e j c he hj
          have hfc : c.flat = true := List.all_eq_true.1 (List.all_eq_true.1 hfl e (List.mem_of_getElem? he)) c (List.mem_of_getElem? hj)
          exact ⟨y, hy, .pur ((hey.flatP hfc).of_flat hfc)⟩)
  refine ⟨_, hrel, fun N => ?_⟩
  have hx := (hr.env 0 _ (by simp [get]; rfl)).2
  have hx0 : (#[x] : Array Value).getD 0 undef = x := by simp
  rw [hx0] at hx
  have hx' := hx
  clear hx
  generalize hev : V.sl d v' sz es'.length = sv at hx'
  cases hx' with
  | pur hp => cases hp <;> cases hev
  | slr d1 v1 sz1 len1 g cap h1 h2 h3 =>
    injection hev with e1 e2 e3 e4
    subst e1; subst e2; subst e3; subst e4
    rw [hl] at h1
    injection h1 with h1
    subst h1
    exact .slr d (S.nx + i) sz _ g cap (muSet_same _ _ _ _) h2 h3
  | slv d1 v1 sz1 A h1 =>
    injection hev with e1 e2 e3 e4
    subst e1; subst e2; subst e3
    rw [hl] at h1
    injection h1 with h1
    subst h1
    rw [e4]
    exact .slv d (S.nx + i) sz A (muSet_same _ _ _ _)
  | _ => cases hev

/-- The model takes such a call. -/
theorem gen_callA {ops : List Oper} {i : Nat} {o : Oper} {f : Operand} {fid : FuncId} {fn : Func} {args : Array Operand} {ats : Array TypeId} {d v sz : Nat} {ty : TypeId} {es new vs : List V}
    (hc : ACA P fid vs sz ty es new) (hfl : (es ++ new).all flatE = true) (hfn : P.funcs[fid]? = some fn) (hb : fn.body.isSome = true) (hn : (fn.name == "runtime.NumGoroutine") = false)
    (hg : S.gv ops o = some true) (ho : o.op = .call { callee := .value f, args := args, argTypes := ats }) (hf : S.evc true f = some (.fn fid))
    (ha : S.args true args.toList = some (.sl d v sz es.length :: vs)) (hd : get S.objs d = some ⟨v, sz, ty, es⟩) (hs : ({ S with objs := (d, ⟨S.nx + i, sz, ty, es ++ new⟩) :: S.objs } : AS).putv o.dst (wrapG o true (.sl d (S.nx + i) sz (es ++ new).length)) = some S') : GenStep P w0 ops i o S S' := by
  intro N0 D a w hr hi hDb K Q' hK
  obtain ⟨μ, hr⟩ := hr
  rw [wanted_of hr hg, if_pos rfl]
  obtain ⟨h1, h2⟩ := args_spec hr rfl ha
  have hins : ∀ k o, get [(d, (⟨v, sz, ty, es⟩ : Ob))] k = some o → get S.objs k = some o := by
    intro k o hk
    simp only [get_cons, get] at hk
    split at hk
    · rename_i e; subst e; injection hk with hk; subst hk; exact hd
    · cases hk
  have hfresh := hr.fresh_lt hDb
  have hhand := hr.hand (nx := S.nx + ops.length + 1) hfresh (vs := .sl d v sz es.length :: vs) (xs := args.toList.map a.eval) (ins := [(d, ⟨v, sz, ty, es⟩)]) (by simp [h1]) hins (fun j x v hx hv => by
    simp only [List.getElem?_map, Option.map_eq_some_iff] at hx
    obtain ⟨y, hy, rfl⟩ := hx
    exact h2 j y v hy hv)
  have hcall := hc d v ⟨w, OwnB μ [(d, ⟨v, sz, ty, es⟩)], μ, []⟩ _ μ (S.nx + ops.length + 1) (args.toList.map a.eval) (by simp [h1]) rfl hhand
  refine call_run ho (fn_eval hr hf) hfn hb hn hcall ?_ ?_ ?_
  · rintro x w' (⟨x', r, outs', nx', μ', he, ⟨v', rfl, rfl⟩, hnx, hrel⟩ | ⟨ch, he, _⟩)
    · injection he with he
      subst he
      obtain ⟨μ'', hb1, hb2⟩ := hr.backA hi hd hfl hrel
      refine hK _ _ ⟨μ'', hb1.putv hs ?_⟩
      unfold wrapG
      split
      · exact hb2 _
      · exact .whn _ _ _ (fun _ => hb2 _) (fun hf => by cases hf)
    · cases he
  · rintro ch w' (⟨x', r, outs', nx', μ', he, _⟩ | ⟨ch', _, hE, _⟩)
    · cases he
    · exact hE.elim
  · rintro w' (⟨x', r, outs', nx', μ', he, _⟩ | ⟨ch', he, _⟩) <;> cases he

theorem awl_gen {ops : List Oper} {i : Nat} {o : Oper} {rest : List Oper} (hlt : i < ops.length) (hs : GenStep P w0 ops i o S S') (h : AWL P w0 N0 ops Q (i + 1) rest S') : AWL P w0 N0 ops Q i (o :: rest) S := by
  intro D a w hD hr
  have hi : ¬ D i := fun hd => absurd (hD i hd) (by omega)
  refine wpList_step fun K hK => hs N0 D a w hr hi (fun j hj => Nat.lt_trans (hD j hj) hlt) _ _ (fun a' w' hr' => hK _ _ (h _ a' w' (fun j hj => ?_) hr'))
  rcases hj with hj | hj
  · have := hD j hj; omega
  · omega

/-- A call that appends to a row of the call's own. -/
theorem awl_callA {ops : List Oper} {i : Nat} {o : Oper} {rest : List Oper} {f : Operand} {fid : FuncId} {fn : Func} {args : Array Operand} {ats : Array TypeId} {d v sz : Nat} {ty : TypeId} {es new vs : List V}
    (hc : ACA P fid vs sz ty es new) (hfl : (es ++ new).all flatE = true) (hfn : P.funcs[fid]? = some fn) (hb : fn.body.isSome = true) (hn : (fn.name == "runtime.NumGoroutine") = false)
    (hlt : i < ops.length) (hg : S.gv ops o = some true) (ho : o.op = .call { callee := .value f, args := args, argTypes := ats }) (hf : S.evc true f = some (.fn fid))
    (ha : S.args true args.toList = some (.sl d v sz es.length :: vs)) (hd : get S.objs d = some ⟨v, sz, ty, es⟩) (hs : ({ S with objs := (d, ⟨S.nx + i, sz, ty, es ++ new⟩) :: S.objs } : AS).putv o.dst (wrapG o true (.sl d (S.nx + i) sz (es ++ new).length)) = some S')
    (h : AWL P w0 N0 ops Q (i + 1) rest S') : AWL P w0 N0 ops Q i (o :: rest) S := awl_gen hlt (gen_callA hc hfl hfn hb hn hg ho hf ha hd hs) h

/-- The same in a region whose order is left open. -/
theorem sx_callA {X : List Nat} {ops : List Oper} {i : Nat} {o : Oper} {f : Operand} {fid : FuncId} {fn : Func} {args : Array Operand} {ats : Array TypeId} {d v sz : Nat} {ty : TypeId} {es new vs : List V}
    (hX : i ∈ X) (hc : ACA P fid vs sz ty es new) (hfl : (es ++ new).all flatE = true) (hfn : P.funcs[fid]? = some fn) (hb : fn.body.isSome = true) (hn : (fn.name == "runtime.NumGoroutine") = false)
    (hg : S.gv ops o = some true) (ho : o.op = .call { callee := .value f, args := args, argTypes := ats }) (hf : S.evc true f = some (.fn fid))
    (ha : S.args true args.toList = some (.sl d v sz es.length :: vs)) (hd : get S.objs d = some ⟨v, sz, ty, es⟩) (hs : ({ S with objs := (d, ⟨S.nx + i, sz, ty, es ++ new⟩) :: S.objs } : AS).putv o.dst (wrapG o true (.sl d (S.nx + i) sz (es ++ new).length)) = some S') : StepX P kb w0 X ops i o S S' := by
  obtain ⟨hs1, hs2⟩ := putv_ap hs
  refine .inr (.inr ⟨hX, _, [(d, ⟨S.nx + i, sz, ty, es ++ new⟩)], by rw [hs1]; rfl, fun T hT hob => ?_⟩)
  have hnx : S.nx = T.nx := hT.2.2
  refine gen_callA (S := T) (d := d) (v := v) hc hfl hfn hb hn (by rw [← hT.gv]; exact hg) ho (by rw [← hT.evc (by rw [ho]; simp [Op.operands, Call.operands])]; exact hf)
    (by rw [← args_congr (S := S) (T := T) (fun x hx => hT.evc (by rw [ho]; simp [Op.operands, Call.operands]; right; simpa using hx) true)]; exact ha) (by rw [← hob]; exact hd) ?_
  rw [ap_putv _ (fun q hq => by have := hs2 q hq; simp only at this ⊢; rw [← hT.2.1]; exact this), hnx]
  rfl

/-- A contract of this form from the body. -/
theorem aca_intro {f : FuncId} {fn : Func} {c : Code} {args : List V} {sz : Nat} {ty : TypeId} {es new : List V} (hf : P.funcs[f]? = some fn) (hb : fn.body = some c) (hl : args.length + 1 ≤ fn.ntmps)
    (h : ∀ d v w0 N0 nx, AW P w0 N0 c (EndsS P fn (fun r outs => ∃ v', r = .sl d v' sz (es ++ new).length ∧ outs = [(d, ⟨v', sz, ty, es ++ new⟩)]) (fun _ => False) nx) ⟨(0, .sl d v sz es.length) :: env0 1 args, [(d, ⟨v, sz, ty, es⟩)], nx, fn.ntmps⟩) : ACA P f args sz ty es new :=
  fun d v => acs_intro hf hb (by simpa using hl) (fun w0 N0 nx => h d v w0 N0 nx)

/-- Where such a function ends. -/
theorem endsA {fn : Func} {d v' sz nx : Nat} {ty : TypeId} {es' : List V} {E : List PanicEntry → Prop} (hnx : nx ≤ S.nx) (hr : aresT P S fn.results.toList = some (.sl d v' sz es'.length)) (ho : get S.objs d = some ⟨v', sz, ty, es'⟩) :
    EndsS P fn (fun r outs => ∃ v', r = .sl d v' sz es'.length ∧ outs = [(d, ⟨v', sz, ty, es'⟩)]) E nx .ret S := by
  refine ⟨hnx, _, [(d, ⟨v', sz, ty, es'⟩)], hr, fun k o hk => ?_, v', rfl, rfl⟩
  simp only [get_cons, get] at hk
  split at hk
  · rename_i e; subst e; injection hk with hk; subst hk; exact ho
  · cases hk
end
end Go.Eng

namespace Go.Eng
open Go.RowKit

section
variable {P : Program} {kb : Nat} {w0 : Bs} {N0 : Nat → Prop} {Q : Exit → AS → Prop} {X : List Nat} {ops : List Oper} {done : List Nat} {S S' : AS}

theorem at_forkP (l : List Nat) (hc : (Nat.blt done.length ops.length && Region.ready .any ops.toArray (lst ops done) == l && !l.isEmpty) = true) (h : ∀ i ∈ l, (∃ o S', ops[i]? = some o ∧ StepX P kb w0 X ops i o S S' ∧ AT P kb w0 X ops Q (i :: done) S') ∨ ∃ o, ops[i]? = some o ∧ PanStep P w0 ops i o Q S) : AT P kb w0 X ops Q done S := by
  simp only [Bool.and_eq_true, Nat.blt_eq, beq_iff_eq] at hc
  obtain ⟨⟨hlt, hm⟩, hne⟩ := hc
  unfold AT
  rw [show ops.length - done.length = (ops.length - (done.length + 1)) + 1 by omega]
  refine ⟨fun h0 => ?_, fun i hi => ?_⟩
  · rw [hm] at h0; subst h0; simp at hne
  · rw [hm] at hi
    rcases h i hi with ⟨o, S', h1, h2, h3⟩ | h4
    · exact .inl ⟨o, S', h1, h2, h3⟩
    · exact .inr h4

/-- Two steps one behind the other that meet in one state. -/
theorem aw_seqE {x y : Code} (st : AS) (h1 : AW P w0 N0 x (ethen (fun S' => S' = st) Q) S) (h2 : AW P w0 N0 y Q st) : AW P w0 N0 (.seq x y) Q S :=
  aw_seq (h1.mono fun e S' h => by
    cases e with
    | normal => simp only [ethen] at h ⊢; subst h; exact h2
    | _ => exact h)

/-- Where a function with objects handed in ends. -/
theorem endsS {fn : Func} {nx : Nat} {r0 : V} {outs0 : List (Nat × Ob)} {E : List PanicEntry → Prop} (hnx : nx ≤ S.nx) (hr : aresT P S fn.results.toList = some r0) (ho : ∀ k o, get outs0 k = some o → get S.objs k = some o) :
    EndsS P fn (fun r outs => r = r0 ∧ outs = outs0) E nx .ret S := ⟨hnx, r0, outs0, hr, ho, rfl, rfl⟩
theorem get_one {d k : Nat} {o q : Ob} {l : List (Nat × Ob)} (h : get l d = some q) (hk : get [(d, q)] k = some o) : get l k = some o := by
  simp only [get_cons, get] at hk
  split at hk
  · rename_i e; subst e; injection hk with hk; subst hk; exact h
  · cases hk

/-- A call that is handed one object and writes into it. -/
theorem awl_callS1 {ops : List Oper} {i : Nat} {o : Oper} {rest : List Oper} {f : Operand} {fid : FuncId} {fn : Func} {args : Array Operand} {ats : Array TypeId} {vs : List V} {ins outs : List (Nat × Ob)} {res : V}
    (hc : ACS P fid vs ins (fun r q => r = res ∧ q = outs) (fun _ => False)) (hfn : P.funcs[fid]? = some fn) (hb : fn.body.isSome = true) (hn : (fn.name == "runtime.NumGoroutine") = false) (hso : storeOnly ins outs = true) (hp : res.pureV = true)
    (hlt : i < ops.length) (hg : S.gv ops o = some true) (ho : o.op = .call { callee := .value f, args := args, argTypes := ats }) (hf : S.evc true f = some (.fn fid))
    (ha : S.args true args.toList = some vs) (hins : ∀ k q, get ins k = some q → get S.objs k = some q) (hs : ({ S with objs := outs ++ S.objs } : AS).putv o.dst (wrapG o true res) = some S')
    (h : AWL P w0 N0 ops Q (i + 1) rest S') : AWL P w0 N0 ops Q i (o :: rest) S := by
  have hx := sx_callS (kb := 0) (w0 := w0) (X := [i]) (ops := ops) (i := i) (by simp) hc hso hp hfn hb hn hg ho hf ha hins hs
  refine awl_gen hlt ?_ h
  intro N0 D a w hr hi hDb K Q' hK
  exact stepX_sound hr hi hDb hx hK

/-- A call that panics. -/
theorem awl_panS {ops : List Oper} {i : Nat} {o : Oper} {rest : List Oper} {f : Operand} {fid : FuncId} {fn : Func} {args : Array Operand} {ats : Array TypeId} {vs : List V} {ins : List (Nat × Ob)} {E : List PanicEntry → Prop}
    (hc : ACS P fid vs ins (fun _ _ => False) E) (hfn : P.funcs[fid]? = some fn) (hb : fn.body.isSome = true) (hn : (fn.name == "runtime.NumGoroutine") = false)
    (hg : S.gv ops o = some true) (ho : o.op = .call { callee := .value f, args := args, argTypes := ats }) (hf : S.evc true f = some (.fn fid))
    (ha : S.args true args.toList = some vs) (hins : ∀ k q, get ins k = some q → get S.objs k = some q) (hE : ∀ ch, E ch → Q (.panic ch) { S with objs := dropK (ins.map (·.1)) S.objs, nx := S.nx + i + 1 }) : AWL P w0 N0 ops Q i (o :: rest) S :=
  awl_callS hc hfn hb hn hg ho hf ha hins (fun _ _ _ hF _ => hF.elim) hE
end
end Go.Eng

namespace Go.Eng
open Go.RowKit

/-- The package variable at block b reads x. -/
def Glw (b : Nat) (x : Value) (w : World) : Prop := w.cell? ⟨b, 0, none⟩ = some x
structure Glb (b : Nat) (x : Value) (B : Bs) : Prop where
  cell : Glw b x B.w
  notX : ¬ B.X b
theorem Glw.lt {b : Nat} {x : Value} {w : World} (h : Glw b x w) : b < w.heap.size := by
  rcases Nat.lt_or_ge b w.heap.size with h' | h'
  · exact h'
  · simp [Glw, World.cell?, Array.getElem?_eq_none h'] at h
theorem Glb.at {b : Nat} {x : Value} {B : Bs} {w : World} (h : Glb b x B) (hb : B.Below w) : Glw b x w := by
  have h1 := h.cell
  unfold Glw World.cell? at h1 ⊢
  simp only at h1 ⊢
  rw [hb.block b h.cell.lt h.notX]
  exact h1

def ACG (b : Nat) (x : Value) (P : Program) (f : FuncId) (args : List V) (R : V → Prop) : Prop :=
  ∀ (w : World) (N : Nat → Prop) (xs : List Value), Glw b x w → (∀ b, N b → b < w.heap.size) → xs.length = args.length → (∀ (i : Nat) x v, xs[i]? = some x → args[i]? = some v → Pur w N x v) →
    Calls P f xs.toArray w (fun e w' => ∃ x r, e = .returned x ∧ R r ∧ Pur w' N x r ∧ Below w.heap.size w w')
theorem ACG.mono {b : Nat} {y : Value} {P : Program} {f : FuncId} {args : List V} {R R' : V → Prop} (h : ACG b y P f args R) (hr : ∀ r, R r → R' r) : ACG b y P f args R' :=
  fun w N xs h0 h1 h2 h3 => (h w N xs h0 h1 h2 h3).mono fun _ _ ⟨x, r, he, hR, hp, hb⟩ => ⟨x, r, he, hr r hR, hp, hb⟩
theorem ACG.relax {b : Nat} {y : Value} {P : Program} {f : FuncId} {args : List V} {v v' : V} (h : ACG b y P f args (fun r => r = v)) (hr : Relax v v') : ACG b y P f args (fun r => r = v') :=
  fun w N xs h0 h1 h2 h3 => (h w N xs h0 h1 h2 h3).mono fun _ _ ⟨x, _, he, hR, hp, hb⟩ => ⟨x, v', he, rfl, hr.1 _ _ _ (hR ▸ hp), hb⟩
theorem ACG.relaxP {b : Nat} {y : Value} {P : Program} {f : FuncId} {args : List V} {v' : V} (h : ACG b y P f args (fun r => Relax r v')) : ACG b y P f args (fun r => r = v') :=
  fun w N xs h0 h1 h2 h3 => (h w N xs h0 h1 h2 h3).mono fun _ _ ⟨x, _, he, hR, hp, hb⟩ => ⟨x, v', he, rfl, hR.1 _ _ _ hp, hb⟩
theorem ACG.argsR {b : Nat} {y : Value} {P : Program} {f : FuncId} {args args' : List V} {R : V → Prop} (h : ACG b y P f args' R) (hr : RelaxL args args') : ACG b y P f args R :=
  fun w N xs h0 h1 h2 h3 => h w N xs h0 h1 (by rw [h2, hr.length]) (fun i x v hx hv => by
    obtain ⟨u, h4, h5⟩ := hr.get i v hv
    exact h5.1 _ _ _ (h3 i x u hx h4))

section
variable {P : Program} {w0 : Bs} {N0 : Nat → Prop} {Q : Exit → AS → Prop} {S S' : AS} {b : Nat} {y : Value}

theorem acg_intro {f : FuncId} {fn : Func} {c : Code} {args : List V} {R : V → Prop} (hf : P.funcs[f]? = some fn) (hb : fn.body = some c) (hl : args.length ≤ fn.ntmps)
    (h : ∀ w0 N0, Glb b y w0 → AW P w0 N0 c (Ends P fn R) ⟨env0 0 args, [], 0, fn.ntmps⟩) : ACG b y P f args R := by
  intro w N xs hG hN hlen hp
  refine calls_of_wp hf hb (wp_mono (h ⟨w, fun _ => False, fun _ _ => none, []⟩ N ⟨hG, fun h => h⟩ _ w ⟨fun _ _ => none, ⟨rfl, ?_, Bs.Below.refl _, ⟨fun b hb => ⟨hN b hb, fun h => h⟩, fun _ _ _ h => by cases h⟩, fun d v hv => absurd rfl hv, fun d o hd => ?_, fun d o _ _ _ _ _ hd => ?_, fun t v hv => ?_⟩⟩) ?_)
  · simp only [Array.size_append, List.size_toArray, Array.size_replicate]; omega
  · simp [get] at hd
  · simp [get] at hd
  · obtain ⟨_, h2⟩ := get_env0 hv
    simp only [Nat.sub_zero] at h2
    have ht : t < args.length := (List.getElem?_eq_some_iff.1 h2).1
    refine ⟨by simp only; omega, .pur ?_⟩
    have hx : xs[t]? = some xs[t] := List.getElem?_eq_getElem (by omega)
    have := hp t xs[t] v hx h2
    have hget : (xs.toArray ++ Array.replicate (fn.ntmps - xs.toArray.size) undef).getD t undef = xs[t] := by
      rw [Array.getD_eq_getD_getElem?, Array.getElem?_append_left (by simp; omega)]
      simp [hx]
    rw [hget]
    exact this.keep (Keeps.refl _ _) (fun b hb ho => by
      rcases ho with h0 | ⟨d, o, c, h1, _⟩
      · exact h0
      · simp [get] at h1)
  · rintro e a' w' ⟨S', hE, ⟨μ, hr⟩⟩
    have key : (match aresults P S' fn.results.toList with | some r => R r | none => False) → ∃ v, (results fn a'.tmps).run P w' = .ok v w' ∧ ∃ x r, Ending.returned v = .returned x ∧ R r ∧ Pur w' N x r ∧ Below w.heap.size w w' := by
      intro hk
      split at hk
      · rename_i r hres
        obtain ⟨x, hx, hpx⟩ := aresults_run hr hres
        exact ⟨x, hx, x, r, rfl, hk, hpx, hr.below.plain⟩
      · exact hk.elim
    cases e with
    | ret => exact ⟨hr.defers, key hE⟩
    | normal => exact ⟨hr.defers, key hE⟩
    | _ => exact hE.elim

theorem awl_callG {ops : List Oper} {i : Nat} {o : Oper} {rest : List Oper} {f : Operand} {fid : FuncId} {fn : Func} {args : Array Operand} {ats : Array TypeId} {vs : List V} {R : V → Prop}
    (hG : Glb b y w0) (hc : ACG b y P fid vs R) (hfn : P.funcs[fid]? = some fn) (hb : fn.body.isSome = true) (hn : (fn.name == "runtime.NumGoroutine") = false) (hg : o.guard = none) (ho : o.op = .call { callee := .value f, args := args, argTypes := ats }) (hf : S.evc true f = some (.fn fid))
    (ha : S.args true args.toList = some vs) (hp : vs.all V.pureV = true) (h : ∀ r, R r → ∃ S', S.putv o.dst r = some S' ∧ AWL P w0 N0 ops Q (i + 1) rest S') : AWL P w0 N0 ops Q i (o :: rest) S := by
  rintro D a w hD ⟨μ, hr⟩
  refine wpList_plain hg fun K hK => ?_
  have hfv := hr.evc hf rfl
  have hfe : a.eval f = .func (.func fid) #[] #[] := by
    generalize a.eval f = y at hfv
    cases hfv with
    | pur hfv => cases hfv with
      | fn => rfl
  obtain ⟨h1, h2⟩ := args_spec hr rfl ha
  unfold Oper.wp
  rw [run_call_fn ho hfe hfn hb hn]
  have hcall := hc w (Own N0 μ S) (args.toList.map a.eval) (hG.at hr.below) hr.own_lt (by simp [h1]) (fun j x v hx hv => by
    simp only [List.getElem?_map, Option.map_eq_some_iff] at hx
    obtain ⟨y, hy, rfl⟩ := hx
    exact (h2 j y v hy hv).pureV (List.all_eq_true.1 hp v (List.mem_of_getElem? hv)))
  have harr : (args.toList.map a.eval).toArray = args.map a.eval := by apply Array.ext'; simp
  rw [harr] at hcall
  refine hcall.mono ?_
  rintro e w' ⟨x, r, rfl, hR, hpx, hbw⟩
  obtain ⟨S', hs, hrest⟩ := h r hR
  exact hK _ _ (hrest D _ w' (fun j hj => Nat.lt_succ_of_lt (hD j hj)) ⟨μ, (hr.later hbw).putv hs (.pur hpx)⟩)
theorem awl_call1G {ops : List Oper} {i : Nat} {o : Oper} {rest : List Oper} {f : Operand} {fid : FuncId} {fn : Func} {args : Array Operand} {ats : Array TypeId} {vs : List V} {res : V}
    (hG : Glb b y w0) (hc : ACG b y P fid vs (fun r => r = res)) (hfn : P.funcs[fid]? = some fn) (hb : fn.body.isSome = true) (hn : (fn.name == "runtime.NumGoroutine") = false)
    (hg : o.guard = none) (ho : o.op = .call { callee := .value f, args := args, argTypes := ats }) (hf : S.evc true f = some (.fn fid))
    (ha : S.args true args.toList = some vs) (hp : vs.all V.pureV = true) (hs : S.putv o.dst res = some S') (h : AWL P w0 N0 ops Q (i + 1) rest S') : AWL P w0 N0 ops Q i (o :: rest) S :=
  awl_callG hG hc hfn hb hn hg ho hf ha hp (fun r hr => by subst hr; exact ⟨S', hs, h⟩)

/-- A contract with objects handed in, of a function that reads the variable. -/
def ACSG (b : Nat) (y : Value) (P : Program) (f : FuncId) (args : List V) (ins : List (Nat × Ob)) (R : V → List (Nat × Ob) → Prop) : Prop :=
  ∀ (B : Bs) (N : Nat → Prop) (μ : Mu) (nx : Nat) (xs : List Value), Glb b y B → xs.length = args.length → B.df = [] →
    RelM (fun _ => False) B N μ ⟨env0 0 args, ins, nx, args.length⟩ ⟨xs.toArray, []⟩ B.w →
    Calls P f xs.toArray B.w (fun e w' => ∃ x r outs nx' μ', e = .returned x ∧ R r outs ∧ nx ≤ nx' ∧ RelM (fun _ => False) B N μ' ⟨[(0, r)], outs, nx', 1⟩ ⟨#[x], []⟩ w')

theorem awl_callSG {ops : List Oper} {i : Nat} {o : Oper} {rest : List Oper} {f : Operand} {fid : FuncId} {fn : Func} {args : Array Operand} {ats : Array TypeId} {vs : List V} {ins : List (Nat × Ob)} {R : V → List (Nat × Ob) → Prop}
    (hG : Glb b y w0) (hc : ACSG b y P fid vs ins R) (hfn : P.funcs[fid]? = some fn) (hb : fn.body.isSome = true) (hn : (fn.name == "runtime.NumGoroutine") = false)
    (hg : S.gv ops o = some true) (ho : o.op = .call { callee := .value f, args := args, argTypes := ats }) (hf : S.evc true f = some (.fn fid))
    (ha : S.args true args.toList = some vs) (hins : ∀ k q, get ins k = some q → get S.objs k = some q)
    (h : ∀ r outs nx, R r outs → S.nx + i + 1 ≤ nx → (∀ k, get outs k = none → get ins k = none) ∧ ∃ S', ({ S with objs := outs ++ S.objs, nx := nx } : AS).putv o.dst (wrapG o true r) = some S' ∧ AWL P w0 N0 ops Q (i + 1) rest S') : AWL P w0 N0 ops Q i (o :: rest) S := by
  rintro D a w hD ⟨μ, hr⟩
  refine wpList_step fun K hK => ?_
  rw [wanted_of hr hg, if_pos rfl]
  have hfresh := hr.fresh_lt hD
  obtain ⟨h1, h2⟩ := args_spec hr rfl ha
  have hhand := hr.hand (nx := S.nx + i + 1) hfresh (vs := vs) (xs := args.toList.map a.eval) (ins := ins) (by simp [h1]) hins (fun j x v hx hv => by
    simp only [List.getElem?_map, Option.map_eq_some_iff] at hx
    obtain ⟨y, hy, rfl⟩ := hx
    exact h2 j y v hy hv)
  have hGB : Glb b y ⟨w, OwnB μ ins, μ, []⟩ := ⟨hG.at hr.below, by
    rintro ⟨d, q, c, h3, h4⟩
    obtain ⟨l, hl, hob⟩ := hr.objs d q (hins _ _ h3)
    rw [h4] at hl
    injection hl with hl
    subst hl
    rcases hob.1 with h5 | h5
    · exact absurd hG.cell.lt (by omega)
    · exact hG.notX h5⟩
  have hcall := hc ⟨w, OwnB μ ins, μ, []⟩ _ μ (S.nx + i + 1) (args.toList.map a.eval) hGB (by simp [h1]) rfl hhand
  refine call_run ho (fn_eval hr hf) hfn hb hn hcall ?_ ?_ ?_
  · rintro x w' ⟨x', r, outs, nx', μ', he, hR, hnx, hrel⟩
    injection he with he
    subst he
    obtain ⟨hcov, S', hs, hrest⟩ := h r outs nx' hR hnx
    obtain ⟨hb1, hb2⟩ := hr.back hins hcov hrel
    refine hK _ _ (hrest (fun _ => False) _ w' (fun j hj => hj.elim) ⟨μ', hb1.putv hs ?_⟩)
    unfold wrapG
    split
    · exact hb2
    · exact .whn _ _ _ (fun _ => hb2) (fun hf => by cases hf)
  · rintro ch w' ⟨x', r, outs, nx', μ', he, _⟩
    cases he
  · rintro w' ⟨x', r, outs, nx', μ', he, _⟩
    cases he
end
end Go.Eng

namespace Go.Eng
open Go.RowKit Go.ChangeShapes Go.WideShapes Go.ChangeAt
theorem row_contractLG {H : Type} {enc : TypeId × Value → H} {P : Program} {f : FuncId} {fn : Func} {s : ChangeSpec} {L : List TypeId} {tb : TypeId} {ts : List TypeId} (hts : fn.params.toList = ts) (hL : okL P L = true) (hok : (ts.all fun t => L.contains t && P.readableRec t && decide (t < P.types.size)) = true) (hlaid : laidOutB P = true) (hres : fn.resultTypes = #[tb]) (htb : P.underlying tb = some .bool)
    (hvars : s.vars = []) (hs : ∀ ds : List (DataW H), ds.length = ts.length → s.fn H ds = { results := [.lit (.bool true)], args := ds }) {b : Nat} {y : Value} (hc : ∀ vs, RdAllW P ts vs → ACG b y P f vs (fun r => r = .bool true))
    {W : World} {base : Nat} {args : Array Value} {ds gs : List (DataW H)} {before : List MemPlace}
    (hG : Glw b y W) (hval : ∀ (j : Nat) t v, fn.params[j]? = some t → args[j]? = some v → Value.okWide P W .any base t v) (hW : DataW.Whole enc P fn.params.toList s.vars false W args.toList ds gs before) :
    Calls P f args W fun e W' => ∃ v, e = .returned v ∧ s.post enc P fn false true false false W args v W' := by
  have hW' := hW
  obtain ⟨p, q, hA, hV, rfl, hfz, hnd⟩ := hW
  rw [hvars] at hV
  obtain ⟨rfl, rfl⟩ := trodVars_none hV
  have hdl : ds.length = ts.length := by
    have : ∀ (ts : List TypeId) (vs : List Value) (ds : List (DataW H)) (ps : List MemPlace), DataW.TrodAll enc P W 0 (fun _ => true) true ts vs ds ps → ds.length = ts.length := by
      intro ts
      induction ts with
      | nil => intro vs ds ps h; obtain ⟨_, rfl, _⟩ := trodAll_nil h; rfl
      | cons t ts ih => intro vs ds ps h; obtain ⟨v, vs', d, ds', p, q, rfl, rfl, rfl, _, h2⟩ := trodAll_cons h; simp [ih _ _ _ h2]
    rw [← hts]; exact this _ _ _ _ hA
  have hall : ∀ t ∈ ts, t ∈ L ∧ P.readableRec t = true ∧ t < P.types.size := by
    intro t ht
    have := List.all_eq_true.1 hok t ht
    simp only [Bool.and_eq_true, decide_eq_true_eq] at this
    exact ⟨by simpa using this.1.1, this.1.2, this.2⟩
  obtain ⟨us, h1, h2⟩ := args_purL (L := L) hL (ts := ts) (fun t ht => (hall t ht).1) (fun j t v ht hv => hval j t v (by rw [← hts] at ht; simpa using ht) (by simpa using hv)) (hts ▸ hA)
  have hcall := hc us h1 W (fun _ => False) args.toList hG (fun _ hb => hb.elim) h2.1 h2.2
  rw [show args.toList.toArray = args by simp] at hcall
  refine hcall.mono ?_
  rintro e W1 ⟨x, r, rfl, rfl, hp, hb⟩
  obtain rfl : x = .bool true := by cases hp; rfl
  refine ⟨_, rfl, ds, [], p ++ [], [], p, [], hW', ?_, ?_, ?_, hb.frame _, fun h => by cases h⟩
  · rw [List.append_nil, hs ds hdl, hres]
    exact trodAll_mk1 (shut_bool htb true)
  · rw [List.append_nil, hs ds hdl]
    exact trodAll_below hlaid hb (fun t ht => (hall t (hts ▸ ht)).2) hA
  · rw [List.append_nil, hs ds hdl, hvars]
    exact rfl

end Go.Eng

namespace Go.Eng
open Go.RowKit

theorem ACA.nil {P : Program} {f : FuncId} {args : List V} {sz : Nat} {ty : TypeId} {new : List V} (hc : ACA P f args sz ty [] new) (hfl : new.all flatE = true) :
    ACO P f (.nils :: args) sz ty (fun F es' => (F = fun d q => .sl d q sz new.length) ∧ es' = new) := by
  intro w N xs hN hlen hp
  have hbase : RelM (fun _ => False) ⟨w, fun _ => False, fun _ _ => none, []⟩ N (fun _ _ => none) ⟨env0 0 (.nils :: args), [], 0, args.length + 1⟩ ⟨xs.toArray, []⟩ w := by
    refine ⟨rfl, by simpa using hlen, Bs.Below.refl _, ⟨fun b hb => ⟨hN b hb, fun h => h⟩, fun _ _ _ h => by cases h⟩, fun d v hv => absurd rfl hv, fun d o hd => by simp [get] at hd, fun d o _ _ _ _ _ hd => by simp [get] at hd, fun t v hv => ?_⟩
    obtain ⟨_, h2⟩ := get_env0 hv
    simp only [Nat.sub_zero] at h2
    have ht : t < (V.nils :: args).length := (List.getElem?_eq_some_iff.1 h2).1
    simp only [List.length_cons] at ht hlen
    refine ⟨by simp only; omega, .pur ?_⟩
    have hx : xs[t]? = some xs[t] := List.getElem?_eq_getElem (by omega)
    have := hp t xs[t] v hx h2
    have hget : xs.toArray.getD t undef = xs[t] := by
      rw [Array.getD_eq_getD_getElem?]; simp [hx]
    rw [hget]
    exact this.keep (Keeps.refl _ _) (fun b hb ho => by
      rcases ho with h0 | ⟨d, o, c, h1, _⟩
      · exact h0
      · simp [get] at h1)
  obtain ⟨μ, hr⟩ := le_adoptS (S := ⟨env0 0 (.nils :: args), [], 0, args.length + 1⟩) (t := 0) (d := 0) (sz := sz) (ty := ty) (by simp [env0, get]) _ _ _ _ ⟨_, hbase⟩
  have hr2 : RelM (fun _ => False) ⟨w, fun _ => False, fun _ _ => none, []⟩ N μ ⟨env0 0 (.sl 0 0 sz ([] : List V).length :: args), [(0, ⟨0, sz, ty, []⟩)], 1, (V.sl 0 0 sz ([] : List V).length :: args).length⟩ ⟨xs.toArray, []⟩ w := by
    refine ⟨hr.defers, hr.size, hr.below, hr.n0, hr.fresh, hr.objs, hr.inj, fun t v hv => hr.env t v ?_⟩
    simp only [AS.adoptS, env0, get_cons] at hv ⊢
    split at hv
    · rename_i e; rw [if_pos e]; exact hv
    · rename_i e; rw [if_neg e, if_neg e]; exact hv
  refine (hc 0 0 ⟨w, fun _ => False, fun _ _ => none, []⟩ N μ 1 xs (by simpa using hlen) rfl hr2).mono ?_
  rintro e w' (⟨x, r, outs, nx', μ', rfl, ⟨v', rfl, rfl⟩, hnx, hrel⟩ | ⟨ch, _, hE, _⟩)
  · simp only [List.nil_append] at hrel
    obtain ⟨l, hl, hob⟩ := hrel.objs 0 ⟨v', sz, ty, new⟩ (by simp [get])
    simp only at hl
    refine ⟨x, _, new, l, rfl, ⟨rfl, rfl⟩, hrel.below.plain, fun d v μ' N' hμ => ⟨?_, ?_⟩⟩
    · have hx' := (hrel.env 0 _ (by simp [get]; rfl)).2
      have hx0 : (#[x] : Array Value).getD 0 undef = x := by simp
      rw [hx0] at hx'
      generalize hev : V.sl 0 v' sz new.length = sv at hx'
      cases hx' with
      | pur hp => cases hp <;> cases hev
      | slr d1 v1 sz1 len1 g cap h1 h2 h3 =>
        injection hev with e1 e2 e3 e4
        subst e1; subst e2; subst e3; subst e4
        rw [hl] at h1
        injection h1 with h1
        subst h1
        exact .slr d v sz _ g cap hμ h2 h3
      | slv d1 v1 sz1 A h1 =>
        injection hev with e1 e2 e3 e4
        subst e1; subst e2; subst e3
        rw [hl] at h1
        injection h1 with h1
        subst h1
        rw [e4]
        exact .slv d v sz A hμ
      | _ => cases hev
    · cases l with
      | none => exact hob
      | some gc =>
        obtain ⟨h1, h2, h3, h4, arr, h5, h6, h7⟩ := hob
        refine ⟨h1, h2, h3, h4, arr, h5, h6, fun k e j c he' hj => ?_⟩
        obtain ⟨y, hy, hey⟩ := h7 k e j c he' hj
        have hfc : c.flat = true := List.all_eq_true.1 (List.all_eq_true.1 hfl e (List.mem_of_getElem? he')) c (List.mem_of_getElem? hj)
        exact ⟨y, hy, .pur ((hey.flatP hfc).of_flat hfc)⟩
  · exact hE.elim
end Go.Eng

namespace Go.Eng
open Go.RowKit

/-- What is known of package variables: it stands while their blocks stand. -/
structure Gp where
  P : World → Prop
  bl : Nat → Prop
  stable : ∀ w w', P w → (∀ b, bl b → w'.heap[b]? = w.heap[b]?) → P w'
  low : ∀ w, P w → ∀ b, bl b → b < w.heap.size
structure Gon (G : Gp) (B : Bs) : Prop where
  here : G.P B.w
  notX : ∀ b, G.bl b → ¬ B.X b
theorem Gon.at {G : Gp} {B : Bs} {w : World} (h : Gon G B) (hb : B.Below w) : G.P w :=
  G.stable _ _ h.here (fun b hbl => hb.block b (G.low _ h.here b hbl) (h.notX b hbl))

def ACQ (G : Gp) (P : Program) (f : FuncId) (args : List V) (R : V → Prop) : Prop :=
  ∀ (w : World) (N : Nat → Prop) (xs : List Value), G.P w → (∀ b, N b → b < w.heap.size) → xs.length = args.length → (∀ (i : Nat) x v, xs[i]? = some x → args[i]? = some v → Pur w N x v) →
    Calls P f xs.toArray w (fun e w' => ∃ x r, e = .returned x ∧ R r ∧ Pur w' N x r ∧ Below w.heap.size w w')
theorem AC.q {P : Program} {f : FuncId} {args : List V} {R : V → Prop} (h : AC P f args R) (G : Gp) : ACQ G P f args R := fun w N xs _ h1 h2 h3 => h w N xs h1 h2 h3
theorem ACQ.mono {G : Gp} {P : Program} {f : FuncId} {args : List V} {R R' : V → Prop} (h : ACQ G P f args R) (hr : ∀ r, R r → R' r) : ACQ G P f args R' :=
  fun w N xs h0 h1 h2 h3 => (h w N xs h0 h1 h2 h3).mono fun _ _ ⟨x, r, he, hR, hp, hb⟩ => ⟨x, r, he, hr r hR, hp, hb⟩
theorem ACQ.relaxP {G : Gp} {P : Program} {f : FuncId} {args : List V} {v' : V} (h : ACQ G P f args (fun r => Relax r v')) : ACQ G P f args (fun r => r = v') :=
  fun w N xs h0 h1 h2 h3 => (h w N xs h0 h1 h2 h3).mono fun _ _ ⟨x, _, he, hR, hp, hb⟩ => ⟨x, v', he, rfl, hR.1 _ _ _ hp, hb⟩
theorem ACQ.argsR {G : Gp} {P : Program} {f : FuncId} {args args' : List V} {R : V → Prop} (h : ACQ G P f args' R) (hr : RelaxL args args') : ACQ G P f args R :=
  fun w N xs h0 h1 h2 h3 => h w N xs h0 h1 (by rw [h2, hr.length]) (fun i x v hx hv => by
    obtain ⟨u, h4, h5⟩ := hr.get i v hv
    exact h5.1 _ _ _ (h3 i x u hx h4))
theorem acq_lenR {G : Gp} {P : Program} {f : FuncId} {args : List V} {R : V → Prop} (i : Nat) {sz : Nat} {es : List V} (h : args[i]? = some (.ro sz es)) (k : es.length ≤ maxLen → ACQ G P f args R) : ACQ G P f args R := by
  intro w N xs hG hN hl hp
  have hi : i < args.length := (List.getElem?_eq_some_iff.1 h).1
  have hx : xs[i]? = some xs[i] := List.getElem?_eq_getElem (by omega)
  exact k (hp i _ _ hx h).ro_len w N xs hG hN hl hp

section
variable {P : Program} {kb : Nat} {w0 : Bs} {N0 : Nat → Prop} {Q : Exit → AS → Prop} {S S' : AS} {G : Gp}

theorem acq_intro {f : FuncId} {fn : Func} {c : Code} {args : List V} {R : V → Prop} (hf : P.funcs[f]? = some fn) (hb : fn.body = some c) (hl : args.length ≤ fn.ntmps)
    (h : ∀ w0 N0, Gon G w0 → AW P w0 N0 c (Ends P fn R) ⟨env0 0 args, [], 0, fn.ntmps⟩) : ACQ G P f args R := by
  intro w N xs hG hN hlen hp
  refine calls_of_wp hf hb (wp_mono (h ⟨w, fun _ => False, fun _ _ => none, []⟩ N ⟨hG, fun _ _ h => h⟩ _ w ⟨fun _ _ => none, ⟨rfl, ?_, Bs.Below.refl _, ⟨fun b hb => ⟨hN b hb, fun h => h⟩, fun _ _ _ h => by cases h⟩, fun d v hv => absurd rfl hv, fun d o hd => ?_, fun d o _ _ _ _ _ hd => ?_, fun t v hv => ?_⟩⟩) ?_)
  · simp only [Array.size_append, List.size_toArray, Array.size_replicate]; omega
  · simp [get] at hd
  · simp [get] at hd
  · obtain ⟨_, h2⟩ := get_env0 hv
    simp only [Nat.sub_zero] at h2
    have ht : t < args.length := (List.getElem?_eq_some_iff.1 h2).1
    refine ⟨by simp only; omega, .pur ?_⟩
    have hx : xs[t]? = some xs[t] := List.getElem?_eq_getElem (by omega)
    have := hp t xs[t] v hx h2
    have hget : (xs.toArray ++ Array.replicate (fn.ntmps - xs.toArray.size) undef).getD t undef = xs[t] := by
      rw [Array.getD_eq_getD_getElem?, Array.getElem?_append_left (by simp; omega)]
      simp [hx]
    rw [hget]
    exact this.keep (Keeps.refl _ _) (fun b hb ho => by
      rcases ho with h0 | ⟨d, o, c, h1, _⟩
      · exact h0
      · simp [get] at h1)
  · rintro e a' w' ⟨S', hE, ⟨μ, hr⟩⟩
    have key : (match aresults P S' fn.results.toList with | some r => R r | none => False) → ∃ v, (results fn a'.tmps).run P w' = .ok v w' ∧ ∃ x r, Ending.returned v = .returned x ∧ R r ∧ Pur w' N x r ∧ Below w.heap.size w w' := by
      intro hk
      split at hk
      · rename_i r hres
        obtain ⟨x, hx, hpx⟩ := aresults_run hr hres
        exact ⟨x, hx, x, r, rfl, hk, hpx, hr.below.plain⟩
      · exact hk.elim
    cases e with
    | ret => exact ⟨hr.defers, key hE⟩
    | normal => exact ⟨hr.defers, key hE⟩
    | _ => exact hE.elim

/-- The model takes a call on pure values of a function that relies on package variables. -/
theorem opq_callQ {ops : List Oper} {i : Nat} {o : Oper} {f : Operand} {fid : FuncId} {fn : Func} {args : Array Operand} {ats : Array TypeId} {vs : List V} {res : V}
    (hG : Gon G w0) (hc : ACQ G P fid vs (fun r => r = res)) (hfn : P.funcs[fid]? = some fn) (hb : fn.body.isSome = true) (hn : (fn.name == "runtime.NumGoroutine") = false)
    (hg : S.gv ops o = some true) (ho : o.op = .call { callee := .value f, args := args, argTypes := ats }) (hf : S.evc true f = some (.fn fid))
    (ha : S.args true args.toList = some vs) (hp : vs.all V.pureV = true) (hs : S.putv o.dst (wrapG o true res) = some S') : OpqStep P w0 ops i o S S' := by
  obtain ⟨hs1, hs2⟩ := putv_ap hs
  refine ⟨wrapG o true res, [], hs1, fun T hT hob N0 D a w hr hi hDb K Q' hK => ?_⟩
  replace hg : T.gv ops o = some true := by rw [← hT.gv]; exact hg
  replace hf : T.evc true f = some (.fn fid) := by rw [← hT.evc (by rw [ho]; simp [Op.operands, Call.operands])]; exact hf
  replace ha : T.args true args.toList = some vs := by rw [← args_congr (S := S) (T := T) (fun x hx => hT.evc (by rw [ho]; simp [Op.operands, Call.operands]; right; simpa using hx) true)]; exact ha
  have hs := ap_putv (S := T) (wrapG o true res) (fun d hd => by rw [← hT.2.1]; exact hs2 d hd)
  obtain ⟨μ, hr⟩ := hr
  rw [wanted_of hr hg, if_pos rfl]
  obtain ⟨h1, h2⟩ := args_spec hr rfl ha
  unfold Oper.wp
  rw [run_call_fn ho (fn_eval hr hf) hfn hb hn]
  have hcall := hc w (Own N0 μ T) (args.toList.map a.eval) (hG.at hr.below) hr.own_lt (by simp [h1]) (fun j x v hx hv => by
    simp only [List.getElem?_map, Option.map_eq_some_iff] at hx
    obtain ⟨y, hy, rfl⟩ := hx
    exact (h2 j y v hy hv).pureV (List.all_eq_true.1 hp v (List.mem_of_getElem? hv)))
  have harr : (args.toList.map a.eval).toArray = args.map a.eval := by apply Array.ext'; simp
  rw [harr] at hcall
  refine hcall.mono ?_
  rintro e w' ⟨x, r, rfl, rfl, hpx, hbw⟩
  refine hK _ _ ⟨μ, ((hr.later hbw).putv hs ?_).more (fun j hj => .inl hj)⟩
  unfold wrapG
  split
  · exact .pur hpx
  · exact .whn _ _ _ (fun _ => .pur hpx) (fun hf => by cases hf)
theorem OpqStep.gen {ops : List Oper} {i : Nat} {o : Oper} (h : OpqStep P w0 ops i o S S') : GenStep P w0 ops i o S S' := by
  obtain ⟨u, O, rfl, h⟩ := h
  exact h S ⟨fun _ _ => rfl, rfl, rfl⟩ (fun _ => rfl)
theorem awl_callQ {ops : List Oper} {i : Nat} {o : Oper} {rest : List Oper} {f : Operand} {fid : FuncId} {fn : Func} {args : Array Operand} {ats : Array TypeId} {vs : List V} {res : V}
    (hG : Gon G w0) (hc : ACQ G P fid vs (fun r => r = res)) (hfn : P.funcs[fid]? = some fn) (hb : fn.body.isSome = true) (hn : (fn.name == "runtime.NumGoroutine") = false)
    (hlt : i < ops.length) (hg : S.gv ops o = some true) (ho : o.op = .call { callee := .value f, args := args, argTypes := ats }) (hf : S.evc true f = some (.fn fid))
    (ha : S.args true args.toList = some vs) (hp : vs.all V.pureV = true) (hs : S.putv o.dst (wrapG o true res) = some S') (h : AWL P w0 N0 ops Q (i + 1) rest S') : AWL P w0 N0 ops Q i (o :: rest) S :=
  awl_gen hlt (opq_callQ hG hc hfn hb hn hg ho hf ha hp hs).gen h
theorem sx_callQ {X : List Nat} {ops : List Oper} {i : Nat} {o : Oper} {f : Operand} {fid : FuncId} {fn : Func} {args : Array Operand} {ats : Array TypeId} {vs : List V} {res : V}
    (hX : i ∈ X) (hG : Gon G w0) (hc : ACQ G P fid vs (fun r => r = res)) (hfn : P.funcs[fid]? = some fn) (hb : fn.body.isSome = true) (hn : (fn.name == "runtime.NumGoroutine") = false)
    (hg : S.gv ops o = some true) (ho : o.op = .call { callee := .value f, args := args, argTypes := ats }) (hf : S.evc true f = some (.fn fid))
    (ha : S.args true args.toList = some vs) (hp : vs.all V.pureV = true) (hs : S.putv o.dst (wrapG o true res) = some S') : StepX P kb w0 X ops i o S S' :=
  .inr (.inr ⟨hX, opq_callQ hG hc hfn hb hn hg ho hf ha hp hs⟩)

/-- The contract with objects handed in, of a function that relies on package variables. -/
def ACSQ (G : Gp) (P : Program) (f : FuncId) (args : List V) (ins : List (Nat × Ob)) (R : V → List (Nat × Ob) → Prop) : Prop :=
  ∀ (B : Bs) (N : Nat → Prop) (μ : Mu) (nx : Nat) (xs : List Value), Gon G B → xs.length = args.length → B.df = [] →
    RelM (fun _ => False) B N μ ⟨env0 0 args, ins, nx, args.length⟩ ⟨xs.toArray, []⟩ B.w →
    Calls P f xs.toArray B.w (fun e w' => ∃ x r outs nx' μ', e = .returned x ∧ R r outs ∧ nx ≤ nx' ∧ RelM (fun _ => False) B N μ' ⟨[(0, r)], outs, nx', 1⟩ ⟨#[x], []⟩ w')
theorem ACS.q {f : FuncId} {args : List V} {ins : List (Nat × Ob)} {R : V → List (Nat × Ob) → Prop} (h : ACS P f args ins R (fun _ => False)) (G : Gp) : ACSQ G P f args ins R :=
  fun B N μ nx xs _ h1 h2 h3 => (h B N μ nx xs h1 h2 h3).mono fun _ _ hh => hh.elim id (fun ⟨_, _, h, _⟩ => h.elim)
theorem ACSQ.mono {f : FuncId} {args : List V} {ins : List (Nat × Ob)} {R R' : V → List (Nat × Ob) → Prop} (h : ACSQ G P f args ins R) (hR : ∀ r o, R r o → R' r o) : ACSQ G P f args ins R' :=
  fun B N μ nx xs h0 h1 h2 h3 => (h B N μ nx xs h0 h1 h2 h3).mono fun _ _ ⟨x, r, outs, nx', μ', a, b, c⟩ => ⟨x, r, outs, nx', μ', a, hR _ _ b, c⟩
/-- What is handed in leaves package variables alone. -/
theorem Gon.hand {D : Nat → Prop} {μ : Mu} {a : Act} {w : World} (hG : Gon G w0) (hr : RelM D w0 N0 μ S a w) {ins : List (Nat × Ob)} (hins : ∀ k q, get ins k = some q → get S.objs k = some q) : Gon G ⟨w, OwnB μ ins, μ, []⟩ :=
  ⟨hG.at hr.below, by
    rintro b hbl ⟨d, q, c, h3, h4⟩
    obtain ⟨l, hl, hob⟩ := hr.objs d q (hins _ _ h3)
    rw [h4] at hl
    injection hl with hl
    subst hl
    rcases hob.1 with h5 | h5
    · exact absurd (G.low _ hG.here b hbl) (by omega)
    · exact hG.notX b hbl h5⟩

/-- A function value with first arguments. -/
theorem clo_eval {D : Nat → Prop} {μ : Mu} {a : Act} {w : World} (h : RelM D w0 N0 μ S a w) {f : Operand} {fid : FuncId} {us : List V} (hf : S.evc true f = some (.clo fid us [])) : ∃ ys : List Value, a.eval f = .func (.func fid) ys.toArray #[] ∧ ys.length = us.length ∧ ∀ (i : Nat) x c, ys[i]? = some x → us[i]? = some c → Enc w (Own N0 μ S) μ x c := by
  have hfv := h.evc hf rfl
  generalize a.eval f = y at hfv
  cases hfv with
  | pur hfv => cases hfv
  | clo _ xs ys cs ds hl hm hc hh hk =>
    have : ys = [] := by cases ys with | nil => rfl | cons _ _ => simp at hm
    subst this
    exact ⟨xs, rfl, hl, hh⟩
theorem call_runC {o : Oper} {a : Act} {w : World} {f : Operand} {fid : FuncId} {fn : Func} {args : Array Operand} {ats : Array TypeId} {ys : List Value} (ho : o.op = .call { callee := .value f, args := args, argTypes := ats }) (hf : a.eval f = .func (.func fid) ys.toArray #[])
    (hfn : P.funcs[fid]? = some fn) (hb : fn.body.isSome = true) (hn : (fn.name == "runtime.NumGoroutine") = false) {K : Act → World → Prop} {Q' : Exit → Act → World → Prop} {R : Ending → World → Prop}
    (hc : Calls P fid (ys ++ args.toList.map a.eval).toArray w R) (h1 : ∀ x w', R (.returned x) w' → K (a.put o.dst x) w') (h2 : ∀ ch w', R (.panicked ch) w' → Q' (.panic ch) a w') (h3 : ∀ w', ¬ R .outgrown w') : o.wp P a w K Q' := by
  have hrun : (execOp a.eval o).run P w = .ok (.enter fid (ys ++ args.toList.map a.eval).toArray) w := by
    unfold execOp
    rw [ho]
    obtain ⟨c, hc⟩ := Option.isSome_iff_exists.1 hb
    have hn' : ¬ fn.name = "runtime.NumGoroutine" := by simpa using hn
    have harr : (ys ++ args.toList.map a.eval).toArray = ys.toArray ++ args.map a.eval := by apply Array.ext'; simp
    simp [resolve, hf, Deferred.ofValue, invoke, callFunc, hfn, hn', hc, harr]
  unfold Oper.wp
  rw [hrun]
  refine hc.mono ?_
  intro e w' hR
  cases e with
  | returned x => exact h1 x w' hR
  | panicked ch => exact h2 ch w' hR
  | outgrown => exact (h3 w' hR).elim
end
end Go.Eng

namespace Go.Eng
open Go.RowKit
section
variable {P : Program} {kb : Nat} {w0 : Bs} {N0 : Nat → Prop} {Q : Exit → AS → Prop} {S S' : AS} {G : Gp}

theorem acsq_intro {f : FuncId} {fn : Func} {c : Code} {args : List V} {ins : List (Nat × Ob)} {R : V → List (Nat × Ob) → Prop} (hf : P.funcs[f]? = some fn) (hb : fn.body = some c) (hl : args.length ≤ fn.ntmps)
    (h : ∀ w0 N0 nx, Gon G w0 → AW P w0 N0 c (EndsS P fn R (fun _ => False) nx) ⟨env0 0 args, ins, nx, fn.ntmps⟩) : ACSQ G P f args ins R := by
  intro B N μ nx xs hG hlen hd hr
  refine calls_of_wp hf hb (wp_mono (h B N nx hG _ B.w ⟨μ, hr.enter hlen hl hd⟩) ?_)
  rintro e a' w' ⟨S', hE, ⟨μ', hr'⟩⟩
  have hdf : a'.defers = [] := by rw [hr'.defers, hd]
  have key : nx ≤ S'.nx ∧ (∃ r outs, aresT P S' fn.results.toList = some r ∧ (∀ k o, get outs k = some o → get S'.objs k = some o) ∧ R r outs) → ∃ v, (results fn a'.tmps).run P w' = .ok v w' ∧
      (∃ x r outs nx' μ', Ending.returned v = .returned x ∧ R r outs ∧ nx ≤ nx' ∧ RelM (fun _ => False) B N μ' ⟨[(0, r)], outs, nx', 1⟩ ⟨#[x], []⟩ w') := by
    rintro ⟨hnx, r, outs, h1, h2, h3⟩
    obtain ⟨x, hx, hex⟩ := aresT_run hr' h1
    exact ⟨x, hx, x, r, outs, S'.nx, μ', rfl, h3, hnx, hr'.leave hd hex h2⟩
  cases e with
  | ret => exact ⟨hdf, key hE⟩
  | normal => exact ⟨hdf, key hE⟩
  | panic ch => exact hE.elim
  | exit id => exact hE.elim
  | goto l => exact hE.elim
  | outgrown => exact hE.elim

/-- A call that is handed objects of the call's own, of a function that relies on package variables. -/
theorem awl_callSQ {ops : List Oper} {i : Nat} {o : Oper} {rest : List Oper} {f : Operand} {fid : FuncId} {fn : Func} {args : Array Operand} {ats : Array TypeId} {vs : List V} {ins : List (Nat × Ob)} {R : V → List (Nat × Ob) → Prop}
    (hG : Gon G w0) (hc : ACSQ G P fid vs ins R) (hfn : P.funcs[fid]? = some fn) (hb : fn.body.isSome = true) (hn : (fn.name == "runtime.NumGoroutine") = false)
    (hg : S.gv ops o = some true) (ho : o.op = .call { callee := .value f, args := args, argTypes := ats }) (hf : S.evc true f = some (.fn fid))
    (ha : S.args true args.toList = some vs) (hins : ∀ k q, get ins k = some q → get S.objs k = some q)
    (h : ∀ r outs nx, R r outs → S.nx + i + 1 ≤ nx → (∀ k, get outs k = none → get ins k = none) ∧ ∃ S', ({ S with objs := outs ++ S.objs, nx := nx } : AS).putv o.dst (wrapG o true r) = some S' ∧ AWL P w0 N0 ops Q (i + 1) rest S') : AWL P w0 N0 ops Q i (o :: rest) S := by
  rintro D a w hD ⟨μ, hr⟩
  refine wpList_step fun K hK => ?_
  rw [wanted_of hr hg, if_pos rfl]
  have hfresh := hr.fresh_lt hD
  obtain ⟨h1, h2⟩ := args_spec hr rfl ha
  have hhand := hr.hand (nx := S.nx + i + 1) hfresh (vs := vs) (xs := args.toList.map a.eval) (ins := ins) (by simp [h1]) hins (fun j x v hx hv => by
    simp only [List.getElem?_map, Option.map_eq_some_iff] at hx
    obtain ⟨y, hy, rfl⟩ := hx
    exact h2 j y v hy hv)
  have hcall := hc ⟨w, OwnB μ ins, μ, []⟩ _ μ (S.nx + i + 1) (args.toList.map a.eval) (hG.hand hr hins) (by simp [h1]) rfl hhand
  refine call_run ho (fn_eval hr hf) hfn hb hn hcall ?_ ?_ ?_
  · rintro x w' ⟨x', r, outs, nx', μ', he, hR, hnx, hrel⟩
    injection he with he
    subst he
    obtain ⟨hcov, S', hs, hrest⟩ := h r outs nx' hR hnx
    obtain ⟨hb1, hb2⟩ := hr.back hins hcov hrel
    refine hK _ _ (hrest (fun _ => False) _ w' (fun j hj => hj.elim) ⟨μ', hb1.putv hs ?_⟩)
    unfold wrapG
    split
    · exact hb2
    · exact .whn _ _ _ (fun _ => hb2) (fun hf => by cases hf)
  · rintro ch w' ⟨x', r, outs, nx', μ', he, _⟩
    cases he
  · rintro w' ⟨x', r, outs, nx', μ', he, _⟩
    cases he

/-- A call of a bound method: first arguments ahead of the others. -/
theorem awl_callC {ops : List Oper} {i : Nat} {o : Oper} {rest : List Oper} {f : Operand} {fid : FuncId} {fn : Func} {args : Array Operand} {ats : Array TypeId} {us vs : List V} {ins : List (Nat × Ob)} {R : V → List (Nat × Ob) → Prop}
    (hc : ACS P fid (us ++ vs) ins R (fun _ => False)) (hfn : P.funcs[fid]? = some fn) (hb : fn.body.isSome = true) (hn : (fn.name == "runtime.NumGoroutine") = false)
    (hg : S.gv ops o = some true) (ho : o.op = .call { callee := .value f, args := args, argTypes := ats }) (hf : S.evc true f = some (.clo fid us []))
    (ha : S.args true args.toList = some vs) (hins : ∀ k q, get ins k = some q → get S.objs k = some q)
    (h : ∀ r outs nx, R r outs → S.nx + i + 1 ≤ nx → (∀ k, get outs k = none → get ins k = none) ∧ ∃ S', ({ S with objs := outs ++ S.objs, nx := nx } : AS).putv o.dst (wrapG o true r) = some S' ∧ AWL P w0 N0 ops Q (i + 1) rest S') : AWL P w0 N0 ops Q i (o :: rest) S := by
  rintro D a w hD ⟨μ, hr⟩
  refine wpList_step fun K hK => ?_
  rw [wanted_of hr hg, if_pos rfl]
  have hfresh := hr.fresh_lt hD
  obtain ⟨h1, h2⟩ := args_spec hr rfl ha
  obtain ⟨ys, hy1, hy2, hy3⟩ := clo_eval hr hf
  have hhand := hr.hand (nx := S.nx + i + 1) hfresh (vs := us ++ vs) (xs := ys ++ args.toList.map a.eval) (ins := ins) (by simp [h1, hy2]) hins (fun j x v hx hv => by
    by_cases hj : j < ys.length
    · rw [List.getElem?_append_left hj] at hx
      rw [List.getElem?_append_left (by rw [← hy2]; exact hj)] at hv
      exact hy3 j x v hx hv
    · rw [List.getElem?_append_right (by omega)] at hx
      rw [List.getElem?_append_right (by omega), ← hy2] at hv
      simp only [List.getElem?_map, Option.map_eq_some_iff] at hx
      obtain ⟨y, hy, rfl⟩ := hx
      exact h2 _ y v hy hv)
  have hcall := hc ⟨w, OwnB μ ins, μ, []⟩ _ μ (S.nx + i + 1) (ys ++ args.toList.map a.eval) (by simp [h1, hy2]) rfl hhand
  refine call_runC ho hy1 hfn hb hn hcall ?_ ?_ ?_
  · rintro x w' (⟨x', r, outs, nx', μ', he, hR, hnx, hrel⟩ | ⟨ch, he, _⟩)
    · injection he with he
      subst he
      obtain ⟨hcov, S', hs, hrest⟩ := h r outs nx' hR hnx
      obtain ⟨hb1, hb2⟩ := hr.back hins hcov hrel
      refine hK _ _ (hrest (fun _ => False) _ w' (fun j hj => hj.elim) ⟨μ', hb1.putv hs ?_⟩)
      unfold wrapG
      split
      · exact hb2
      · exact .whn _ _ _ (fun _ => hb2) (fun hf => by cases hf)
    · cases he
  · rintro ch w' (⟨x', r, outs, nx', μ', he, _⟩ | ⟨ch', _, hE, _⟩)
    · cases he
    · exact hE.elim
  · rintro w' (⟨x', r, outs, nx', μ', he, _⟩ | ⟨ch', he, _⟩) <;> cases he
end
end Go.Eng

namespace Go.Eng
open Go.RowKit
section
variable {P : Program} {w0 : Bs} {N0 : Nat → Prop} {Q : Exit → AS → Prop} {S S' : AS}

/-- The call as if it began here: it may write what it owns; all else stands. -/
def baseAt (w0 : Bs) (w : World) (μ : Mu) (S : AS) : Bs := ⟨w, OwnB μ S.objs, μ, w0.df⟩
/-- How such a beginning hangs on the call's own. -/
structure Anch (w0 : Bs) (N0 : Nat → Prop) (μ : Mu) (S : AS) (w : World) : Prop where
  below : w0.Below w
  own : ∀ g, OwnB μ S.objs g → w0.free g
  n0 : ∀ b, N0 b → b < w0.w.heap.size ∧ ¬ w0.X b
  m : ∀ d v l, w0.M d v = some l → μ d v = some l
theorem RelM.anch {D : Nat → Prop} {μ : Mu} {a : Act} {w : World} (h : RelM D w0 N0 μ S a w) : Anch w0 N0 μ S w := by
  refine ⟨h.below, fun g ho => ?_, h.n0.1, h.n0.2⟩
  obtain ⟨d, o, c, h1, h2⟩ := ho
  obtain ⟨l, hl, hob⟩ := h.objs d o h1
  rw [h2] at hl
  injection hl with hl
  subst hl
  exact hob.1
theorem RelM.rebase {D : Nat → Prop} {μ : Mu} {a : Act} {w : World} (h : RelM D w0 N0 μ S a w) {w1 : Bs} (hdf : w1.df = w0.df) : RelM D (baseAt w1 w μ S) N0 μ S a w := by
  have han := h.anch
  refine ⟨h.defers.trans hdf.symm, h.size, Bs.Below.refl _, ⟨fun b hb => ⟨Nat.lt_of_lt_of_le (h.n0.1 b hb).1 h.below.size, fun ho => ?_⟩, fun _ _ _ hh => hh⟩, h.fresh, fun d o hd => ?_, h.inj, h.env⟩
  · rcases han.own b ho with h1 | h1
    · exact absurd (h.n0.1 b hb).1 (by omega)
    · exact (h.n0.1 b hb).2 h1
  · obtain ⟨l, hl, hob⟩ := h.objs d o hd
    refine ⟨l, hl, ?_⟩
    cases l with
    | none => exact hob
    | some gc => exact ⟨.inr ⟨d, o, gc.2, hd, hl⟩, hob.2⟩
/-- Back to where the call began. -/
theorem Anch.back {D2 : Nat → Prop} {μ μ2 : Mu} {a2 : Act} {w w2 : World} {S2 : AS} {N1 : Nat → Prop} (h : Anch w0 N0 μ S w) (hN : ∀ b, N0 b → N1 b) (h2 : RelM D2 (baseAt w0 w μ S) N1 μ2 S2 a2 w2) : RelM D2 w0 N0 μ2 S2 a2 w2 := by
  have hsub : ∀ b, b < w2.heap.size → Own N0 μ2 S2 b → Own N1 μ2 S2 b := fun b _ hb => hb.imp (hN b) id
  have hk : Keeps w2 (Own N1 μ2 S2) w2 := Keeps.refl _ _
  refine ⟨h2.defers, h2.size, ⟨h2.below.os.trans h.below.os, h2.below.tape.trans h.below.tape, h2.below.output.trans h.below.output, Nat.le_trans h.below.size h2.below.size, fun k hk hx => ?_⟩, ⟨h.n0, fun d v l hl => h2.n0.2 d v l (h.m d v l hl)⟩, h2.fresh, fun d o hd => ?_, h2.inj, fun t v hv => ⟨(h2.env t v hv).1, (h2.env t v hv).2.keep hk hsub (fun _ _ _ hh => hh)⟩⟩
  · refine (h2.below.block k (Nat.lt_of_lt_of_le hk h.below.size) (fun ho => ?_)).trans (h.below.block k hk hx)
    rcases h.own k ho with h1 | h1
    · omega
    · exact hx h1
  · obtain ⟨l, hl, hob⟩ := h2.objs d o hd
    refine ⟨l, hl, ?_⟩
    cases l with
    | none => exact hob
    | some gc =>
      obtain ⟨h1, h3, h4, h5, arr, h6, h7, h8⟩ := hob
      refine ⟨?_, h3, h4, h5, arr, h6, h7, fun k e j c he hj => ?_⟩
      · rcases h1 with h1 | h1
        · exact .inl (Nat.le_trans h.below.size h1)
        · exact h.own _ h1
      · obtain ⟨x, hx, hex⟩ := h8 k e j c he hj
        exact ⟨x, hx, hex.keep hk hsub (fun _ _ _ hh => hh)⟩
/-- A block that no value and no object touches changes. -/
theorem RelM.turn {D : Nat → Prop} {μ : Mu} {a : Act} {w w1 : World} {b : Nat} (h : RelM D (baseAt w0 w μ S) N0 μ S a w) (hb : N0 b) (hk : ∀ k, k ≠ b → w1.heap[k]? = w.heap[k]?) (hsz : w1.heap.size = w.heap.size) : RelM D (baseAt w0 w1 μ S) N0 μ S a w1 := by
  have hkeep : Keeps w (Own N0 μ S) w1 := ⟨by omega, fun k _ hn => hk k (fun e => hn (.inl (e ▸ hb)))⟩
  refine ⟨h.defers, h.size, Bs.Below.refl _, ⟨fun x hx => ⟨by have := (h.n0.1 x hx).1; simp only [baseAt] at this ⊢; omega, (h.n0.1 x hx).2⟩, fun _ _ _ hh => hh⟩, h.fresh, fun d o hd => ?_, h.inj, fun t v hv => ⟨(h.env t v hv).1, (h.env t v hv).2.keep hkeep (fun _ _ hh => hh) (fun _ _ _ hh => hh)⟩⟩
  obtain ⟨l, hl, hob⟩ := h.objs d o hd
  refine ⟨l, hl, ?_⟩
  cases l with
  | none => exact hob
  | some gc =>
    obtain ⟨h1, h3, h4, h5, arr, h6, h7, h8⟩ := hob
    have hne : gc.1 ≠ b := fun e => (h.n0.1 b hb).2 (e ▸ ⟨d, o, gc.2, hd, hl⟩)
    refine ⟨.inr ⟨d, o, gc.2, hd, hl⟩, h3, h4, h5, arr, (hk _ hne).trans h6, h7, fun k e j c he hj => ?_⟩
    obtain ⟨x, hx, hex⟩ := h8 k e j c he hj
    exact ⟨x, hx, hex.keep hkeep (fun _ _ hh => hh) (fun _ _ _ hh => hh)⟩

/-- The rune at a place of a string, and its width. -/
def runeAt (l : List UInt8) (pos : Nat) : Nat × Nat := Utf8.decode ⟨l.toArray⟩ pos
theorem runeAt_pos (l : List UInt8) (pos : Nat) : 1 ≤ (runeAt l pos).2 := by
  unfold runeAt Utf8.decode
  simp only
  repeat' split
  all_goals simp

theorem aw_strRange {α : Type} {r0 r1 bid ty d0 d1 d2 d3 : Nat} {o0 o1 o2 o3 : Oper} {x : Operand} {rest : Code} {l : List UInt8} (dI : Nat) (st : α → AS) (Inv : α → Nat → Prop) (x0 : α)
    (g0 : o0.guard = none) (p0 : o0.op = .move x) (q0 : o0.dst = some d0) (g1 : o1.guard = none) (p1 : o1.op = .range ty (.tmp d0)) (q1 : o1.dst = some d1)
    (g2 : o2.guard = none) (p2 : o2.op = .next (.tmp d1) true) (q2 : o2.dst = some d2) (g3 : o3.guard = none) (p3 : o3.op = .extract (.tmp d2) 0) (q3 : o3.dst = some d3)
    (hx : S.evc true x = some (.str l)) (ht : tstr P ty = true) (hn : d0 < S.nt ∧ d1 < S.nt) (hn2 : ∀ y, d2 < (st y).nt ∧ d3 < (st y).nt)
    (hd : ∀ y, get (st y).env d1 = some (.bp dI S.nx 0 0 0)) (h0 : Inv x0 0)
    (hS : ({ S with env := (d1, .bp dI S.nx 0 0 0) :: (d0, .str l) :: S.env, nx := S.nx + 2 } : AS).le (st x0))
    (round : ∀ B N y pos, Inv y pos → pos < l.length → AW P B N rest (ethen (fun T => ∃ y', Inv y' (pos + (runeAt l pos).2) ∧ T.le (st y')) (einBlock bid Q)) { st y with env := (d3, .bool true) :: (d2, .tup [.bool true, .int .i64 pos, .int .i32 (runeAt l pos).1]) :: (st y).env, nx := (st y).nx + 2 })
    (last : ∀ B N y pos, Inv y pos → l.length ≤ pos → AW P B N rest (ethen (fun _ => False) (einBlock bid Q)) { st y with env := (d3, .bool false) :: (d2, .tup [.bool false]) :: (st y).env, nx := (st y).nx + 2 }) :
    AW P w0 N0 (.seq (.region r0 [o0, o1].toArray false) (.block bid (.loop (.seq (.region r1 [o2, o3].toArray false) rest)))) Q S := by
  rintro a w ⟨μ, hr⟩
  have htu := tstr_underlying ht
  refine wp_seq (wp_region_lit ?_)
  refine wpList_plain g0 fun K hK => ?_
  have hrun0 : (execOp a.eval o0).run P w = .ok (.value (a.eval x)) w := by unfold execOp; rw [p0]; rfl
  unfold Oper.wp
  rw [hrun0]
  refine hK _ _ ?_
  rw [q0]
  have hr1 := hr.put (d := d0) hn.1 (hr.evc hx rfl)
  generalize a.put (some d0) (a.eval x) = a1 at hr1
  clear hK K
  refine wpList_plain g1 fun K hK => ?_
  have he : a1.eval (.tmp d0) = .string ⟨l.toArray⟩ := by
    have := (hr1.env d0 (.str l) (by simp [get_cons])).2
    show a1.tmps.getD d0 undef = _
    generalize a1.tmps.getD d0 undef = y at this
    cases this with
    | pur hp => cases hp; rfl
  have hrun1 : (execOp a1.eval o1).run P w = .ok (.value (.pointer (some ⟨w.heap.size, 0, none⟩))) (w.alloc (.stringIter ⟨l.toArray⟩ 0)) := by
    unfold execOp
    rw [p1]
    simp [Instr.range, run_underlying htu, he]
  unfold Oper.wp
  rw [hrun1]
  refine hK _ _ (wpList_nil ?_)
  rw [q1]
  obtain ⟨b, hbw⟩ : ∃ b, b = w.heap.size := ⟨_, rfl⟩
  rw [← hbw]
  have hμn : μ dI S.nx = none := by
    cases hm : μ dI S.nx with
    | none => rfl
    | some l =>
      rcases hr.fresh dI S.nx (by rw [hm]; simp) with h | ⟨j, hj, _⟩
      · omega
      · exact hj.elim
  obtain ⟨μ1, hμ1⟩ : ∃ μ1 : Mu, μ1 = fun d v => if d = dI ∧ v = S.nx then some (some (b, 0)) else μ d v := ⟨_, rfl⟩
  have hμle : ∀ d v l, μ d v = some l → μ1 d v = some l := by
    intro d v l' hl
    rw [hμ1]
    simp only
    split
    · rename_i e; rw [e.1, e.2, hμn] at hl; cases hl
    · exact hl
  have hμI : μ1 dI S.nx = some (some (b, 0)) := by rw [hμ1]; simp
  have hμo : ∀ d o, get S.objs d = some o → μ1 d o.v = μ d o.v := by
    intro d o ho
    obtain ⟨l', hl, _⟩ := hr.objs d o ho
    rw [hl]; exact hμle _ _ _ hl
  obtain ⟨w2, hw2⟩ : ∃ w2, w2 = w.alloc (.stringIter ⟨l.toArray⟩ 0) := ⟨_, rfl⟩
  rw [← hw2]
  have hbel : Below w.heap.size w w2 := by rw [hw2]; exact (Below.refl _ _).alloc (Nat.le_refl _) _
  have hit : w2.heap[b]? = some (.stringIter ⟨l.toArray⟩ 0) := by rw [hw2, hbw]; exact heap_alloc_new w _
  have hsz2 : w2.heap.size = w.heap.size + 1 := by rw [hw2]; simp
  obtain ⟨S2, hS2⟩ : ∃ S2 : AS, S2 = { S with env := (d1, .bp dI S.nx 0 0 0) :: (d0, .str l) :: S.env, nx := S.nx + 2 } := ⟨_, rfl⟩
  rw [← hS2] at hS
  have hobj2 : S2.objs = S.objs := by rw [hS2]
  have hown : ∀ x, OwnB μ1 S2.objs x → OwnB μ S.objs x := by
    rintro x ⟨d, o, c, h1, h2⟩
    rw [hobj2] at h1
    exact ⟨d, o, c, h1, by rw [← hμo d o h1]; exact h2⟩
  have hsub : ∀ x, x < w.heap.size → Own (fun y => N0 y ∨ y = b) μ1 S2 x → Own N0 μ { S with env := (d0, .str l) :: S.env } x := by
    intro x hlt ho
    rcases ho with (h | h) | ⟨d, o, c, h1, h2⟩
    · exact .inl h
    · omega
    · obtain ⟨d, o, c, h1, h2⟩ := hown x ⟨d, o, c, h1, h2⟩
      exact .inr ⟨d, o, c, h1, h2⟩
  have hkeep : Keeps w (Own N0 μ { S with env := (d0, .str l) :: S.env }) w2 := Keeps.of_below hbel _
  have hA2 : Anch w0 N0 μ1 S2 w2 := ⟨hr.below.trans (hbel.mono hr.below.size), fun g ho => hr.anch.own g (hown g ho), hr.n0.1, fun d v l' hl => hμle _ _ _ (hr.n0.2 d v l' hl)⟩
  have hR2 : RelM (fun _ => False) (baseAt w0 w2 μ1 S2) (fun y => N0 y ∨ y = b) μ1 S2 (a1.put (some d1) (.pointer (some ⟨b, 0, none⟩))) w2 := by
    refine ⟨hr1.defers, by rw [hS2]; simp [Act.put, hr1.size], Bs.Below.refl _, ⟨fun x hx => ⟨?_, fun ho => ?_⟩, fun _ _ _ hh => hh⟩, fun d v hv => ?_, fun d o hd => ?_, fun d o d' o' g c c' h1 h2 h3 h4 => ?_, fun t v hv => ?_⟩
    · show x < w2.heap.size
      rcases hx with h | h
      · have := (hr.n0.1 x h).1; have := hr.below.size; omega
      · omega
    · obtain ⟨d, o, c, h1, h2⟩ := hown x ho
      have hlt := hr.block_lt h1 h2
      rcases hx with h | h
      · rcases hr.anch.own x ⟨d, o, c, h1, h2⟩ with h3 | h3
        · have := (hr.n0.1 x h).1; omega
        · exact (hr.n0.1 x h).2 h3
      · omega
    · left
      rw [hS2]
      simp only
      rw [hμ1] at hv
      simp only at hv
      split at hv
      · rename_i e; omega
      · rcases hr.fresh d v hv with h | ⟨j, hj, _⟩
        · omega
        · exact hj.elim
    · rw [hobj2] at hd
      obtain ⟨l', hl, hob⟩ := hr1.objs d o hd
      refine ⟨l', by rw [hμo d o hd]; exact hl, ?_⟩
      cases l' with
      | none => exact hob
      | some gc =>
        obtain ⟨h1, h3, h4, h5, arr, h6, h7, h8⟩ := hob
        refine ⟨.inr ⟨d, o, gc.2, by rw [hobj2]; exact hd, by rw [hμo d o hd]; exact hl⟩, h3, h4, h5, arr, ?_, h7, fun k e j c he' hj => ?_⟩
        · exact (hbel.block _ (hr.block_lt hd hl)).trans h6
        · obtain ⟨y, hy, hey⟩ := h8 k e j c he' hj
          exact ⟨y, hy, hey.keep hkeep hsub hμle⟩
    · rw [hobj2] at h1 h2
      rw [hμo d o h1] at h3
      rw [hμo d' o' h2] at h4
      exact hr.inj d o d' o' g c c' h1 h2 h3 h4
    · rw [hS2] at hv ⊢
      simp only at hv ⊢
      rw [tmps_put a1 d1 _ t (by rw [hr1.size]; exact hn.2)]
      rw [get_cons] at hv
      split at hv
      · rename_i e
        injection hv with hv
        subst hv; subst e
        simp only [if_true]
        exact ⟨hn.2, .bp dI S.nx 0 0 0 b 0 hμI⟩
      · rename_i e
        rw [if_neg e]
        have := hr1.env t v hv
        exact ⟨this.1, by have h' := this.2.keep hkeep hsub hμle; rw [hS2] at h'; exact h'⟩
  generalize a1.put (some d1) (.pointer (some ⟨b, 0, none⟩)) = a2 at hR2
  -- the invariant
  have main : ∀ n y pos a w, l.length - pos = n → Inv y pos → (∃ μ, Anch w0 N0 μ (st y) w ∧ RelM (fun _ => False) (baseAt w0 w μ (st y)) (fun z => N0 z ∨ z = b) μ (st y) a w ∧ μ dI S.nx = some (some (b, 0)) ∧ w.heap[b]? = some (.stringIter ⟨l.toArray⟩ pos)) →
      (Code.loop (.seq (.region r1 [o2, o3].toArray false) rest)).wp P (post w0 N0 (einBlock bid Q)) a w := by
    have hround : ∀ y pos a w, Inv y pos → (∃ μ, Anch w0 N0 μ (st y) w ∧ RelM (fun _ => False) (baseAt w0 w μ (st y)) (fun z => N0 z ∨ z = b) μ (st y) a w ∧ μ dI S.nx = some (some (b, 0)) ∧ w.heap[b]? = some (.stringIter ⟨l.toArray⟩ pos)) →
        (Code.seq (.region r1 [o2, o3].toArray false) rest).wp P (fun e a' w' => (e = .normal ∧ ∃ y' pos', pos < pos' ∧ pos < l.length ∧ Inv y' pos' ∧ (∃ μ, Anch w0 N0 μ (st y') w' ∧ RelM (fun _ => False) (baseAt w0 w' μ (st y')) (fun z => N0 z ∨ z = b) μ (st y') a' w' ∧ μ dI S.nx = some (some (b, 0)) ∧ w'.heap[b]? = some (.stringIter ⟨l.toArray⟩ pos'))) ∨ (e ≠ .normal ∧ post w0 N0 (einBlock bid Q) e a' w')) a w := by
      rintro y pos a w hInv ⟨μ, hA, hR, hμ, hit⟩
      have hblt : b < w.heap.size := (Array.getElem?_eq_some_iff.1 hit).1
      have hev : a.eval (.tmp d1) = .pointer (some ⟨b, 0, none⟩) := by
        have := (hR.env d1 _ (hd y)).2
        show a.tmps.getD d1 undef = _
        generalize a.tmps.getD d1 undef = z at this
        cases this with
        | pur hp => cases hp
        | bp _ _ _ _ _ g cap h1 =>
          rw [hμ] at h1
          injection h1 with h1
          injection h1 with h1
          injection h1 with h1 h2
          subst h1
          rfl
      -- what the two operations leave, and how it goes on
      have fin : ∀ (tv : Value) (t2 : V) (g : Bool) (w1 : World) (pos1 : Nat), (∀ k, k ≠ b → w1.heap[k]? = w.heap[k]?) → w1.heap.size = w.heap.size → (w1.os = w.os ∧ w1.tape = w.tape ∧ w1.output = w.output) → w1.heap[b]? = some (.stringIter ⟨l.toArray⟩ pos1) → (g = true → pos < pos1 ∧ pos < l.length) →
          (∀ N μ', Enc w1 N μ' tv t2) → (execOp a.eval o2).run P w = .ok (.value tv) w1 → (Instr.extract tv 0).run P w1 = .ok (.bool g) w1 →
          (∀ B N, AW P B N rest (ethen (fun T => g = true ∧ ∃ y', Inv y' pos1 ∧ T.le (st y')) (einBlock bid Q)) { st y with env := (d3, .bool g) :: (d2, t2) :: (st y).env, nx := (st y).nx + 2 }) →
          (Code.seq (.region r1 [o2, o3].toArray false) rest).wp P (fun e a' w' => (e = .normal ∧ ∃ y' pos', pos < pos' ∧ pos < l.length ∧ Inv y' pos' ∧ (∃ μ, Anch w0 N0 μ (st y') w' ∧ RelM (fun _ => False) (baseAt w0 w' μ (st y')) (fun z => N0 z ∨ z = b) μ (st y') a' w' ∧ μ dI S.nx = some (some (b, 0)) ∧ w'.heap[b]? = some (.stringIter ⟨l.toArray⟩ pos'))) ∨ (e ≠ .normal ∧ post w0 N0 (einBlock bid Q) e a' w')) a w := by
        intro tv t2 g w1 pos1 hk hsz hos hit1 hg htv hrun hext hgo
        refine wp_seq (wp_region_lit (wpList_plain g2 fun K hK => ?_))
        unfold Oper.wp
        rw [hrun]
        refine hK _ _ (wpList_plain g3 fun K2 hK2 => ?_)
        clear hK K
        rw [q2]
        have hT := hR.turn (w0 := w0) (.inr rfl) hk hsz
        have hP2 := hT.put (d := d2) (hn2 y).1 (htv _ _)
        have hev2 : (a.put (some d2) tv).eval (.tmp d2) = tv := by
          show (a.put (some d2) tv).tmps.getD d2 undef = tv
          rw [tmps_put a d2 tv d2 (by rw [hR.size]; exact (hn2 y).1), if_pos rfl]
        generalize a.put (some d2) tv = a3 at hP2 hev2
        have hrun3 : (execOp a3.eval o3).run P w1 = .ok (.value (.bool g)) w1 := by
          unfold execOp
          rw [p3]
          simp only [hev2, Sem.run_bind, hext, Result.andThen_ok, Sem.run_pure]
        unfold Oper.wp
        rw [hrun3]
        refine hK2 _ _ (wpList_nil ?_)
        rw [q3]
        have hP3 := hP2.put (d := d3) (hn2 y).2 (.pur (.bool g))
        generalize a3.put (some d3) (.bool g) = a4 at hP3
        have hP4 : RelM (fun _ => False) (baseAt w0 w1 μ (st y)) (fun z => N0 z ∨ z = b) μ { st y with env := (d3, .bool g) :: (d2, t2) :: (st y).env, nx := (st y).nx + 2 } a4 w1 :=
          ⟨hP3.defers, hP3.size, hP3.below, hP3.n0, fun d v hv => by
            rcases hP3.fresh d v hv with h | ⟨j, hj, _⟩
            · left; simp only at h ⊢; omega
            · exact hj.elim, hP3.objs, hP3.inj, hP3.env⟩
        have hA1 : Anch w0 N0 μ (st y) w1 := by
          refine ⟨⟨hos.1.trans hA.below.os, hos.2.1.trans hA.below.tape, hos.2.2.trans hA.below.output, by rw [hsz]; exact hA.below.size, fun k hk' hx' => ?_⟩, hA.own, hA.n0, hA.m⟩
          rw [hk k (fun e => ?_)]
          · exact hA.below.block k hk' hx'
          · have := hr.below.size; omega
        refine wp_mono (hgo _ _ a4 w1 ⟨μ, hP4⟩) ?_
        rintro e a' w' ⟨S', hQ, ⟨μ', hR'⟩⟩
        cases e with
        | normal =>
          obtain ⟨hgt, y', hI', hle⟩ := hQ
          obtain ⟨μ3, hR3⟩ := hle _ _ _ _ ⟨μ', hR'⟩
          have hb3 := hA1.back (fun _ h => .inl h) hR3
          refine .inl ⟨rfl, y', pos1, (hg hgt).1, (hg hgt).2, hI', μ3, hb3.anch, hR3.rebase rfl, hR3.n0.2 _ _ _ hμ, ?_⟩
          rw [hR3.below.block b (by show b < w1.heap.size; omega) (hR3.n0.1 b (.inr rfl)).2]
          exact hit1
        | exit id => exact .inr ⟨by simp, S', hQ, μ', hA1.back (fun _ h => .inl h) hR'⟩
        | goto l => exact .inr ⟨by simp, S', hQ, μ', hA1.back (fun _ h => .inl h) hR'⟩
        | ret => exact .inr ⟨by simp, S', hQ, μ', hA1.back (fun _ h => .inl h) hR'⟩
        | panic ch => exact .inr ⟨by simp, S', hQ, μ', hA1.back (fun _ h => .inl h) hR'⟩
        | outgrown => exact .inr ⟨by simp, S', hQ, μ', hA1.back (fun _ h => .inl h) hR'⟩
      have hlen : (ByteArray.mk l.toArray).size = l.length := by simp [ByteArray.size]
      by_cases hlt : pos < l.length
      · have hp := runeAt_pos l pos
        refine fin (.tuple #[.bool true, goInt pos, .int .i32 (runeAt l pos).1]) (.tup [.bool true, .int .i64 pos, .int .i32 (runeAt l pos).1]) true { w with heap := w.heap.setIfInBounds b (.stringIter ⟨l.toArray⟩ (pos + (runeAt l pos).2)) } (pos + (runeAt l pos).2) ?_ (by simp) ⟨rfl, rfl, rfl⟩ ?_ (fun _ => ⟨by omega, hlt⟩) ?_ ?_ rfl (fun B N => (round B N y pos hInv hlt).mono fun e T h => ?_)
        · intro k hk
          simp [Array.getElem?_setIfInBounds, Ne.symm hk]
        · simp [Array.getElem?_setIfInBounds, hblt]
        · intro N μ'
          exact .tup [.bool true, goInt pos, .int .i32 (runeAt l pos).1] _ rfl (fun i x c h1 h2 => by
            rcases i with _ | _ | _ | i
            · simp at h1 h2; subst h1; subst h2; exact .pur (.bool _)
            · simp at h1 h2; subst h1; subst h2; exact .pur (.int _ _)
            · simp at h1 h2; subst h1; subst h2; exact .pur (.int _ _)
            · simp at h1)
        · unfold execOp
          rw [p2]
          simp only [hev]
          have hlt2 : pos < (ByteArray.mk l.toArray).size := by rw [hlen]; exact hlt
          have : (Instr.next (.pointer (some ⟨b, 0, none⟩)) true o2.type).run P w = .ok (.tuple #[.bool true, goInt pos, .int .i32 (runeAt l pos).1]) { w with heap := w.heap.setIfInBounds b (.stringIter ⟨l.toArray⟩ (pos + (runeAt l pos).2)) } := by
            simp only [Instr.next, getObj, setObj, Sem.run_bind, Sem.run, hit, Result.andThen, hlt2, if_true]
            rfl
          rw [Sem.run_bind, this]
          rfl
        · cases e with
          | normal => exact ⟨rfl, h⟩
          | _ => exact h
      · refine fin (.tuple #[.bool false]) (.tup [.bool false]) false w pos (fun _ _ => rfl) rfl ⟨rfl, rfl, rfl⟩ hit (fun h => by cases h) ?_ ?_ rfl (fun B N => (last B N y pos hInv (by omega)).mono fun e T h => ?_)
        · intro N μ'
          exact .tup [.bool false] _ rfl (fun i x c h1 h2 => by
            rcases i with _ | i
            · simp at h1 h2; subst h1; subst h2; exact .pur (.bool _)
            · simp at h1)
        · unfold execOp
          rw [p2]
          simp only [hev]
          have hlt2 : ¬ pos < (ByteArray.mk l.toArray).size := by rw [hlen]; exact hlt
          have : (Instr.next (.pointer (some ⟨b, 0, none⟩)) true o2.type).run P w = .ok (.tuple #[.bool false]) w := by
            simp [Instr.next, getObj, Sem.run, hit, hlt2]
          rw [Sem.run_bind, this]
          rfl
        · cases e with
          | normal => exact h.elim
          | _ => exact h
    have main : ∀ n y pos a w, l.length - pos = n → Inv y pos → (∃ μ, Anch w0 N0 μ (st y) w ∧ RelM (fun _ => False) (baseAt w0 w μ (st y)) (fun z => N0 z ∨ z = b) μ (st y) a w ∧ μ dI S.nx = some (some (b, 0)) ∧ w.heap[b]? = some (.stringIter ⟨l.toArray⟩ pos)) →
        ∀ bb k cs, ∃ e a' w', post w0 N0 (einBlock bid Q) e a' w' ∧ Arrives P (lone (bb.at a (.code (.seq (.region r1 [o2, o3].toArray false) rest) :: .inLoop (.seq (.region r1 [o2, o3].toArray false) rest) :: k)) cs w) bb k cs e a' w' := by
      intro n
      induction n using Nat.strongRecOn with
      | _ n ih =>
        intro y pos a w hn' hInv hJ bb k cs
        obtain ⟨e, a1, w1, hq, harr⟩ := hround y pos a w hInv hJ bb (.inLoop _ :: k) cs
        rcases hq with ⟨rfl, y', pos', h1, h2, h3, h4⟩ | ⟨hne, hq⟩
        · obtain ⟨e2, a2, w2, hq2, harr2⟩ := ih (l.length - pos') (by omega) y' pos' a1 w1 rfl h3 h4 bb k cs
          exact ⟨e2, a2, w2, hq2, .of_steps (Steps.trans harr (.one step_inLoop)) harr2⟩
        · cases e with
          | normal => exact absurd rfl hne
          | exit id => exact ⟨_, a1, w1, hq, .pass (x := .inLoop _) rfl (fun _ _ => .inl (by simp)) harr⟩
          | goto l => exact ⟨_, a1, w1, hq, .pass (x := .inLoop _) rfl (fun _ _ => .inl (by simp)) harr⟩
          | ret => exact ⟨_, a1, w1, hq, .pass (x := .inLoop _) rfl (fun _ _ => .inl (by simp)) harr⟩
          | panic ch => exact ⟨_, a1, w1, hq, .pass (x := .inLoop _) rfl (fun _ _ => .inl (by simp)) harr⟩
          | outgrown => exact ⟨_, a1, w1, hq, .pass (x := .inLoop _) rfl (fun _ _ => .inl (by simp)) harr⟩
    intro n y pos a w hn' hInv hJ bb k cs
    obtain ⟨e, a', w', hq, harr⟩ := main n y pos a w hn' hInv hJ bb k cs
    exact ⟨e, a', w', hq, .of_steps (.one step_loop) harr⟩
  have hI0 : ∃ μ, Anch w0 N0 μ (st x0) w2 ∧ RelM (fun _ => False) (baseAt w0 w2 μ (st x0)) (fun z => N0 z ∨ z = b) μ (st x0) a2 w2 ∧ μ dI S.nx = some (some (b, 0)) ∧ w2.heap[b]? = some (.stringIter ⟨l.toArray⟩ 0) := by
    obtain ⟨μ3, hR3⟩ := hS _ _ _ _ ⟨μ1, hR2⟩
    have hb3 := hA2.back (fun _ h => .inl h) hR3
    exact ⟨μ3, hb3.anch, hR3.rebase rfl, hR3.n0.2 _ _ _ hμI, hit⟩
  refine wp_block (wp_mono (main _ x0 0 a2 w2 rfl h0 hI0) ?_)
  rintro e a' w' ⟨S', hQ, hR⟩
  cases e with
  | exit id' =>
    simp only [einBlock] at hQ
    simp only [Exit.inBlock]
    split
    · rename_i he; rw [if_pos he] at hQ; exact ⟨S', hQ, hR⟩
    · rename_i he; rw [if_neg he] at hQ; exact ⟨S', hQ, hR⟩
  | _ => exact ⟨S', hQ, hR⟩
end
end Go.Eng

namespace Go.Eng
open Go.RowKit
section
variable {P : Program} {w0 : Bs} {N0 : Nat → Prop} {Q : Exit → AS → Prop} {S S' : AS}

theorem RelM.later_nx {D : Nat → Prop} {μ : Mu} {a : Act} {w : World} (h : RelM D w0 N0 μ S a w) {i : Nat} (hD : ∀ j, D j → j < i) : RelM (fun _ => False) w0 N0 μ { S with nx := S.nx + i } a w :=
  ⟨h.defers, h.size, h.below, h.n0, fun d v hv => .inl (by
    rcases h.fresh d v hv with h1 | ⟨j, hj, e⟩
    · simp only; omega
    · have := hD j hj
      simp only; omega), h.objs, h.inj, h.env⟩
theorem awl_le {ops : List Oper} {i : Nat} {rest : List Oper} (hle : ({ S with nx := S.nx + i } : AS).le S') (h : AWL P w0 N0 ops Q i rest S') : AWL P w0 N0 ops Q i rest S := by
  rintro D a w hD ⟨μ, hr⟩
  exact h (fun _ => False) a w (fun j hj => hj.elim) (hle _ _ _ _ ⟨μ, hr.later_nx hD⟩)
/-- An own row that is not written any more becomes a read list, inside a region. -/
theorem awl_freeze {ops : List Oper} {i : Nat} {rest : List Oper} (d : Nat) (L M : List Nat) (hS : ({ S with nx := S.nx + i } : AS).freezeK d L M = some S') (h : AWL P w0 N0 ops Q i rest S') : AWL P w0 N0 ops Q i rest S := by
  unfold AS.freezeK at hS
  split at hS
  case h_2 => cases hS
  rename_i S1 h1
  injection hS with hS
  subst hS
  exact awl_le (AS.le_trans (le_freeze h1) (le_keep _ L M)) h

/-- An operation whose run is known, which changes nothing. -/
theorem awl_raw {ops : List Oper} {i : Nat} {o : Oper} {rest : List Oper} {v : V} (hg : o.guard = none)
    (h : ∀ (D : Nat → Prop) (μ : Mu) (a : Act) (w : World), RelM D w0 N0 μ S a w → ∃ x, (execOp a.eval o).run P w = .ok (.value x) w ∧ Enc w (Own N0 μ S) μ x v)
    (hs : S.putv o.dst v = some S') (k : AWL P w0 N0 ops Q (i + 1) rest S') : AWL P w0 N0 ops Q i (o :: rest) S := by
  rintro D a w hD ⟨μ, hr⟩
  refine wpList_plain hg fun K hK => ?_
  obtain ⟨x, hx, hex⟩ := h D μ a w hr
  unfold Oper.wp
  rw [hx]
  exact hK _ _ (k D _ _ (fun j hj => Nat.lt_succ_of_lt (hD j hj)) ⟨μ, hr.putv hs hex⟩)
theorem RelM.bp_at {D : Nat → Prop} {μ : Mu} {a : Act} {w : World} (h : RelM D w0 N0 μ S a w) {t d v sz k off : Nat} (ht : get S.env t = some (.bp d v sz k off)) : ∃ g cap, μ d v = some (some (g, cap)) ∧ a.eval (.tmp t) = .pointer (some ⟨g, k * sz + off, none⟩) := by
  have := (h.env t _ ht).2
  show ∃ g cap, _ ∧ a.tmps.getD t undef = _
  generalize a.tmps.getD t undef = x at this
  cases this with
  | pur hp => cases hp
  | bp d v sz k off g cap hμ => exact ⟨g, cap, hμ, rfl⟩
theorem RelM.nilp_at {D : Nat → Prop} {μ : Mu} {a : Act} {w : World} (h : RelM D w0 N0 μ S a w) {t : Nat} (ht : get S.env t = some .nilp) : a.eval (.tmp t) = .pointer none := by
  have := (h.env t _ ht).2
  show a.tmps.getD t undef = _
  generalize a.tmps.getD t undef = x at this
  cases this with
  | pur hp => cases hp; rfl
theorem RelM.ob_at {D : Nat → Prop} {μ : Mu} {a : Act} {w : World} (h : RelM D w0 N0 μ S a w) {d g cap : Nat} {o : Ob} (ho : get S.objs d = some o) (hm : μ d o.v = some (some (g, cap))) : w0.free g ∧ o.es.length ≤ cap ∧ ∃ arr, w.heap[g]? = some (.cells arr o.ty (0, 0)) ∧ arr.size = cap * o.sz := by
  obtain ⟨l, hl, hob⟩ := h.objs d o ho
  rw [hm] at hl
  injection hl with hl
  subst hl
  obtain ⟨h1, h2, _, _, arr, h5, h6, _⟩ := hob
  exact ⟨h1, h2, arr, h5, h6⟩

/-- The contract of a function that uses up the objects it is handed. -/
def ACZ (P : Program) (f : FuncId) (args : List V) (ins : List (Nat × Ob)) (R : V → Prop) : Prop :=
  ∀ (B : Bs) (N : Nat → Prop) (μ : Mu) (nx : Nat) (xs : List Value), xs.length = args.length → B.df = [] →
    RelM (fun _ => False) B N μ ⟨env0 0 args, ins, nx, args.length⟩ ⟨xs.toArray, []⟩ B.w →
    Calls P f xs.toArray B.w (fun e w' => ∃ x r, e = .returned x ∧ R r ∧ r.flat1 = true ∧ Pur w' (fun _ => False) x r ∧ B.Below w')
theorem awl_callZ {ops : List Oper} {i : Nat} {o : Oper} {rest : List Oper} {f : Operand} {fid : FuncId} {fn : Func} {args : Array Operand} {ats : Array TypeId} {vs : List V} {ins : List (Nat × Ob)} {R : V → Prop}
    (hc : ACZ P fid vs ins R) (hfn : P.funcs[fid]? = some fn) (hb : fn.body.isSome = true) (hn : (fn.name == "runtime.NumGoroutine") = false)
    (hg : S.gv ops o = some true) (ho : o.op = .call { callee := .value f, args := args, argTypes := ats }) (hf : S.evc true f = some (.fn fid))
    (ha : S.args true args.toList = some vs) (hins : ∀ k q, get ins k = some q → get S.objs k = some q)
    (h : ∀ r, R r → ∃ S', ({ S with objs := dropK (ins.map (·.1)) S.objs, nx := S.nx + i + 1 } : AS).putv o.dst (wrapG o true r) = some S' ∧ AWL P w0 N0 ops Q (i + 1) rest S') : AWL P w0 N0 ops Q i (o :: rest) S := by
  rintro D a w hD ⟨μ, hr⟩
  refine wpList_step fun K hK => ?_
  rw [wanted_of hr hg, if_pos rfl]
  have hfresh := hr.fresh_lt hD
  obtain ⟨h1, h2⟩ := args_spec hr rfl ha
  have hhand := hr.hand (nx := S.nx + i + 1) hfresh (vs := vs) (xs := args.toList.map a.eval) (ins := ins) (by simp [h1]) hins (fun j x v hx hv => by
    simp only [List.getElem?_map, Option.map_eq_some_iff] at hx
    obtain ⟨y, hy, rfl⟩ := hx
    exact h2 j y v hy hv)
  have hcall := hc ⟨w, OwnB μ ins, μ, []⟩ _ μ (S.nx + i + 1) (args.toList.map a.eval) (by simp [h1]) rfl hhand
  refine call_run ho (fn_eval hr hf) hfn hb hn hcall ?_ ?_ ?_
  · rintro x w' ⟨x', r, he, hR, hfl, hp, hbw⟩
    injection he with he
    subst he
    obtain ⟨S', hs, hrest⟩ := h r hR
    have hl := hr.lost hfresh hins (objs := dropK (ins.map (·.1)) S.objs) (fun k q hq => by
      obtain ⟨h3, h4⟩ := get_dropK hq
      refine ⟨h3, ?_⟩
      cases hk : get ins k with
      | none => rfl
      | some q' => exact absurd (get_mem hk) h4) hbw
    refine hK _ _ (hrest (fun _ => False) _ w' (fun j hj => hj.elim) ⟨μ, hl.putv hs ?_⟩)
    unfold wrapG
    split
    · exact .pur (hp.of_flat1 hfl)
    · exact .whn _ _ _ (fun _ => .pur (hp.of_flat1 hfl)) (fun hf => by cases hf)
  · rintro ch w' ⟨x', r, he, _⟩
    cases he
  · rintro w' ⟨x', r, he, _⟩
    cases he
end
end Go.Eng

namespace Go.Eng
open Go.RowKit

/-- Each operation waits for earlier ones alone; each but the last is waited for; guards look at earlier ones. -/
def lastOk (l : List Oper) (o : Oper) : Bool :=
  ((List.range (l.length + 1)).all fun j => match (l ++ [o])[j]? with
    | some q => q.after.toList.all fun e => !Region.binds .any e || Nat.blt e.on j
    | none => true) &&
  ((List.range l.length).all fun i => (List.range (l.length + 1)).any fun j => match (l ++ [o])[j]? with
    | some q => q.after.toList.any fun e => Region.binds .any e && e.on == i
    | none => false) &&
  (l.all fun q => match q.guard with
    | some (g, _) => Nat.blt g l.length
    | none => true)
structure LastOk (l : List Oper) (o : Oper) : Prop where
  fwd : ∀ (j : Nat) (q : Oper), (l ++ [o])[j]? = some q → ∀ e ∈ q.after, Region.binds .any e = true → e.on < j
  waited : ∀ i, i < l.length → ∃ (j : Nat) (q : Oper), (l ++ [o])[j]? = some q ∧ ∃ e ∈ q.after, Region.binds .any e = true ∧ e.on = i
  guards : ∀ (q : Oper), q ∈ l → ∀ (g : Nat) (want : Bool), q.guard = some (g, want) → g < l.length
theorem lastOk_spec {l : List Oper} {o : Oper} (h : lastOk l o = true) : LastOk l o := by
  simp only [lastOk, Bool.and_eq_true] at h
  obtain ⟨⟨h1, h2⟩, h3⟩ := h
  refine ⟨fun j q hj e he hb => ?_, fun i hi => ?_, fun q hq g want hg => ?_⟩
  · have hlt : j < (l ++ [o]).length := (List.getElem?_eq_some_iff.1 hj).1
    have := List.all_eq_true.1 h1 j (List.mem_range.2 (by simpa using hlt))
    simp only [hj] at this
    have := List.all_eq_true.1 this e (by simpa using he)
    simpa [hb] using this
  · have := List.all_eq_true.1 h2 i (List.mem_range.2 hi)
    obtain ⟨j, _, hj⟩ := List.any_eq_true.1 this
    split at hj
    · rename_i q hq
      obtain ⟨e, he, hb⟩ := List.any_eq_true.1 hj
      simp only [Bool.and_eq_true, beq_iff_eq] at hb
      exact ⟨j, q, hq, e, by simpa using he, hb.1, hb.2⟩
    · cases hj
  · have := List.all_eq_true.1 h3 q hq
    simpa [hg] using this

section
variable {P : Program} {kb : Nat} {w0 : Bs} {N0 : Nat → Prop} {Q : Exit → AS → Prop}

/-- What is listed waits for nothing that is not. -/
def Closed (l : List Oper) (listed : Array Bool) : Prop := ∀ j, listed.getD j false = true → ∀ q, l[j]? = some q → ∀ e ∈ q.after, Region.binds .any e = true → listed.getD e.on false = true
theorem getD_push {listed : Array Bool} {d : Bool} {i : Nat} (h : i < listed.size) (b : Bool) : (listed.push b).getD i d = listed.getD i d := by
  simp [Array.getElem?_push, Nat.ne_of_lt h]
theorem ready_down {l : List Oper} {o : Oper} {listed : Array Bool} (ok : LastOk l o) (hs : listed.size = l.length) {i : Nat} (hi : i < l.length) : i ∈ Region.ready .any (l ++ [o]).toArray (listed.push false) ↔ i ∈ Region.ready .any l.toArray listed := by
  rw [mem_ready, mem_ready]
  rw [getD_push (by omega)]
  have e : (l ++ [o]).toArray[i]? = l.toArray[i]? := by simp [List.getElem?_append_left hi]
  rw [e]
  refine and_congr_right fun _ => ?_
  constructor
  · rintro ⟨q, hq, h⟩
    refine ⟨q, hq, fun e he hb => ?_⟩
    have hlt := ok.fwd i q (by rw [List.getElem?_append_left hi]; simpa using hq) e he hb
    have := h e he hb
    rwa [getD_push (by omega)] at this
  · rintro ⟨q, hq, h⟩
    refine ⟨q, hq, fun e he hb => ?_⟩
    have hlt := ok.fwd i q (by rw [List.getElem?_append_left hi]; simpa using hq) e he hb
    rw [getD_push (by omega)]
    exact h e he hb
/-- Where nothing is ready all is listed. -/
theorem all_listed {l : List Oper} {o : Oper} {listed : Array Bool} (ok : LastOk l o) (hs : listed.size = l.length) (h : Region.ready .any l.toArray listed = []) : ∀ i, i < l.length → listed.getD i false = true := by
  intro i
  induction i using Nat.strongRecOn with
  | _ i ih =>
    intro hi
    cases hb : listed.getD i false with
    | true => rfl
    | false =>
      exfalso
      have : i ∈ Region.ready .any l.toArray listed := by
        rw [mem_ready]
        refine ⟨?_, l[i], by simp [hi], fun e he hbd => ?_⟩
        · simp only [Array.getD_eq_getD_getElem?] at hb ⊢
          rw [Array.getElem?_eq_getElem (by omega)] at hb ⊢
          exact hb
        · have hlt := ok.fwd i l[i] (by rw [List.getElem?_append_left hi]; simp [hi]) e he hbd
          exact ih e.on hlt (by omega)
      rw [h] at this
      cases this
/-- The last one is ready only when all others are listed. -/
theorem last_ready {l : List Oper} {o : Oper} {listed : Array Bool} (ok : LastOk l o) (hs : listed.size = l.length) (hc : Closed l listed) (h : l.length ∈ Region.ready .any (l ++ [o]).toArray (listed.push false)) : ∀ i, i < l.length → listed.getD i false = true := by
  rw [mem_ready] at h
  obtain ⟨_, q, hq, hall⟩ := h
  have hqo : q = o := by simp at hq; exact hq.symm
  subst hqo
  have key : ∀ k i, l.length - i = k → i < l.length → listed.getD i false = true := by
    intro k
    induction k using Nat.strongRecOn with
    | _ k ih =>
      intro i hk hi
      obtain ⟨j, q', hj, e, he, hb, hon⟩ := ok.waited i hi
      have hij := ok.fwd j q' hj e he hb
      by_cases hjl : j < l.length
      · have := ih (l.length - j) (by omega) j rfl hjl
        have h2 := hc j this q' (by rw [List.getElem?_append_left hjl] at hj; exact hj) e he hb
        rw [hon] at h2
        exact h2
      · have hjj : j < (l ++ [q]).length := (List.getElem?_eq_some_iff.1 hj).1
        have hje : j = l.length := by simp at hjj; omega
        subst hje
        have : q' = q := by simp at hj; exact hj.symm
        subst this
        have := hall e he hb
        rw [hon, getD_push (by omega)] at this
        exact this
  exact fun i hi => key _ i rfl hi

theorem letsOut_mono {Q1 Q2 : Exit → Act → World → Prop} (hQ : ∀ e a w, e ≠ Exit.normal → Q1 e a w → Q2 e a w) (h : LetsOut Q1) : LetsOut Q2 := by
  obtain ⟨a, w, h⟩ := h
  exact ⟨a, w, hQ _ _ _ (by simp) h⟩
theorem wp_mono2 {o : Oper} {a : Act} {w : World} {K K' : Act → World → Prop} {Q1 Q2 : Exit → Act → World → Prop} (h : ∀ a w, K a w → K' a w) (hQ : ∀ e a w, e ≠ Exit.normal → Q1 e a w → Q2 e a w)
    (hh : o.wp P a w K Q1) : o.wp P a w K' Q2 := by
  unfold Oper.wp at *
  generalize (execOp a.eval o).run P w = r at *
  cases r with
  | ok n w' =>
    cases n <;> simp only [Oper.upon] at hh ⊢ <;>
      first
        | exact h _ _ hh
        | exact Calls.mono hh (fun e w'' he => by cases e <;> first | exact h _ _ he | exact hQ _ _ _ (by simp) he | exact letsOut_mono hQ he)
        | exact Rows.mono hh (fun _ _ he => h _ _ he)
  | halt x w' => cases x <;> simp only [Oper.upon] at hh ⊢ <;> first | exact hh | exact hQ _ _ _ (by simp) hh | exact letsOut_mono hQ hh
theorem push_set {listed : Array Bool} {i : Nat} (h : i < listed.size) : (listed.push false).setIfInBounds i true = (listed.setIfInBounds i true).push false := by
  apply Array.ext_getElem?
  intro j
  by_cases hij : i = j
  · subst hij
    rw [Array.getElem?_setIfInBounds_self_of_lt (by simp; omega), Array.getElem?_push_lt (by simpa using h), Array.getElem_setIfInBounds_self]
  · rw [Array.getElem?_setIfInBounds_ne hij]
    by_cases hj : j = listed.size
    · subst hj
      rw [Array.getElem?_push, if_pos rfl, Array.getElem?_push, if_pos (by simp)]
    · rw [Array.getElem?_push, if_neg hj, Array.getElem?_push, if_neg (by simpa using hj), Array.getElem?_setIfInBounds_ne hij]
theorem yielded_down {l : List Oper} {o : Oper} {tmps : Array Value} {g : Nat} (h : g < l.length) : yielded (l ++ [o]).toArray tmps g = yielded l.toArray tmps g := by
  unfold yielded
  have : (l ++ [o]).toArray[g]? = l.toArray[g]? := by simp [List.getElem?_append_left h]
  rw [this]
theorem wanted_down {l : List Oper} {o q : Oper} {tmps : Array Value} (ok : LastOk l o) (hq : q ∈ l) : Region.wanted q (yielded (l ++ [o]).toArray tmps) = Region.wanted q (yielded l.toArray tmps) := by
  unfold Region.wanted
  cases hg : q.guard with
  | none => rfl
  | some p =>
    obtain ⟨g, want⟩ := p
    simp only
    rw [yielded_down (ok.guards q hq g want hg)]
/-- The region of the others, then the last one. -/
def QM (P : Program) (w0 : Bs) (N0 : Nat → Prop) (l : List Oper) (o : Oper) (Q : Exit → AS → Prop) : Exit → AS → Prop
  | .normal, S => AWL P w0 N0 (l ++ [o]) Q l.length [o] S
  | e, S => Q e S
theorem wpAny_last {l : List Oper} {o : Oper} (ok : LastOk l o) : ∀ (n : Nat) (listed : Array Bool) (a : Act) (w : World), listed.size = l.length → Closed l listed →
    wpAny P .any l.toArray (post w0 N0 (QM P w0 N0 l o Q)) n listed a w → wpAny P .any (l ++ [o]).toArray (post w0 N0 Q) (n + 1) (listed.push false) a w := by
  have hpost : ∀ e a w, e ≠ Exit.normal → post w0 N0 (QM P w0 N0 l o Q) e a w → post w0 N0 Q e a w := by
    rintro e a w hne ⟨S, hS, hr⟩
    refine ⟨S, ?_, hr⟩
    cases e <;> first | exact absurd rfl hne | exact hS
  -- the last step
  have last : ∀ (n : Nat) (listed : Array Bool) (a : Act) (w : World), listed.size = l.length → (∀ i, i < l.length → listed.getD i false = true) → post w0 N0 (QM P w0 N0 l o Q) .normal a w →
      wpAny P .any (l ++ [o]).toArray (post w0 N0 Q) (n + 1) (listed.push false) a w := by
    intro n listed a w hs hall hp
    obtain ⟨S, hS, hr⟩ := hp
    have hstep := hS (fun _ => False) a w (fun j hj => hj.elim) hr
    have hrdy : ∀ i, i ∈ Region.ready .any (l ++ [o]).toArray (listed.push false) → i = l.length := by
      intro i hi
      rw [mem_ready] at hi
      obtain ⟨h1, q, hq, _⟩ := hi
      have hlt : i < (l ++ [o]).toArray.size := (Array.getElem?_eq_some_iff.1 hq).1
      by_cases hil : i < l.length
      · exfalso
        have h2 := hall i hil
        rw [getD_push (by omega)] at h1
        simp only [Array.getD_eq_getD_getElem?] at h1 h2
        rw [Array.getElem?_eq_getElem (by omega)] at h1 h2
        simp only [Option.getD_some] at h1 h2
        rw [h1] at h2
        cases h2
      · simp at hlt; omega
    have hm : l.length ∈ Region.ready .any (l ++ [o]).toArray (listed.push false) := by
      rw [mem_ready]
      refine ⟨?_, o, by simp, fun e he hb => ?_⟩
      · rw [← hs]; simp
      · have hlt := ok.fwd l.length o (by simp) e he hb
        rw [getD_push (by omega)]
        exact hall e.on hlt
    have hnone : Region.ready .any (l ++ [o]).toArray ((listed.push false).setIfInBounds l.length true) = [] := by
      rw [List.eq_nil_iff_forall_not_mem]
      intro i hi
      rw [mem_ready] at hi
      obtain ⟨h1, q, hq, _⟩ := hi
      have hlt : i < (l ++ [o]).toArray.size := (Array.getElem?_eq_some_iff.1 hq).1
      by_cases hil : l.length = i
      · subst hil
        rw [← hs] at h1
        simp at h1
      · rw [getD_set_ne true hil] at h1
        have hil' : i < l.length := by simp at hlt; omega
        rw [getD_push (by omega)] at h1
        have h2 := hall i hil'
        simp only [Array.getD_eq_getD_getElem?] at h1 h2
        rw [Array.getElem?_eq_getElem (by omega)] at h1 h2
        simp only [Option.getD_some] at h1 h2
        rw [h1] at h2
        cases h2
    refine ⟨fun h0 => (by rw [h0] at hm; cases hm), fun i hi => ?_⟩
    have := hrdy i hi
    subst this
    have hk : ∀ a w, post w0 N0 Q .normal a w → wpAny P .any (l ++ [o]).toArray (post w0 N0 Q) n ((listed.push false).setIfInBounds l.length true) a w := by
      intro a w hp
      cases n with
      | zero => exact ⟨hnone, hp⟩
      | succ n => exact ⟨fun _ => hp, fun i hi => by rw [hnone] at hi; cases hi⟩
    unfold wpOp
    have ho : (l ++ [o]).toArray[l.length]? = some o := by simp
    simp only [ho]
    unfold wpList at hstep
    split at hstep
    · rename_i hw
      rw [if_pos hw]
      exact hstep.imp (fun h => Oper.wp_mono (fun a w h => hk a w h) h) id
    · rename_i hw
      rw [if_neg hw]
      exact hk _ _ hstep
  intro n
  induction n with
  | zero =>
    intro listed a w hs hc H
    exact last 0 listed a w hs (all_listed ok hs H.1) H.2
  | succ n ih =>
    intro listed a w hs hc H
    by_cases h0 : Region.ready .any l.toArray listed = []
    · exact last (n + 1) listed a w hs (all_listed ok hs h0) (H.1 h0)
    · refine ⟨fun h1 => ?_, fun i hi => ?_⟩
      · exfalso
        obtain ⟨i, hi⟩ := List.exists_mem_of_ne_nil _ h0
        have hil : i < l.length := by
          obtain ⟨_, q, hq, _⟩ := mem_ready.1 hi
          have := (Array.getElem?_eq_some_iff.1 hq).1
          simpa using this
        have := (ready_down ok hs hil).2 hi
        rw [h1] at this
        cases this
      · by_cases hil : i < l.length
        · have hi' := (ready_down ok hs hil).1 hi
          have hst := H.2 i hi'
          have e : (l ++ [o]).toArray[i]? = l.toArray[i]? := by simp [List.getElem?_append_left hil]
          have hq : l.toArray[i]? = some l[i] := by simp [hil]
          unfold wpOp at hst ⊢
          rw [e]
          simp only [hq] at hst ⊢
          rw [wanted_down ok (List.getElem_mem hil)]
          have hclosed : Closed l (listed.setIfInBounds i true) := by
            intro j hj q hjq e' he hb
            by_cases hij : i = j
            · subst hij
              obtain ⟨_, q', hq', hall⟩ := mem_ready.1 hi'
              have hqq : q' = q := by
                have h1 : l[i]? = some q' := by simpa using hq'
                rw [h1] at hjq
                exact Option.some.inj hjq
              subst hqq
              exact getD_set_true (hall e' he hb)
            · rw [getD_set_ne false hij] at hj
              exact getD_set_true (hc j hj q hjq e' he hb)
          have hnext : ∀ a w, wpAny P .any l.toArray (post w0 N0 (QM P w0 N0 l o Q)) n (listed.setIfInBounds i true) a w → wpAny P .any (l ++ [o]).toArray (post w0 N0 Q) (n + 1) ((listed.push false).setIfInBounds i true) a w := by
            intro a w h
            have := ih (listed.setIfInBounds i true) a w (by simpa using hs) hclosed h
            rwa [← push_set (by omega)] at this
          split at hst
          · rename_i hw
            rw [if_pos hw]
            rcases hst with hst | ⟨h1, h2⟩
            · exact .inl (wp_mono2 hnext hpost hst)
            · exact .inr ⟨h1, letsOut_mono hpost h2⟩
          · rename_i hw
            rw [if_neg hw]
            exact hnext _ _ hst
        · exfalso
          have him : i = l.length := by
            obtain ⟨_, q, hq, _⟩ := mem_ready.1 hi
            have := (Array.getElem?_eq_some_iff.1 hq).1
            simp at this
            omega
          subst him
          have hall := last_ready ok hs hc hi
          apply h0
          rw [List.eq_nil_iff_forall_not_mem]
          intro i hi2
          obtain ⟨h1, q, hq, _⟩ := mem_ready.1 hi2
          have hil2 : i < l.length := by
            have := (Array.getElem?_eq_some_iff.1 hq).1
            simpa using this
          have h2 := hall i hil2
          simp only [Array.getD_eq_getD_getElem?] at h1 h2
          rw [Array.getElem?_eq_getElem (by omega)] at h1 h2
          simp only [Option.getD_some] at h1 h2
          rw [h1] at h2
          cases h2

/-- A region whose order is left open and whose last operation waits for all others: the others in whatever order, then the last one. -/
theorem awk_drawLast {id : Nat} {l : List Oper} {o : Oper} {S : AS} (kb : Nat) (X : List Nat) (hm : P.follows .mixedOrders = true) (hok : lastOk l o = true)
    (h : ∀ N0 : Nat → Prop, AT P kb w0 X l (QM P w0 N0 l o Q) [] S) : AW P w0 N0 (.region id (l ++ [o]).toArray true) Q S := by
  rintro a w ⟨μ, hr⟩
  refine wp_region_any hm ?_
  have ok := lastOk_spec hok
  have hsz : (l ++ [o]).toArray.size = l.length + 1 := by simp
  have hrep : Array.replicate (l.length + 1) false = (Array.replicate l.length false).push false := by
    apply Array.ext <;> simp [Array.getElem_push]
  rw [hsz, hrep]
  refine wpAny_last ok l.length _ a _ (by simp) (fun j hj => ?_) ?_
  · simp only [Array.getD_eq_getD_getElem?] at hj
    rcases Nat.lt_or_ge j l.length with h | h
    · simp [h] at hj
    · rw [Array.getElem?_eq_none (by simpa using h)] at hj; simp at hj
  refine xany_sound (K := fun S => ∃ S', ({ S with nx := S.nx + l.length } : AS).le S' ∧ QM P w0 N0 l o Q .normal S') ?_ l.length _ S a _ (by simp) ⟨μ, ?_⟩ (h N0)
  · rintro S a w ⟨S', h1, h2⟩ ⟨μ, hr⟩
    refine ⟨S', h2, h1 _ _ _ _ ⟨μ, ⟨hr.defers, hr.size, hr.below, hr.n0, fun d v hv => ?_, hr.objs, hr.inj, hr.env⟩⟩⟩
    rcases hr.fresh d v hv with h3 | ⟨j, hj, e⟩
    · exact .inl (by simp only; omega)
    · exact .inl (by simp only; omega)
  · have := hr.drew
    exact this.more (fun j hj => hj.elim)
/-- The same for a literal list: its last one is taken off. -/
theorem aw_drawLast {id : Nat} {l : List Oper} {S : AS} (m : Nat) {o : Oper} (X : List Nat) (hm : P.follows .mixedOrders = true) (hl : l = l.take m ++ [o]) (hok : lastOk (l.take m) o = true)
    (h : ∀ N0 : Nat → Prop, AT P 0 w0 X (l.take m) (QM P w0 N0 (l.take m) o Q) [] S) : AW P w0 N0 (.region id l.toArray true) Q S := by
  rw [hl]; exact awk_drawLast 0 X hm hok h
theorem awk_drawLastL {id : Nat} {l : List Oper} {S : AS} (kb m : Nat) {o : Oper} (X : List Nat) (hm : P.follows .mixedOrders = true) (hl : l = l.take m ++ [o]) (hok : lastOk (l.take m) o = true)
    (h : ∀ N0 : Nat → Prop, AT P kb w0 X (l.take m) (QM P w0 N0 (l.take m) o Q) [] S) : AW P w0 N0 (.region id l.toArray true) Q S := by
  rw [hl]; exact awk_drawLast kb X hm hok h
/-- A call on pure values in a region whose order is left open. -/
theorem sx_call1 {X : List Nat} {ops : List Oper} {i : Nat} {o : Oper} {S S' : AS} {c : Bool} {f : Operand} {fid : FuncId} {fn : Func} {args : Array Operand} {ats : Array TypeId} {vs : List V} {res : V}
    (hc : c = true → AC P fid vs (fun r => r = res)) (hfn : P.funcs[fid]? = some fn) (hb : fn.body.isSome = true) (hn : (fn.name == "runtime.NumGoroutine") = false)
    (hg : S.gv ops o = some c) (ho : o.op = .call { callee := .value f, args := args, argTypes := ats }) (hf : S.evc c f = some (.fn fid)) (ha : S.args c args.toList = some vs) (hp : vs.all V.pureV = true) (hs : S.putv o.dst (wrapG o c res) = some S') : StepX P kb w0 X ops i o S S' :=
  .inl (.inr (.inl ⟨c, f, args, ats, fid, fn, vs, res, hg, ho, hf, hfn, hb, hn, ha, hp, fun h => (hc h).b, hs⟩))
theorem ACQ.b {G : Gp} (hG : Gon G w0) {f : FuncId} {args : List V} {R : V → Prop} (h : ACQ G P f args R) : ACB w0 P f args R := fun w N xs hb h1 h2 h3 => h w N xs (hG.at hb) h1 h2 h3
/-- The same for contracts that rely on package variables. -/
theorem sx_callQ1 {G : Gp} {X : List Nat} {ops : List Oper} {i : Nat} {o : Oper} {S S' : AS} {c : Bool} {f : Operand} {fid : FuncId} {fn : Func} {args : Array Operand} {ats : Array TypeId} {vs : List V} {res : V}
    (hG : Gon G w0) (hc : c = true → ACQ G P fid vs (fun r => r = res)) (hfn : P.funcs[fid]? = some fn) (hb : fn.body.isSome = true) (hn : (fn.name == "runtime.NumGoroutine") = false)
    (hg : S.gv ops o = some c) (ho : o.op = .call { callee := .value f, args := args, argTypes := ats }) (hf : S.evc c f = some (.fn fid)) (ha : S.args c args.toList = some vs) (hp : vs.all V.pureV = true) (hs : S.putv o.dst (wrapG o c res) = some S') : StepX P kb w0 X ops i o S S' :=
  .inl (.inr (.inl ⟨c, f, args, ats, fid, fn, vs, res, hg, ho, hf, hfn, hb, hn, ha, hp, fun h => (hc h).b hG, hs⟩))
theorem awo_callQ {G : Gp} {ops : List Oper} {i : Nat} {ks : List Nat} {l : List (Nat × List Nat)} {o : Oper} {c : Bool} {f : Operand} {fid : FuncId} {fn : Func} {args : Array Operand} {ats : Array TypeId} {vs : List V} {res : V} {S S' : AS}
    (hG : Gon G w0) (hc : c = true → ACQ G P fid vs (fun r => r = res)) (hfn : P.funcs[fid]? = some fn) (hb : fn.body.isSome = true) (hn : (fn.name == "runtime.NumGoroutine") = false) (hi : nth ops i = some o) (hks : (ks.all fun d => (get S.objs (0 + d)).isNone) = true)
    (hg : S.gv ops o = some c) (ho : o.op = .call { callee := .value f, args := args, argTypes := ats }) (hf : S.evc c f = some (.fn fid)) (ha : S.args c args.toList = some vs) (hp : vs.all V.pureV = true) (hs : S.putv o.dst (wrapG o c res) = some S') (h : AWO P 0 w0 ops Q l S') : AWO P 0 w0 ops Q ((i, ks) :: l) S := by
  rw [nth_eq] at hi
  exact ⟨o, S', hi, hks, .inr (.inl ⟨c, f, args, ats, fid, fn, vs, res, hg, ho, hf, hfn, hb, hn, ha, hp, fun h => (hc h).b hG, hs⟩), h⟩
theorem awl_gcallQ {G : Gp} {ops : List Oper} {i : Nat} {o : Oper} {rest : List Oper} {c : Bool} {f : Operand} {fid : FuncId} {fn : Func} {args : Array Operand} {ats : Array TypeId} {vs : List V} {res : V} {S S' : AS}
    (hG : Gon G w0) (hc : c = true → ACQ G P fid vs (fun r => r = res)) (hfn : P.funcs[fid]? = some fn) (hb : fn.body.isSome = true) (hn : (fn.name == "runtime.NumGoroutine") = false)
    (hg : S.gv ops o = some c) (ho : o.op = .call { callee := .value f, args := args, argTypes := ats }) (hf : S.evc c f = some (.fn fid)) (ha : S.args c args.toList = some vs) (hp : vs.all V.pureV = true) (hs : S.putv o.dst (wrapG o c res) = some S') (h : AWL P w0 N0 ops Q (i + 1) rest S') : AWL P w0 N0 ops Q i (o :: rest) S :=
  awl_st (kb := 0) (.inr (.inl ⟨c, f, args, ats, fid, fn, vs, res, hg, ho, hf, hfn, hb, hn, ha, hp, fun h => (hc h).b hG, hs⟩)) h
end
end Go.Eng

namespace Go.Eng
open Go.RowKit
section
variable {P : Program} {kb : Nat} {w0 : Bs} {N0 : Nat → Prop} {Q : Exit → AS → Prop} {S S' : AS} {G : Gp}

/-- A call of a bound method: first arguments ahead of the others. -/
theorem awl_callCQ {ops : List Oper} {i : Nat} {o : Oper} {rest : List Oper} {f : Operand} {fid : FuncId} {fn : Func} {args : Array Operand} {ats : Array TypeId} {us vs : List V} {ins : List (Nat × Ob)} {R : V → List (Nat × Ob) → Prop}
    (hG : Gon G w0) (hc : ACSQ G P fid (us ++ vs) ins R) (hfn : P.funcs[fid]? = some fn) (hb : fn.body.isSome = true) (hn : (fn.name == "runtime.NumGoroutine") = false)
    (hg : S.gv ops o = some true) (ho : o.op = .call { callee := .value f, args := args, argTypes := ats }) (hf : S.evc true f = some (.clo fid us []))
    (ha : S.args true args.toList = some vs) (hins : ∀ k q, get ins k = some q → get S.objs k = some q)
    (h : ∀ r outs nx, R r outs → S.nx + i + 1 ≤ nx → (∀ k, get outs k = none → get ins k = none) ∧ ∃ S', ({ S with objs := outs ++ S.objs, nx := nx } : AS).putv o.dst (wrapG o true r) = some S' ∧ AWL P w0 N0 ops Q (i + 1) rest S') : AWL P w0 N0 ops Q i (o :: rest) S := by
  rintro D a w hD ⟨μ, hr⟩
  refine wpList_step fun K hK => ?_
  rw [wanted_of hr hg, if_pos rfl]
  have hfresh := hr.fresh_lt hD
  obtain ⟨h1, h2⟩ := args_spec hr rfl ha
  obtain ⟨ys, hy1, hy2, hy3⟩ := clo_eval hr hf
  have hhand := hr.hand (nx := S.nx + i + 1) hfresh (vs := us ++ vs) (xs := ys ++ args.toList.map a.eval) (ins := ins) (by simp [h1, hy2]) hins (fun j x v hx hv => by
    by_cases hj : j < ys.length
    · rw [List.getElem?_append_left hj] at hx
      rw [List.getElem?_append_left (by rw [← hy2]; exact hj)] at hv
      exact hy3 j x v hx hv
    · rw [List.getElem?_append_right (by omega)] at hx
      rw [List.getElem?_append_right (by omega), ← hy2] at hv
      simp only [List.getElem?_map, Option.map_eq_some_iff] at hx
      obtain ⟨y, hy, rfl⟩ := hx
      exact h2 _ y v hy hv)
  have hcall := hc ⟨w, OwnB μ ins, μ, []⟩ _ μ (S.nx + i + 1) (ys ++ args.toList.map a.eval) (hG.hand hr hins) (by simp [h1, hy2]) rfl hhand
  refine call_runC ho hy1 hfn hb hn hcall ?_ ?_ ?_
  · rintro x w' ⟨x', r, outs, nx', μ', he, hR, hnx, hrel⟩
    injection he with he
    subst he
    obtain ⟨hcov, S', hs, hrest⟩ := h r outs nx' hR hnx
    obtain ⟨hb1, hb2⟩ := hr.back hins hcov hrel
    refine hK _ _ (hrest (fun _ => False) _ w' (fun j hj => hj.elim) ⟨μ', hb1.putv hs ?_⟩)
    unfold wrapG
    split
    · exact hb2
    · exact .whn _ _ _ (fun _ => hb2) (fun hf => by cases hf)
  · rintro ch w' ⟨x', r, outs, nx', μ', he, _⟩
    cases he
  · rintro w' ⟨x', r, outs, nx', μ', he, _⟩
    cases he
/-- Where a function ends whose answer is said by a predicate. -/
theorem endsSR {fn : Func} {nx : Nat} {r0 : V} {outs0 : List (Nat × Ob)} {R : V → List (Nat × Ob) → Prop} {E : List PanicEntry → Prop} (hnx : nx ≤ S.nx) (hr : aresT P S fn.results.toList = some r0) (hR : R r0 outs0) (ho : ∀ k o, get outs0 k = some o → get S.objs k = some o) :
    EndsS P fn R E nx .ret S := ⟨hnx, r0, outs0, hr, ho, hR⟩
theorem has_one {d k : Nat} {x x' : Ob} (h : Eng.get [(d, x)] k = none) : Eng.get [(d, x')] k = none := by
  simp only [Eng.get] at h ⊢
  split at h
  · cases h
  · rename_i h1; rw [if_neg h1]
end
end Go.Eng

namespace Go.Eng
open Go.RowKit Go.ChangeShapes Go.WideShapes Go.ChangeAt

/-- All texts and lists are of so many at most. -/
inductive SmlV (n : Nat) : V → Prop
  | str {l : List UInt8} (h : l.length ≤ n) : SmlV n (.str l)
  | ro {sz : Nat} {es : List V} (h : es.length ≤ n) (k : ∀ e ∈ es, SmlV n e) : SmlV n (.ro sz es)
  | agg {cs : List V} (k : ∀ c ∈ cs, SmlV n c) : SmlV n (.agg cs)
  | bool (b : Bool) : SmlV n (.bool b)
  | int (k : IntKind) (i : Int) : SmlV n (.int k i)
  | nils : SmlV n .nils
theorem sml_mkV {n : Nat} {b : Option Bool} {cs : List V} (h : ∀ c ∈ cs, SmlV n c) : SmlV n (mkV b cs) := by
  unfold mkV
  split
  · exact .agg h
  · cases cs with
    | nil => exact .nils
    | cons c r => exact h c (by simp)
/-- A size of what is read. -/
structure BulkOk {H : Type} (B : DataW H → Nat) : Prop where
  str : ∀ b : List UInt8, b.length ≤ B (.lit (.string b))
  slice : ∀ elems spare : List (DataW H), elems.length ≤ B (.slice elems spare) ∧ ∀ e ∈ elems, B e ≤ B (.slice elems spare)
  agg : ∀ parts : List (DataW H), ∀ e ∈ parts, B e ≤ B (.agg parts)

section
variable {H : Type} {enc : TypeId × Value → H} {P : Program} {w : World} {base : Nat} {spare : Nat → Bool} {held : Bool}

theorem trod_pursB {L : List TypeId} {B : DataW H → Nat} {N : Nat} (hB : BulkOk B) (hL : okL P L = true) : ∀ {fuel : Nat} {t : TypeId} {cs : List Value} {x : DataW H × List MemPlace}, t ∈ L → DataW.trod enc P w base spare held fuel t cs = some x → B x.1 ≤ N →
    ∃ vs, Purs w (fun _ => False) cs vs ∧ (∀ v ∈ vs, v.isCell = true) ∧ Rd P fuel t vs ∧ cs.length = P.cellsOf t ∧ ∀ v ∈ vs, SmlV N v
  | 0, _, _, _, _, h, _ => by simp [DataW.trod] at h
  | fuel + 1, t, cs, x, ht, h, hx => by
    have ho := List.all_eq_true.1 hL t ht
    unfold okT1 at ho
    unfold DataW.trod at h
    unfold Rd
    generalize hu : P.underlying t = u at ho h ⊢
    split at ho
    · -- bool
      clear hx
      simp only [beq_iff_eq] at ho
      split at h <;> simp_all
      rename_i b
      exact ⟨[.bool b], Purs.one (.bool _), by simp [V.isCell], by cases b <;> simp, fun v hv => by rw [List.mem_singleton.1 hv]; exact .bool _⟩
    · clear hx
      simp only [beq_iff_eq] at ho
      split at h <;> simp_all
      exact ⟨[.int _ _], Purs.one (.int _ _), by simp [V.isCell], ⟨_, rfl, h.1.2⟩, fun v hv => by rw [List.mem_singleton.1 hv]; exact .int _ _⟩
    · have hN : ∀ l : List UInt8, x.1 = .lit (.string l) → l.length ≤ N := fun l e => Nat.le_trans (hB.str l) (e ▸ hx)
      clear hx
      simp only [beq_iff_eq] at ho
      split at h
      all_goals try (cases h; done)
      all_goals try (rename_i he; cases he; done)
      rename_i s _
      simp only [Option.ite_none_right_eq_some, Option.some.injEq] at h
      have hl := hN s.data.toList (by rw [← h.2])
      refine ⟨[.str s.data.toList], Purs.one ?_, by simp [V.isCell], ⟨_, rfl, by simpa using h.1⟩, by simp [ho], fun v hv => by rw [List.mem_singleton.1 hv]; exact .str hl⟩
      have := Pur.str (w := w) (N := fun _ => False) s.data.toList
      simpa using this
    · rename_i e
      simp only [Bool.and_eq_true, beq_iff_eq, decide_eq_true_eq] at ho
      obtain ⟨⟨ho1, ho2⟩, ho3⟩ := ho
      split at h
      all_goals try (exfalso; first | (rename_i he; cases he; done) | (rename_i he _; cases he; done) | (rename_i he _ _; cases he; done) | (cases h; done))
      · refine ⟨[.ro (P.cellsOf e) []], Purs.one (.ro none ⟨0, 0, none⟩ 0 0 _ [] (fun _ _ => undef) rfl (Nat.le_refl _) (Nat.zero_le _) (fun h0 => by omega) (by simp) (by simp) (by simp)), by simp [V.isCell], ⟨[], rfl, by simp, by simp⟩, by simp [ho1], fun v hv => by rw [List.mem_singleton.1 hv]; exact .ro (by simp) (by simp)⟩
      · rename_i e' a len cap heq
        cases heq
        simp only at h
        split at h
        case isFalse => cases h
        rename_i hb
        simp only [Option.bind_eq_some_iff] at h
        obtain ⟨elems, he, hrest⟩ := h
        simp only [Option.map_eq_some_iff] at hrest
        obtain ⟨rest, _, rfl⟩ := hrest
        simp only at hx
        have hsl := hB.slice (elems.map (·.1)) (rest.map (·.1))
        have hxl : elems.length ≤ N := by have := hsl.1; simp at this; omega
        have hlen : elems.length = len := by simpa using mapM_some_length he
        have hel : ∀ i, i < len → ∃ vs : List V, ∃ ci : List Value, w.cells? base (a.add (i * P.cellsOf e)) (P.cellsOf e) = some ci ∧ Purs w (fun _ => False) ci vs ∧ (∀ v ∈ vs, v.isCell = true) ∧ Rd P fuel e vs ∧ ci.length = P.cellsOf e ∧ ∀ v ∈ vs, SmlV N v := by
          intro i hi
          have h1 := mapM_some_get he i i (by simp [hi])
          have hin : elems[i]'(by omega) ∈ elems := List.getElem_mem _
          rw [List.getElem?_eq_getElem (by omega)] at h1
          simp only [Option.bind_eq_some_iff] at h1
          obtain ⟨ci, h2, h3⟩ := h1
          obtain ⟨vs, h4, h5, h6, h7, h8⟩ := trod_pursB hB hL (by simpa using ho3) h3 (Nat.le_trans (hsl.2 _ (List.mem_map.2 ⟨_, hin, rfl⟩)) hx)
          exact ⟨vs, ci, h2, h4, h5, h6, h7, h8⟩
        obtain ⟨es, hes, hp⟩ := list_of hel
        have hcells : ∀ (k : Nat) us, es[k]? = some us → (mkV (tagg P e) us).cells = us ∧ (mkV (tagg P e) us).fits (P.cellsOf e) := by
          intro k us hk
          obtain ⟨ci, h1, h2, h3, h4, h5, h6'⟩ := hp k us hk
          have hc : (mkV (tagg P e) us).cells = us := by
            unfold mkV
            split
            · rfl
            · rename_i hna
              have h1' : us.length = 1 := by
                rw [← h2.1, h5]
                have ho4 := List.all_eq_true.1 hL e (by simpa using ho3)
                unfold okT1 at ho4
                unfold tagg at hna
                generalize P.underlying e = ue at ho4 hna
                split at ho4
                · simpa using ho4
                · simpa using ho4
                · simpa using ho4
                · simp only [Bool.and_eq_true, beq_iff_eq] at ho4; exact ho4.1.1
                · simp at hna
                · cases ho4
              match us, h1', h3 with
              | [c], _, h3 => simpa using V.cells_one (h3 c (by simp))
          exact ⟨hc, by rw [hc, ← h2.1, h5], by rw [hc]; exact h3⟩
        refine ⟨[.ro (P.cellsOf e) (es.map (mkV (tagg P e)))], Purs.one (.ro (some a) a len cap _ _ (fun k j => (w.cell? (a.add (k * P.cellsOf e + j))).getD undef) (by simp [hes]) hb.2.1 hb.2.2 (fun h0 => ⟨rfl, ?_, id⟩) ?_ ?_ ?_), by simp [V.isCell], ⟨es, rfl, by omega, ?_⟩, by simp [ho1], ?_⟩
        · obtain ⟨vs, ci, h1, _, _, _, h5, _⟩ := hel 0 h0
          obtain ⟨_, h6, h7⟩ := World.cells?_some h1
          have := h7 0 ho2
          rw [List.getElem?_eq_getElem (by omega)] at this
          have := World.block_lt_of_cell? _ _ this
          rwa [add_block, add_block] at this
        · intro v hv
          simp only [List.mem_map] at hv
          obtain ⟨us, hus, rfl⟩ := hv
          obtain ⟨k, hk⟩ := List.getElem?_of_mem hus
          exact (hcells k us hk).2
        all_goals
          try
            intro k v j c hk hj
            simp only [List.getElem?_map, Option.map_eq_some_iff] at hk
            obtain ⟨us, hk, rfl⟩ := hk
            rw [(hcells k us hk).1] at hj
            obtain ⟨ci, h1, h2, h3, h4, h5, h6'⟩ := hp k us hk
            obtain ⟨_, h6, h7⟩ := World.cells?_some h1
            have hjl : j < us.length := (List.getElem?_eq_some_iff.1 hj).1
            have hji : j < ci.length := by rw [h2.1]; exact hjl
            have h8 := h7 j (by omega)
            rw [add_add', List.getElem?_eq_getElem hji] at h8
        · rw [h8]; rfl
        · rw [h8]; exact h2.2 j _ c (List.getElem?_eq_getElem hji) hj
        · intro us hus
          obtain ⟨k, hk⟩ := List.getElem?_of_mem hus
          exact (hp k us hk).choose_spec.2.2.2.1
        · intro v hv
          rw [List.mem_singleton.1 hv]
          refine .ro (by simp; omega) (fun v hv => ?_)
          obtain ⟨us, hus, rfl⟩ := List.mem_map.1 hv
          obtain ⟨k, hk⟩ := List.getElem?_of_mem hus
          obtain ⟨ci, _, _, _, _, _, h6'⟩ := hp k us hk
          unfold mkV
          split
          · exact .agg h6'
          · cases us with
            | nil => exact .nils
            | cons c r => exact h6' c (by simp)
    · rename_i fs
      simp only [Bool.and_eq_true, List.all_eq_true] at ho
      obtain ⟨hlaid, hall⟩ := ho
      replace h : (if cs.length = P.cellsOf t then (fs.toList.mapM fun f => DataW.trod enc P w base spare held fuel f.type ((cs.drop f.offset).take (P.cellsOf f.type))).map fun xs => (DataW.agg (xs.map (·.1)), xs.flatMap (·.2)) else none) = some x := h
      split at h
      case isFalse => cases h
      rename_i hlen
      simp only [Option.map_eq_some_iff] at h
      obtain ⟨xs, hxs, hxe⟩ := h
      subst hxe
      simp only at hx
      have hag := hB.agg (xs.map (·.1))
      have hf : ∀ f ∈ fs.toList, ∃ vs, Purs w (fun _ => False) ((cs.drop f.offset).take (P.cellsOf f.type)) vs ∧ (∀ v ∈ vs, v.isCell = true) ∧ Rd P fuel f.type vs ∧ ((cs.drop f.offset).take (P.cellsOf f.type)).length = P.cellsOf f.type ∧ ∀ v ∈ vs, SmlV N v := by
        intro f hfm
        obtain ⟨i, hi⟩ := List.getElem?_of_mem hfm
        have h1 := mapM_some_get hxs i f hi
        have hl := mapM_some_length hxs
        have hil : i < xs.length := by rw [hl]; exact (List.getElem?_eq_some_iff.1 hi).1
        have hin : xs[i] ∈ xs := List.getElem_mem _
        rw [List.getElem?_eq_getElem hil] at h1
        exact trod_pursB hB hL (by simpa using hall f hfm) h1 (Nat.le_trans (hag _ (List.mem_map.2 ⟨_, hin, rfl⟩)) hx)
      have key : ∀ (l : List Field) (off : Nat), laidFs P l off (P.cellsOf t) = true → (∀ f ∈ l, ∃ vs, Purs w (fun _ => False) ((cs.drop f.offset).take (P.cellsOf f.type)) vs ∧ (∀ v ∈ vs, v.isCell = true) ∧ Rd P fuel f.type vs ∧ ((cs.drop f.offset).take (P.cellsOf f.type)).length = P.cellsOf f.type ∧ ∀ v ∈ vs, SmlV N v) →
          ∃ vs, Purs w (fun _ => False) (cs.drop off) vs ∧ (∀ v ∈ vs, v.isCell = true) ∧ RdF P (Rd P fuel) l vs ∧ ∀ v ∈ vs, SmlV N v := by
        intro l
        induction l with
        | nil =>
          intro off hl _
          simp only [laidFs, beq_iff_eq] at hl
          refine ⟨[], ⟨by simp; omega, by simp⟩, by simp, rfl, by simp⟩
        | cons f l ih =>
          intro off hl hh
          simp only [laidFs, Bool.and_eq_true, beq_iff_eq] at hl
          obtain ⟨ho, hl⟩ := hl
          subst ho
          obtain ⟨ws, h1, h2, h3, h9⟩ := ih _ hl (fun g hg => hh g (by simp [hg]))
          obtain ⟨us, g1, g2, g3, _, g9⟩ := hh f (by simp)
          refine ⟨us ++ ws, ?_, ?_, ⟨us, ws, rfl, g3, h3⟩, fun v hv => (List.mem_append.1 hv).elim (g9 v) (h9 v)⟩
          · have := g1.append h1
            rwa [← List.drop_drop, List.take_append_drop] at this
          · intro v hv
            rcases List.mem_append.1 hv with hv | hv
            · exact g2 v hv
            · exact h2 v hv
      obtain ⟨vs, h1, h2, h3, h9⟩ := key fs.toList 0 hlaid hf
      exact ⟨vs, by simpa using h1, h2, h3, hlen, h9⟩
    · cases ho

theorem arg_purB {L : List TypeId} {B : DataW H → Nat} {N : Nat} (hB : BulkOk B) (hL : okL P L = true) {r : Reach} {b0 : Nat} {t : TypeId} {v : Value} {d : DataW H} {ps : List MemPlace} (ht : t ∈ L) (hval : Value.okWide P w r b0 t v) (hd : DataW.Trod enc P w base spare held t v d ps) (hx : B d ≤ N) :
    ∃ u, Pur w (fun _ => False) v u ∧ RdW P t u ∧ SmlV N u := by
  obtain ⟨fuel, hf⟩ := hd
  obtain ⟨vs, h1, h2, h3, h4, h9⟩ := trod_pursB hB hL ht hf hx
  refine ⟨mkV (tagg P t) vs, ?_, ⟨fuel, vs, h3, rfl⟩, sml_mkV h9⟩
  have ho := List.all_eq_true.1 hL t ht
  unfold okT1 at ho
  generalize hu : P.underlying t = u at ho
  have one : v.cells = #[v] → tagg P t = some false → Pur w (fun _ => False) v (mkV (tagg P t) vs) := by
    intro hv hb
    have hl := h1.1
    rw [hv] at hl h1
    match vs, hl, h1 with
    | [c], _, h1 =>
      rw [hb]
      exact h1.2 0 v c rfl rfl
  split at ho
  · obtain ⟨b, rfl⟩ := okWide_bool hu hval
    exact one rfl (by simp [tagg, hu])
  · obtain ⟨b, rfl⟩ := okWide_int hu hval
    exact one rfl (by simp [tagg, hu])
  · obtain ⟨b, rfl⟩ := okWide_string hu hval
    exact one rfl (by simp [tagg, hu])
  · obtain ⟨a, l, c, rfl⟩ := okWide_slice hu hval
    exact one rfl (by simp [tagg, hu])
  · obtain ⟨cs, rfl, _⟩ := okWide_struct hu hval
    have : tagg P t = some true := by simp [tagg, hu]
    rw [this]
    have := Pur.agg cs.toList vs h1.1 h2 h1.2
    simpa [mkV] using this
  · cases ho

end

theorem args_purB {H : Type} {B : DataW H → Nat} {N : Nat} (hB : BulkOk B) {enc : TypeId × Value → H} {P : Program} {L : List TypeId} {W : World} {r : Reach} {b0 : Nat} {sp : Nat → Bool} {hd : Bool} (hL : okL P L = true) : ∀ {ts : List TypeId} {vs : List Value} {ds : List (DataW H)} {ps : List MemPlace}, (∀ t ∈ ts, t ∈ L) →
    (∀ (j : Nat) t v, ts[j]? = some t → vs[j]? = some v → Value.okWide P W r b0 t v) → DataW.TrodAll enc P W 0 sp hd ts vs ds ps → (∀ d ∈ ds, B d ≤ N) → ∃ us, RdAllW P ts us ∧ Purs W (fun _ => False) vs us ∧ ∀ u ∈ us, SmlV N u
  | [], vs, ds, ps, _, _, h, _ => by
    obtain ⟨rfl, rfl, rfl⟩ := trodAll_nil h
    exact ⟨[], rfl, ⟨rfl, by simp⟩, by simp⟩
  | t :: ts, vs, ds, ps, ho, hv, h, hb => by
    obtain ⟨v, vs', d, ds', p, q, rfl, rfl, rfl, h1, h2⟩ := trodAll_cons h
    obtain ⟨u, g1, g2, g5⟩ := arg_purB hB hL (ho t (by simp)) (hv 0 t v rfl rfl) h1 (hb d (by simp))
    obtain ⟨us, g3, g4, g6⟩ := args_purB hB hL (fun t ht => ho t (by simp [ht])) (fun j t' v' ht hv' => hv (j + 1) t' v' ht hv') h2 (fun d hd => hb d (by simp [hd]))
    exact ⟨u :: us, ⟨u, us, rfl, g2, g3⟩, (Purs.one g1).append g4, fun x hx => (List.mem_cons.1 hx).elim (fun e => e ▸ g5) (g6 x)⟩

/-- The row's step from a contract that relies on package variables. -/
theorem row_contractQ {G : Gp} {H : Type} {enc : TypeId × Value → H} {P : Program} {f : FuncId} {fn : Func} {s : ChangeSpec} {L : List TypeId} {tb : TypeId} {ts : List TypeId} (hts : fn.params.toList = ts) (hL : okL P L = true) (hok : (ts.all fun t => L.contains t && P.readableRec t && decide (t < P.types.size)) = true) (hlaid : laidOutB P = true) (hres : fn.resultTypes = #[tb]) (htb : P.underlying tb = some .bool)
    (hvars : s.vars = []) (hs : ∀ ds : List (DataW H), ds.length = ts.length → s.fn H ds = { results := [.lit (.bool true)], args := ds }) (hc : ∀ vs, RdAllW P ts vs → ACQ G P f vs (fun r => r = .bool true))
    {W : World} {base : Nat} {args : Array Value} {ds gs : List (DataW H)} {before : List MemPlace}
    (hG : G.P W) (hval : ∀ (j : Nat) t v, fn.params[j]? = some t → args[j]? = some v → Value.okWide P W .any base t v) (hW : DataW.Whole enc P fn.params.toList s.vars false W args.toList ds gs before) :
    Calls P f args W fun e W' => ∃ v, e = .returned v ∧ s.post enc P fn false true false false W args v W' := by
  have hW' := hW
  obtain ⟨p, q, hA, hV, rfl, hfz, hnd⟩ := hW
  rw [hvars] at hV
  obtain ⟨rfl, rfl⟩ := trodVars_none hV
  have hdl : ds.length = ts.length := by
    have : ∀ (ts : List TypeId) (vs : List Value) (ds : List (DataW H)) (ps : List MemPlace), DataW.TrodAll enc P W 0 (fun _ => true) true ts vs ds ps → ds.length = ts.length := by
      intro ts
      induction ts with
      | nil => intro vs ds ps h; obtain ⟨_, rfl, _⟩ := trodAll_nil h; rfl
      | cons t ts ih => intro vs ds ps h; obtain ⟨v, vs', d, ds', p, q, rfl, rfl, rfl, _, h2⟩ := trodAll_cons h; simp [ih _ _ _ h2]
    rw [← hts]; exact this _ _ _ _ hA
  have hall : ∀ t ∈ ts, t ∈ L ∧ P.readableRec t = true ∧ t < P.types.size := by
    intro t ht
    have := List.all_eq_true.1 hok t ht
    simp only [Bool.and_eq_true, decide_eq_true_eq] at this
    exact ⟨by simpa using this.1.1, this.1.2, this.2⟩
  obtain ⟨us, h1, h2⟩ := args_purL (L := L) hL (ts := ts) (fun t ht => (hall t ht).1) (fun j t v ht hv => hval j t v (by rw [← hts] at ht; simpa using ht) (by simpa using hv)) (hts ▸ hA)
  have hcall := hc us h1 W (fun _ => False) args.toList hG (fun _ hb => hb.elim) h2.1 h2.2
  rw [show args.toList.toArray = args by simp] at hcall
  refine hcall.mono ?_
  rintro e W1 ⟨x, r, rfl, rfl, hp, hb⟩
  obtain rfl : x = .bool true := by cases hp; rfl
  refine ⟨_, rfl, ds, [], p ++ [], [], p, [], hW', ?_, ?_, ?_, hb.frame _, fun h => by cases h⟩
  · rw [List.append_nil, hs ds hdl, hres]
    exact trodAll_mk1 (shut_bool htb true)
  · rw [List.append_nil, hs ds hdl]
    exact trodAll_below hlaid hb (fun t ht => (hall t (hts ▸ ht)).2) hA
  · rw [List.append_nil, hs ds hdl, hvars]
    exact rfl

/-- The same, where what comes in is small. -/
theorem row_contractQB {G : Gp} {H : Type} {enc : TypeId × Value → H} {P : Program} {f : FuncId} {fn : Func} {s : ChangeSpec} {L : List TypeId} {tb : TypeId} {ts : List TypeId} (hts : fn.params.toList = ts) (hL : okL P L = true) (hok : (ts.all fun t => L.contains t && P.readableRec t && decide (t < P.types.size)) = true) (hlaid : laidOutB P = true) (hres : fn.resultTypes = #[tb]) (htb : P.underlying tb = some .bool)
    (hvars : s.vars = []) (hs : ∀ ds : List (DataW H), ds.length = ts.length → s.fn H ds = { results := [.lit (.bool true)], args := ds }) (hc : ∀ vs, RdAllW P ts vs → (∀ v ∈ vs, SmlV 1048576 v) → ACQ G P f vs (fun r => r = .bool true))
    {W : World} {base : Nat} {args : Array Value} {ds gs : List (DataW H)} {before : List MemPlace}
    (hG : G.P W) {B : DataW H → Nat} (hB : BulkOk B) (hsm : ∀ d ∈ ds, B d ≤ 1048576) (hval : ∀ (j : Nat) t v, fn.params[j]? = some t → args[j]? = some v → Value.okWide P W .any base t v) (hW : DataW.Whole enc P fn.params.toList s.vars false W args.toList ds gs before) :
    Calls P f args W fun e W' => ∃ v, e = .returned v ∧ s.post enc P fn false true false false W args v W' := by
  have hW' := hW
  obtain ⟨p, q, hA, hV, rfl, hfz, hnd⟩ := hW
  rw [hvars] at hV
  obtain ⟨rfl, rfl⟩ := trodVars_none hV
  have hdl : ds.length = ts.length := by
    have : ∀ (ts : List TypeId) (vs : List Value) (ds : List (DataW H)) (ps : List MemPlace), DataW.TrodAll enc P W 0 (fun _ => true) true ts vs ds ps → ds.length = ts.length := by
      intro ts
      induction ts with
      | nil => intro vs ds ps h; obtain ⟨_, rfl, _⟩ := trodAll_nil h; rfl
      | cons t ts ih => intro vs ds ps h; obtain ⟨v, vs', d, ds', p, q, rfl, rfl, rfl, _, h2⟩ := trodAll_cons h; simp [ih _ _ _ h2]
    rw [← hts]; exact this _ _ _ _ hA
  have hall : ∀ t ∈ ts, t ∈ L ∧ P.readableRec t = true ∧ t < P.types.size := by
    intro t ht
    have := List.all_eq_true.1 hok t ht
    simp only [Bool.and_eq_true, decide_eq_true_eq] at this
    exact ⟨by simpa using this.1.1, this.1.2, this.2⟩
  obtain ⟨us, h1, h2, h9⟩ := args_purB hB (L := L) hL (ts := ts) (fun t ht => (hall t ht).1) (fun j t v ht hv => hval j t v (by rw [← hts] at ht; simpa using ht) (by simpa using hv)) (hts ▸ hA) hsm
  have hcall := hc us h1 h9 W (fun _ => False) args.toList hG (fun _ hb => hb.elim) h2.1 h2.2
  rw [show args.toList.toArray = args by simp] at hcall
  refine hcall.mono ?_
  rintro e W1 ⟨x, r, rfl, rfl, hp, hb⟩
  obtain rfl : x = .bool true := by cases hp; rfl
  refine ⟨_, rfl, ds, [], p ++ [], [], p, [], hW', ?_, ?_, ?_, hb.frame _, fun h => by cases h⟩
  · rw [List.append_nil, hs ds hdl, hres]
    exact trodAll_mk1 (shut_bool htb true)
  · rw [List.append_nil, hs ds hdl]
    exact trodAll_below hlaid hb (fun t ht => (hall t (hts ▸ ht)).2) hA
  · rw [List.append_nil, hs ds hdl, hvars]
    exact rfl

end Go.Eng

namespace Go.Eng
open Go.RowKit

section
variable {P : Program} {w0 : Bs} {N0 : Nat → Prop} {Q : Exit → AS → Prop} {S S' : AS}

theorem flat_take1 : ∀ (es : List V) (n : Nat), (∀ e ∈ es, e.fits 1) → (flat es).take n = flat (es.take n)
  | [], n, _ => by simp [flat]
  | e :: es, 0, _ => by simp [flat]
  | e :: es, n + 1, h => by
    have h1 : e.cells.length = 1 := (h e List.mem_cons_self).1
    have ih := flat_take1 es n (fun x hx => h x (List.mem_cons_of_mem _ hx))
    show (e.cells ++ flat es).take (n + 1) = e.cells ++ flat (es.take n)
    rw [List.take_append, h1, Nat.add_sub_cancel, ih, List.take_of_length_le (by omega)]
theorem eff_copy {D : Nat → Prop} {μ : Mu} {a : Act} {w : World} (h : RelM D w0 N0 μ S a w) {d len : Nat} {dT sT te ty : TypeId} {s x : Value} {xv : V} {es : List V} {o : Ob} (ht : telem P dT = some te) (hn : tsz P te = some 1)
    (hs : Enc w (Own N0 μ S) μ s (.sl d o.v o.sz len)) (ho : get S.objs d = some o) (hlen : o.es.length = len) (hsz : o.sz = 1) (hx : Enc w (Own N0 μ S) μ x xv) (he : S.elems xv = some (1, es)) (hle : len ≤ es.length) :
    ∃ w', (Builtin.copy_ #[dT, sT] ty #[s, x]).run P w = .ok (goInt len) w' ∧ RelM D w0 N0 μ { S with objs := (d, { o with es := es.take len }) :: S.objs } a w' := by
  have hu := telem_underlying ht
  unfold tsz at hn
  obtain ⟨A, c, rfl, hlc, hrest⟩ := h.elems hx he
  have same : len = 0 → RelM D w0 N0 μ { S with objs := (d, { o with es := es.take len }) :: S.objs } a w := fun h0 => by
    have he0 : o.es = [] := List.eq_nil_of_length_eq_zero (by omega)
    have hoo : ({ o with es := es.take len } : Ob) = o := by
      rw [h0, List.take_zero, ← he0]
    rw [hoo]
    obtain ⟨l, hl, hob⟩ := h.objs d o ho
    refine (h.update (D' := D) (d := d) (o' := o) (l' := l) (μ' := μ) (fun _ _ _ hh => hh) h.fresh hl h.below (Keeps.refl _ _) (fun _ _ _ _ _ _ _ => rfl) (fun g c e => .inr ⟨o, c, ho, by rw [hl, e]⟩) (fun N' hN => ?_)).1
    exact hob.keep (w' := w) (N' := N') (μ' := μ) (Keeps.refl _ _) hN (fun _ _ _ hh => hh) (fun _ _ _ => rfl)
  cases hs with
  | pur hs => cases hs
  | slv _ _ _ B hm => exact ⟨w, run_copy_none w dT sT ty te B A 0 0 es.length c hu hn (by simp), same rfl⟩
  | slr _ _ _ _ g cap hm hle2 hmax =>
    by_cases h0 : len = 0
    · exact ⟨w, by rw [h0]; exact run_copy_none w dT sT ty te _ A 0 cap es.length c hu hn (by simp), same h0⟩
    have hne : es ≠ [] := fun e => by subst e; simp at hle; omega
    obtain ⟨hf, ad, vs, rfl, hvl, hvc, hrow⟩ := hrest hne
    obtain ⟨l, hl', hob⟩ := h.objs d o ho
    rw [hm] at hl'
    injection hl' with hl'
    subst hl'
    obtain ⟨o1, o2, o3, o4, arr, o5, o6, o7⟩ := hob
    rw [hsz, Nat.mul_one] at o6
    rw [Nat.mul_one] at hvl
    have hct : (vs.take len).length = len := by rw [List.length_take]; omega
    have hrowt := hrow.take len
    rw [flat_take1 es len hf] at hrowt
    have hone : ∀ v ∈ vs.take len, v.oneCell' = true := by
      intro v hv
      have hv := List.mem_of_mem_take hv
      obtain ⟨j, hj⟩ := List.getElem?_of_mem hv
      have hjl : j < (flat es).length := by rw [← hrow.1]; exact (List.getElem?_eq_some_iff.1 hj).1
      have hc := List.getElem?_eq_getElem hjl
      refine (hrow.2 j v _ hj hc).cell_oneCell ?_
      have hmem := List.mem_of_getElem? hc
      unfold flat at hmem
      obtain ⟨e, he1, he2⟩ := List.mem_flatMap.1 hmem
      exact (hf e he1).2 _ he2
    have hrun := run_copy_row (P := P) w dT sT ty te g 0 len cap ad es.length c arr o.ty (vs.take len) hu hn o5 (by rw [hct]; exact (Nat.min_eq_right hle).symm)
      (fun j v hj => hvc j v (by
        have hjl : j < len := by have := (List.getElem?_eq_some_iff.1 hj).1; omega
        rwa [List.getElem?_take_of_lt hjl] at hj)) (by rw [hct]; omega) hone
    rw [hct] at hrun
    simp only [List.take_zero, List.nil_append, Nat.zero_add] at hrun
    refine ⟨_, hrun, ?_⟩
    have hkeep : Keeps w (Own N0 μ S) (w.setRow g (vs.take len ++ arr.toList.drop len).toArray) :=
      ⟨by simp, fun b hb hN => setRow_other w g b _ (fun e => hN (by subst e; exact .inr ⟨d, o, cap, ho, hm⟩))⟩
    refine (h.update (D' := D) (d := d) (o' := { o with es := es.take len }) (l' := some (g, cap)) (μ' := μ) (fun _ _ _ hh => hh) h.fresh hm (bs_setRow h.below o1 _) hkeep
      (fun d1 o1' g1 c1 hne1 h1 h2 => setRow_other w g g1 _ (fun e => hne1 (by subst e; exact h.inj _ _ _ _ _ _ _ h1 ho h2 hm)))
      (fun g2 c2 e => by
        simp only [Option.some.injEq, Prod.mk.injEq] at e
        obtain ⟨rfl, rfl⟩ := e
        exact .inr ⟨o, cap, ho, hm⟩) (fun N' hN => ?_)).1
    have hfit : ∀ e1 ∈ es.take len, e1.fits o.sz := fun e1 he1 => by rw [hsz]; exact hf e1 (List.mem_of_mem_take he1)
    have htl : (es.take len).length = len := by rw [List.length_take]; omega
    refine ⟨o1, by simp only [htl]; omega, o3, hfit, _, setRow_heap w g arr _ o.ty (0, 0) o5, ?_, ?_⟩
    · simp only [List.size_toArray, List.length_append, hct, List.length_drop, Array.length_toList, hsz, Nat.mul_one]
      omega
    · refine row_cells hfit ?_
      have e1 : (vs.take len ++ arr.toList.drop len).toArray.toList.take ((es.take len).length * o.sz) = vs.take len := by
        rw [htl, hsz, Nat.mul_one]
        simp only []
        rw [List.take_append_of_le_length (by omega), List.take_of_length_le (by omega)]
      rw [e1]
      exact ⟨hrowt.1, fun j x c h1 h2 => (hrowt.2 j x c h1 h2).keep hkeep hN (fun _ _ _ hh => hh)⟩
/-- The state behind copy(x, y). -/
def AS.copyT (S : AS) (x y : Operand) (dst : Option Nat) : Option AS := match S.evc true x, S.evc true y with
  | some (.sl d v sz len), some xv => match get S.objs d, S.elems xv with
    | some ob, some (n, es) => if ob.v = v ∧ ob.sz = sz ∧ sz = 1 ∧ n = 1 ∧ ob.es.length = len ∧ len ≤ es.length then AS.putv { S with objs := (d, { ob with es := es.take len }) :: S.objs } dst (.int .i64 len) else none
    | _, _ => none
  | _, _ => none
/-- copy(d, s): as many elements of s as d has. -/
theorem awl_copy {ops : List Oper} {i : Nat} {o : Oper} {rest : List Oper} {x y : Operand} {dT sT te : TypeId} (hg : o.guard = none)
    (ho : o.op = .call { callee := .builtin .copy, args := #[x, y], argTypes := #[dT, sT] }) (ht : telem P dT = some te) (hn : tsz P te = some 1)
    (hs : S.copyT x y o.dst = some S') (k : AWL P w0 N0 ops Q (i + 1) rest S') : AWL P w0 N0 ops Q i (o :: rest) S := by
  unfold AS.copyT at hs
  split at hs
  case h_2 => cases hs
  rename_i d v sz len xv hx hy
  split at hs
  case h_2 => cases hs
  rename_i ob n es hob he
  split at hs
  case isFalse => cases hs
  rename_i hc
  obtain ⟨rfl, rfl, hsz, rfl, rfl, hle⟩ := hc
  rintro D a w hD ⟨μ, hr⟩
  refine wpList_plain hg fun K hK => ?_
  obtain ⟨w', hrun, hr'⟩ := eff_copy (P := P) (sT := sT) (ty := o.type) hr ht hn (hr.evc hx rfl) hob rfl hsz (hr.evc hy rfl) he hle
  unfold Oper.wp
  have hex : (execOp a.eval o).run P w = .ok (.value (goInt ob.es.length)) w' := by
    unfold execOp
    rw [ho]
    simp [resolve, invoke, builtin, hrun, Result.andThen]
  rw [hex]
  exact hK _ _ (k D _ _ (fun j hj => Nat.lt_succ_of_lt (hD j hj)) ⟨μ, hr'.putv hs (.pur (.int _ _))⟩)
end
attribute [simp] AS.copyT
end Go.Eng

namespace Go.Eng
open Go.RowKit

/-- The ways to run a region: an operation that may be taken first, or a choice. -/
inductive Tr where
  | done
  | take (i : Nat) (ks : List Nat) (t : Tr)
  | alt (i : Nat) (t r : Tr)
  | stop
def Tr.ids : Tr → List Nat
  | .alt i _ r => i :: r.ids
  | _ => []
def Tr.depth : Tr → Nat
  | .take _ _ t => t.depth + 1
  | .alt _ t r => max (t.depth + 1) r.depth
  | _ => 0
def goodTree (ops : List Oper) : Bool → Array Bool → Tr → Bool
  | inn, listed, .done => !inn && (Region.ready .any ops.toArray listed).isEmpty
  | inn, listed, .take i ks t => !inn && (mayTake ops listed i ks && goodTree ops false (listed.setIfInBounds i true) t)
  | inn, listed, .alt i t r => (inn || Region.ready .any ops.toArray listed == i :: r.ids) && (goodTree ops false (listed.setIfInBounds i true) t && goodTree ops true listed r)
  | inn, _, .stop => inn
section
variable {P : Program} {kb : Nat} {w0 : Bs} {N0 : Nat → Prop} {Q : Exit → AS → Prop}
def AWT (P : Program) (kb : Nat) (w0 : Bs) (ops : List Oper) (Q : Exit → AS → Prop) : Tr → AS → Prop
  | .done, S => ∃ S', ({ S with nx := S.nx + ops.length } : AS).le S' ∧ Q .normal S'
  | .take i ks t, S => ∃ o S', ops[i]? = some o ∧ (ks.all fun d => (get S.objs (kb + d)).isNone) = true ∧ Step P kb w0 ops i o S S' ∧ AWT P kb w0 ops Q t S'
  | .alt i t r, S => (∃ o S', ops[i]? = some o ∧ Step P kb w0 ops i o S S' ∧ AWT P kb w0 ops Q t S') ∧ AWT P kb w0 ops Q r S
  | .stop, _ => True

theorem awt_any {ops : List Oper} (hk : mkOk ops = true) : ∀ (t : Tr) (inn : Bool) (listed : Array Bool) (S : AS) (n : Nat), t.depth ≤ n → goodTree ops inn listed t = true → AWT P kb w0 ops Q t S →
    (inn = false → awAny P kb w0 ops (fun S => ∃ S', ({ S with nx := S.nx + ops.length } : AS).le S' ∧ Q .normal S') n listed S) ∧
    (inn = true → ∀ m, n = m + 1 → ∀ i ∈ t.ids, ∃ o S', ops[i]? = some o ∧ Step P kb w0 ops i o S S' ∧ awAny P kb w0 ops (fun S => ∃ S', ({ S with nx := S.nx + ops.length } : AS).le S' ∧ Q .normal S') m (listed.setIfInBounds i true) S')
  | .done, inn, listed, S, n, hd, hg, h => by
    simp only [goodTree, Bool.and_eq_true, Bool.not_eq_true', List.isEmpty_iff] at hg
    refine ⟨fun _ => ?_, fun hi => by rw [hi] at hg; cases hg.1⟩
    cases n with
    | zero => exact ⟨hg.2, h⟩
    | succ n => exact ⟨fun _ => h, fun i hi => by rw [hg.2] at hi; cases hi⟩
  | .stop, inn, listed, S, n, hd, hg, h => by
    simp only [goodTree] at hg
    exact ⟨fun hi => (by rw [hi] at hg; cases hg), fun _ m _ i hi => (by cases hi)⟩
  | .take i ks t, inn, listed, S, n, hd, hg, h => by
    simp only [goodTree, Bool.and_eq_true, Bool.not_eq_true'] at hg
    refine ⟨fun _ => ?_, fun hi => by rw [hi] at hg; cases hg.1⟩
    obtain ⟨m, rfl⟩ : ∃ m, n = m + 1 := ⟨n - 1, by simp only [Tr.depth] at hd; omega⟩
    obtain ⟨o, S', ho, hks, hs, hrest⟩ := h
    have ih := (awt_any hk t false _ S' m (by simp only [Tr.depth] at hd; omega) hg.2.2 hrest).1 rfl
    have hm := hg.2.1
    unfold mayTake at hm
    simp only [ho, Bool.or_eq_true, Bool.and_eq_true, beq_iff_eq] at hm
    rcases hm with ⟨⟨⟨h1, h2⟩, h3⟩, h4⟩ | hm
    · obtain ⟨B, hB, hfree⟩ := firstOk_spec h3
      refine any_first ?_ ho (by simpa using h1) hk B m listed S S' hB hfree (fun hl j oj d hj hun hmk hd => ?_) (by simpa using h2) hs ih
      · rintro S T he ⟨S2, h5, h6⟩
        have he' : ({ T with nx := T.nx + ops.length } : AS).eqv { S with nx := S.nx + ops.length } := ⟨fun t => (he.1 t).symm, fun d => (he.2.1 d).symm, by simp only; rw [he.2.2.1], he.2.2.2.symm⟩
        exact ⟨S2, AS.le_trans he'.le h5, h6⟩
      · rcases h4 with h4 | h4
        · simp [hl] at h4
        · have h5 := List.all_eq_true.1 h4 j (List.mem_range.2 (List.getElem?_eq_some_iff.1 hj).1)
          simp only [hun, hj, hmk, hd, Bool.not_true, Bool.false_or] at h5
          have h6 := List.all_eq_true.1 hks d (by simpa using h5)
          simpa using h6
    · exact any_only ho hm hs ih
  | .alt i t r, inn, listed, S, n, hd, hg, h => by
    simp only [goodTree, Bool.and_eq_true, Bool.or_eq_true, beq_iff_eq] at hg
    obtain ⟨h1, h2, h3⟩ := hg
    obtain ⟨⟨o, S', ho, hs, hrest⟩, hr⟩ := h
    simp only [Tr.depth] at hd
    have key : ∀ m, n = m + 1 → ∀ j ∈ i :: r.ids, ∃ o S', ops[j]? = some o ∧ Step P kb w0 ops j o S S' ∧ awAny P kb w0 ops (fun S => ∃ S', ({ S with nx := S.nx + ops.length } : AS).le S' ∧ Q .normal S') m (listed.setIfInBounds j true) S' := by
      intro m hm j hj
      rcases List.mem_cons.1 hj with rfl | hj
      · exact ⟨o, S', ho, hs, (awt_any hk t false _ S' m (by omega) h2 hrest).1 rfl⟩
      · exact (awt_any hk r true listed S n (by omega) h3 hr).2 rfl m hm j hj
    refine ⟨fun hi => ?_, fun _ => key⟩
    rcases h1 with h1 | h1
    · rw [hi] at h1; cases h1
    obtain ⟨m, rfl⟩ : ∃ m, n = m + 1 := ⟨n - 1, by omega⟩
    exact ⟨fun h0 => (by rw [h1] at h0; cases h0), fun j hj => key m rfl j (by rw [h1] at hj; exact hj)⟩

theorem aw_tree {id : Nat} {l : List Oper} {S : AS} (t : Tr) (hm : P.follows .mixedOrders = true) (hg : (goodTree l false (Array.replicate l.length false) t && (mkOk l && decide (t.depth ≤ l.length))) = true) (h : AWT P 0 w0 l Q t S) : AW P w0 N0 (.region id l.toArray true) Q S := by
  simp only [Bool.and_eq_true, decide_eq_true_iff] at hg
  obtain ⟨hg, hk, hl⟩ := hg
  rintro a w ⟨μ, hr⟩
  refine wp_region_any hm ?_
  have hsz : l.toArray.size = l.length := by simp
  rw [hsz]
  have haw := (awt_any hk t false _ S l.length hl hg h).1 rfl
  refine any_sound (K := fun S => ∃ S', ({ S with nx := S.nx + l.length } : AS).le S' ∧ Q .normal S') ?_ l.length _ S a _ (by simp) ⟨μ, ?_⟩ haw
  · rintro S a w ⟨S', h1, h2⟩ ⟨μ, hr⟩
    refine ⟨S', h2, h1 _ _ _ _ ⟨μ, ⟨hr.defers, hr.size, hr.below, hr.n0, fun d v hv => ?_, hr.objs, hr.inj, hr.env⟩⟩⟩
    rcases hr.fresh d v hv with h3 | ⟨j, hj, e⟩
    · exact .inl (by simp only; omega)
    · exact .inl (by simp only; omega)
  · have := hr.drew
    exact this.more (fun j hj => hj.elim)
/-- All ends of such a region without calls. -/
def runT (P : Program) (kb : Nat) (ops : List Oper) (L M : List Nat) : Tr → AS → Option (List AS)
  | .done, S => some [(S.bump ops.length).keep L M]
  | .take i ks t, S => match runOK P kb ops [(i, ks)] S with
    | some S' => runT P kb ops L M t S'
    | none => none
  | .alt i t r, S => match runOK P kb ops [(i, [])] S with
    | some S' => match runT P kb ops L M t S', runT P kb ops L M r S with
      | some a, some b => some (a ++ b)
      | _, _ => none
    | none => none
  | .stop, _ => some []
attribute [simp] runT
theorem runOK_one {ops : List Oper} {i : Nat} {ks : List Nat} {S S1 : AS} (h : runOK P kb ops [(i, ks)] S = some S1) : ∃ o, ops[i]? = some o ∧ (ks.all fun d => (get S.objs (kb + d)).isNone) = true ∧ Step P kb w0 ops i o S S1 := by
  simp only [runOK] at h
  split at h
  case h_2 => cases h
  rename_i o ho
  split at h
  case isFalse => cases h
  rename_i hks
  split at h
  case h_2 => cases h
  rename_i S2 h2
  injection h with h
  subst h
  rw [nth_eq] at ho
  exact ⟨o, ho, hks, .inl h2⟩
theorem awt_run {ops : List Oper} {L M : List Nat} : ∀ {t : Tr} {S : AS} {l : List AS}, runT P 0 ops L M t S = some l → (∀ T ∈ l, Q .normal T) → AWT P 0 w0 ops Q t S
  | .done, S, l, h, hq => by
    simp only [runT, Option.some.injEq] at h
    subst h
    exact ⟨_, le_keep (S.bump ops.length) L M, hq _ (by simp)⟩
  | .stop, S, l, h, hq => trivial
  | .take i ks t, S, l, h, hq => by
    simp only [runT] at h
    split at h
    case h_2 => cases h
    rename_i S' h1
    obtain ⟨o, h2, h3, h4⟩ := runOK_one (w0 := w0) h1
    exact ⟨o, S', h2, h3, h4, awt_run h hq⟩
  | .alt i t r, S, l, h, hq => by
    simp only [runT] at h
    split at h
    case h_2 => cases h
    rename_i S' h1
    split at h
    case h_2 => cases h
    rename_i a b h5 h6
    injection h with h
    subst h
    obtain ⟨o, h2, h3, h4⟩ := runOK_one (w0 := w0) h1
    exact ⟨⟨o, S', h2, h4, awt_run h5 (fun T hT => hq T (List.mem_append_left _ hT))⟩, awt_run h6 (fun T hT => hq T (List.mem_append_right _ hT))⟩
/-- One operation that is no call. -/
theorem awt_one {ops : List Oper} {i : Nat} {ks : List Nat} {t : Tr} {S S1 : AS} (h1 : runOK P 0 ops [(i, ks)] S = some S1) (h : AWT P 0 w0 ops Q t S1) : AWT P 0 w0 ops Q (.take i ks t) S := by
  obtain ⟨o, h2, h3, h4⟩ := runOK_one (w0 := w0) h1
  exact ⟨o, S1, h2, h3, h4, h⟩
/-- A call by its contract. -/
theorem awt_call {ops : List Oper} {i : Nat} {ks : List Nat} {t : Tr} {S : AS} {o : Oper} {c : Bool} {f : Operand} {fid : FuncId} {fn : Func} {args : Array Operand} {ats : Array TypeId} {vs : List V} {res : V} {S' : AS}
    (hc : c = true → AC P fid vs (fun r => r = res)) (hfn : P.funcs[fid]? = some fn) (hb : fn.body.isSome = true) (hn : (fn.name == "runtime.NumGoroutine") = false) (hi : nth ops i = some o) (hks : (ks.all fun d => (get S.objs (0 + d)).isNone) = true)
    (hg : S.gv ops o = some c) (ho : o.op = .call { callee := .value f, args := args, argTypes := ats }) (hf : S.evc c f = some (.fn fid)) (ha : S.args c args.toList = some vs) (hp : vs.all V.pureV = true) (hs : S.putv o.dst (wrapG o c res) = some S') (h : AWT P 0 w0 ops Q t S') : AWT P 0 w0 ops Q (.take i ks t) S := by
  rw [nth_eq] at hi
  exact ⟨o, S', hi, hks, .inr (.inl ⟨c, f, args, ats, fid, fn, vs, res, hg, ho, hf, hfn, hb, hn, ha, hp, fun h => (hc h).b, hs⟩), h⟩
end
end Go.Eng

namespace Go.Eng
open Go.RowKit

/-- The contract of a function value: called on args it hands back what R says. -/
def FCQ (G : Gp) (P : Program) (fv : V) (args : List V) (R : V → Prop) : Prop :=
  ∃ fid us vs fn, (fv = .fc fid us vs ∨ (fv = .fn fid ∧ us = [] ∧ vs = [])) ∧ P.funcs[fid]? = some fn ∧ fn.body.isSome = true ∧ (fn.name == "runtime.NumGoroutine") = false ∧ ACQ G P fid (us ++ args ++ vs) R
/-- The receiver that a method of a struct is called on: k of its cells, from off on. -/
def Meth (P : Program) (t : TypeId) (name : String) (n : Nat) (fid : FuncId) (off k : Nat) : Prop :=
  ∀ (xs : List Value) (w : World), xs.length = n → (method (P.types.size + Made.depth) t (.agg xs.toArray) name).run P w = .ok (fid, .agg ((xs.drop off).take k).toArray) w
/-- The contract of a method that is called through an interface value. -/
def ICQ (G : Gp) (P : Program) (v : V) (name : String) (args : List V) (R : V → Prop) : Prop :=
  ∃ t cs fid fn off k, (v = .dm t cs ∨ v = .ifc t (.agg cs)) ∧ Meth P t name cs.length fid off k ∧ P.funcs[fid]? = some fn ∧ fn.body.isSome = true ∧ (fn.name == "runtime.NumGoroutine") = false ∧
    ACQ G P fid (.agg ((cs.drop off).take k) :: args) R
theorem FCQ.mono {G : Gp} {P : Program} {fv : V} {args : List V} {R R' : V → Prop} (h : FCQ G P fv args R) (hR : ∀ r, R r → R' r) : FCQ G P fv args R' := by
  obtain ⟨fid, us, vs, fn, h1, h2, h3, h4, h5⟩ := h
  exact ⟨fid, us, vs, fn, h1, h2, h3, h4, h5.mono hR⟩
theorem fcq_fn {G : Gp} {P : Program} {fid : FuncId} {fn : Func} {args : List V} {R : V → Prop} (h : ACQ G P fid args R) (hfn : P.funcs[fid]? = some fn) (hb : fn.body.isSome = true) (hn : (fn.name == "runtime.NumGoroutine") = false) : FCQ G P (.fn fid) args R :=
  ⟨fid, [], [], fn, .inr ⟨rfl, rfl, rfl⟩, hfn, hb, hn, by simpa using h⟩
theorem fcq_fc {G : Gp} {P : Program} {fid : FuncId} {fn : Func} {us vs args : List V} {R : V → Prop} (h : ACQ G P fid (us ++ args ++ vs) R) (hfn : P.funcs[fid]? = some fn) (hb : fn.body.isSome = true) (hn : (fn.name == "runtime.NumGoroutine") = false) : FCQ G P (.fc fid us vs) args R :=
  ⟨fid, us, vs, fn, .inl rfl, hfn, hb, hn, h⟩

section
variable {P : Program} {kb : Nat} {w0 : Bs} {N0 : Nat → Prop} {Q : Exit → AS → Prop} {S S' : AS} {G : Gp}

theorem opq_of {ops : List Oper} {i : Nat} {o : Oper} {args : Array Operand} {vs : List V} {fid : FuncId} {us cs : List V} {res : V} {more : List Operand}
    (hG : Gon G w0) (hc : ACQ G P fid (us ++ vs ++ cs) (fun r => r = res)) (hg : S.gv ops o = some true)
    (hev : ∀ T, Alike ops o S T → (∀ x ∈ more, ∀ c, T.evc c x = S.evc c x) ∧ T.args true args.toList = S.args true args.toList)
    (hrun : ∀ T, (∀ x ∈ more, ∀ c, T.evc c x = S.evc c x) → ∀ (N0 : Nat → Prop) (μ : Mu) (D : Nat → Prop) (a : Act) (w : World), RelM D w0 N0 μ T a w →
      ∃ xs ys : List Value, xs.length = us.length ∧ ys.length = cs.length ∧ (∀ (i : Nat) x c, xs[i]? = some x → us[i]? = some c → Pur w (Own N0 μ T) x c) ∧ (∀ (i : Nat) x c, ys[i]? = some x → cs[i]? = some c → Pur w (Own N0 μ T) x c) ∧
        (execOp a.eval o).run P w = .ok (.enter fid (xs ++ args.toList.map a.eval ++ ys).toArray) w)
    (ha : S.args true args.toList = some vs) (hp : vs.all V.pureV = true) (hs : S.putv o.dst (wrapG o true res) = some S') : OpqStep P w0 ops i o S S' := by
  obtain ⟨hs1, hs2⟩ := putv_ap hs
  refine ⟨wrapG o true res, [], hs1, fun T hT hob N0 D a w hr hi hDb K Q' hK => ?_⟩
  obtain ⟨hmore, hargs⟩ := hev T hT
  replace hg : T.gv ops o = some true := by rw [← hT.gv]; exact hg
  replace ha : T.args true args.toList = some vs := by rw [hargs]; exact ha
  have hs := ap_putv (S := T) (wrapG o true res) (fun d hd => by rw [← hT.2.1]; exact hs2 d hd)
  obtain ⟨μ, hr⟩ := hr
  rw [wanted_of hr hg, if_pos rfl]
  obtain ⟨h1, h2⟩ := args_spec hr rfl ha
  obtain ⟨xs, ys, hxl, hyl, hxp, hyp, hex⟩ := hrun T hmore N0 μ D a w hr
  unfold Oper.wp
  rw [hex]
  have hcall := hc w (Own N0 μ T) (xs ++ args.toList.map a.eval ++ ys) (hG.at hr.below) hr.own_lt (by simp [h1, hxl, hyl]) (fun j x v hx hv => by
    have hl1 : (xs ++ args.toList.map a.eval).length = (us ++ vs).length := by simp [h1, hxl]
    by_cases hj : j < (us ++ vs).length
    · rw [List.getElem?_append_left (by omega)] at hx
      rw [List.getElem?_append_left hj] at hv
      by_cases hj2 : j < us.length
      · rw [List.getElem?_append_left (by omega)] at hx
        rw [List.getElem?_append_left hj2] at hv
        exact hxp j x v hx hv
      · rw [List.getElem?_append_right (by omega)] at hx
        rw [List.getElem?_append_right (by omega)] at hv
        rw [hxl] at hx
        simp only [List.getElem?_map, Option.map_eq_some_iff] at hx
        obtain ⟨y, hy, rfl⟩ := hx
        exact (h2 _ y v hy hv).pureV (List.all_eq_true.1 hp v (List.mem_of_getElem? hv))
    · rw [List.getElem?_append_right (by omega)] at hx
      rw [List.getElem?_append_right (by omega)] at hv
      rw [hl1] at hx
      exact hyp _ x v hx hv)
  refine hcall.mono ?_
  rintro e w' ⟨x, r, rfl, rfl, hpx, hbw⟩
  refine hK _ _ ⟨μ, ((hr.later hbw).putv hs ?_).more (fun j hj => .inl hj)⟩
  unfold wrapG
  split
  · exact .pur hpx
  · exact .whn _ _ _ (fun _ => .pur hpx) (fun hf => by cases hf)

theorem run_call_fv {ρ : Operand → Value} {o : Oper} {f : Operand} {fid : FuncId} {fn : Func} {args : Array Operand} {ats : Array TypeId} {w : World} {xs ys : List Value} (ho : o.op = .call { callee := .value f, args := args, argTypes := ats }) (hf : ρ f = .func (.func fid) xs.toArray ys.toArray)
    (hfn : P.funcs[fid]? = some fn) (hb : fn.body.isSome = true) (hn : (fn.name == "runtime.NumGoroutine") = false) : (execOp ρ o).run P w = .ok (.enter fid (xs ++ args.toList.map ρ ++ ys).toArray) w := by
  unfold execOp
  rw [ho]
  obtain ⟨c, hc⟩ := Option.isSome_iff_exists.1 hb
  have hn' : ¬ fn.name = "runtime.NumGoroutine" := by simpa using hn
  have harr : (xs ++ args.toList.map ρ ++ ys).toArray = xs.toArray ++ args.map ρ ++ ys.toArray := by apply Array.ext'; simp
  rw [harr]
  simp [resolve, hf, Deferred.ofValue, invoke, callFunc, hfn, hn', hc]

/-- The model takes a call of a function value. -/
theorem opq_callF {ops : List Oper} {i : Nat} {o : Oper} {f : Operand} {fv : V} {args : Array Operand} {ats : Array TypeId} {vs : List V} {res : V}
    (hG : Gon G w0) (hc : FCQ G P fv vs (fun r => r = res)) (hg : S.gv ops o = some true) (ho : o.op = .call { callee := .value f, args := args, argTypes := ats }) (hf : S.evc true f = some fv)
    (ha : S.args true args.toList = some vs) (hp : vs.all V.pureV = true) (hs : S.putv o.dst (wrapG o true res) = some S') : OpqStep P w0 ops i o S S' := by
  obtain ⟨fid, us, cs, fn, hfv, hfn, hb, hn, hac⟩ := hc
  refine opq_of (more := [f]) hG hac hg (fun T hT => ⟨fun x hx c => ?_, ?_⟩) (fun T hT N0 μ D a w hr => ?_) ha hp hs
  · simp only [List.mem_singleton] at hx
    subst hx
    exact (hT.evc (by rw [ho]; simp [Op.operands, Call.operands]) c).symm
  · exact (args_congr (S := S) (T := T) (fun x hx => hT.evc (by rw [ho]; simp [Op.operands, Call.operands]; right; simpa using hx) true)).symm
  · have hfT : T.evc true f = some fv := by rw [hT f (by simp)]; exact hf
    have hfe := hr.evc hfT rfl
    rcases hfv with rfl | ⟨rfl, rfl, rfl⟩
    · generalize hfe' : a.eval f = y at hfe
      cases hfe with
      | pur hfe => cases hfe with
        | fc _ xs ys _ _ hl hm h k => exact ⟨xs, ys, hl, hm, h, k, run_call_fv ho hfe' hfn hb hn⟩
    · have := fn_eval hr hfT
      exact ⟨[], [], rfl, rfl, by simp, by simp, run_call_fv ho (by rw [this]) hfn hb hn⟩
theorem run_call_iv {ρ : Operand → Value} {o : Oper} {r : Operand} {name : String} {t : TypeId} {fid : FuncId} {fn : Func} {args : Array Operand} {ats : Array TypeId} {w : World} {x y : Value} (ho : o.op = .call { callee := .invoke r name, args := args, argTypes := ats }) (hr : ρ r = .iface t x)
    (hm : (method (P.types.size + Made.depth) t x name).run P w = .ok (fid, y) w)
    (hfn : P.funcs[fid]? = some fn) (hb : fn.body.isSome = true) (hn : (fn.name == "runtime.NumGoroutine") = false) : (execOp ρ o).run P w = .ok (.enter fid ([y] ++ args.toList.map ρ ++ []).toArray) w := by
  unfold execOp
  rw [ho]
  obtain ⟨c, hc⟩ := Option.isSome_iff_exists.1 hb
  have hn' : ¬ fn.name = "runtime.NumGoroutine" := by simpa using hn
  have harr : ([y] ++ args.toList.map ρ ++ []).toArray = #[y] ++ args.map ρ := by apply Array.ext'; simp
  have harr2 : (#[Value.iface t x] ++ args.map ρ).extract 1 (1 + args.size) = args.map ρ := by apply Array.ext'; simp; exact List.take_of_length_le (by simp)
  rw [harr]
  simp [resolve, hr, invoke, callMethod, hm, callFunc, hfn, hn', hc, harr2]
/-- The model takes a call of a method through an interface value. -/
theorem opq_callM {ops : List Oper} {i : Nat} {o : Oper} {r : Operand} {name : String} {v : V} {args : Array Operand} {ats : Array TypeId} {vs : List V} {res : V}
    (hG : Gon G w0) (hc : ICQ G P v name vs (fun r => r = res)) (hg : S.gv ops o = some true) (ho : o.op = .call { callee := .invoke r name, args := args, argTypes := ats }) (hf : S.evc true r = some v)
    (ha : S.args true args.toList = some vs) (hp : vs.all V.pureV = true) (hs : S.putv o.dst (wrapG o true res) = some S') : OpqStep P w0 ops i o S S' := by
  obtain ⟨t, cs, fid, fn, off, k, hv, hme, hfn, hb, hn, hac⟩ := hc
  refine opq_of (us := [.agg ((cs.drop off).take k)]) (cs := []) (more := [r]) hG (by simpa using hac) hg (fun T hT => ⟨fun x hx c => ?_, ?_⟩) (fun T hT N0 μ D a w hr => ?_) ha hp hs
  · simp only [List.mem_singleton] at hx
    subst hx
    exact (hT.evc (by rw [ho]; simp [Op.operands, Call.operands]) c).symm
  · exact (args_congr (S := S) (T := T) (fun x hx => hT.evc (by rw [ho]; simp [Op.operands, Call.operands]; right; simpa using hx) true)).symm
  · have hfT : T.evc true r = some v := by rw [hT r (by simp)]; exact hf
    have hfe := hr.evc hfT rfl
    have key : ∀ xs : List Value, xs.length = cs.length → (∀ c ∈ cs, c.isCell = true) → (∀ (i : Nat) x c, xs[i]? = some x → cs[i]? = some c → Pur w (Own N0 μ T) x c) → a.eval r = .iface t (.agg xs.toArray) →
        ∃ xs ys : List Value, xs.length = [V.agg ((cs.drop off).take k)].length ∧ ys.length = ([] : List V).length ∧ (∀ (i : Nat) x c, xs[i]? = some x → [V.agg ((cs.drop off).take k)][i]? = some c → Pur w (Own N0 μ T) x c) ∧ (∀ (i : Nat) x c, ys[i]? = some x → ([] : List V)[i]? = some c → Pur w (Own N0 μ T) x c) ∧
          (execOp a.eval o).run P w = .ok (.enter fid (xs ++ args.toList.map a.eval ++ ys).toArray) w := by
      intro xs hl hcell hh he
      refine ⟨[.agg ((xs.drop off).take k).toArray], [], rfl, rfl, fun i x c hx hc => ?_, by simp, run_call_iv ho he (hme xs w hl) hfn hb hn⟩
      rcases i with _ | i
      · simp at hx hc
        subst hx; subst hc
        have : Pur w (Own N0 μ T) (.agg ((xs.drop off).take k).toArray) (.agg ((cs.drop off).take k)) := by
          refine .agg _ _ (by simp [hl]) (fun c hc => hcell c (List.mem_of_mem_drop (List.mem_of_mem_take hc))) (fun j x c hx hc => ?_)
          by_cases hj : j < k
          · rw [List.getElem?_take_of_lt hj, List.getElem?_drop] at hx hc
            exact hh _ x c hx hc
          · rw [List.getElem?_take_eq_none (by omega)] at hx
            cases hx
        simpa using this
      · simp at hx
    rcases hv with rfl | rfl
    · generalize hfe' : a.eval r = y at hfe
      cases hfe with
      | pur hfe => cases hfe with
        | dm _ xs _ hl hcell hh => exact key xs hl hcell hh hfe'
    · generalize hfe' : a.eval r = y at hfe
      cases hfe with
      | pur hfe => cases hfe with
        | ifc _ x _ _ hx => cases hx with
          | agg xs _ hl hcell hh => exact key xs hl hcell hh hfe'
      | ifc _ x _ hcell => simp [V.isCell] at hcell

theorem awl_callF {ops : List Oper} {i : Nat} {o : Oper} {rest : List Oper} {f : Operand} {fv : V} {args : Array Operand} {ats : Array TypeId} {vs : List V} {res : V}
    (hG : Gon G w0) (hc : FCQ G P fv vs (fun r => r = res)) (hlt : i < ops.length) (hg : S.gv ops o = some true) (ho : o.op = .call { callee := .value f, args := args, argTypes := ats }) (hf : S.evc true f = some fv)
    (ha : S.args true args.toList = some vs) (hp : vs.all V.pureV = true) (hs : S.putv o.dst (wrapG o true res) = some S') (h : AWL P w0 N0 ops Q (i + 1) rest S') : AWL P w0 N0 ops Q i (o :: rest) S :=
  awl_gen hlt (opq_callF hG hc hg ho hf ha hp hs).gen h
theorem awl_callM {ops : List Oper} {i : Nat} {o : Oper} {rest : List Oper} {r : Operand} {name : String} {v : V} {args : Array Operand} {ats : Array TypeId} {vs : List V} {res : V}
    (hG : Gon G w0) (hc : ICQ G P v name vs (fun r => r = res)) (hlt : i < ops.length) (hg : S.gv ops o = some true) (ho : o.op = .call { callee := .invoke r name, args := args, argTypes := ats }) (hf : S.evc true r = some v)
    (ha : S.args true args.toList = some vs) (hp : vs.all V.pureV = true) (hs : S.putv o.dst (wrapG o true res) = some S') (h : AWL P w0 N0 ops Q (i + 1) rest S') : AWL P w0 N0 ops Q i (o :: rest) S :=
  awl_gen hlt (opq_callM hG hc hg ho hf ha hp hs).gen h
theorem sx_callF {X : List Nat} {ops : List Oper} {i : Nat} {o : Oper} {f : Operand} {fv : V} {args : Array Operand} {ats : Array TypeId} {vs : List V} {res : V}
    (hX : i ∈ X) (hG : Gon G w0) (hc : FCQ G P fv vs (fun r => r = res)) (hg : S.gv ops o = some true) (ho : o.op = .call { callee := .value f, args := args, argTypes := ats }) (hf : S.evc true f = some fv)
    (ha : S.args true args.toList = some vs) (hp : vs.all V.pureV = true) (hs : S.putv o.dst (wrapG o true res) = some S') : StepX P kb w0 X ops i o S S' :=
  .inr (.inr ⟨hX, opq_callF hG hc hg ho hf ha hp hs⟩)
theorem sx_callM {X : List Nat} {ops : List Oper} {i : Nat} {o : Oper} {r : Operand} {name : String} {v : V} {args : Array Operand} {ats : Array TypeId} {vs : List V} {res : V}
    (hX : i ∈ X) (hG : Gon G w0) (hc : ICQ G P v name vs (fun r => r = res)) (hg : S.gv ops o = some true) (ho : o.op = .call { callee := .invoke r name, args := args, argTypes := ats }) (hf : S.evc true r = some v)
    (ha : S.args true args.toList = some vs) (hp : vs.all V.pureV = true) (hs : S.putv o.dst (wrapG o true res) = some S') : StepX P kb w0 X ops i o S S' :=
  .inr (.inr ⟨hX, opq_callM hG hc hg ho hf ha hp hs⟩)
end
end Go.Eng

namespace Go.Eng
open Go.RowKit

section
variable {P : Program} {w0 : Bs} {N0 : Nat → Prop} {Q : Exit → AS → Prop} {S S' : AS}

theorem RelM.forget {D : Nat → Prop} {μ : Mu} {a : Act} {w : World} (h : RelM D w0 N0 μ S a w) {d : Nat} {x : Value} (hd : d < S.nt) : RelM D w0 N0 μ { S with env := dropK [d] S.env } (a.put (some d) x) w := by
  refine ⟨h.defers, by simp [Act.put, h.size], h.below, h.n0, h.fresh, h.objs, h.inj, fun t u hu => ?_⟩
  obtain ⟨h1, h2⟩ := get_dropK hu
  rw [tmps_put a d x t (by rw [h.size]; exact hd), if_neg (fun e => h2 (by simp [e]))]
  exact h.env t u h1
theorem awl_drop {ops : List Oper} {i : Nat} {o : Oper} {rest : List Oper} {d : Nat} {c : Value} (hg : o.guard = none) (ho : o.op = .assign (.const c)) (hd : o.dst = some d) (hn : d < S.nt)
    (hS : ({ S with env := dropK [d] S.env } : AS) = S') (h : AWL P w0 N0 ops Q (i + 1) rest S') : AWL P w0 N0 ops Q i (o :: rest) S := by
  rintro D a w hD ⟨μ, hr⟩
  refine wpList_plain hg fun K hK => ?_
  unfold Oper.wp
  have hrun : (execOp a.eval o).run P w = .ok (.value (a.eval (.const c))) w := by
    unfold execOp
    rw [ho]
    rfl
  rw [hrun]
  subst hS
  refine hK _ _ ?_
  rw [hd]
  exact h D _ _ (fun j hj => Nat.lt_succ_of_lt (hD j hj)) ⟨μ, hr.forget hn⟩
/-- The end of a function whose one result is a value that the engine does not view, such as a map. -/
def EndsM (fn : Func) (R : V → Prop) (e : Exit) (S : AS) : Prop :=
  match e with
  | .ret | .normal => ∃ t v, fn.results.toList = [.tmp t] ∧ get S.env t = some v ∧ v.pureV = true ∧ R v
  | _ => False
theorem endsM_ret {fn : Func} {R : V → Prop} {t : Nat} {v : V} (h1 : fn.results.toList = [.tmp t]) (h2 : get S.env t = some v) (h3 : v.pureV = true) (h4 : R v) : EndsM fn R .ret S := ⟨t, v, h1, h2, h3, h4⟩
theorem acm_intro {f : FuncId} {fn : Func} {c : Code} {args : List V} {R : V → Prop} (hf : P.funcs[f]? = some fn) (hb : fn.body = some c) (hl : args.length ≤ fn.ntmps)
    (h : ∀ w0 N0, AW P w0 N0 c (EndsM fn R) ⟨env0 0 args, [], 0, fn.ntmps⟩) : AC P f args R := by
  intro w N xs hN hlen hp
  refine calls_of_wp hf hb (wp_mono (h ⟨w, fun _ => False, fun _ _ => none, []⟩ N _ w ⟨fun _ _ => none, ⟨rfl, ?_, Bs.Below.refl _, ⟨fun b hb => ⟨hN b hb, fun h => h⟩, fun _ _ _ h => by cases h⟩, fun d v hv => absurd rfl hv, fun d o hd => ?_, fun d o _ _ _ _ _ hd => ?_, fun t v hv => ?_⟩⟩) ?_)
  · simp only [Array.size_append, List.size_toArray, Array.size_replicate]; omega
  · simp [get] at hd
  · simp [get] at hd
  · obtain ⟨_, h2⟩ := get_env0 hv
    simp only [Nat.sub_zero] at h2
    have ht : t < args.length := (List.getElem?_eq_some_iff.1 h2).1
    refine ⟨by simp only; omega, .pur ?_⟩
    have hx : xs[t]? = some xs[t] := List.getElem?_eq_getElem (by omega)
    have := hp t xs[t] v hx h2
    have hget : (xs.toArray ++ Array.replicate (fn.ntmps - xs.toArray.size) undef).getD t undef = xs[t] := by
      rw [Array.getD_eq_getD_getElem?, Array.getElem?_append_left (by simp; omega)]
      simp [hx]
    rw [hget]
    exact this.keep (Keeps.refl _ _) (fun b hb ho => by
      rcases ho with h0 | ⟨d, o, c, h1, _⟩
      · exact h0
      · simp [get] at h1)
  · rintro e a' w' ⟨S', hE, ⟨μ, hr⟩⟩
    have key : (∃ t v, fn.results.toList = [.tmp t] ∧ get S'.env t = some v ∧ v.pureV = true ∧ R v) → ∃ v, (results fn a'.tmps).run P w' = .ok v w' ∧ ∃ x r, Ending.returned v = .returned x ∧ R r ∧ Pur w' N x r ∧ Below w.heap.size w w' := by
      rintro ⟨t, v, h1, h2, h3, h4⟩
      have h5 := (hr.env t v h2).2.pureV h3
      refine ⟨a'.tmps.getD t undef, ?_, _, v, rfl, h4, h5.keep (Keeps.refl _ _) (fun b _ hb => .inl hb), hr.below.plain⟩
      rw [results_eq, Sem.run_bind, Array.mapM_eq_mapM_toList, Sem.run_map, h1]
      rfl
    cases e with
    | ret => exact ⟨hr.defers, key hE⟩
    | normal => exact ⟨hr.defers, key hE⟩
    | _ => exact hE.elim
end
end Go.Eng

namespace Go.Eng
open Go.RowKit

/-- The contract: handed the whole row es and the function g0, f leaves es' there and hands back F of the row's name. -/
def ACIF (P : Program) (f g0 : FuncId) (sz : Nat) (ty : TypeId) (es es' : List V) (F : Nat → Nat → V) : Prop :=
  (∀ (w : World) (g cap : Nat), cap ≤ maxLen → RowAt w g ty sz cap es → Calls P f #[.slice (some ⟨g, 0, none⟩) es.length cap, .func (.func g0) #[] #[]] w (fun e w' => ∃ x, e = .returned x ∧ w.grownBy w' (some g) ∧ RowAt w' g ty sz cap es' ∧
      ∀ d v μ N', μ d v = some (some (g, cap)) → Enc w' N' μ x (F d v))) ∧
  (es = [] → es' = [] ∧ ∀ (w : World) A, Calls P f #[.slice A 0 0, .func (.func g0) #[] #[]] w (fun e w' => ∃ x, e = .returned x ∧ w.grownBy w' none ∧ ∀ d v μ N', μ d v = some none → Enc w' N' μ x (F d v)))
section
variable {P : Program} {w0 : Bs} {N0 : Nat → Prop} {Q : Exit → AS → Prop} {S : AS}
theorem awl_callIF {ops : List Oper} {i : Nat} {o : Oper} {rest : List Oper} {f x y : Operand} {fid g0 : FuncId} {fn : Func} {ats : Array TypeId} {d v sz : Nat} {ty : TypeId} {es es' : List V} {F : Nat → Nat → V} {S' : AS}
    (hc : ACIF P fid g0 sz ty es es' F) (hfl : es.all flatE = true) (hfl' : es'.all flatE = true) (hfn : P.funcs[fid]? = some fn) (hb : fn.body.isSome = true) (hn : (fn.name == "runtime.NumGoroutine") = false)
    (hg : o.guard = none) (hop : o.op = .call { callee := .value f, args := #[x, y], argTypes := ats }) (hf : S.evc true f = some (.fn fid)) (hy : S.evc true y = some (.fn g0))
    (hx : S.evc true x = some (.sl d v sz es.length)) (ho : get S.objs d = some ⟨v, sz, ty, es⟩) (hs : ({ S with objs := (d, ⟨v, sz, ty, es'⟩) :: S.objs } : AS).putv o.dst (F d v) = some S')
    (h : AWL P w0 N0 ops Q (i + 1) rest S') : AWL P w0 N0 ops Q i (o :: rest) S := by
  rintro D a w hD ⟨μ, hr⟩
  refine wpList_plain hg fun K hK => ?_
  have hfv := hr.evc hf rfl
  have hfe : a.eval f = .func (.func fid) #[] #[] := by
    generalize a.eval f = y at hfv
    cases hfv with
    | pur hfv => cases hfv with
      | fn => rfl
  have hxv := hr.evc hx rfl
  obtain ⟨l, hl, hob⟩ := hr.objs d _ ho
  unfold Oper.wp
  rw [run_call_fn hop hfe hfn hb hn]
  have hyv := hr.evc hy rfl
  have hye : a.eval y = .func (.func g0) #[] #[] := by
    generalize a.eval y = y' at hyv
    cases hyv with
    | pur hyv => cases hyv with
      | fn => rfl
  have hmap : #[x, y].map a.eval = #[a.eval x, .func (.func g0) #[] #[]] := by simp [hye]
  rw [hmap]
  have finish : ∀ (e : Ending) (w' : World) (xv : Value) (row : Option Nat), e = .returned xv → w.grownBy w' row → (∀ g, row = some g → ∃ c, l = some (g, c)) → (∀ N', ObEnc w' N' μ w0 ⟨v, sz, ty, es'⟩ l) → (∀ N', Enc w' N' μ xv (F d v)) →
      ∃ r, e = .returned r ∧ K (a.put o.dst r) w' := by
    rintro e w' xv row rfl hgr hrow hob' henc
    refine ⟨xv, rfl, ?_⟩
    have hbel : w0.Below w' := hr.below.grown hgr hr.below.size (fun k hk => by
      obtain ⟨c, e⟩ := hrow k hk
      rw [e] at hob
      exact hob.1)
    obtain ⟨hrel, _⟩ := hr.update (D' := D) (d := d) (o' := ⟨v, sz, ty, es'⟩) (l' := l) (w' := w') (μ' := μ) (fun _ _ _ hh => hh) hr.fresh hl hbel
      (Keeps.of_grown hgr (fun g hg => by obtain ⟨c, e⟩ := hrow g hg; exact .inr ⟨d, _, c, ho, by rw [hl, e]⟩))
      (fun d1 o1 g c hne h1 h2 => hgr.block g (hr.block_lt h1 h2) (fun e => by
        obtain ⟨c', e'⟩ := hrow g e.symm
        exact hne (hr.inj _ _ _ _ _ _ _ h1 ho h2 (by rw [hl, e']))))
      (fun g c e => .inr ⟨_, c, ho, by rw [hl, e]⟩) (fun N' _ => hob' N')
    exact hK _ _ (h D _ w' (fun j hj => Nat.lt_succ_of_lt (hD j hj)) ⟨μ, hrel.putv hs (henc _)⟩)
  have flatEnc : ∀ {w1 w2 : World} {N1 : Nat → Prop} {μ1 : Mu} {y : Value} {c : V}, c.flat = true → Enc w1 N1 μ1 y c → Pur w2 (fun _ => False) y c := by
    intro w1 w2 N1 μ1 y c hcf hy
    exact (hy.flatP hcf).of_flat hcf
  generalize hxe : a.eval x = xv at hxv
  have hcall : Calls P fid #[xv, .func (.func g0) #[] #[]] w (fun e w' => ∃ r, e = .returned r ∧ K (a.put o.dst r) w') := by
    generalize hve : V.sl d v sz es.length = sv at hxv
    cases hxv with
    | pur hxv => cases hxv <;> cases hve
    | slr d' v' sz' len g cap h1 h2 h3 =>
      cases hve
      rw [hl] at h1
      injection h1 with h1
      subst h1
      obtain ⟨b1, b2, b3, b4, arr, b5, b6, b7⟩ := hob
      refine (hc.1 w g cap h3 ⟨b2, b4, arr, b5, b6, fun k e j c he hj => ?_⟩).mono ?_
      · obtain ⟨y, hy, hey⟩ := b7 k e j c he hj
        exact ⟨y, hy, flatEnc (List.all_eq_true.1 (List.all_eq_true.1 hfl e (List.mem_of_getElem? he)) c (List.mem_of_getElem? hj)) hey⟩
      · rintro e w' ⟨r, he, hgr, ⟨c1, c2, arr', c3, c4, c5⟩, henc⟩
        refine finish e w' r (some g) he hgr (fun g' hg' => by cases hg'; exact ⟨cap, rfl⟩) (fun N' => ⟨b1, c1, h3, c2, arr', c3, c4, fun k e j c he hj => ?_⟩) (fun N' => henc d v μ N' hl)
        obtain ⟨y, hy, hey⟩ := c5 k e j c he hj
        exact ⟨y, hy, .pur (hey.of_flat (List.all_eq_true.1 (List.all_eq_true.1 hfl' e (List.mem_of_getElem? he)) c (List.mem_of_getElem? hj)))⟩
    | slv d' v' sz' A h1 =>
      injection hve with e1 e2 e3 e4
      subst e1; subst e2; subst e3
      rw [hl] at h1
      injection h1 with h1
      subst h1
      have he0 : es = [] := hob
      obtain ⟨h2, h3⟩ := hc.2 he0
      refine (h3 w A).mono ?_
      rintro e w' ⟨r, he, hgr, henc⟩
      exact finish e w' r none he hgr (fun g hg => by cases hg) (fun N' => h2) (fun N' => henc d v μ N' hl)
    | _ => cases hve
  refine hcall.mono ?_
  rintro e w' ⟨r, rfl, hk⟩
  exact hk
end
end Go.Eng

namespace Go.Eng
open Go.RowKit

theorem setCells_heap (g : Nat) (ty : TypeId) (fr : Nat × Nat) : ∀ (vs : List Value) (o : Nat) (w : World) (arr : Array Value), w.heap[g]? = some (.cells arr ty fr) →
    ∃ arr', (w.setCells g o vs).heap[g]? = some (.cells arr' ty fr) ∧ arr'.size = arr.size ∧ ∀ j, j < o → arr'[j]? = arr[j]?
  | [], _, w, arr, h => ⟨arr, h, rfl, fun _ _ => rfl⟩
  | v :: r, o, w, arr, h => by
    have h1 : (w.setCell ⟨g, o, none⟩ v).heap[g]? = some (.cells (arr.setIfInBounds o v) ty fr) := by simp [World.setCell, Array.getElem?_modify, h]
    obtain ⟨arr', h2, h3, h4⟩ := setCells_heap g ty fr r (o + 1) _ _ h1
    refine ⟨arr', h2, by simpa using h3, fun j hj => ?_⟩
    rw [h4 j (by omega)]
    simp [Array.getElem?_setIfInBounds, show ¬ o = j by omega]
theorem setCells_rest (g : Nat) : ∀ (vs : List Value) (o : Nat) (w : World), (w.setCells g o vs).os = w.os ∧ (w.setCells g o vs).tape = w.tape ∧ (w.setCells g o vs).output = w.output ∧ (w.setCells g o vs).heap.size = w.heap.size ∧ ∀ b, b ≠ g → (w.setCells g o vs).heap[b]? = w.heap[b]?
  | [], _, w => ⟨rfl, rfl, rfl, rfl, fun _ _ => rfl⟩
  | v :: r, o, w => by
    obtain ⟨h1, h2, h3, h4, h5⟩ := setCells_rest g r (o + 1) (w.setCell ⟨g, o, none⟩ v)
    refine ⟨h1, h2, h3, h4.trans (by simp [World.setCell]), fun b hb => (h5 b hb).trans ?_⟩
    simp [World.setCell, Array.getElem?_modify, show ¬ g = b from fun e => hb e.symm]
section
variable {P : Program} {w0 : Bs} {N0 : Nat → Prop} {Q : Exit → AS → Prop} {S S' : AS}

theorem zeroCells_len (cells : Array Value) (n : Nat) : (Builtin.zeroCells cells n).toList.length = n * cells.size := by simp [Builtin.zeroCells]
theorem zeroCells_mem {cells : Array Value} {n : Nat} (h1 : ∀ v ∈ cells.toList, v.oneCell' = true) : ∀ v ∈ (Builtin.zeroCells cells n).toList, v.oneCell' = true := by
  intro v hv
  simp only [Builtin.zeroCells] at hv
  obtain ⟨j, hj⟩ := List.getElem?_of_mem hv
  simp at hj
  obtain ⟨q, hlt, rfl⟩ := hj
  have hlt : q < n * cells.size := by
    have := List.mem_of_getElem? hlt
    simpa using this
  refine h1 _ ?_
  have hc : 0 < cells.size := by
    rcases Nat.eq_zero_or_pos cells.size with h | h
    · rw [h] at hlt; simp at hlt
    · exact h
  have := Nat.mod_lt q hc
  rw [getElem!_pos cells (q % cells.size) this]
  simp
theorem run_clear (w : World) (t e ty : TypeId) (z : Value) (ht : P.underlying t = some (.slice e)) (hv : (zeroValue e).run P w = .ok z w) (h1 : ∀ v ∈ z.cells.toList, v.oneCell' = true) (b o n c : Nat) (hn : 0 < n)
    (hc : ∀ j, j < n * z.cells.size → (w.cell? ⟨b, o + j, none⟩).isSome = true) (hf : ∀ j, j < n * z.cells.size → w.frozen? ⟨b, o + j, none⟩ = false) :
    (Builtin.clear_ #[t] ty #[.slice (some ⟨b, o, none⟩) n c]).run P w = .ok (.tuple #[]) (w.setCells b o (Builtin.zeroCells z.cells n).toList) := by
  have hst := run_storeCells_cells (P := P) b o (Builtin.zeroCells z.cells n).toList 0 w (by rw [zeroCells_len]; simpa using hc) (by rw [zeroCells_len]; simpa using hf) (zeroCells_mem h1)
  simp only [Nat.add_zero] at hst
  obtain ⟨m, rfl⟩ : ∃ m, n = m + 1 := ⟨n - 1, by omega⟩
  simp [Builtin.clear_, run_underlying ht, hv, hst]
theorem eff_clear {D : Nat → Prop} {μ : Mu} {a : Act} {w : World} (h : RelM D w0 N0 μ S a w) {d off len : Nat} {t te ty : TypeId} {s : Value} {o : Ob} {z : Value} (ht : telem P t = some te) (hz : (zeroValue te).run P w = .ok z w) (hzs : z.cells.size = o.sz) (h1 : ∀ v ∈ z.cells.toList, v.oneCell' = true)
    (hs : Enc w (Own N0 μ S) μ s (.ss d o.v o.sz off len)) (ho : get S.objs d = some o) (hle : off + len = o.es.length) :
    ∃ w', (Builtin.clear_ #[t] ty #[s]).run P w = .ok (.tuple #[]) w' ∧ RelM D w0 N0 μ { S with objs := (d, { o with es := o.es.take off }) :: S.objs } a w' := by
  have hu := telem_underlying ht
  obtain ⟨l, hl, hob⟩ := h.objs d o ho
  generalize hve : V.ss d o.v o.sz off len = sv at hs
  cases hs with
  | pur hs => subst hve; cases hs
  | ss d' v' sz' off' len' g c cap A h2 h3 hA =>
    injection hve with e1 e2 e3 e4 e5
    subst e1; subst e2; subst e3; subst e4; subst e5
    by_cases h0 : len = 0
    · subst h0
      refine ⟨w, ?_, ?_⟩
      · cases A <;> simp [Builtin.clear_, run_underlying hu]
      · have ht2 : o.es.take off = o.es := List.take_of_length_le (by omega)
        rw [ht2]
        refine (h.update (D' := D) (d := d) (o' := o) (l' := l) (μ' := μ) (fun _ _ _ hh => hh) h.fresh hl h.below (Keeps.refl _ _) (fun _ _ _ _ _ _ _ => rfl) (fun g c e => .inr ⟨o, c, ho, by rw [hl, e]⟩) (fun N' hN => ?_)).1
        exact hob.keep (w' := w) (N' := N') (μ' := μ) (Keeps.refl _ _) hN (fun _ _ _ hh => hh) (fun _ _ _ => rfl)
    obtain ⟨hm, rfl⟩ := hA (by omega)
    rw [hm] at hl
    injection hl with hl
    subst hl
    obtain ⟨o1, o2, o3, o4, arr, o5, o6, o7⟩ := hob
    have hbound : off * o.sz + len * o.sz ≤ arr.size := by
      rw [o6, ← Nat.add_mul]; exact Nat.mul_le_mul_right _ (by omega)
    have hrun := run_clear (P := P) w t te ty z hu hz h1 g (off * o.sz) len c (by omega)
      (fun j hj => by rw [hzs] at hj; simp [World.cell?, o5, show off * o.sz + j < arr.size by omega])
      (fun j hj => by simp [World.frozen?, o5])
    refine ⟨_, hrun, ?_⟩
    obtain ⟨arr', a1, a2, a3⟩ := setCells_heap g o.ty (0, 0) (Builtin.zeroCells z.cells len).toList (off * o.sz) w arr o5
    obtain ⟨k1, k2, k3, hsz, k5⟩ := setCells_rest g (Builtin.zeroCells z.cells len).toList (off * o.sz) w
    have hsame : ∀ b, b < w.heap.size → b ≠ g → (w.setCells g (off * o.sz) (Builtin.zeroCells z.cells len).toList).heap[b]? = w.heap[b]? := fun b _ hne => k5 b hne
    have hgl : g < w.heap.size := (Array.getElem?_eq_some_iff.1 o5).1
    have hkeep : Keeps w (Own N0 μ S) (w.setCells g (off * o.sz) (Builtin.zeroCells z.cells len).toList) :=
      ⟨by rw [hsz]; exact Nat.le_refl _, fun b hb hN => hsame b hb (fun e => hN (by subst e; exact .inr ⟨d, o, cap, ho, hm⟩))⟩
    refine (h.update (D' := D) (d := d) (o' := { o with es := o.es.take off }) (l' := some (g, cap)) (μ' := μ) (fun _ _ _ hh => hh) h.fresh hm ?_ hkeep
      (fun d1 o1' g1 c1 hne1 h1 h2 => hsame g1 (h.block_lt h1 h2) (fun e => hne1 (by subst e; exact h.inj _ _ _ _ _ _ _ h1 ho h2 hm)))
      (fun g2 c2 e => by
        simp only [Option.some.injEq, Prod.mk.injEq] at e
        obtain ⟨rfl, rfl⟩ := e
        exact .inr ⟨o, cap, ho, hm⟩) (fun N' hN => ?_)).1
    · refine ⟨k1.trans h.below.os, k2.trans h.below.tape, k3.trans h.below.output, by rw [hsz]; exact h.below.size, fun k hk hx => ?_⟩
      · rw [hsame k (Nat.lt_of_lt_of_le hk h.below.size) (fun e => by
          subst e
          rcases o1 with h3 | h3
          · exact absurd hk (by omega)
          · exact hx h3)]
        exact h.below.block k hk hx
    · refine ⟨o1, by simp only [List.length_take]; omega, o3, fun e he => o4 e (List.mem_of_mem_take he), arr', a1, by rw [a2, o6], fun k e j c he hj => ?_⟩
      have hk : k < off := by have := (List.getElem?_eq_some_iff.1 he).1; simp at this; omega
      simp only [List.getElem?_take_of_lt hk] at he
      obtain ⟨x, hx, hex⟩ := o7 k e j c he hj
      have hjs : j < o.sz := by
        have h5 := (o4 e (List.mem_of_getElem? he)).1
        have := (List.getElem?_eq_some_iff.1 hj).1
        omega
      refine ⟨x, ?_, hex.keep hkeep hN (fun _ _ _ hh => hh)⟩
      rw [a3 _ ?_]
      · exact hx
      · show k * o.sz + j < off * o.sz
        have := Nat.mul_le_mul_right o.sz (show k + 1 ≤ off by omega)
        rw [Nat.add_mul] at this
        omega
  | _ => cases hve
theorem awl_clear {ops : List Oper} {i : Nat} {o : Oper} {rest : List Oper} {x : Operand} {t te : TypeId} {d off len : Nat} {ob : Ob} {z : Value} (hg : o.guard = none) (hd : o.dst = none)
    (ho : o.op = .call { callee := .builtin .clear, args := #[x], argTypes := #[t] }) (hx : S.evc true x = some (.ss d ob.v ob.sz off len)) (hob : get S.objs d = some ob) (hle : off + len = ob.es.length)
    (ht : telem P t = some te) (hz : ∀ w, (zeroValue te).run P w = .ok z w) (hzs : z.cells.size = ob.sz) (h1 : ∀ v ∈ z.cells.toList, v.oneCell' = true)
    (hS : ({ S with objs := (d, { ob with es := ob.es.take off }) :: S.objs } : AS) = S') (k : AWL P w0 N0 ops Q (i + 1) rest S') : AWL P w0 N0 ops Q i (o :: rest) S := by
  rintro D a w hD ⟨μ, hr⟩
  refine wpList_plain hg fun K hK => ?_
  obtain ⟨w', hrun, hr'⟩ := eff_clear (P := P) (ty := o.type) hr ht (hz w) hzs h1 (hr.evc hx rfl) hob hle
  unfold Oper.wp
  have hex : (execOp a.eval o).run P w = .ok (.value (.tuple #[])) w' := by
    unfold execOp
    rw [ho]
    simp [resolve, invoke, builtin, hrun, Result.andThen]
  rw [hex]
  subst hS
  refine hK _ _ ?_
  rw [hd]
  exact k D _ _ (fun j hj => Nat.lt_succ_of_lt (hD j hj)) ⟨μ, hr'⟩
end
end Go.Eng

namespace Go.Eng
open Go.RowKit

section
variable {P : Program} {w0 : Bs} {N0 : Nat → Prop} {Q : Exit → AS → Prop} {S S' : AS}

theorem eff_copyS {D : Nat → Prop} {μ : Mu} {a : Act} {w : World} (h : RelM D w0 N0 μ S a w) {d len : Nat} {dT sT te ty : TypeId} {s x : Value} {xv : V} {es : List V} {o : Ob} (ht : telem P dT = some te) (hn : tsz P te = some 1)
    (hs : Enc w (Own N0 μ S) μ s (.sl d o.v o.sz len)) (ho : get S.objs d = some o) (hlen : o.es.length = len) (hsz : o.sz = 1) (hx : Enc w (Own N0 μ S) μ x xv) (he : S.elems xv = some (1, es)) (hle : es.length ≤ len) :
    ∃ w', (Builtin.copy_ #[dT, sT] ty #[s, x]).run P w = .ok (goInt es.length) w' ∧ RelM D w0 N0 μ { S with objs := (d, { o with es := es ++ o.es.drop es.length }) :: S.objs } a w' := by
  have hu := telem_underlying ht
  unfold tsz at hn
  obtain ⟨A, c, rfl, hlc, hrest⟩ := h.elems hx he
  have same : es.length = 0 → RelM D w0 N0 μ { S with objs := (d, { o with es := es ++ o.es.drop es.length }) :: S.objs } a w := fun h0 => by
    have hoo : ({ o with es := es ++ o.es.drop es.length } : Ob) = o := by
      rw [List.eq_nil_of_length_eq_zero h0]; rfl
    rw [hoo]
    obtain ⟨l, hl, hob⟩ := h.objs d o ho
    refine (h.update (D' := D) (d := d) (o' := o) (l' := l) (μ' := μ) (fun _ _ _ hh => hh) h.fresh hl h.below (Keeps.refl _ _) (fun _ _ _ _ _ _ _ => rfl) (fun g c e => .inr ⟨o, c, ho, by rw [hl, e]⟩) (fun N' hN => ?_)).1
    exact hob.keep (w' := w) (N' := N') (μ' := μ) (Keeps.refl _ _) hN (fun _ _ _ hh => hh) (fun _ _ _ => rfl)
  cases hs with
  | pur hs => cases hs
  | slv _ _ _ B hm => exact ⟨w, by rw [show es.length = 0 by omega]; exact run_copy_none w dT sT ty te B A 0 0 0 c hu hn (by simp), same (by omega)⟩
  | slr _ _ _ _ g cap hm hle2 hmax =>
    by_cases h0 : es.length = 0
    · exact ⟨w, by rw [h0]; exact run_copy_none w dT sT ty te _ A len cap 0 c hu hn (by simp), same h0⟩
    have hne : es ≠ [] := fun e => by subst e; simp at h0
    obtain ⟨hf, ad, vs, rfl, hvl, hvc, hrow⟩ := hrest hne
    obtain ⟨l, hl', hob⟩ := h.objs d o ho
    rw [hm] at hl'
    injection hl' with hl'
    subst hl'
    obtain ⟨o1, o2, o3, o4, arr, o5, o6, o7⟩ := hob
    rw [hsz, Nat.mul_one] at o6
    rw [Nat.mul_one] at hvl
    have hone : ∀ v ∈ vs, v.oneCell' = true := by
      intro v hv
      obtain ⟨j, hj⟩ := List.getElem?_of_mem hv
      have hjl : j < (flat es).length := by rw [← hrow.1]; exact (List.getElem?_eq_some_iff.1 hj).1
      have hc := List.getElem?_eq_getElem hjl
      refine (hrow.2 j v _ hj hc).cell_oneCell ?_
      have hmem := List.mem_of_getElem? hc
      unfold flat at hmem
      obtain ⟨e, he1, he2⟩ := List.mem_flatMap.1 hmem
      exact (hf e he1).2 _ he2
    have hrun := run_copy_row (P := P) w dT sT ty te g 0 len cap ad es.length c arr o.ty vs hu hn o5 (by rw [hvl]; exact (Nat.min_eq_left hle).symm)
      hvc (by omega) hone
    rw [hvl] at hrun
    simp only [List.take_zero, List.nil_append, Nat.zero_add] at hrun
    refine ⟨_, hrun, ?_⟩
    have hkeep : Keeps w (Own N0 μ S) (w.setRow g (vs ++ arr.toList.drop es.length).toArray) :=
      ⟨by simp, fun b hb hN => setRow_other w g b _ (fun e => hN (by subst e; exact .inr ⟨d, o, cap, ho, hm⟩))⟩
    refine (h.update (D' := D) (d := d) (o' := { o with es := es ++ o.es.drop es.length }) (l' := some (g, cap)) (μ' := μ) (fun _ _ _ hh => hh) h.fresh hm (bs_setRow h.below o1 _) hkeep
      (fun d1 o1' g1 c1 hne1 h1 h2 => setRow_other w g g1 _ (fun e => hne1 (by subst e; exact h.inj _ _ _ _ _ _ _ h1 ho h2 hm)))
      (fun g2 c2 e => by
        simp only [Option.some.injEq, Prod.mk.injEq] at e
        obtain ⟨rfl, rfl⟩ := e
        exact .inr ⟨o, cap, ho, hm⟩) (fun N' hN => ?_)).1
    have hfit : ∀ e1 ∈ es ++ o.es.drop es.length, e1.fits o.sz := fun e1 he1 => by
      rcases List.mem_append.1 he1 with h1 | h1
      · rw [hsz]; exact hf e1 h1
      · exact o4 e1 (List.mem_of_mem_drop h1)
    have htl : (es ++ o.es.drop es.length).length = o.es.length := by rw [List.length_append, List.length_drop]; omega
    refine ⟨o1, by simp only [htl]; exact o2, o3, hfit, _, setRow_heap w g arr _ o.ty (0, 0) o5, ?_, ?_⟩
    · simp only [List.size_toArray, List.length_append, hvl, List.length_drop, Array.length_toList, hsz, Nat.mul_one]
      omega
    · intro k e j c2 hk hj
      simp only [hsz, Nat.mul_one] at o7 ⊢
      by_cases hkm : k < es.length
      · rw [List.getElem?_append_left hkm] at hk
        have hfe := hf e (List.mem_of_getElem? hk)
        have hj0 : j = 0 := by
          have := (List.getElem?_eq_some_iff.1 hj).1
          have := hfe.1; omega
        subst hj0
        have hfl := flat_get hf hk hj
        simp only [Nat.mul_one, Nat.add_zero] at hfl ⊢
        have hxv : vs[k]? = some (vs[k]'(by omega)) := List.getElem?_eq_getElem (by omega)
        refine ⟨vs[k]'(by omega), ?_, ?_⟩
        · rw [List.getElem?_toArray, List.getElem?_append_left (by omega)]; exact hxv
        · exact (hrow.2 k _ c2 hxv hfl).keep hkeep hN (fun _ _ _ hh => hh)
      · rw [List.getElem?_append_right (by omega), List.getElem?_drop] at hk
        have hfe := o4 e (List.mem_of_getElem? hk)
        have hj0 : j = 0 := by
          have := (List.getElem?_eq_some_iff.1 hj).1
          have := hfe.1; omega
        subst hj0
        rw [show es.length + (k - es.length) = k by omega] at hk
        obtain ⟨y, hy1, hy2⟩ := o7 k e 0 c2 hk hj
        simp only [Nat.add_zero] at hy1 ⊢
        refine ⟨y, ?_, hy2.keep hkeep hN (fun _ _ _ hh => hh)⟩
        rw [List.getElem?_toArray, List.getElem?_append_right (by omega), List.getElem?_drop, hvl, show es.length + (k - es.length) = k by omega]
        rw [← hy1]; simp
/-- The state behind copy(x, y), y not longer than x. -/
def AS.copyTS (S : AS) (x y : Operand) (dst : Option Nat) : Option AS := match S.evc true x, S.evc true y with
  | some (.sl d v sz len), some xv => match get S.objs d, S.elems xv with
    | some ob, some (n, es) => if ob.v = v ∧ ob.sz = sz ∧ sz = 1 ∧ n = 1 ∧ ob.es.length = len ∧ es.length ≤ len then AS.putv { S with objs := (d, { ob with es := es ++ ob.es.drop es.length }) :: S.objs } dst (.int .i64 es.length) else none
    | _, _ => none
  | _, _ => none
/-- copy(d, s): the elements of s. -/
theorem awl_copyS {ops : List Oper} {i : Nat} {o : Oper} {rest : List Oper} {x y : Operand} {dT sT te : TypeId} (hg : o.guard = none)
    (ho : o.op = .call { callee := .builtin .copy, args := #[x, y], argTypes := #[dT, sT] }) (ht : telem P dT = some te) (hn : tsz P te = some 1)
    (hs : S.copyTS x y o.dst = some S') (k : AWL P w0 N0 ops Q (i + 1) rest S') : AWL P w0 N0 ops Q i (o :: rest) S := by
  unfold AS.copyTS at hs
  split at hs
  case h_2 => cases hs
  rename_i d v sz len xv hx hy
  split at hs
  case h_2 => cases hs
  rename_i ob n es hob he
  split at hs
  case isFalse => cases hs
  rename_i hc
  obtain ⟨rfl, rfl, hsz, rfl, rfl, hle⟩ := hc
  rintro D a w hD ⟨μ, hr⟩
  refine wpList_plain hg fun K hK => ?_
  obtain ⟨w', hrun, hr'⟩ := eff_copyS (P := P) (sT := sT) (ty := o.type) hr ht hn (hr.evc hx rfl) hob rfl hsz (hr.evc hy rfl) he hle
  unfold Oper.wp
  have hex : (execOp a.eval o).run P w = .ok (.value (goInt es.length)) w' := by
    unfold execOp
    rw [ho]
    simp [resolve, invoke, builtin, hrun, Result.andThen]
  rw [hex]
  exact hK _ _ (k D _ _ (fun j hj => Nat.lt_succ_of_lt (hD j hj)) ⟨μ, hr'.putv hs (.pur (.int _ _))⟩)
theorem awt_callQ {G : Gp} {ops : List Oper} {i : Nat} {ks : List Nat} {t : Tr} {o : Oper} {c : Bool} {f : Operand} {fid : FuncId} {fn : Func} {args : Array Operand} {ats : Array TypeId} {vs : List V} {res : V}
    (hG : Gon G w0) (hc : c = true → ACQ G P fid vs (fun r => r = res)) (hfn : P.funcs[fid]? = some fn) (hb : fn.body.isSome = true) (hn : (fn.name == "runtime.NumGoroutine") = false) (hi : nth ops i = some o) (hks : (ks.all fun d => (get S.objs (0 + d)).isNone) = true)
    (hg : S.gv ops o = some c) (ho : o.op = .call { callee := .value f, args := args, argTypes := ats }) (hf : S.evc c f = some (.fn fid)) (ha : S.args c args.toList = some vs) (hp : vs.all V.pureV = true) (hs : S.putv o.dst (wrapG o c res) = some S') (h : AWT P 0 w0 ops Q t S') : AWT P 0 w0 ops Q (.take i ks t) S := by
  rw [nth_eq] at hi
  exact ⟨o, S', hi, hks, .inr (.inl ⟨c, f, args, ats, fid, fn, vs, res, hg, ho, hf, hfn, hb, hn, ha, hp, fun h => (hc h).b hG, hs⟩), h⟩
theorem aw_retU (n0 : Nat) (h : Q .ret { S with nx := n0 + S.nx }) : AW P w0 N0 .ret Q S := aw_le (S' := { S with nx := n0 + S.nx }) (le_nx rfl rfl rfl (Nat.le_add_left _ _)) (aw_ret h)
end
attribute [simp] AS.copyTS
end Go.Eng
