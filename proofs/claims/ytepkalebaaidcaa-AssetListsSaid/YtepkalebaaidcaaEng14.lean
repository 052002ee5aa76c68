/- Regions whose order is left open: one order serves for all. No condition. -/
import Derived.Test.YtepkalebaaidcaaEng12
set_option linter.unusedSimpArgs false
namespace Go.Eng
open Go.RowKit

/-- An operation that makes or writes memory. -/
def acts : Op → Bool
  | .alloc _ | .box .. | .buildSlice .. | .makeSlice .. | .store .. | .mapUpdate .. => true
  | .call { callee := .builtin .append, .. } => true
  | _ => false
/-- An operation that makes an object under its own slot's name. -/
def makes : Op → Bool
  | .alloc _ | .box .. | .buildSlice .. | .makeSlice .. => true
  | _ => false
/-- A write to a map. -/
def mapUp : Op → Bool
  | .mapUpdate .. => true
  | _ => false
def loads : Op → Bool
  | .load .. => true
  | _ => false

def AS.gv (S : AS) (ops : List Oper) (o : Oper) : Option Bool := match o.guard with | none => some true | some (j, want) => S.gd ops j want
def wrapG (o : Oper) (c : Bool) (v : V) : V := match o.guard with | none => v | some _ => .whn c v

/-- A call by its contract, under a guard or not. -/
def CallStep (P : Program) (ops : List Oper) (o : Oper) (S S' : AS) : Prop :=
  ∃ c f args ats fid fn vs res, S.gv ops o = some c ∧ o.op = .call { callee := .value f, args := args, argTypes := ats } ∧ S.evc c f = some (.fn fid) ∧ P.funcs[fid]? = some fn ∧ fn.body.isSome = true ∧ (fn.name == "runtime.NumGoroutine") = false ∧
    S.args c args.toList = some vs ∧ vs.all V.pureV = true ∧ (c = true → AC P fid vs (fun r => r = res)) ∧ S.putv o.dst (wrapG o c res) = some S'

def mapK {α β : Type} (f : α → β) : List (Nat × α) → List (Nat × β)
  | [] => []
  | (k, x) :: r => (k, f x) :: mapK f r
theorem get_mapK' {α β : Type} (f : α → β) (t : Nat) : ∀ (l : List (Nat × α)), get (mapK f l) t = (get l t).map f
  | [] => rfl
  | (k, x) :: r => by
    unfold mapK
    rw [get_cons, get_cons, get_mapK' f t r]
    split <;> rfl
/-- The map of block b holds m from now on. -/
def V.mset (b : Nat) (k : IntKind) (m : List (Int × V)) : V → V
  | .mp b' k' m' => if b' = b then .mp b' k m else .mp b' k' m'
  | u => u
def V.okM1 : V → Bool
  | .mp .. | .tup _ | .whn _ _ => false
  | _ => true
/-- Maps lie in slots of their own alone. -/
def V.okM : V → Bool
  | .tup vs => vs.all V.okM1
  | .whn _ (.tup vs) => vs.all V.okM1
  | .whn _ v => v.okM1
  | _ => true
def okMs : List (Nat × V) → Bool
  | [] => true
  | (_, v) :: r => v.okM && okMs r
/-- A write to a map of the call's own. -/
def MapStep (P : Program) (w0 : World) (o : Oper) (S S' : AS) : Prop :=
  ∃ t m x v b k es a u e, o.guard = none ∧ o.dst = none ∧ o.op = .mapUpdate t m x v ∧ S.evc true m = some (.mp b k es) ∧ S.evc true x = some (.int k a) ∧ S.evc true v = some u ∧ u.flat0 = true ∧ tmap P t = some (k, e) ∧ w0.heap.size ≤ b ∧
    (∀ t v, get S.env t = some v → v.okM = true) ∧ S' = { S with env := mapK (V.mset b k ((a, u) :: es)) S.env }
def Step (P : Program) (w0 : World) (ops : List Oper) (i : Nat) (o : Oper) (S S' : AS) : Prop := astep P ops i o S = some S' ∨ CallStep P ops o S S' ∨ MapStep P w0 o S S'

section
variable {P : Program} {w0 : World} {N0 : Nat → Prop} {Q : Exit → AS → Prop}

theorem okM1_cell {v : V} (h : v.isCell = true) : v.okM1 = true := by cases v <;> first | rfl | simp [V.isCell] at h

/-- A world in which one map has turned. -/
structure MapTurn (w w' : World) (b : Nat) : Prop where
  was : ∃ es clock, w.heap[b]? = some (.map es clock)
  size : w'.heap.size = w.heap.size
  other : ∀ k, k ≠ b → w'.heap[k]? = w.heap[k]?

theorem MapTurn.cell {w w' : World} {b : Nat} (h : MapTurn w w' b) {ad : Addr} {x : Value} (hx : w.cell? ad = some x) : w'.cell? ad = some x ∧ ad.block ≠ b := by
  have hne : ad.block ≠ b := by
    rintro rfl
    obtain ⟨es, clock, hb⟩ := h.was
    simp [World.cell?, hb] at hx
  exact ⟨by rw [World.cell?_of_block (w := w) (h.other _ hne)]; exact hx, hne⟩

theorem Pur.mapTurn {w w' : World} {b : Nat} (h : MapTurn w w' b) {N : Nat → Prop} {x : Value} {v : V} (hx : Pur w N x v) : v.okM1 = true → Pur w' N x v := by
  induction hx with
  | bool b => intro _; exact .bool b
  | int k n => intro _; exact .int k n
  | str l => intro _; exact .str l
  | agg xs cs hl hc _ ih => intro _; exact .agg xs cs hl hc (fun i x c h1 h2 => ih i x c h1 h2 (okM1_cell (hc c (List.mem_of_getElem? h2))))
  | tup => intro hk; simp [V.okM1] at hk
  | ro A ad n cap sz es g hn hcap hmax hA hf hc _ ih =>
    intro _
    refine .ro A ad n cap sz es g hn hcap hmax (fun h0 => ?_) hf (fun k e j c he hj => (h.cell (hc k e j c he hj)).1) (fun k e j c he hj => ih k e j c he hj (okM1_cell ((hf e (List.mem_of_getElem? he)).2 c (List.mem_of_getElem? hj))))
    obtain ⟨h1, h2, h3⟩ := hA h0
    exact ⟨h1, by rw [h.size]; exact h2, h3⟩
  | nils A => intro _; exact .nils A
  | rp ad sz e g hb hN' hf hc _ ih =>
    intro _
    exact .rp ad sz e g (by rw [h.size]; exact hb) hN' hf (fun j c hj => (h.cell (hc j c hj)).1) (fun j c hj => ih j c hj (okM1_cell (hf.2 c (List.mem_of_getElem? hj))))
  | fn f => intro _; exact .fn f
  | mp => intro hk; simp [V.okM1] at hk

theorem Enc.mapTurn {w w' : World} {b : Nat} (h : MapTurn w w' b) {N : Nat → Prop} {μ : Mu} {x : Value} {v : V} (hx : Enc w N μ x v) : v.okM1 = true → Enc w' N μ x v := by
  induction hx with
  | pur hp => intro hk; exact .pur (hp.mapTurn h hk)
  | slr d v sz len g cap h1 h2 h3 => intro _; exact .slr d v sz len g cap h1 h2 h3
  | slv d v sz A h1 => intro _; exact .slv d v sz A h1
  | ss d v sz off len g c cap A h2 h3 h4 => intro _; exact .ss d v sz off len g c cap A h2 h3 h4
  | bp d v sz k off g cap h1 => intro _; exact .bp d v sz k off g cap h1
  | agg xs cs hl hc _ ih => intro _; exact .agg xs cs hl hc (fun i x c h1 h2 => ih i x c h1 h2 (okM1_cell (hc c (List.mem_of_getElem? h2))))
  | tup => intro hk; simp [V.okM1] at hk
  | whn => intro hk; simp [V.okM1] at hk

theorem findA_modify {a c : Int} {u : Value} {k : IntKind} : ∀ {es : List MapEntry} {n : Nat} {p : Nat × Value}, findIx a es n = some p → findA c (es.modify (p.1 - n) (fun e => { e with key := .int k a, val := u })) = if c = a then some u else findA c es
  | [], n, p, h => by simp [findIx] at h
  | e :: r, n, p, h => by
    unfold findIx at h
    split at h
    · rename_i hk
      injection h with h
      subst h
      simp only [Nat.sub_self, List.modify_zero_cons, findA]
      have : keyI { e with key := .int k a, val := u } = a := rfl
      rw [this]
      by_cases hc : c = a
      · subst hc; simp
      · rw [if_neg (fun h => hc h.symm), if_neg hc, hk, if_neg (fun h => hc h.symm)]
    · rename_i hk
      have hle := (findIx_some h).2.1
      have ih := findA_modify (c := c) (u := u) (k := k) h
      rw [show p.1 - n = (p.1 - (n + 1)) + 1 by omega]
      simp only [List.modify_succ_cons, findA]
      rw [ih]
      by_cases hc : c = a
      · subst hc; simp [hk]
      · simp [hc]
theorem findA_push {a c : Int} {e : MapEntry} (he : keyI e = a) : ∀ {es : List MapEntry}, findA a es = none → findA c (es ++ [e]) = if c = a then some e.val else findA c es
  | [], _ => by
    simp only [List.nil_append, findA, he]
    by_cases hc : c = a
    · subst hc; simp
    · rw [if_neg (fun h => hc h.symm), if_neg hc]
  | x :: r, h => by
    unfold findA at h
    split at h
    · cases h
    · rename_i hx
      have ih := findA_push (c := c) he h
      simp only [List.cons_append, findA, ih]
      by_cases hc : c = a
      · subst hc; simp [hx]
      · simp [hc]

theorem sameBits_int (k : IntKind) (a : Int) (n : Nat) : Instr.sameBits n (.int k a) (.int k a) = true := by
  cases n <;> simp [Instr.sameBits]

theorem mapUpdate_run {P : Program} {w : World} {N : Nat → Prop} {μ : Mu} {t e b : Nat} {k : IntKind} {m : List (Int × V)} {a : Int} {x y : Value} {uv : Value} {u : V} (hx : Enc w N μ x (.mp b k m)) (hy : Enc w N μ y (.int k a)) (hu : Enc w N μ uv u) (hf : u.flat0 = true) (ht : tmap P t = some (k, e)) :
    ∃ w', (Instr.mapUpdate t x y uv).run P w = .ok () w' ∧ MapTurn w w' b ∧ x = .map (some b) ∧ (∀ N', ¬ N' b → Pur w' N' x (.mp b k ((a, u) :: m))) ∧ w'.os = w.os ∧ w'.tape = w.tape ∧ w'.output = w.output := by
  obtain ⟨kt, hut, hk⟩ := tmap_spec ht
  have huv : ∀ w2 N2, Pur w2 N2 uv u := by
    intro w2 N2
    cases hu with
    | pur hu => exact hu.of_flat0 hf
    | _ => simp [V.flat0] at hf
  cases hy with
  | pur hy =>
  cases hy with
  | int =>
  cases hx with
  | pur hx =>
  cases hx with
  | mp _ _ _ es clock g hN hb hks hs hn hh =>
  have hfn := findNow_int (q := k) (a := a) es.toList 0 hks
  have turn : ∀ es' clock', MapTurn w { w with heap := w.heap.setIfInBounds b (.map es' clock') } b := fun es' clock' =>
    ⟨⟨es, clock, hb⟩, by simp, fun j hj => by simp [Array.getElem?_setIfInBounds]; intro h; exact absurd h.symm hj⟩
  have hblk : ∀ es' clock', ({ w with heap := w.heap.setIfInBounds b (.map es' clock') } : World).heap[b]? = some (.map es' clock') := fun es' clock' => by
    have hlt := (Array.getElem?_eq_some_iff.1 hb).1
    simp [Array.getElem?_setIfInBounds, hlt]
  have pur : ∀ (es' : Array MapEntry) clock' N', ¬ N' b → (∀ e ∈ es'.toList, ∃ a, e.key = .int k a) → (∀ c, findA c es'.toList = if c = a then some uv else findA c es.toList) →
      Pur { w with heap := w.heap.setIfInBounds b (.map es' clock') } N' (.map (some b)) (.mp b k ((a, u) :: m)) := by
    intro es' clock' N' hN' hk' hfa
    refine .mp b k _ es' clock' (fun c => if c = a then uv else g c) hN' (hblk es' clock') hk' (fun c v hc => ?_) (fun c hc => ?_) (fun c v hc => ?_)
    · unfold assoc at hc
      rw [hfa]
      by_cases e : a = c
      · subst e
        simp only [if_true, Option.some.injEq] at hc
        subst hc
        simp [hf]
      · rw [if_neg e] at hc
        have := hs c v hc
        simp only [show ¬ c = a from fun h => e h.symm, if_false]
        exact this
    · unfold assoc at hc
      rw [hfa]
      by_cases e : a = c
      · subst e; simp at hc
      · rw [if_neg e] at hc
        rw [if_neg (fun h => e h.symm)]
        exact hn c hc
    · unfold assoc at hc
      by_cases e : a = c
      · subst e
        simp only [if_true, Option.some.injEq] at hc
        subst hc
        simp only [if_true]
        exact huv _ _
      · rw [if_neg e] at hc
        simp only [show ¬ c = a from fun h => e h.symm, if_false]
        exact (hh c v hc).of_flat0 (hs c v hc).2
  cases hp : findIx a es.toList 0 with
  | none =>
    rw [hp] at hfn
    have hf2 := MapKept.run_findKey (w := w) hk hfn
    have hA := findIx_none.1 hp
    refine ⟨_, ?_, turn (es.push { key := .int k a, val := uv, born := clock }) (clock + 1), rfl, fun N' hN' => pur _ _ N' hN' ?_ ?_, rfl, rfl, rfl⟩
    · unfold Instr.mapUpdate
      simp only [Sem.run_bind, run_underlying hut, Result.andThen_ok, MapKept.run_getObj_map hb, MapKept.run_checkKey hk (k := .int k a) (by simp [MapKept.IsKey]), hf2]
      exact MapKept.run_setObj_map _ hb
    · intro e he
      simp only [Array.toList_push, List.mem_append, List.mem_singleton] at he
      rcases he with he | rfl
      · exact hks e he
      · exact ⟨a, rfl⟩
    · intro c
      rw [Array.toList_push]
      exact findA_push rfl hA
  | some p =>
    rw [hp] at hfn
    have hf2 := MapKept.run_findKey (w := w) hk hfn
    obtain ⟨hA, _, e0, he0, hv0, hk0⟩ := findIx_some hp
    simp only [Nat.sub_zero] at he0
    obtain ⟨a0, ha0⟩ := hks e0 (List.mem_of_getElem? he0)
    have ha : a0 = a := by simpa [keyI, ha0] using hk0
    subst ha
    have hge : (es[p.1]?.map (·.key)).getD (.int k a0) = .int k a0 := by
      have : es[p.1]? = some e0 := by simpa using he0
      simp [this, ha0]
    have hstay : (Instr.keyThatStays (.int k a0) (.int k a0)).run P w = .ok (.int k a0) w := by
      unfold Instr.keyThatStays
      rw [sameBits_int]
      rfl
    refine ⟨_, ?_, turn (es.modify p.1 fun e => { e with key := .int k a0, val := uv }) clock, rfl, fun N' hN' => pur _ _ N' hN' ?_ ?_, rfl, rfl, rfl⟩
    · unfold Instr.mapUpdate
      simp only [Sem.run_bind, run_underlying hut, Result.andThen_ok, MapKept.run_getObj_map hb, MapKept.run_checkKey hk (k := .int k a0) (by simp [MapKept.IsKey]), hf2, hge, hstay]
      exact MapKept.run_setObj_map _ hb
    · intro e he
      rw [Array.toList_modify] at he
      obtain ⟨j, hj⟩ := List.getElem?_of_mem he
      rw [List.getElem?_modify] at hj
      cases hgj : es.toList[j]? with
      | none => rw [hgj] at hj; simp at hj
      | some e1 =>
        rw [hgj] at hj
        simp only [Option.map_eq_map, Option.map_some, Option.some.injEq] at hj
        split at hj
        · subst hj; exact ⟨a0, rfl⟩
        · subst hj; exact hks _ (List.mem_of_getElem? hgj)
    · intro c
      rw [Array.toList_modify]
      have := findA_modify (c := c) (u := uv) (k := k) hp
      simpa using this

theorem step_sound {S S' : AS} {D : Nat → Prop} {a : Act} {w : World} {ops : List Oper} {i : Nat} {o : Oper} (hr : RelD D w0 N0 S a w) (hi : ¬ D i) (hs : Step P w0 ops i o S S') {K : Act → World → Prop} {Q' : Exit → Act → World → Prop}
    (hK : ∀ a' w', RelD (fun j => D j ∨ j = i) w0 N0 S' a' w' → K a' w') :
    if Region.wanted o (yielded ops.toArray a.tmps) = true then o.wp P a w K Q' else K (a.put o.dst undef) w := by
  obtain ⟨μ, hr⟩ := hr
  have hmore : ∀ {a' w'}, RelM D w0 N0 μ S' a' w' → RelD (fun j => D j ∨ j = i) w0 N0 S' a' w' := fun h => ⟨μ, h.more (fun j hj => .inl hj)⟩
  rcases hs with hs | ⟨c, f, args, ats, fid, fn, vs, res, hgv, ho, hf, hfn, hb, hn, ha, hp, hc, hs⟩ | ⟨t, m, x, v, b, k, es, q, u, e, hg, hd, ho, hm, hx, hv, hu, ht, hb0, hok, rfl⟩
  · unfold astep at hs
    split at hs
    · rename_i hg
      have hw : Region.wanted o (yielded ops.toArray a.tmps) = true := by simp [Region.wanted, hg]
      rw [if_pos hw]
      split at hs
      · rename_i v hv
        obtain ⟨x, hx, hex⟩ := aval_run hr rfl hv
        unfold Oper.wp
        rw [hx]
        exact hK _ _ (hmore (hr.putv hs hex))
      · obtain ⟨x, w', hdo, hrel⟩ := aeff_run hr hi hs
        unfold Oper.wp
        rcases hdo with hx | ⟨hx, rfl⟩
        · rw [hx]; exact hK _ _ hrel
        · rw [hx]; exact hK _ _ hrel
    · rename_i j want hg
      split at hs
      case h_2 => cases hs
      rename_i c hc
      have hwc := gd_spec hr hg hc
      rw [hwc]
      split at hs
      · rename_i v hv
        cases c with
        | true =>
          rw [if_pos rfl]
          obtain ⟨x, hx, hex⟩ := aval_run hr rfl hv
          unfold Oper.wp
          rw [hx]
          exact hK _ _ (hmore (hr.putv hs (.whn _ _ _ (fun _ => hex) (fun hf => (by cases hf)))))
        | false =>
          rw [if_neg (by simp)]
          exact hK _ _ (hmore (hr.putv hs (.whn _ _ _ (fun hf => (by cases hf)) (fun _ => rfl))))
      · split at hs
        case isFalse => cases hs
        rename_i hcf
        obtain ⟨rfl, _⟩ := hcf
        rw [if_neg (by simp)]
        exact hK _ _ (hmore (hr.putv hs (.whn _ _ _ (fun hf => (by cases hf)) (fun _ => rfl))))
  · have hwc : Region.wanted o (yielded ops.toArray a.tmps) = c := by
      unfold AS.gv at hgv
      split at hgv
      · rename_i hg
        injection hgv with hgv
        subst hgv
        simp [Region.wanted, hg]
      · rename_i j want hg
        exact gd_spec hr hg hgv
    rw [hwc]
    cases c with
    | false =>
      rw [if_neg (by simp)]
      refine hK _ _ (hmore (hr.putv hs ?_))
      unfold wrapG
      split
      · rename_i hg
        simp [AS.gv, hg] at hgv
      · exact .whn _ _ _ (fun hf => (by cases hf)) (fun _ => rfl)
    | true =>
      rw [if_pos rfl]
      have hfv := hr.evc hf rfl
      have hfe : a.eval f = .func (.func fid) #[] #[] := by
        generalize a.eval f = y at hfv
        cases hfv with
        | pur hfv => cases hfv with
          | fn => rfl
      obtain ⟨h1, h2⟩ := args_spec hr rfl ha
      unfold Oper.wp
      rw [run_call_fn ho hfe hfn hb hn]
      have hcall := hc rfl w (Own N0 μ S) (args.toList.map a.eval) hr.own_lt (by simp [h1]) (fun j x v hx hv => by
        simp only [List.getElem?_map, Option.map_eq_some_iff] at hx
        obtain ⟨y, hy, rfl⟩ := hx
        exact (h2 j y v hy hv).pureV (List.all_eq_true.1 hp v (List.mem_of_getElem? hv)))
      have harr : (args.toList.map a.eval).toArray = args.map a.eval := by apply Array.ext'; simp
      rw [harr] at hcall
      refine hcall.mono ?_
      rintro e w' ⟨x, r, rfl, rfl, hpx, hbw⟩
      refine hK _ _ (hmore ((hr.later hbw).putv hs ?_))
      unfold wrapG
      split
      · exact .pur hpx
      · exact .whn _ _ _ (fun _ => .pur hpx) (fun hf => (by cases hf))

  · have hw : Region.wanted o (yielded ops.toArray a.tmps) = true := by simp [Region.wanted, hg]
    rw [if_pos hw]
    obtain ⟨w', hrun, hturn, hxe, hpur, ho1, ho2, ho3⟩ := mapUpdate_run (hr.evc hm rfl) (hr.evc hx rfl) (hr.evc hv rfl) hu ht
    have hNb : ¬ Own N0 μ S b := by
      have := hr.evc hm rfl
      rw [hxe] at this
      cases this with
      | pur hp => cases hp with
        | mp _ _ _ _ _ _ hN => exact hN
    unfold Oper.wp
    have hex : (execOp a.eval o).run P w = .ok .skip w' := by
      unfold execOp
      rw [ho]
      simp only [Sem.run_bind, hrun, Result.andThen_ok, Sem.run_pure]
    rw [hex]
    refine hK _ _ ⟨μ, ?_⟩
    have hput : a.put o.dst undef = a := by rw [hd]; rfl
    rw [hput]
    have hown : ∀ g, Own N0 μ { S with env := mapK (V.mset b k ((q, u) :: es)) S.env } g ↔ Own N0 μ S g := fun g => Iff.rfl
    refine ⟨hr.defers, hr.size, hr.below.trans ⟨ho1, ho2, ho3, by rw [hturn.size]; exact Nat.le_refl _, fun j hj => hturn.other j (by omega)⟩, hr.n0, fun d v hv => (hr.fresh d v hv).imp id (fun ⟨j, hj, e⟩ => ⟨j, .inl hj, e⟩), fun d1 o1 h1 => ?_, hr.inj, fun t1 v1 h1 => ?_⟩
    · obtain ⟨l, hl, hobl⟩ := hr.objs d1 o1 h1
      refine ⟨l, hl, ?_⟩
      cases l with
      | none => exact hobl
      | some gc =>
        obtain ⟨b1, b2, b3, b4, arr, b5, b6, b7⟩ := hobl
        have hne : gc.1 ≠ b := by
          rintro rfl
          obtain ⟨es1, c1, hb1⟩ := hturn.was
          rw [b5] at hb1
          cases hb1
        refine ⟨b1, b2, b3, b4, arr, (hturn.other _ hne).trans b5, b6, fun k e j c he hj => ?_⟩
        obtain ⟨y, hy, hey⟩ := b7 k e j c he hj
        exact ⟨y, hy, hey.mapTurn hturn (okM1_cell ((b4 e (List.mem_of_getElem? he)).2 c (List.mem_of_getElem? hj)))⟩
    · simp only [get_mapK', Option.map_eq_some_iff] at h1
      obtain ⟨v0, h1, rfl⟩ := h1
      obtain ⟨h2, h3⟩ := hr.env t1 v0 h1
      refine ⟨h2, ?_⟩
      have hokv : v0.okM = true := hok t1 v0 h1
      generalize a.tmps.getD t1 undef = tv at h3
      cases v0 with
      | mp b' k' m' =>
        simp only [V.mset]
        cases h3 with
        | pur h3 =>
          cases h3 with
          | mp _ _ _ es2 cl2 g2 hN2 hb2 hk2 hs2 hn2 hh2 =>
            by_cases hbb : b' = b
            · subst hbb
              simp only [if_true]
              rw [← hxe]
              exact .pur (hpur _ hNb)
            · simp only [hbb, if_false]
              exact .pur (.mp b' k' m' es2 cl2 g2 hN2 ((hturn.other _ hbb).trans hb2) hk2 hs2 hn2 (fun c v hc => (hh2 c v hc).of_flat0 (hs2 c v hc).2))
      | tup vs =>
        simp only [V.mset]
        have key : ∀ xs : List Value, xs.length = vs.length → (∀ (i : Nat) x c, xs[i]? = some x → vs[i]? = some c → Enc w (Own N0 μ S) μ x c) → Enc w' (Own N0 μ S) μ (.tuple xs.toArray) (.tup vs) := fun xs hl hh =>
          .tup xs vs hl (fun i x c h1 h2 => (hh i x c h1 h2).mapTurn hturn (List.all_eq_true.1 hokv c (List.mem_of_getElem? h2)))
        cases h3 with
        | pur h3 => cases h3 with
          | tup xs _ hl hh => exact key xs hl (fun i x c a b => .pur (hh i x c a b))
        | tup xs _ hl hh => exact key xs hl hh
      | whn c0 v1 =>
        simp only [V.mset]
        cases h3 with
        | pur h3 => cases h3
        | whn _ _ _ hh hun =>
          refine .whn _ _ _ (fun hc0 => ?_) hun
          have h4 := hh hc0
          cases v1 with
          | tup vs =>
            have key : ∀ xs : List Value, xs.length = vs.length → (∀ (i : Nat) x c, xs[i]? = some x → vs[i]? = some c → Enc w (Own N0 μ S) μ x c) → Enc w' (Own N0 μ S) μ (.tuple xs.toArray) (.tup vs) := fun xs hl hh =>
              .tup xs vs hl (fun i x c h1 h2 => (hh i x c h1 h2).mapTurn hturn (List.all_eq_true.1 hokv c (List.mem_of_getElem? h2)))
            cases h4 with
            | pur h4 => cases h4 with
              | tup xs _ hl hh => exact key xs hl (fun i x c a b => .pur (hh i x c a b))
            | tup xs _ hl hh => exact key xs hl hh
          | _ => exact h4.mapTurn hturn (by first | rfl | exact hokv)
      | _ => exact h3.mapTurn hturn rfl

/-- A step of a plain region, a guarded call among them. -/
theorem awl_st {S S' : AS} {ops : List Oper} {i : Nat} {o : Oper} {rest : List Oper} (hs : Step P w0 ops i o S S') (h : AWL P w0 N0 ops Q (i + 1) rest S') : AWL P w0 N0 ops Q i (o :: rest) S := by
  intro D a w hD hr
  have hi : ¬ D i := fun hd => absurd (hD i hd) (by omega)
  refine wpList_step fun K hK => step_sound hr hi hs (fun a' w' hr' => hK _ _ (h _ a' w' (fun j hj => ?_) hr'))
  rcases hj with hj | hj
  · have := hD j hj; omega
  · omega

/-- What an operation does to a state. -/
def AS.ap (S : AS) (dst : Option Nat) (u : V) (O : List (Nat × Ob)) : AS := { S with env := (match dst with | some d => (d, u) :: S.env | none => S.env), objs := O ++ S.objs }

theorem putv_ap {S S' : AS} {dst : Option Nat} {u : V} (h : S.putv dst u = some S') : S' = S.ap dst u [] ∧ ∀ d, dst = some d → d < S.nt := by
  unfold AS.putv at h
  split at h
  · split at h
    · rename_i hd
      injection h with h
      subst h
      exact ⟨rfl, fun d' hd' => by injection hd' with hd'; subst hd'; exact hd⟩
    · cases h
  · injection h with h
    subst h
    exact ⟨rfl, fun d hd => by cases hd⟩
theorem ap_putv {S : AS} {dst : Option Nat} (u : V) (h : ∀ d, dst = some d → d < S.nt) : S.putv dst u = some (S.ap dst u []) := by
  unfold AS.putv
  cases dst with
  | none => rfl
  | some d => simp only [h d rfl, if_true]; rfl

/-- Two states that look alike to an operation. -/
def Alike (ops : List Oper) (o : Oper) (S T : AS) : Prop := (∀ t ∈ o.looksAt ops.toArray, get S.env t = get T.env t) ∧ S.nt = T.nt ∧ S.nx = T.nx

theorem Alike.ev {ops : List Oper} {o : Oper} {S T : AS} (h : Alike ops o S T) {x : Operand} (hx : x ∈ o.op.operands) : S.ev x = T.ev x := by
  cases x with
  | tmp t =>
    refine h.1 t ?_
    unfold Oper.looksAt
    refine List.mem_append_left _ (List.mem_filterMap.2 ⟨.tmp t, by simpa using hx, rfl⟩)
  | _ => rfl
theorem Alike.evc {ops : List Oper} {o : Oper} {S T : AS} (h : Alike ops o S T) {x : Operand} (hx : x ∈ o.op.operands) (c : Bool) : S.evc c x = T.evc c x := by
  unfold AS.evc
  rw [h.ev hx]
theorem Alike.gv {ops : List Oper} {o : Oper} {S T : AS} (h : Alike ops o S T) : S.gv ops o = T.gv ops o := by
  unfold AS.gv
  split
  · rfl
  · rename_i j want hg
    unfold AS.gd
    cases ho : ops[j]? with
    | none => rfl
    | some oj =>
      simp only
      cases hd : oj.dst with
      | none => rfl
      | some d =>
        simp only
        have := h.1 d (by
          unfold Oper.looksAt
          refine List.mem_append_right _ ?_
          rw [hg]
          simp [ho, hd])
        rw [this]


theorem evs_congr {S T : AS} {c : Bool} : ∀ {l : List (Nat × Operand)}, (∀ p ∈ l, S.evc c p.2 = T.evc c p.2) → S.evs c l = T.evs c l
  | [], _ => rfl
  | (i, x) :: r, h => by
    simp only [AS.evs]
    rw [h (i, x) (by simp), evs_congr (fun p hp => h p (by simp [hp]))]
theorem args_congr {S T : AS} {c : Bool} : ∀ {l : List Operand}, (∀ x ∈ l, S.evc c x = T.evc c x) → S.args c l = T.args c l
  | [], _ => rfl
  | x :: r, h => by
    simp only [AS.args]
    rw [h x (by simp), args_congr (fun p hp => h p (by simp [hp]))]
theorem evo_congr {S T : AS} {c : Bool} {x : Option Operand} (h : ∀ y, x = some y → S.evc c y = T.evc c y) : S.evo c x = T.evo c x := by
  cases x with
  | none => rfl
  | some y => simp only [AS.evo]; rw [h y rfl]

theorem aval_congr {ops : List Oper} {o : Oper} {S T : AS} (h : Alike ops o S T) {c : Bool} {v : V} (hpl : loads o.op = true → ∀ p r, S.place p = some r → T.place p = some r) (hv : aval P S c o.op = some v) : aval P T c o.op = some v := by
  have he := fun x (hx : x ∈ o.op.operands) (c : Bool) => h.evc hx c
  clear h
  generalize o.op = op at *
  cases op <;> simp only [aval] at hv ⊢ <;> (try (cases hv; done))
  case move x => rw [← he x (by simp [Op.operands])]; exact hv
  case assign x => rw [← he x (by simp [Op.operands])]; exact hv
  case pick x y z => simp only [← he x (by simp [Op.operands]), ← he y (by simp [Op.operands]), ← he z (by simp [Op.operands])]; exact hv
  case load t x =>
    rw [← he x (by simp [Op.operands])]
    split at hv
    · rename_i p hp
      split at hv
      case h_2 => cases hv
      rename_i e off n g h1 h2 h3
      simp only [hpl rfl _ _ h1, h2, h3]
      exact hv
    · cases hv
  case nilCheck x => rw [← he x (by simp [Op.operands])]; exact hv
  case binOp op t x y yt => rw [← he x (by simp [Op.operands]), ← he y (by simp [Op.operands])]; exact hv
  case unOp op t x => rw [← he x (by simp [Op.operands])]; exact hv
  case convert src dst x => rw [← he x (by simp [Op.operands])]; exact hv
  case fieldAddr t x f => rw [← he x (by simp [Op.operands])]; exact hv
  case field t x f => rw [← he x (by simp [Op.operands])]; exact hv
  case indexAddr t x i => rw [← he x (by simp [Op.operands]), ← he i (by simp [Op.operands])]; exact hv
  case index t x i => rw [← he x (by simp [Op.operands]), ← he i (by simp [Op.operands])]; exact hv
  case extract x i => rw [← he x (by simp [Op.operands])]; exact hv
  case lookup t x i ok => rw [← he x (by simp [Op.operands]), ← he i (by simp [Op.operands])]; exact hv
  case slice t x lo hi mx =>
    cases mx with
    | some m => simp only at hv; cases hv
    | none =>
      simp only at hv ⊢
      rw [← he x (by simp [Op.operands]), ← evo_congr (S := S) (T := T) (c := c) (x := lo) (fun y hy => he y (by simp [Op.operands, hy]) c), ← evo_congr (S := S) (T := T) (c := c) (x := hi) (fun y hy => he y (by simp [Op.operands, hy]) c)]
      exact hv
  case build t parts =>
    rw [← evs_congr (S := S) (T := T) (c := c) (l := parts.toList) (fun p hp => he p.2 (by simp [Op.operands]; exact ⟨p.1, by simpa using hp⟩) c)]
    exact hv
  case call cl =>
    obtain ⟨callee, args, argTypes⟩ := cl
    cases callee with
    | value f => cases hv
    | invoke r m => cases hv
    | builtin b =>
    cases b <;> simp only at hv ⊢ <;> try (cases hv; done)
    case min =>
      split at hv
      case h_2 => cases hv
      rename_i x y ha
      rw [← he x (by simp [Op.operands, Call.operands]; rw [← Array.mem_toList_iff, ha]; simp), ← he y (by simp [Op.operands, Call.operands]; rw [← Array.mem_toList_iff, ha]; simp)]
      exact hv
    split at hv
    case h_2 => cases hv
    rename_i x t ha ht
    rw [← he x (by simp [Op.operands, Call.operands]; rw [← Array.mem_toList_iff, ha]; simp)]
    exact hv

theorem Alike.symm {ops : List Oper} {o : Oper} {S T : AS} (h : Alike ops o S T) : Alike ops o T S := ⟨fun t ht => (h.1 t ht).symm, h.2.1.symm, h.2.2.symm⟩

theorem aval_none {ops : List Oper} {o : Oper} {S T : AS} (h : Alike ops o S T) {c : Bool} (hfb : S.fb c o.op = true) (hv : aval P S c o.op = none) : aval P T c o.op = none ∧ T.fb c o.op = true := by
  cases hl : loads o.op with
  | false =>
    refine ⟨?_, ?_⟩
    · cases hT : aval P T c o.op with
      | none => rfl
      | some v =>
        have := aval_congr h.symm (fun h0 => by rw [hl] at h0; cases h0) hT
        rw [hv] at this
        cases this
    · generalize o.op = op at *
      cases op <;> first | rfl | simp [loads] at hl
  | true =>
    have he := fun x (hx : x ∈ o.op.operands) (c : Bool) => h.evc hx c
    generalize o.op = op at *
    cases op <;> first | (simp [loads] at hl; done) | skip
    case load t x =>
    have hx := he x (by simp [Op.operands]) c
    simp only [AS.fb] at hfb ⊢
    simp only [aval]
    rw [← hx]
    refine ⟨?_, hfb⟩
    split
    · rename_i p hp
      rw [hp] at hfb
      cases p <;> first | (simp at hfb; done) | rfl
    · rfl

theorem elems_congr {S T : AS} (h : ∀ d, get S.objs d = get T.objs d) (p : V) : S.elems p = T.elems p := by
  cases p <;> simp only [AS.elems] <;> rw [h]
theorem place_congr {S T : AS} (h : ∀ d, get S.objs d = get T.objs d) (p : V) : S.place p = T.place p := by
  cases p <;> simp only [AS.place] <;> rw [h]

theorem acore_congr {ops : List Oper} {o : Oper} {S T : AS} (h : Alike ops o S T) (hob : ∀ d, get S.objs d = get T.objs d) {i : Nat} {O : List (Nat × Ob)} {v : V} (hv : acore P i S o.dst o.op = some (O, v)) :
    ∃ d ob, O = (d, ob) :: S.objs ∧ acore P i T o.dst o.op = some ((d, ob) :: T.objs, v) ∧ (makes o.op = true → o.dst = some d) := by
  have he := fun x (hx : x ∈ o.op.operands) (c : Bool) => h.evc hx c
  have hnx := h.2.2
  clear h
  generalize o.op = op at *
  generalize o.dst = dst at *
  cases op <;> simp only [acore] at hv ⊢ <;> (try (cases hv; done))
  case alloc t =>
    split at hv
    case h_2 => cases hv
    rename_i d z n h1 h2
    simp only [Option.some.injEq, Prod.mk.injEq] at hv
    obtain ⟨rfl, rfl⟩ := hv
    exact ⟨d, _, rfl, by simp only [h1, h2, hnx], fun _ => rfl⟩
  case box t x =>
    split at hv
    case h_2 => cases hv
    rename_i d z h2
    split at hv
    case isFalse => cases hv
    rename_i hok
    simp only [Option.some.injEq, Prod.mk.injEq] at hv
    obtain ⟨rfl, rfl⟩ := hv
    rw [he x (by simp [Op.operands])] at h2
    exact ⟨d, _, rfl, by simp only [h2, hok, if_true, hnx], fun _ => rfl⟩
  case buildSlice t len parts =>
    split at hv
    case h_2 => cases hv
    rename_i d te vs h2 h3
    split at hv
    case h_2 => cases hv
    rename_i z n h4 h5
    split at hv
    case isFalse => cases hv
    rename_i h6
    split at hv
    case h_2 => cases hv
    rename_i es h7
    simp only [Option.some.injEq, Prod.mk.injEq] at hv
    obtain ⟨rfl, rfl⟩ := hv
    rw [evs_congr (S := S) (T := T) (c := true) (l := parts.toList) (fun p hp => he p.2 (by simp [Op.operands]; exact ⟨p.1, by simpa using hp⟩) true)] at h3
    exact ⟨d, _, rfl, by simp only [h2, h3, h4, h5, if_pos h6, h7, hnx], fun _ => rfl⟩
  case makeSlice t l c =>
    split at hv
    case h_2 => cases hv
    rename_i d te k1 lv k2 cv h2 h3 h4
    split at hv
    case h_2 => cases hv
    rename_i z n b h5 h6 h7
    split at hv
    case isFalse => cases hv
    rename_i h8
    simp only [Option.some.injEq, Prod.mk.injEq] at hv
    obtain ⟨rfl, rfl⟩ := hv
    rw [he l (by simp [Op.operands])] at h3
    rw [he c (by simp [Op.operands])] at h4
    exact ⟨d, _, rfl, by simp only [h2, h3, h4, h5, h6, h7, if_pos h8, hnx], fun _ => rfl⟩
  case store t x y =>
    split at hv
    case h_2 => cases hv
    rename_i d v' sz k off u n h1 h2 h3
    split at hv
    case h_2 => cases hv
    rename_i ob hob'
    split at hv
    case isFalse => cases hv
    rename_i h4
    split at hv
    case h_2 => cases hv
    rename_i e h5
    split at hv
    case isFalse => cases hv
    rename_i h6
    simp only [Option.some.injEq, Prod.mk.injEq] at hv
    obtain ⟨rfl, rfl⟩ := hv
    rw [he x (by simp [Op.operands])] at h1
    rw [he y (by simp [Op.operands])] at h2
    rw [hob] at hob'
    exact ⟨d, _, rfl, by simp only [h1, h2, h3, hob', if_pos h4, h5, if_pos h6], fun hm => by simp [makes] at hm⟩
  case call cl =>
    obtain ⟨callee, args, argTypes⟩ := cl
    cases callee with
    | value f => cases hv
    | invoke r m => cases hv
    | builtin b =>
    cases b <;> simp only at hv ⊢ <;> try (cases hv; done)
    split at hv
    case h_2 => cases hv
    rename_i s x t t' dd ha ht
    split at hv
    case isFalse => cases hv
    rename_i htt
    split at hv
    case h_2 => cases hv
    rename_i sv xv te h1 h2 h3
    split at hv
    case h_2 => cases hv
    rename_i sz' news n b h4 h5 h6
    rw [he s (by simp [Op.operands, Call.operands]; rw [← Array.mem_toList_iff, ha]; simp)] at h1
    rw [he x (by simp [Op.operands, Call.operands]; rw [← Array.mem_toList_iff, ha]; simp)] at h2
    rw [elems_congr hob] at h4
    split at hv
    · rename_i d v' sz len
      split at hv
      case h_2 => cases hv
      rename_i ob hob'
      split at hv
      case isFalse => cases hv
      rename_i hb
      simp only [Option.some.injEq, Prod.mk.injEq] at hv
      obtain ⟨rfl, rfl⟩ := hv
      rw [hob] at hob'
      exact ⟨d, _, rfl, by simp only [ha, ht, if_pos htt, h1, h2, h3, h4, h5, h6, hob', if_pos hb, hnx], fun hm => by simp [makes] at hm⟩
    · split at hv
      case isFalse => cases hv
      rename_i hb
      simp only [Option.some.injEq, Prod.mk.injEq] at hv
      obtain ⟨rfl, rfl⟩ := hv
      exact ⟨dd, _, rfl, by simp only [ha, ht, if_pos htt, h1, h2, h3, h4, h5, h6, if_pos hb, hnx], fun hm => by simp [makes] at hm⟩
    · cases hv

theorem acts_core {op : Op} (h : acts op = false) (i : Nat) (S : AS) (dst : Option Nat) : acore P i S dst op = none := by
  cases op <;> first | rfl | (simp [acts] at h; done) | skip
  case call cl =>
    obtain ⟨callee, args, argTypes⟩ := cl
    cases callee with
    | value f => rfl
    | invoke r m => rfl
    | builtin b => cases b <;> first | rfl | simp [acts] at h
theorem acts_val {op : Op} (h : acts op = true) (S : AS) (c : Bool) : aval P S c op = none := by
  cases op <;> first | rfl | (simp [acts] at h; done) | skip
  case call cl =>
    obtain ⟨callee, args, argTypes⟩ := cl
    cases callee with
    | value f => rfl
    | invoke r m => rfl
    | builtin b => cases b <;> first | rfl | simp [acts] at h

/-- What a step does, and that it does so in every state that looks alike. -/
theorem step_spec {ops : List Oper} {i : Nat} {o : Oper} {S S' : AS} (hs : Step P w0 ops i o S S') (hmu : mapUp o.op = false ∨ o.guard ≠ none) :
    ∃ u O, S' = S.ap o.dst u O ∧ (acts o.op = false → O = []) ∧ (makes o.op = true → ∀ d ob, (d, ob) ∈ O → o.dst = some d) ∧
      ∀ T, Alike ops o S T → (acts o.op = true → ∀ d, get S.objs d = get T.objs d) → (loads o.op = true → ∀ p r, S.place p = some r → T.place p = some r) → Step P w0 ops i o T (T.ap o.dst u O) := by
  rcases hs with hs | ⟨c, f, args, ats, fid, fn, vs, res, hgv, ho, hf, hfn, hb, hn, ha, hp, hc, hs⟩ | ⟨t, m, x, v, b, k, es, q, u, e, hg, hd, ho, _⟩
  · have hs0 := hs
    unfold astep at hs
    split at hs
    · rename_i hg
      split at hs
      · rename_i v hv
        obtain ⟨h1, h2⟩ := putv_ap hs
        refine ⟨v, [], h1, fun _ => rfl, fun _ d ob hm => (by simp at hm), fun T hT _ hpl => .inl ?_⟩
        unfold astep
        rw [hg]
        simp only [aval_congr hT hpl hv]
        exact ap_putv v (fun d hd => by rw [← hT.2.1]; exact h2 d hd)
      · rename_i hv
        have hact : acts o.op = true := by
          cases h0 : acts o.op with
          | true => rfl
          | false =>
            unfold aeff at hs
            rw [acts_core h0] at hs
            cases hs
        unfold aeff at hs
        split at hs
        case h_2 => cases hs
        rename_i O v hcore
        obtain ⟨h1, h2⟩ := putv_ap hs
        obtain ⟨d, ob, rfl, _, hmk⟩ := acore_congr (ops := ops) (T := S) ⟨fun _ _ => rfl, rfl, rfl⟩ (fun _ => rfl) hcore
        refine ⟨v, [(d, ob)], by rw [h1]; rfl, fun h0 => (by rw [hact] at h0; cases h0), fun hm d' ob' hmem => ?_, fun T hT hob _ => .inl ?_⟩
        · simp at hmem
          rw [hmem.1]
          exact hmk hm
        · unfold astep
          rw [hg]
          simp only [acts_val hact]
          obtain ⟨d', ob', he, hcT, _⟩ := acore_congr hT (hob hact) hcore
          injection he with he _
          injection he with he1 he2
          subst he1; subst he2
          unfold aeff
          simp only [hcT]
          have hlt : ∀ d1, o.dst = some d1 → d1 < ({ T with objs := (d, ob) :: T.objs } : AS).nt := fun d1 hd1 => by
            have := h2 d1 hd1
            simp only at this ⊢
            rw [← hT.2.1]; exact this
          have := ap_putv (S := { T with objs := (d, ob) :: T.objs }) v hlt
          rw [this]
          rfl
    · rename_i j want hg
      split at hs
      case h_2 => cases hs
      rename_i c hc
      have hgvS : S.gv ops o = some c := by simp only [AS.gv, hg]; exact hc
      split at hs
      · rename_i v hv
        obtain ⟨h1, h2⟩ := putv_ap hs
        refine ⟨.whn c v, [], h1, fun _ => rfl, fun _ d ob hm => (by simp at hm), fun T hT _ hpl => .inl ?_⟩
        have hgT : T.gd ops j want = some c := by have := hT.gv; rw [hgvS] at this; simp only [AS.gv, hg] at this; exact this.symm
        unfold astep
        rw [hg]
        simp only [hgT, aval_congr hT hpl hv]
        exact ap_putv _ (fun d hd => by rw [← hT.2.1]; exact h2 d hd)
      · rename_i hv
        split at hs
        case isFalse => cases hs
        rename_i hcf
        obtain ⟨rfl, hfb⟩ := hcf
        obtain ⟨h1, h2⟩ := putv_ap hs
        refine ⟨.whn false (.bool true), [], h1, fun _ => rfl, fun _ d ob hm => (by simp at hm), fun T hT _ hpl => ?_⟩
        have hgT : T.gd ops j want = some false := by have := hT.gv; rw [hgvS] at this; simp only [AS.gv, hg] at this; exact this.symm
        obtain ⟨hvT, hfT⟩ := aval_none hT hfb hv
        refine .inl ?_
        unfold astep
        rw [hg]
        simp only [hgT, hvT, hfT, and_self, if_true]
        exact ap_putv _ (fun d hd => by rw [← hT.2.1]; exact h2 d hd)
  · obtain ⟨h1, h2⟩ := putv_ap hs
    refine ⟨wrapG o c res, [], h1, fun _ => rfl, fun _ d ob hm => (by simp at hm), fun T hT _ _ => .inr (.inl ?_)⟩
    have hops : ∀ x ∈ args.toList, x ∈ o.op.operands := fun x hx => by
      rw [ho]
      simp [Op.operands, Call.operands]
      right; simpa using hx
    refine ⟨c, f, args, ats, fid, fn, vs, res, by rw [← hT.gv]; exact hgv, ho, ?_, hfn, hb, hn, ?_, hp, hc, ap_putv _ (fun d hd => by rw [← hT.2.1]; exact h2 d hd)⟩
    · rw [← hT.evc (by rw [ho]; simp [Op.operands, Call.operands])]; exact hf
    · rw [← args_congr (S := S) (T := T) (fun x hx => hT.evc (hops x hx) c)]; exact ha
  · rcases hmu with hmu | hmu
    · rw [ho] at hmu; cases hmu
    · exact absurd hg hmu
end
end Go.Eng
