import Derived.Test.YtnklkkagpkcmfaaGreatDoorG2
import Derived.Still
import Derived.WalkKit
import Derived.ProofKit
import Derived.OpenShut
import Derived.ShutString
import Derived.ChangeOld
import Derived.Carry
import Derived.Sort.OwnSortedInts
set_option linter.all false
namespace Go.Eng
open Go.RowKit
def acts : Op → Bool
  | .alloc _ | .box .. | .buildSlice .. | .makeSlice .. | .store .. | .mapUpdate .. => true
  | .call { callee := .builtin .append, .. } => true
  | _ => false
def makes : Op → Bool
  | .alloc _ | .box .. | .buildSlice .. | .makeSlice .. => true
  | _ => false
def mapUp : Op → Bool
  | .mapUpdate .. => true
  | _ => false
def loads : Op → Bool
  | .load .. => true
  | _ => false
def AS.gv (S : AS) (ops : List Oper) (o : Oper) : Option Bool := match o.guard with | none => some true | some (j, want) => S.gd ops j want
def wrapG (o : Oper) (c : Bool) (v : V) : V := match o.guard with | none => v | some _ => .whn c v
def ACB (w0 : Bs) (P : Program) (f : FuncId) (args : List V) (R : V → Prop) : Prop :=
  ∀ (w : World) (N : Nat → Prop) (xs : List Value), w0.Below w → (∀ b, N b → b < w.heap.size) → xs.length = args.length → (∀ (i : Nat) x v, xs[i]? = some x → args[i]? = some v → Pur w N x v) →
    Calls P f xs.toArray w (fun e w' => ∃ x r, e = .returned x ∧ R r ∧ Pur w' N x r ∧ Below w.heap.size w w')
theorem AC.b {w0 : Bs} {P : Program} {f : FuncId} {args : List V} {R : V → Prop} (h : AC P f args R) : ACB w0 P f args R := fun w N xs _ h1 h2 h3 => h w N xs h1 h2 h3
def CallStep (P : Program) (w0 : Bs) (ops : List Oper) (o : Oper) (S S' : AS) : Prop :=
  ∃ c f args ats fid fn vs res, S.gv ops o = some c ∧ o.op = .call { callee := .value f, args := args, argTypes := ats } ∧ S.evc c f = some (.fn fid) ∧ P.funcs[fid]? = some fn ∧ fn.body.isSome = true ∧ (fn.name == "runtime.NumGoroutine") = false ∧
    S.args c args.toList = some vs ∧ vs.all V.pureV = true ∧ (c = true → ACB w0 P fid vs (fun r => r = res)) ∧ S.putv o.dst (wrapG o c res) = some S'
def mapK {α β : Type} (f : α → β) : List (Nat × α) → List (Nat × β)
  | [] => []
  | (k, x) :: r => (k, f x) :: mapK f r
theorem get_mapK' {α β : Type} (f : α → β) (t : Nat) : ∀ (l : List (Nat × α)), get (mapK f l) t = (get l t).map f
  | [] => rfl
  | (k, x) :: r => by
    unfold mapK
    rw [get_cons, get_cons, get_mapK' f t r]
    split <;> rfl
def V.mset (b : Nat) (k : IntKind) (m : List (Int × V)) : V → V
  | .mp b' k' m' => if b' = b then .mp b' k m else .mp b' k' m'
  | .rm b' k' m' => if b' = b then .rm b' k m else .rm b' k' m'
  | u => u
def V.okM1 : V → Bool
  | .mp .. | .tup _ | .whn _ _ | .rm .. => false
  | .fc _ us vs => us.all V.still && vs.all V.still
  | _ => true
def V.okM : V → Bool
  | .tup vs => vs.all V.okM1
  | .whn _ (.tup vs) => vs.all V.okM1
  | .whn _ v => v.okM1
  | .mp .. | .rm .. => true
  | v => v.okM1
def okMs : List (Nat × V) → Bool
  | [] => true
  | (_, v) :: r => v.okM && okMs r
def MapStep (P : Program) (w0 : Bs) (o : Oper) (S S' : AS) : Prop :=
  ∃ t m x v b k es a u e, o.guard = none ∧ o.dst = none ∧ o.op = .mapUpdate t m x v ∧ S.evc true m = some (.mp b k es) ∧ S.evc true x = some (.int k a) ∧ S.evc true v = some u ∧ u.flat0 = true ∧ tmap P t = some (k, e) ∧ w0.free b ∧
    (∀ t v, get S.env t = some v → v.okM = true) ∧ S' = { S with env := mapK (V.mset b k ((a, u) :: es)) S.env }
def Step (P : Program) (kb : Nat) (w0 : Bs) (ops : List Oper) (i : Nat) (o : Oper) (S S' : AS) : Prop := astepK P kb ops i o S = some S' ∨ CallStep P w0 ops o S S' ∨ MapStep P w0 o S S'
section
variable {P : Program} {kb : Nat} {w0 : Bs} {N0 : Nat → Prop} {Q : Exit → AS → Prop}
theorem okM1_cell {v : V} (h : v.isCell = true) : v.okM1 = true := by cases v <;> first | rfl | exact h | simp [V.isCell] at h
theorem okM1_still {v : V} (h : v.still = true) : v.okM1 = true := by cases v <;> first | rfl | simp [V.still] at h
structure MapTurn (w w' : World) (b : Nat) : Prop where
  was : ∃ es clock, w.heap[b]? = some (.map es clock)
  size : w'.heap.size = w.heap.size
  other : ∀ k, k ≠ b → w'.heap[k]? = w.heap[k]?
theorem MapTurn.cell {w w' : World} {b : Nat} (h : MapTurn w w' b) {ad : Addr} {x : Value} (hx : w.cell? ad = some x) : w'.cell? ad = some x ∧ ad.block ≠ b := by
  have hne : ad.block ≠ b := by
    rintro rfl
    obtain ⟨es, clock, hb⟩ := h.was
    simp [World.cell?, hb] at hx
  exact ⟨by rw [World.cell?_of_block (w := w) (h.other _ hne)]; exact hx, hne⟩
theorem Pur.mapTurn {w w' : World} {b : Nat} (h : MapTurn w w' b) {N : Nat → Prop} {x : Value} {v : V} (hx : Pur w N x v) : v.okM1 = true → Pur w' N x v := by
  induction hx with
  | bool b => intro _; exact .bool b
  | int k n => intro _; exact .int k n
  | str l => intro _; exact .str l
  | agg xs cs hl hc _ ih => intro _; exact .agg xs cs hl hc (fun i x c h1 h2 => ih i x c h1 h2 (okM1_cell (hc c (List.mem_of_getElem? h2))))
  | tup => intro hk; simp [V.okM1] at hk
  | ro A ad n cap sz es g hn hcap hmax hA hf hc _ ih =>
    intro _
    refine .ro A ad n cap sz es g hn hcap hmax (fun h0 => ?_) hf (fun k e j c he hj => (h.cell (hc k e j c he hj)).1) (fun k e j c he hj => ih k e j c he hj (okM1_cell ((hf e (List.mem_of_getElem? he)).2 c (List.mem_of_getElem? hj))))
    obtain ⟨h1, h2, h3⟩ := hA h0
    exact ⟨h1, by rw [h.size]; exact h2, h3⟩
  | nils A => intro _; exact .nils A
  | rp ad sz e g hb hN' hf hc _ ih =>
    intro _
    exact .rp ad sz e g (by rw [h.size]; exact hb) hN' hf (fun j c hj => (h.cell (hc j c hj)).1) (fun j c hj => ih j c hj (okM1_cell (hf.2 c (List.mem_of_getElem? hj))))
  | fn f => intro _; exact .fn f
  | nilp => intro _; exact .nilp
  | nili => intro _; exact .nili
  | nilf => intro _; exact .nilf
  | ifc t x v hf hx _ => intro _; exact .ifc t x v hf (hx.of_flat2 hf)
  | mp => intro hk; simp [V.okM1] at hk
  | fc f xs ys us vs hl hm _ _ ih ik =>
    intro hk
    have hk' := Bool.and_eq_true_iff.1 hk
    exact .fc f xs ys us vs hl hm (fun i x c h1 h2 => ih i x c h1 h2 (okM1_still (List.all_eq_true.1 hk'.1 c (List.mem_of_getElem? h2)))) (fun i x c h1 h2 => ik i x c h1 h2 (okM1_still (List.all_eq_true.1 hk'.2 c (List.mem_of_getElem? h2))))
  | dm t xs cs hl hc _ ih => intro _; exact .dm t xs cs hl hc (fun i x c h1 h2 => ih i x c h1 h2 (okM1_cell (hc c (List.mem_of_getElem? h2))))
  | rm => intro hk; simp [V.okM1] at hk
theorem Enc.mapTurn {w w' : World} {b : Nat} (h : MapTurn w w' b) {N : Nat → Prop} {μ : Mu} {x : Value} {v : V} (hx : Enc w N μ x v) : v.okM1 = true → Enc w' N μ x v := by
  induction hx with
  | pur hp => intro hk; exact .pur (hp.mapTurn h hk)
  | slr d v sz len g cap h1 h2 h3 => intro _; exact .slr d v sz len g cap h1 h2 h3
  | slv d v sz A h1 => intro _; exact .slv d v sz A h1
  | ss d v sz off len g c cap A h2 h3 h4 => intro _; exact .ss d v sz off len g c cap A h2 h3 h4
  | bp d v sz k off g cap h1 => intro _; exact .bp d v sz k off g cap h1
  | agg xs cs hl hc _ ih => intro _; exact .agg xs cs hl hc (fun i x c h1 h2 => ih i x c h1 h2 (okM1_cell (hc c (List.mem_of_getElem? h2))))
  | tup => intro hk; simp [V.okM1] at hk
  | ifc t x v hc _ ih => intro _; exact .ifc t x v hc (ih (okM1_cell hc))
  | clo f xs ys cs ds hl hm hc _ _ ih ik => intro _; exact .clo f xs ys cs ds hl hm hc (fun i x c h1 h2 => ih i x c h1 h2 (okM1_cell (hc c (.inl (List.mem_of_getElem? h2))))) (fun i x c h1 h2 => ik i x c h1 h2 (okM1_cell (hc c (.inr (List.mem_of_getElem? h2)))))
  | whn => intro hk; simp [V.okM1] at hk
  | mr d v g cap h1 => intro _; exact .mr d v g cap h1
theorem findA_modify {a c : Int} {u : Value} {k : IntKind} : ∀ {es : List MapEntry} {n : Nat} {p : Nat × Value}, findIx a es n = some p → findA c (es.modify (p.1 - n) (fun e => { e with key := .int k a, val := u })) = if c = a then some u else findA c es
  | [], n, p, h => by simp [findIx] at h
  | e :: r, n, p, h => by
    unfold findIx at h
    split at h
    · rename_i hk
      injection h with h
      subst h
      simp only [Nat.sub_self, List.modify_zero_cons, findA]
      have : keyI { e with key := .int k a, val := u } = a := rfl
      rw [this]
      by_cases hc : c = a
      · subst hc; simp
      · rw [if_neg (fun h => hc h.symm), if_neg hc, hk, if_neg (fun h => hc h.symm)]
    · rename_i hk
      have hle := (findIx_some h).2.1
      have ih := findA_modify (c := c) (u := u) (k := k) h
      rw [show p.1 - n = (p.1 - (n + 1)) + 1 by omega]
      simp only [List.modify_succ_cons, findA]
      rw [ih]
      by_cases hc : c = a
      · subst hc; simp [hk]
      · simp [hc]
theorem findA_push {a c : Int} {e : MapEntry} (he : keyI e = a) : ∀ {es : List MapEntry}, findA a es = none → findA c (es ++ [e]) = if c = a then some e.val else findA c es
  | [], _ => by
    simp only [List.nil_append, findA, he]
    by_cases hc : c = a
    · subst hc; simp
    · rw [if_neg (fun h => hc h.symm), if_neg hc]
  | x :: r, h => by
    unfold findA at h
    split at h
    · cases h
    · rename_i hx
      have ih := findA_push (c := c) he h
      simp only [List.cons_append, findA, ih]
      by_cases hc : c = a
      · subst hc; simp [hx]
      · simp [hc]
theorem findA_none_key {a : Int} : ∀ {es : List MapEntry}, findA a es = none → ∀ e ∈ es, keyI e ≠ a
  | [], _, e, he => by cases he
  | x :: r, h, e, he => by
    unfold findA at h
    split at h
    · cases h
    · rename_i hx
      rcases List.mem_cons.1 he with rfl | he
      · exact hx
      · exact findA_none_key h e he
theorem sameBits_int (k : IntKind) (a : Int) (n : Nat) : Instr.sameBits n (.int k a) (.int k a) = true := by
  cases n <;> simp [Instr.sameBits]
theorem mapUpdate_run {P : Program} {w : World} {N : Nat → Prop} {μ : Mu} {t e b : Nat} {k : IntKind} {m : List (Int × V)} {a : Int} {x y : Value} {uv : Value} {u : V} (hx : Enc w N μ x (.mp b k m)) (hy : Enc w N μ y (.int k a)) (hu : Enc w N μ uv u) (hf : u.flat0 = true) (ht : tmap P t = some (k, e)) :
    ∃ w', (Instr.mapUpdate t x y uv).run P w = .ok () w' ∧ MapTurn w w' b ∧ x = .map (some b) ∧ (∀ N', ¬ N' b → Pur w' N' x (.mp b k ((a, u) :: m))) ∧ w'.os = w.os ∧ w'.tape = w.tape ∧ w'.output = w.output := by
  obtain ⟨kt, hut, hk⟩ := tmap_spec ht
  have huv : ∀ w2 N2, Pur w2 N2 uv u := by
    intro w2 N2
    cases hu with
    | pur hu => exact hu.of_flat0 hf
    | _ => simp [V.flat0] at hf
  cases hy with
  | pur hy =>
  cases hy with
  | int =>
  cases hx with
  | pur hx =>
  cases hx with
  | mp _ _ _ es clock g hN hb hks hs hn hw hh =>
  have hfn := findNow_int (q := k) (a := a) es.toList 0 hks
  have turn : ∀ es' clock', MapTurn w { w with heap := w.heap.setIfInBounds b (.map es' clock') } b := fun es' clock' =>
    ⟨⟨es, clock, hb⟩, by simp, fun j hj => by simp [Array.getElem?_setIfInBounds]; intro h; exact absurd h.symm hj⟩
  have hblk : ∀ es' clock', ({ w with heap := w.heap.setIfInBounds b (.map es' clock') } : World).heap[b]? = some (.map es' clock') := fun es' clock' => by
    have hlt := (Array.getElem?_eq_some_iff.1 hb).1
    simp [Array.getElem?_setIfInBounds, hlt]
  have pur : ∀ (es' : Array MapEntry) clock' N', ¬ N' b → (∀ e ∈ es'.toList, ∃ a, e.key = .int k a) → (∀ c, findA c es'.toList = if c = a then some uv else findA c es.toList) → ((es'.toList.map (·.born)).Nodup ∧ (∀ e ∈ es'.toList, e.born < clock') ∧ (es'.toList.map keyI).Nodup) →
      Pur { w with heap := w.heap.setIfInBounds b (.map es' clock') } N' (.map (some b)) (.mp b k ((a, u) :: m)) := by
    intro es' clock' N' hN' hk' hfa hw'
    refine .mp b k _ es' clock' (fun c => if c = a then uv else g c) hN' (hblk es' clock') hk' (fun c v hc => ?_) (fun c hc => ?_) hw' (fun c v hc => ?_)
    · unfold assoc at hc
      rw [hfa]
      by_cases e : a = c
      · subst e
        simp only [if_true, Option.some.injEq] at hc
        subst hc
        simp [hf]
      · rw [if_neg e] at hc
        have := hs c v hc
        simp only [show ¬ c = a from fun h => e h.symm, if_false]
        exact this
    · unfold assoc at hc
      rw [hfa]
      by_cases e : a = c
      · subst e; simp at hc
      · rw [if_neg e] at hc
        rw [if_neg (fun h => e h.symm)]
        exact hn c hc
    · unfold assoc at hc
      by_cases e : a = c
      · subst e
        simp only [if_true, Option.some.injEq] at hc
        subst hc
        simp only [if_true]
        exact huv _ _
      · rw [if_neg e] at hc
        simp only [show ¬ c = a from fun h => e h.symm, if_false]
        exact (hh c v hc).of_flat0 (hs c v hc).2
  cases hp : findIx a es.toList 0 with
  | none =>
    rw [hp] at hfn
    have hf2 := MapKept.run_findKey (w := w) hk hfn
    have hA := findIx_none.1 hp
    refine ⟨_, ?_, turn (es.push { key := .int k a, val := uv, born := clock }) (clock + 1), rfl, fun N' hN' => pur _ _ N' hN' ?_ ?_ ?_, rfl, rfl, rfl⟩
    · unfold Instr.mapUpdate
      simp only [Sem.run_bind, run_underlying hut, Result.andThen_ok, MapKept.run_getObj_map hb, MapKept.run_checkKey hk (k := .int k a) (by simp [MapKept.IsKey]), hf2]
      exact MapKept.run_setObj_map _ hb
    · intro e he
      simp only [Array.toList_push, List.mem_append, List.mem_singleton] at he
      rcases he with he | rfl
      · exact hks e he
      · exact ⟨a, rfl⟩
    · intro c
      rw [Array.toList_push]
      exact findA_push rfl hA
    · rw [Array.toList_push]
      refine ⟨?_, fun e he => ?_, ?_⟩
      · rw [List.map_append, List.nodup_append]
        refine ⟨hw.1, by simp, fun x hx y hy => ?_⟩
        simp only [List.map_cons, List.map_nil, List.mem_singleton] at hy
        obtain ⟨e, he, rfl⟩ := List.mem_map.1 hx
        have := hw.2.1 e he
        omega
      · simp only [List.mem_append, List.mem_singleton] at he
        rcases he with he | rfl
        · exact Nat.lt_succ_of_lt (hw.2.1 e he)
        · exact Nat.lt_succ_self _
      · rw [List.map_append, List.nodup_append]
        refine ⟨hw.2.2, by simp, fun x hx y hy => ?_⟩
        simp only [List.map_cons, List.map_nil, List.mem_singleton] at hy
        obtain ⟨e, he, rfl⟩ := List.mem_map.1 hx
        intro hxy
        exact findA_none_key hA e he (hxy.trans hy)
  | some p =>
    rw [hp] at hfn
    have hf2 := MapKept.run_findKey (w := w) hk hfn
    obtain ⟨hA, _, e0, he0, hv0, hk0⟩ := findIx_some hp
    simp only [Nat.sub_zero] at he0
    obtain ⟨a0, ha0⟩ := hks e0 (List.mem_of_getElem? he0)
    have ha : a0 = a := by simpa [keyI, ha0] using hk0
    subst ha
    have hge : (es[p.1]?.map (·.key)).getD (.int k a0) = .int k a0 := by
      have : es[p.1]? = some e0 := by simpa using he0
      simp [this, ha0]
    have hstay : (Instr.keyThatStays (.int k a0) (.int k a0)).run P w = .ok (.int k a0) w := by
      unfold Instr.keyThatStays
      rw [sameBits_int]
      rfl
    refine ⟨_, ?_, turn (es.modify p.1 fun e => { e with key := .int k a0, val := uv }) clock, rfl, fun N' hN' => pur _ _ N' hN' ?_ ?_ ?_, rfl, rfl, rfl⟩
    · unfold Instr.mapUpdate
      simp only [Sem.run_bind, run_underlying hut, Result.andThen_ok, MapKept.run_getObj_map hb, MapKept.run_checkKey hk (k := .int k a0) (by simp [MapKept.IsKey]), hf2, hge, hstay]
      exact MapKept.run_setObj_map _ hb
    · intro e he
      rw [Array.toList_modify] at he
      obtain ⟨j, hj⟩ := List.getElem?_of_mem he
      rw [List.getElem?_modify] at hj
      cases hgj : es.toList[j]? with
      | none => rw [hgj] at hj; simp at hj
      | some e1 =>
        rw [hgj] at hj
        simp only [Option.map_eq_map, Option.map_some, Option.some.injEq] at hj
        split at hj
        · subst hj; exact ⟨a0, rfl⟩
        · subst hj; exact hks _ (List.mem_of_getElem? hgj)
    · intro c
      rw [Array.toList_modify]
      have := findA_modify (c := c) (u := uv) (k := k) hp
      simpa using this
    · rw [Array.toList_modify]
      have hm : (es.toList.modify p.1 fun e => { e with key := Value.int k a0, val := uv }).map (·.born) = es.toList.map (·.born) := by
        apply List.ext_getElem?
        intro i
        rw [List.getElem?_map, List.getElem?_map, List.getElem?_modify]
        cases es.toList[i]? with
        | none => rfl
        | some e => simp only [Option.map_eq_map, Option.map_some]; split <;> rfl
      have hm2 : (es.toList.modify p.1 fun e => { e with key := Value.int k a0, val := uv }).map keyI = es.toList.map keyI := by
        have he0' : es.toList[p.1]? = some e0 := by simpa using he0
        apply List.ext_getElem?
        intro i
        rw [List.getElem?_map, List.getElem?_map, List.getElem?_modify]
        cases hei : es.toList[i]? with
        | none => rfl
        | some e =>
          simp only [Option.map_eq_map, Option.map_some]
          split
          · rename_i hpi
            subst hpi
            rw [he0'] at hei
            injection hei with hei
            subst hei
            simp [keyI, ha0]
          · rfl
      refine ⟨by rw [hm]; exact hw.1, fun e he => ?_, by rw [hm2]; exact hw.2.2⟩
      have h1 : e.born ∈ es.toList.map (·.born) := by rw [← hm]; exact List.mem_map.2 ⟨e, he, rfl⟩
      obtain ⟨e', he', hee⟩ := List.mem_map.1 h1
      rw [← hee]
      exact hw.2.1 e' he'
theorem step_sound {S S' : AS} {D : Nat → Prop} {a : Act} {w : World} {ops : List Oper} {i : Nat} {o : Oper} (hr : RelD D w0 N0 S a w) (hi : ¬ D i) (hs : Step P kb w0 ops i o S S') {K : Act → World → Prop} {Q' : Exit → Act → World → Prop}
    (hK : ∀ a' w', RelD (fun j => D j ∨ j = i) w0 N0 S' a' w' → K a' w') :
    if Region.wanted o (yielded ops.toArray a.tmps) = true then o.wp P a w K Q' else K (a.put o.dst undef) w := by
  obtain ⟨μ, hr⟩ := hr
  have hmore : ∀ {a' w'}, RelM D w0 N0 μ S' a' w' → RelD (fun j => D j ∨ j = i) w0 N0 S' a' w' := fun h => ⟨μ, h.more (fun j hj => .inl hj)⟩
  rcases hs with hs | ⟨c, f, args, ats, fid, fn, vs, res, hgv, ho, hf, hfn, hb, hn, ha, hp, hc, hs⟩ | ⟨t, m, x, v, b, k, es, q, u, e, hg, hd, ho, hm, hx, hv, hu, ht, hb0, hok, rfl⟩
  · unfold astepK at hs
    split at hs
    · rename_i hg
      have hw : Region.wanted o (yielded ops.toArray a.tmps) = true := by simp [Region.wanted, hg]
      rw [if_pos hw]
      split at hs
      · rename_i v hv
        obtain ⟨x, hx, hex⟩ := aval_run hr rfl hv
        unfold Oper.wp
        rw [hx]
        exact hK _ _ (hmore (hr.putv hs hex))
      · obtain ⟨x, w', hdo, hrel⟩ := aeff_run hr hi hs
        unfold Oper.wp
        rcases hdo with hx | ⟨hx, rfl⟩
        · rw [hx]; exact hK _ _ hrel
        · rw [hx]; exact hK _ _ hrel
    · rename_i j want hg
      split at hs
      case h_2 => cases hs
      rename_i c hc
      have hwc := gd_spec hr hg hc
      rw [hwc]
      split at hs
      · rename_i v hv
        cases c with
        | true =>
          rw [if_pos rfl]
          obtain ⟨x, hx, hex⟩ := aval_run hr rfl hv
          unfold Oper.wp
          rw [hx]
          exact hK _ _ (hmore (hr.putv hs (.whn _ _ _ (fun _ => hex) (fun hf => (by cases hf)))))
        | false =>
          rw [if_neg (by simp)]
          exact hK _ _ (hmore (hr.putv hs (.whn _ _ _ (fun hf => (by cases hf)) (fun _ => rfl))))
      · split at hs
        case isFalse => cases hs
        rename_i hcf
        obtain ⟨rfl, _⟩ := hcf
        rw [if_neg (by simp)]
        exact hK _ _ (hmore (hr.putv hs (.whn _ _ _ (fun hf => (by cases hf)) (fun _ => rfl))))
  · have hwc : Region.wanted o (yielded ops.toArray a.tmps) = c := by
      unfold AS.gv at hgv
      split at hgv
      · rename_i hg
        injection hgv with hgv
        subst hgv
        simp [Region.wanted, hg]
      · rename_i j want hg
        exact gd_spec hr hg hgv
    rw [hwc]
    cases c with
    | false =>
      rw [if_neg (by simp)]
      refine hK _ _ (hmore (hr.putv hs ?_))
      unfold wrapG
      split
      · rename_i hg
        simp [AS.gv, hg] at hgv
      · exact .whn _ _ _ (fun hf => (by cases hf)) (fun _ => rfl)
    | true =>
      rw [if_pos rfl]
      have hfv := hr.evc hf rfl
      have hfe : a.eval f = .func (.func fid) #[] #[] := by
        generalize a.eval f = y at hfv
        cases hfv with
        | pur hfv => cases hfv with
          | fn => rfl
      obtain ⟨h1, h2⟩ := args_spec hr rfl ha
      unfold Oper.wp
      rw [run_call_fn ho hfe hfn hb hn]
      have hcall := hc rfl w (Own N0 μ S) (args.toList.map a.eval) hr.below hr.own_lt (by simp [h1]) (fun j x v hx hv => by
        simp only [List.getElem?_map, Option.map_eq_some_iff] at hx
        obtain ⟨y, hy, rfl⟩ := hx
        exact (h2 j y v hy hv).pureV (List.all_eq_true.1 hp v (List.mem_of_getElem? hv)))
      have harr : (args.toList.map a.eval).toArray = args.map a.eval := by apply Array.ext'; simp
      rw [harr] at hcall
      refine hcall.mono ?_
      rintro e w' ⟨x, r, rfl, rfl, hpx, hbw⟩
      refine hK _ _ (hmore ((hr.later hbw).putv hs ?_))
      unfold wrapG
      split
      · exact .pur hpx
      · exact .whn _ _ _ (fun _ => .pur hpx) (fun hf => (by cases hf))

  · have hw : Region.wanted o (yielded ops.toArray a.tmps) = true := by simp [Region.wanted, hg]
    rw [if_pos hw]
    obtain ⟨w', hrun, hturn, hxe, hpur, ho1, ho2, ho3⟩ := mapUpdate_run (hr.evc hm rfl) (hr.evc hx rfl) (hr.evc hv rfl) hu ht
    have hNb : ¬ Own N0 μ S b := by
      have := hr.evc hm rfl
      rw [hxe] at this
      cases this with
      | pur hp => cases hp with
        | mp _ _ _ _ _ _ hN => exact hN
    unfold Oper.wp
    have hex : (execOp a.eval o).run P w = .ok .skip w' := by
      unfold execOp
      rw [ho]
      simp only [Sem.run_bind, hrun, Result.andThen_ok, Sem.run_pure]
    rw [hex]
    refine hK _ _ ⟨μ, ?_⟩
    have hput : a.put o.dst undef = a := by rw [hd]; rfl
    rw [hput]
    have hown : ∀ g, Own N0 μ { S with env := mapK (V.mset b k ((q, u) :: es)) S.env } g ↔ Own N0 μ S g := fun g => Iff.rfl
    refine ⟨hr.defers, hr.size, ⟨ho1.trans hr.below.os, ho2.trans hr.below.tape, ho3.trans hr.below.output, by rw [hturn.size]; exact hr.below.size, fun j hj hx => (hturn.other j (fun e => by subst e; rcases hb0 with h | h; omega; exact hx h)).trans (hr.below.block j hj hx)⟩, hr.n0, fun d v hv => (hr.fresh d v hv).imp id (fun ⟨j, hj, e⟩ => ⟨j, .inl hj, e⟩), fun d1 o1 h1 => ?_, hr.inj, fun t1 v1 h1 => ?_⟩
    · obtain ⟨l, hl, hobl⟩ := hr.objs d1 o1 h1
      refine ⟨l, hl, ?_⟩
      cases l with
      | none => exact hobl
      | some gc =>
        obtain ⟨b1, b2, b3, b4, arr, b5, b6, b7⟩ := hobl
        have hne : gc.1 ≠ b := by
          rintro rfl
          obtain ⟨es1, c1, hb1⟩ := hturn.was
          rw [b5] at hb1
          cases hb1
        refine ⟨b1, b2, b3, b4, arr, (hturn.other _ hne).trans b5, b6, fun k e j c he hj => ?_⟩
        obtain ⟨y, hy, hey⟩ := b7 k e j c he hj
        exact ⟨y, hy, hey.mapTurn hturn (okM1_cell ((b4 e (List.mem_of_getElem? he)).2 c (List.mem_of_getElem? hj)))⟩
    · simp only [get_mapK', Option.map_eq_some_iff] at h1
      obtain ⟨v0, h1, rfl⟩ := h1
      obtain ⟨h2, h3⟩ := hr.env t1 v0 h1
      refine ⟨h2, ?_⟩
      have hokv : v0.okM = true := hok t1 v0 h1
      generalize a.tmps.getD t1 undef = tv at h3
      cases v0 with
      | mp b' k' m' =>
        simp only [V.mset]
        cases h3 with
        | pur h3 =>
          cases h3 with
          | mp _ _ _ es2 cl2 g2 hN2 hb2 hk2 hs2 hn2 hw2 hh2 =>
            by_cases hbb : b' = b
            · subst hbb
              simp only [if_true]
              rw [← hxe]
              exact .pur (hpur _ hNb)
            · simp only [hbb, if_false]
              exact .pur (.mp b' k' m' es2 cl2 g2 hN2 ((hturn.other _ hbb).trans hb2) hk2 hs2 hn2 hw2 (fun c v hc => (hh2 c v hc).of_flat0 (hs2 c v hc).2))
      | rm b' k' m' =>
        simp only [V.mset]
        cases h3 with
        | pur h3 =>
          cases h3 with
          | rm ad _ _ _ hb3 hN3 hc3 h4 =>
          obtain ⟨hc4, _⟩ := hturn.cell hc3
          cases h4 with
          | mp _ _ _ es2 cl2 g2 hN2 hb2 hk2 hs2 hn2 hw2 hh2 =>
            by_cases hbb : b' = b
            · subst hbb
              simp only [if_true]
              refine .pur (.rm ad b' k _ (by rw [hturn.size]; exact hb3) hN3 hc4 ?_)
              have h5 := hpur _ hNb
              rw [hxe] at h5
              exact h5
            · simp only [hbb, if_false]
              exact .pur (.rm ad b' k' m' (by rw [hturn.size]; exact hb3) hN3 hc4 (.mp b' k' m' es2 cl2 g2 hN2 ((hturn.other _ hbb).trans hb2) hk2 hs2 hn2 hw2 (fun c v hc => (hh2 c v hc).of_flat0 (hs2 c v hc).2)))
      | tup vs =>
        simp only [V.mset]
        have key : ∀ xs : List Value, xs.length = vs.length → (∀ (i : Nat) x c, xs[i]? = some x → vs[i]? = some c → Enc w (Own N0 μ S) μ x c) → Enc w' (Own N0 μ S) μ (.tuple xs.toArray) (.tup vs) := fun xs hl hh =>
          .tup xs vs hl (fun i x c h1 h2 => (hh i x c h1 h2).mapTurn hturn (List.all_eq_true.1 hokv c (List.mem_of_getElem? h2)))
        cases h3 with
        | pur h3 => cases h3 with
          | tup xs _ hl hh => exact key xs hl (fun i x c a b => .pur (hh i x c a b))
        | tup xs _ hl hh => exact key xs hl hh
      | whn c0 v1 =>
        simp only [V.mset]
        cases h3 with
        | pur h3 => cases h3
        | whn _ _ _ hh hun =>
          refine .whn _ _ _ (fun hc0 => ?_) hun
          have h4 := hh hc0
          cases v1 with
          | tup vs =>
            have key : ∀ xs : List Value, xs.length = vs.length → (∀ (i : Nat) x c, xs[i]? = some x → vs[i]? = some c → Enc w (Own N0 μ S) μ x c) → Enc w' (Own N0 μ S) μ (.tuple xs.toArray) (.tup vs) := fun xs hl hh =>
              .tup xs vs hl (fun i x c h1 h2 => (hh i x c h1 h2).mapTurn hturn (List.all_eq_true.1 hokv c (List.mem_of_getElem? h2)))
            cases h4 with
            | pur h4 => cases h4 with
              | tup xs _ hl hh => exact key xs hl (fun i x c a b => .pur (hh i x c a b))
            | tup xs _ hl hh => exact key xs hl hh
          | _ => exact h4.mapTurn hturn (by first | rfl | exact hokv)
      | _ => exact h3.mapTurn hturn (by first | rfl | exact hokv)
theorem awl_st {S S' : AS} {ops : List Oper} {i : Nat} {o : Oper} {rest : List Oper} (hs : Step P kb w0 ops i o S S') (h : AWL P w0 N0 ops Q (i + 1) rest S') : AWL P w0 N0 ops Q i (o :: rest) S := by
  intro D a w hD hr
  have hi : ¬ D i := fun hd => absurd (hD i hd) (by omega)
  refine wpList_step fun K hK => step_sound hr hi hs (fun a' w' hr' => hK _ _ (h _ a' w' (fun j hj => ?_) hr'))
  rcases hj with hj | hj
  · have := hD j hj; omega
  · omega
def AS.ap (S : AS) (dst : Option Nat) (u : V) (O : List (Nat × Ob)) : AS := { S with env := (match dst with | some d => (d, u) :: S.env | none => S.env), objs := O ++ S.objs }
theorem putv_ap {S S' : AS} {dst : Option Nat} {u : V} (h : S.putv dst u = some S') : S' = S.ap dst u [] ∧ ∀ d, dst = some d → d < S.nt := by
  unfold AS.putv at h
  split at h
  · split at h
    · rename_i hd
      injection h with h
      subst h
      exact ⟨rfl, fun d' hd' => by injection hd' with hd'; subst hd'; exact hd⟩
    · cases h
  · injection h with h
    subst h
    exact ⟨rfl, fun d hd => by cases hd⟩
theorem ap_putv {S : AS} {dst : Option Nat} (u : V) (h : ∀ d, dst = some d → d < S.nt) : S.putv dst u = some (S.ap dst u []) := by
  unfold AS.putv
  cases dst with
  | none => rfl
  | some d => simp only [h d rfl, if_true]; rfl
def Alike (ops : List Oper) (o : Oper) (S T : AS) : Prop := (∀ t ∈ o.looksAt ops.toArray, get S.env t = get T.env t) ∧ S.nt = T.nt ∧ S.nx = T.nx
theorem Alike.ev {ops : List Oper} {o : Oper} {S T : AS} (h : Alike ops o S T) {x : Operand} (hx : x ∈ o.op.operands) : S.ev x = T.ev x := by
  cases x with
  | tmp t =>
    refine h.1 t ?_
    unfold Oper.looksAt
    refine List.mem_append_left _ (List.mem_filterMap.2 ⟨.tmp t, by simpa using hx, rfl⟩)
  | _ => rfl
theorem Alike.evc {ops : List Oper} {o : Oper} {S T : AS} (h : Alike ops o S T) {x : Operand} (hx : x ∈ o.op.operands) (c : Bool) : S.evc c x = T.evc c x := by
  unfold AS.evc
  rw [h.ev hx]
theorem Alike.gv {ops : List Oper} {o : Oper} {S T : AS} (h : Alike ops o S T) : S.gv ops o = T.gv ops o := by
  unfold AS.gv
  split
  · rfl
  · rename_i j want hg
    unfold AS.gd
    cases ho : ops[j]? with
    | none => rfl
    | some oj =>
      simp only
      cases hd : oj.dst with
      | none => rfl
      | some d =>
        simp only
        have := h.1 d (by
          unfold Oper.looksAt
          refine List.mem_append_right _ ?_
          rw [hg]
          simp [ho, hd])
        rw [this]
theorem evs_congr {S T : AS} {c : Bool} : ∀ {l : List (Nat × Operand)}, (∀ p ∈ l, S.evc c p.2 = T.evc c p.2) → S.evs c l = T.evs c l
  | [], _ => rfl
  | (i, x) :: r, h => by
    simp only [AS.evs]
    rw [h (i, x) (by simp), evs_congr (fun p hp => h p (by simp [hp]))]
theorem args_congr {S T : AS} {c : Bool} : ∀ {l : List Operand}, (∀ x ∈ l, S.evc c x = T.evc c x) → S.args c l = T.args c l
  | [], _ => rfl
  | x :: r, h => by
    simp only [AS.args]
    rw [h x (by simp), args_congr (fun p hp => h p (by simp [hp]))]
theorem evo_congr {S T : AS} {c : Bool} {x : Option Operand} (h : ∀ y, x = some y → S.evc c y = T.evc c y) : S.evo c x = T.evo c x := by
  cases x with
  | none => rfl
  | some y => simp only [AS.evo]; rw [h y rfl]
theorem aval_congr {ops : List Oper} {o : Oper} {S T : AS} (h : Alike ops o S T) {c : Bool} {v : V} (hpl : loads o.op = true → ∀ p r, S.place p = some r → T.place p = some r) (hv : aval P S c o.op = some v) : aval P T c o.op = some v := by
  have he := fun x (hx : x ∈ o.op.operands) (c : Bool) => h.evc hx c
  clear h
  generalize o.op = op at *
  cases op <;> simp only [aval] at hv ⊢ <;> (try (cases hv; done))
  case move x => rw [← he x (by simp [Op.operands])]; exact hv
  case assign x => rw [← he x (by simp [Op.operands])]; exact hv
  case pick x y z => simp only [← he x (by simp [Op.operands]), ← he y (by simp [Op.operands]), ← he z (by simp [Op.operands])]; exact hv
  case load t x =>
    rw [← he x (by simp [Op.operands])]
    split at hv
    · exact hv
    · rename_i p hnr hp
      split at hv
      case h_2 => cases hv
      rename_i e off n g h1 h2 h3
      simp only [hpl rfl _ _ h1, h2, h3]
      exact hv
    · cases hv
  case nilCheck x => rw [← he x (by simp [Op.operands])]; exact hv
  case binOp op t x y yt => rw [← he x (by simp [Op.operands]), ← he y (by simp [Op.operands])]; exact hv
  case unOp op t x => rw [← he x (by simp [Op.operands])]; exact hv
  case convert src dst x => rw [← he x (by simp [Op.operands])]; exact hv
  case fieldAddr t x f => rw [← he x (by simp [Op.operands])]; exact hv
  case field t x f => rw [← he x (by simp [Op.operands])]; exact hv
  case indexAddr t x i => rw [← he x (by simp [Op.operands]), ← he i (by simp [Op.operands])]; exact hv
  case index t x i => rw [← he x (by simp [Op.operands]), ← he i (by simp [Op.operands])]; exact hv
  case extract x i => rw [← he x (by simp [Op.operands])]; exact hv
  case makeInterface t x => rw [← he x (by simp [Op.operands])]; exact hv
  case typeAssert x xt at_ ok => rw [← he x (by simp [Op.operands])]; exact hv
  case makeFunc fv first caps =>
    cases fv with
    | func f =>
      simp only at hv ⊢
      rw [← args_congr (S := S) (T := T) (c := c) (l := first.toList) (fun x hx => he x (by simp [Op.operands]; left; simpa using hx) c), ← args_congr (S := S) (T := T) (c := c) (l := caps.toList) (fun x hx => he x (by simp [Op.operands]; right; simpa using hx) c)]
      exact hv
    | _ => simp only at hv; cases hv
  case lookup t x i ok => rw [← he x (by simp [Op.operands]), ← he i (by simp [Op.operands])]; exact hv
  case slice t x lo hi mx =>
    cases mx with
    | some m => simp only at hv; cases hv
    | none =>
      simp only at hv ⊢
      rw [← he x (by simp [Op.operands]), ← evo_congr (S := S) (T := T) (c := c) (x := lo) (fun y hy => he y (by simp [Op.operands, hy]) c), ← evo_congr (S := S) (T := T) (c := c) (x := hi) (fun y hy => he y (by simp [Op.operands, hy]) c)]
      exact hv
  case build t parts =>
    rw [← evs_congr (S := S) (T := T) (c := c) (l := parts.toList) (fun p hp => he p.2 (by simp [Op.operands]; exact ⟨p.1, by simpa using hp⟩) c)]
    exact hv
  case call cl =>
    obtain ⟨callee, args, argTypes⟩ := cl
    cases callee with
    | value f => cases hv
    | invoke r m => cases hv
    | builtin b =>
    cases b <;> simp only at hv ⊢ <;> try (cases hv; done)
    case min =>
      split at hv
      case h_2 => cases hv
      rename_i x y ha
      rw [← he x (by simp [Op.operands, Call.operands]; rw [← Array.mem_toList_iff, ha]; simp), ← he y (by simp [Op.operands, Call.operands]; rw [← Array.mem_toList_iff, ha]; simp)]
      exact hv
    case max =>
      split at hv
      case h_2 => cases hv
      rename_i x y ha
      rw [← he x (by simp [Op.operands, Call.operands]; rw [← Array.mem_toList_iff, ha]; simp), ← he y (by simp [Op.operands, Call.operands]; rw [← Array.mem_toList_iff, ha]; simp)]
      exact hv
    split at hv
    case h_2 => cases hv
    rename_i x t ha ht
    rw [← he x (by simp [Op.operands, Call.operands]; rw [← Array.mem_toList_iff, ha]; simp)]
    exact hv
theorem Alike.symm {ops : List Oper} {o : Oper} {S T : AS} (h : Alike ops o S T) : Alike ops o T S := ⟨fun t ht => (h.1 t ht).symm, h.2.1.symm, h.2.2.symm⟩
theorem aval_none {ops : List Oper} {o : Oper} {S T : AS} (h : Alike ops o S T) {c : Bool} (hfb : S.fb c o.op = true) (hv : aval P S c o.op = none) : aval P T c o.op = none ∧ T.fb c o.op = true := by
  cases hl : loads o.op with
  | false =>
    refine ⟨?_, ?_⟩
    · cases hT : aval P T c o.op with
      | none => rfl
      | some v =>
        have := aval_congr h.symm (fun h0 => by rw [hl] at h0; cases h0) hT
        rw [hv] at this
        cases this
    · generalize o.op = op at *
      cases op <;> first | rfl | simp [loads] at hl
  | true =>
    have he := fun x (hx : x ∈ o.op.operands) (c : Bool) => h.evc hx c
    generalize o.op = op at *
    cases op <;> first | (simp [loads] at hl; done) | skip
    case load t x =>
    have hx := he x (by simp [Op.operands]) c
    simp only [AS.fb] at hfb ⊢
    simp only [aval]
    rw [← hx]
    refine ⟨?_, hfb⟩
    split
    · rename_i b k m hp
      simp only [aval, hp] at hv
      exact hv
    · rename_i p hnr hp
      rw [hp] at hfb
      cases p <;> first | (simp at hfb; done) | rfl | exact absurd rfl (hnr _ _ _)
    · rfl
theorem elems_congr {S T : AS} (h : ∀ d, get S.objs d = get T.objs d) (p : V) : S.elems p = T.elems p := by
  cases p <;> simp only [AS.elems] <;> rw [h]
theorem place_congr {S T : AS} (h : ∀ d, get S.objs d = get T.objs d) (p : V) : S.place p = T.place p := by
  cases p <;> simp only [AS.place] <;> rw [h]
theorem acore_congr {ops : List Oper} {o : Oper} {S T : AS} (h : Alike ops o S T) (hob : ∀ d, get S.objs d = get T.objs d) {i kd : Nat} {O : List (Nat × Ob)} {v : V} (hv : acore P i S o.dst kd o.op = some (O, v)) :
    ∃ d ob, O = (d, ob) :: S.objs ∧ acore P i T o.dst kd o.op = some ((d, ob) :: T.objs, v) ∧ (makes o.op = true → o.dst.isSome = true ∧ d = kd) := by
  have he := fun x (hx : x ∈ o.op.operands) (c : Bool) => h.evc hx c
  have hnx := h.2.2
  clear h
  generalize o.op = op at *
  generalize o.dst = dst at *
  cases op <;> simp only [acore] at hv ⊢ <;> (try (cases hv; done))
  case alloc t =>
    split at hv
    case h_2 => cases hv
    rename_i d z n h1 h2
    simp only [Option.some.injEq, Prod.mk.injEq] at hv
    obtain ⟨rfl, rfl⟩ := hv
    exact ⟨kd, _, rfl, by simp only [h1, h2, hnx], fun _ => ⟨rfl, rfl⟩⟩
  case box t x =>
    split at hv
    case h_2 => cases hv
    rename_i d z h2
    split at hv
    case isFalse => cases hv
    rename_i hok
    simp only [Option.some.injEq, Prod.mk.injEq] at hv
    obtain ⟨rfl, rfl⟩ := hv
    rw [he x (by simp [Op.operands])] at h2
    exact ⟨kd, _, rfl, by simp only [h2, hok, if_true, hnx], fun _ => ⟨rfl, rfl⟩⟩
  case buildSlice t len parts =>
    split at hv
    case h_2 => cases hv
    rename_i d te vs h2 h3
    split at hv
    case h_2 => cases hv
    rename_i z n h4 h5
    split at hv
    case isFalse => cases hv
    rename_i h6
    split at hv
    case h_2 => cases hv
    rename_i es h7
    simp only [Option.some.injEq, Prod.mk.injEq] at hv
    obtain ⟨rfl, rfl⟩ := hv
    rw [evs_congr (S := S) (T := T) (c := true) (l := parts.toList) (fun p hp => he p.2 (by simp [Op.operands]; exact ⟨p.1, by simpa using hp⟩) true)] at h3
    exact ⟨kd, _, rfl, by simp only [h2, h3, h4, h5, if_pos h6, h7, hnx], fun _ => ⟨rfl, rfl⟩⟩
  case makeSlice t l c =>
    split at hv
    case h_2 => cases hv
    rename_i d te k1 lv k2 cv h2 h3 h4
    split at hv
    case h_2 => cases hv
    rename_i z n b h5 h6 h7
    split at hv
    case isFalse => cases hv
    rename_i h8
    simp only [Option.some.injEq, Prod.mk.injEq] at hv
    obtain ⟨rfl, rfl⟩ := hv
    rw [he l (by simp [Op.operands])] at h3
    rw [he c (by simp [Op.operands])] at h4
    exact ⟨kd, _, rfl, by simp only [h2, h3, h4, h5, h6, h7, if_pos h8, hnx], fun _ => ⟨rfl, rfl⟩⟩
  case store t x y =>
    split at hv
    case h_2 => cases hv
    rename_i d v' sz k off u n h1 h2 h3
    split at hv
    case h_2 => cases hv
    rename_i ob hob'
    split at hv
    case isFalse => cases hv
    rename_i h4
    split at hv
    case h_2 => cases hv
    rename_i e h5
    split at hv
    case isFalse => cases hv
    rename_i h6
    simp only [Option.some.injEq, Prod.mk.injEq] at hv
    obtain ⟨rfl, rfl⟩ := hv
    rw [he x (by simp [Op.operands])] at h1
    rw [he y (by simp [Op.operands])] at h2
    rw [hob] at hob'
    exact ⟨d, _, rfl, by simp only [h1, h2, h3, hob', if_pos h4, h5, if_pos h6], fun hm => by simp [makes] at hm⟩
  case call cl =>
    obtain ⟨callee, args, argTypes⟩ := cl
    cases callee with
    | value f => cases hv
    | invoke r m => cases hv
    | builtin b =>
    cases b <;> simp only at hv ⊢ <;> try (cases hv; done)
    split at hv
    case h_2 => cases hv
    rename_i s x t t' dd ha ht
    have hes := he s (by simp [Op.operands, Call.operands]; rw [← Array.mem_toList_iff, ha]; simp) true
    have hex := he x (by simp [Op.operands, Call.operands]; rw [← Array.mem_toList_iff, ha]; simp) true
    split at hv
    · rename_i htt
      split at hv
      case h_2 => cases hv
      rename_i sv xv te h1 h2 h3
      split at hv
      case h_2 => cases hv
      rename_i sz' news n b h4 h5 h6
      rw [hes] at h1
      rw [hex] at h2
      rw [elems_congr hob] at h4
      split at hv
      · rename_i d v' sz len
        split at hv
        case h_2 => cases hv
        rename_i ob hob'
        split at hv
        case isFalse => cases hv
        rename_i hb
        simp only [Option.some.injEq, Prod.mk.injEq] at hv
        obtain ⟨rfl, rfl⟩ := hv
        rw [hob] at hob'
        exact ⟨d, _, rfl, by simp only [ha, ht, if_pos htt, h1, h2, h3, h4, h5, h6, hob', if_pos hb, hnx], fun hm => by simp [makes] at hm⟩
      · split at hv
        case isFalse => cases hv
        rename_i hb
        simp only [Option.some.injEq, Prod.mk.injEq] at hv
        obtain ⟨rfl, rfl⟩ := hv
        exact ⟨kd, _, rfl, by simp only [ha, ht, if_pos htt, h1, h2, h3, h4, h5, h6, if_pos hb, hnx], fun hm => by simp [makes] at hm⟩
      · cases hv
    · rename_i htt
      split at hv
      case isFalse => cases hv
      rename_i hsb
      split at hv
      case h_2 => cases hv
      rename_i sv l te h1 h2 h3
      split at hv
      case h_2 => cases hv
      rename_i h5
      rw [hes] at h1
      rw [hex] at h2
      split at hv
      · rename_i d v' sz len
        split at hv
        case h_2 => cases hv
        rename_i ob hob'
        split at hv
        case isFalse => cases hv
        rename_i hb
        simp only [Option.some.injEq, Prod.mk.injEq] at hv
        obtain ⟨rfl, rfl⟩ := hv
        rw [hob] at hob'
        exact ⟨d, _, rfl, by simp only [ha, ht, if_neg htt, if_pos hsb, h1, h2, h3, h5, hob', if_pos hb, hnx], fun hm => by simp [makes] at hm⟩
      · split at hv
        case isFalse => cases hv
        rename_i hb
        simp only [Option.some.injEq, Prod.mk.injEq] at hv
        obtain ⟨rfl, rfl⟩ := hv
        exact ⟨kd, _, rfl, by simp only [ha, ht, if_neg htt, if_pos hsb, h1, h2, h3, h5, if_pos hb, hnx], fun hm => by simp [makes] at hm⟩
      · cases hv
theorem acts_core {op : Op} (h : acts op = false) (i : Nat) (S : AS) (dst : Option Nat) (kd : Nat) : acore P i S dst kd op = none := by
  cases op <;> first | rfl | (simp [acts] at h; done) | skip
  case call cl =>
    obtain ⟨callee, args, argTypes⟩ := cl
    cases callee with
    | value f => rfl
    | invoke r m => rfl
    | builtin b => cases b <;> first | rfl | simp [acts] at h
theorem acts_val {op : Op} (h : acts op = true) (S : AS) (c : Bool) : aval P S c op = none := by
  cases op <;> first | rfl | (simp [acts] at h; done) | skip
  case call cl =>
    obtain ⟨callee, args, argTypes⟩ := cl
    cases callee with
    | value f => rfl
    | invoke r m => rfl
    | builtin b => cases b <;> first | rfl | simp [acts] at h
theorem step_spec {ops : List Oper} {i : Nat} {o : Oper} {S S' : AS} (hs : Step P kb w0 ops i o S S') (hmu : mapUp o.op = false ∨ o.guard ≠ none) :
    ∃ u O, S' = S.ap o.dst u O ∧ (acts o.op = false → O = []) ∧ (makes o.op = true → ∀ d ob, (d, ob) ∈ O → ∃ e, o.dst = some e ∧ d = kb + e) ∧
      ∀ T, Alike ops o S T → (acts o.op = true → ∀ d, get S.objs d = get T.objs d) → (loads o.op = true → ∀ p r, S.place p = some r → T.place p = some r) → Step P kb w0 ops i o T (T.ap o.dst u O) := by
  rcases hs with hs | ⟨c, f, args, ats, fid, fn, vs, res, hgv, ho, hf, hfn, hb, hn, ha, hp, hc, hs⟩ | ⟨t, m, x, v, b, k, es, q, u, e, hg, hd, ho, _⟩
  · have hs0 := hs
    unfold astepK at hs
    split at hs
    · rename_i hg
      split at hs
      · rename_i v hv
        obtain ⟨h1, h2⟩ := putv_ap hs
        refine ⟨v, [], h1, fun _ => rfl, fun _ d ob hm => (by simp at hm), fun T hT _ hpl => .inl ?_⟩
        unfold astepK
        rw [hg]
        simp only [aval_congr hT hpl hv]
        exact ap_putv v (fun d hd => by rw [← hT.2.1]; exact h2 d hd)
      · rename_i hv
        have hact : acts o.op = true := by
          cases h0 : acts o.op with
          | true => rfl
          | false =>
            unfold aeff at hs
            rw [acts_core h0] at hs
            cases hs
        unfold aeff at hs
        split at hs
        case h_2 => cases hs
        rename_i O v hcore
        obtain ⟨h1, h2⟩ := putv_ap hs
        obtain ⟨d, ob, rfl, _, hmk⟩ := acore_congr (ops := ops) (T := S) ⟨fun _ _ => rfl, rfl, rfl⟩ (fun _ => rfl) hcore
        refine ⟨v, [(d, ob)], by rw [h1]; rfl, fun h0 => (by rw [hact] at h0; cases h0), fun hm d' ob' hmem => ?_, fun T hT hob _ => .inl ?_⟩
        · simp at hmem
          obtain ⟨m1, m2⟩ := hmk hm
          obtain ⟨e, he⟩ := Option.isSome_iff_exists.1 m1
          exact ⟨e, he, by rw [hmem.1, m2, he]; rfl⟩
        · unfold astepK
          rw [hg]
          simp only [acts_val hact]
          obtain ⟨d', ob', he, hcT, _⟩ := acore_congr hT (hob hact) hcore
          injection he with he _
          injection he with he1 he2
          subst he1; subst he2
          unfold aeff
          simp only [hcT]
          have hlt : ∀ d1, o.dst = some d1 → d1 < ({ T with objs := (d, ob) :: T.objs } : AS).nt := fun d1 hd1 => by
            have := h2 d1 hd1
            simp only at this ⊢
            rw [← hT.2.1]; exact this
          have := ap_putv (S := { T with objs := (d, ob) :: T.objs }) v hlt
          rw [this]
          rfl
    · rename_i j want hg
      split at hs
      case h_2 => cases hs
      rename_i c hc
      have hgvS : S.gv ops o = some c := by simp only [AS.gv, hg]; exact hc
      split at hs
      · rename_i v hv
        obtain ⟨h1, h2⟩ := putv_ap hs
        refine ⟨.whn c v, [], h1, fun _ => rfl, fun _ d ob hm => (by simp at hm), fun T hT _ hpl => .inl ?_⟩
        have hgT : T.gd ops j want = some c := by have := hT.gv; rw [hgvS] at this; simp only [AS.gv, hg] at this; exact this.symm
        unfold astepK
        rw [hg]
        simp only [hgT, aval_congr hT hpl hv]
        exact ap_putv _ (fun d hd => by rw [← hT.2.1]; exact h2 d hd)
      · rename_i hv
        split at hs
        case isFalse => cases hs
        rename_i hcf
        obtain ⟨rfl, hfb⟩ := hcf
        obtain ⟨h1, h2⟩ := putv_ap hs
        refine ⟨.whn false (.bool true), [], h1, fun _ => rfl, fun _ d ob hm => (by simp at hm), fun T hT _ hpl => ?_⟩
        have hgT : T.gd ops j want = some false := by have := hT.gv; rw [hgvS] at this; simp only [AS.gv, hg] at this; exact this.symm
        obtain ⟨hvT, hfT⟩ := aval_none hT hfb hv
        refine .inl ?_
        unfold astepK
        rw [hg]
        simp only [hgT, hvT, hfT, and_self, if_true]
        exact ap_putv _ (fun d hd => by rw [← hT.2.1]; exact h2 d hd)
  · obtain ⟨h1, h2⟩ := putv_ap hs
    refine ⟨wrapG o c res, [], h1, fun _ => rfl, fun _ d ob hm => (by simp at hm), fun T hT _ _ => .inr (.inl ?_)⟩
    have hops : ∀ x ∈ args.toList, x ∈ o.op.operands := fun x hx => by
      rw [ho]
      simp [Op.operands, Call.operands]
      right; simpa using hx
    refine ⟨c, f, args, ats, fid, fn, vs, res, by rw [← hT.gv]; exact hgv, ho, ?_, hfn, hb, hn, ?_, hp, hc, ap_putv _ (fun d hd => by rw [← hT.2.1]; exact h2 d hd)⟩
    · rw [← hT.evc (by rw [ho]; simp [Op.operands, Call.operands])]; exact hf
    · rw [← args_congr (S := S) (T := T) (fun x hx => hT.evc (hops x hx) c)]; exact ha
  · rcases hmu with hmu | hmu
    · rw [ho] at hmu; cases hmu
    · exact absurd hg hmu
end
end Go.Eng

namespace Go.Eng
open Go.RowKit
def AS.eqv (S T : AS) : Prop := (∀ t, get S.env t = get T.env t) ∧ (∀ d, get S.objs d = get T.objs d) ∧ S.nx = T.nx ∧ S.nt = T.nt
theorem AS.eqv.le {S T : AS} (h : S.eqv T) : S.le T := le_of_get h.2.2.2.symm (by rw [h.2.2.1]; exact Nat.le_refl _) (fun t v hv => by rw [h.1]; exact hv) (fun d o ho => by rw [h.2.1]; exact ho)
theorem AS.eqv.symm {S T : AS} (h : S.eqv T) : T.eqv S := ⟨fun t => (h.1 t).symm, fun d => (h.2.1 d).symm, h.2.2.1.symm, h.2.2.2.symm⟩
theorem get_append {α : Type} {l r : List (Nat × α)} (h : ∀ t, get l t = get r t) : ∀ (O : List (Nat × α)) (t : Nat), get (O ++ l) t = get (O ++ r) t
  | [], t => h t
  | (k, x) :: O, t => by
    simp only [List.cons_append, get_cons]
    rw [get_append h O t]
theorem ap_eqv {S T : AS} (h : S.eqv T) (dst : Option Nat) (u : V) (O : List (Nat × Ob)) : (S.ap dst u O).eqv (T.ap dst u O) := by
  refine ⟨fun t => ?_, fun d => get_append h.2.1 O d, h.2.2.1, h.2.2.2⟩
  cases dst with
  | none => exact h.1 t
  | some d => simp only [AS.ap, get_cons]; rw [h.1 t]
section
variable {P : Program} {kb : Nat} {w0 : Bs} {N0 : Nat → Prop} {Q : Exit → AS → Prop}
theorem mapUp_acts {op : Op} (h : acts op = false) : mapUp op = false := by cases op <;> first | rfl | simp [acts] at h
theorem okMs_iff : ∀ {l : List (Nat × V)}, okMs l = true → ∀ t v, get l t = some v → v.okM = true
  | [], _, t, v, h => by simp [get] at h
  | (k, x) :: l, h4, t, v, h5 => by
    simp only [okMs, Bool.and_eq_true] at h4
    rw [get_cons] at h5
    split at h5
    · injection h5 with h5; subst h5; exact h4.1
    · exact okMs_iff h4.2 t v h5
theorem step_eqv {ops : List Oper} {i : Nat} {o : Oper} {S S' T : AS} (hs : Step P kb w0 ops i o S S') (h : S.eqv T) : ∃ T', Step P kb w0 ops i o T T' ∧ S'.eqv T' := by
  by_cases hm : mapUp o.op = false ∨ o.guard ≠ none
  · obtain ⟨u, O, rfl, _, _, hall⟩ := step_spec hs hm
    exact ⟨_, hall T ⟨fun t _ => h.1 t, h.2.2.2, h.2.2.1⟩ (fun _ => h.2.1) (fun _ p r hp => by rw [← place_congr (S := S) (T := T) h.2.1]; exact hp), ap_eqv h _ _ _⟩
  · have hev : ∀ x, S.evc true x = T.evc true x := fun x => by
      have : S.ev x = T.ev x := by
        cases x with
        | tmp t => exact h.1 t
        | _ => rfl
      unfold AS.evc
      rw [this]
    rcases hs with hs | ⟨c, f, args, ats, _, _, _, _, _, ho, _⟩ | ⟨t, m, x, v, b, k, es, q, u, e, hg, hd, ho, hm1, hx, hv, hu, ht, hb0, hok, rfl⟩
    · exfalso
      have hgn : o.guard = none := by
        cases hg : o.guard with
        | none => rfl
        | some p => exact absurd (.inr (by rw [hg]; simp)) hm
      have hmu : ¬ mapUp o.op = false := fun h => hm (.inl h)
      cases hop : o.op <;> rw [hop] at hmu <;> first | (exact hmu rfl) | skip
      unfold astepK at hs
      rw [hgn] at hs
      simp only [hop, aval, aeff, acore] at hs
      cases hs
    · exact absurd (.inl (by rw [ho]; rfl)) hm
    · refine ⟨{ T with env := mapK (V.mset b k ((q, u) :: es)) T.env }, .inr (.inr ⟨t, m, x, v, b, k, es, q, u, e, hg, hd, ho, by rw [← hev]; exact hm1, by rw [← hev]; exact hx, by rw [← hev]; exact hv, hu, ht, hb0, fun t v hv => hok t v (by rw [h.1]; exact hv), rfl⟩), fun t => ?_, h.2.1, h.2.2.1, h.2.2.2⟩
      rw [get_mapK', get_mapK', h.1]
def awAny (P : Program) (kb : Nat) (w0 : Bs) (ops : List Oper) (K : AS → Prop) : Nat → Array Bool → AS → Prop
  | 0, listed, S => Region.ready .any ops.toArray listed = [] ∧ K S
  | n + 1, listed, S => (Region.ready .any ops.toArray listed = [] → K S) ∧ ∀ i ∈ Region.ready .any ops.toArray listed, ∃ o S', ops[i]? = some o ∧ Step P kb w0 ops i o S S' ∧ awAny P kb w0 ops K n (listed.setIfInBounds i true) S'
theorem any_eqv {ops : List Oper} {K : AS → Prop} (hK : ∀ S T, S.eqv T → K S → K T) : ∀ (n : Nat) (listed : Array Bool) (S T : AS), S.eqv T → awAny P kb w0 ops K n listed S → awAny P kb w0 ops K n listed T
  | 0, _, _, _, h, ha => ⟨ha.1, hK _ _ h ha.2⟩
  | n + 1, listed, S, T, h, ha => ⟨fun h0 => hK _ _ h (ha.1 h0), fun i hi => by
    obtain ⟨o, S', ho, hs, hrest⟩ := ha.2 i hi
    obtain ⟨T', hT, he⟩ := step_eqv hs h
    exact ⟨o, T', ho, hT, any_eqv hK n _ S' T' he hrest⟩⟩
theorem any_sound {ops : List Oper} {K : AS → Prop} (hK : ∀ S a w, K S → RelD (fun j => j < ops.length) w0 N0 S a w → post w0 N0 Q .normal a w) : ∀ (n : Nat) (listed : Array Bool) (S : AS) (a : Act) (w : World), listed.size = ops.length →
    RelD (fun j => listed.getD j false = true) w0 N0 S a w → awAny P kb w0 ops K n listed S → wpAny P .any ops.toArray (post w0 N0 Q) n listed a w
  | 0, listed, S, a, w, hsz, hr, ha => by
    obtain ⟨μ, hr⟩ := hr
    refine ⟨ha.1, hK S a w ha.2 ⟨μ, hr.more (fun j hj => ?_)⟩⟩
    rcases Nat.lt_or_ge j listed.size with h | h
    · omega
    · simp [Array.getElem?_eq_none h] at hj
  | n + 1, listed, S, a, w, hsz, hr, ha => by
    refine ⟨fun h0 => ?_, fun i hi => ?_⟩
    · obtain ⟨μ, hr⟩ := hr
      refine hK S a w (ha.1 h0) ⟨μ, hr.more (fun j hj => ?_)⟩
      rcases Nat.lt_or_ge j listed.size with h | h
      · omega
      · simp [Array.getElem?_eq_none h] at hj
    · obtain ⟨o, S', ho, hs, hrest⟩ := ha.2 i hi
      have hun := (mem_ready.1 hi).1
      have hil : i < listed.size := by
        rcases Nat.lt_or_ge i listed.size with h | h
        · exact h
        · simp [Array.getElem?_eq_none h] at hun
      have hni : ¬ (listed.getD i false = true) := by
        intro h1
        simp [hil] at hun h1
        rw [hun] at h1
        cases h1
      unfold wpOp
      have ho' : ops.toArray[i]? = some o := by simpa using ho
      simp only [ho']
      have := step_sound (P := P) hr hni hs (K := wpAny P .any ops.toArray (post w0 N0 Q) n (listed.setIfInBounds i true)) (Q' := post w0 N0 Q) (fun a' w' hr' => by
        obtain ⟨μ', hr'⟩ := hr'
        refine any_sound hK n _ S' a' w' (by simpa using hsz) ⟨μ', hr'.more (fun j hj => ?_)⟩ hrest
        rcases hj with hj | hj
        · by_cases hij : i = j
          · subst hij; simp [hil]
          · rw [getD_set_ne false hij]; exact hj
        · subst hj; simp [hil])
      split
      · rename_i hw; rw [if_pos hw] at this; exact .inl this
      · rename_i hw; rw [if_neg hw] at this; exact this
def blk (ops : List Oper) (listed : Array Bool) (i : Nat) : List Nat :=
  (List.range ops.length).foldl (fun B j => if listed.getD j true then B else (match ops[j]? with
    | some oj => if oj.after.any (fun e => Region.binds .any e && (e.on == i || B.contains e.on)) then j :: B else B
    | none => B)) []
def blkOk (ops : List Oper) (listed : Array Bool) (i : Nat) (B : List Nat) : Bool :=
  B.all fun j => !listed.getD j true && (match ops[j]? with
    | some oj => oj.after.any (fun e => Region.binds .any e && (e.on == i || B.contains e.on))
    | none => false)
def firstOk (ops : List Oper) (listed : Array Bool) (i : Nat) (oi : Oper) : Bool :=
  blkOk ops listed i (blk ops listed i) && (List.range ops.length).all fun j => j == i || listed.getD j true || (match ops[j]? with
    | some oj => (blk ops listed i).contains j || (oi.apart ops.toArray oj && !mapUp oj.op && (!loads oi.op || !acts oj.op || makes oj.op))
    | none => true)
def Waits (ops : List Oper) (listed : Array Bool) (i : Nat) (B : List Nat) : Prop :=
  ∀ j ∈ B, listed.getD j true = false ∧ ∃ oj, ops[j]? = some oj ∧ ∃ e ∈ oj.after, Region.binds .any e = true ∧ (e.on = i ∨ e.on ∈ B)
theorem blkOk_spec {ops : List Oper} {listed : Array Bool} {i : Nat} {B : List Nat} (h : blkOk ops listed i B = true) : Waits ops listed i B := by
  intro j hj
  have h1 := List.all_eq_true.1 h j hj
  simp only [Bool.and_eq_true, Bool.not_eq_true'] at h1
  refine ⟨h1.1, ?_⟩
  have h2 := h1.2
  split at h2
  · rename_i oj hoj
    obtain ⟨e, he, hb⟩ := Array.any_eq_true'.1 h2
    simp only [Bool.and_eq_true, Bool.or_eq_true, beq_iff_eq] at hb
    exact ⟨oj, hoj, e, he, hb.1, hb.2.imp id (fun h => by simpa using h)⟩
  · cases h2
def mkOk (ops : List Oper) : Bool := (List.range ops.length).all fun j => (List.range ops.length).all fun k => j == k || (match ops[j]?, ops[k]? with
  | some oj, some ok => !makes oj.op || !makes ok.op || oj.dst != ok.dst
  | _, _ => true)
theorem mkOk_spec {ops : List Oper} (h : mkOk ops = true) {j k : Nat} {oj ok : Oper} (hj : ops[j]? = some oj) (hk : ops[k]? = some ok) (hm : makes oj.op = true) (hm' : makes ok.op = true) (hd : oj.dst = ok.dst) : j = k := by
  have h1 := List.all_eq_true.1 (List.all_eq_true.1 h j (List.mem_range.2 (List.getElem?_eq_some_iff.1 hj).1)) k (List.mem_range.2 (List.getElem?_eq_some_iff.1 hk).1)
  simp only [hj, hk, hm, hm', hd, Bool.not_true, Bool.false_or, bne_self_eq_false, Bool.or_false, beq_iff_eq] at h1
  exact h1
theorem firstOk_spec {ops : List Oper} {listed : Array Bool} {i : Nat} {oi : Oper} (h : firstOk ops listed i oi = true) : ∃ B, Waits ops listed i B ∧ ∀ j oj, ops[j]? = some oj → j ≠ i → listed.getD j true = false → j ∉ B →
    oi.apart ops.toArray oj = true ∧ (loads oi.op = true → acts oj.op = true → makes oj.op = true) ∧ mapUp oj.op = false := by
  unfold firstOk at h
  rw [Bool.and_eq_true] at h
  refine ⟨blk ops listed i, blkOk_spec h.1, ?_⟩
  intro j oj hj hji hun hno
  have hlt : j < ops.length := (List.getElem?_eq_some_iff.1 hj).1
  have h1 := List.all_eq_true.1 h.2 j (List.mem_range.2 hlt)
  simp only [hj, hun, Bool.or_false, Bool.or_eq_true, beq_iff_eq, Bool.and_eq_true] at h1
  rcases h1 with h1 | h1 | h1
  · exact absurd h1 hji
  · exact absurd (by simpa using h1) hno
  · refine ⟨h1.1.1, fun hl ha => ?_, by simpa using h1.1.2⟩
    rcases h1.2 with (h2 | h2) | h2
    · simp [hl] at h2
    · simp [ha] at h2
    · exact h2
theorem any_first {ops : List Oper} {K : AS → Prop} (hK : ∀ S T, S.eqv T → K S → K T) {i : Nat} {oi : Oper} (hi : ops[i]? = some oi) (hq : acts oi.op = false) (hnd : mkOk ops = true) (B : List Nat) :
    ∀ (n : Nat) (listed : Array Bool) (S S1 : AS), Waits ops listed i B →
      (∀ j oj, ops[j]? = some oj → j ≠ i → listed.getD j true = false → j ∉ B → oi.apart ops.toArray oj = true ∧ (loads oi.op = true → acts oj.op = true → makes oj.op = true) ∧ mapUp oj.op = false) →
      (loads oi.op = true → ∀ j oj d, ops[j]? = some oj → listed.getD j true = false → makes oj.op = true → oj.dst = some d → get S.objs (kb + d) = none) →
      i ∈ Region.ready .any ops.toArray listed → Step P kb w0 ops i oi S S1 →
      awAny P kb w0 ops K n (listed.setIfInBounds i true) S1 → awAny P kb w0 ops K (n + 1) listed S := by
  intro n
  induction n with
  | zero =>
    intro listed S S1 _ _ _ hr hs H
    refine ⟨fun h => (by rw [h] at hr; cases hr), fun j hj => ?_⟩
    by_cases hji : j = i
    · subst hji; exact ⟨oi, S1, hi, hs, H⟩
    · have := ready_mono hj hji
      rw [H.1] at this
      cases this
  | succ n ih =>
    intro listed S S1 hB hfree hfr hr hs H
    refine ⟨fun h => (by rw [h] at hr; cases hr), fun j hj => ?_⟩
    by_cases hji : j = i
    · subst hji; exact ⟨oi, S1, hi, hs, H⟩
    · obtain ⟨oj, T', hoj, hsj, hrest⟩ := H.2 j (ready_mono hj hji)
      obtain ⟨hjun, oj', hoj', hall⟩ := mem_ready.1 hj
      have : oj' = oj := by
        have h1 : ops[j]? = some oj' := by simpa using hoj'
        rw [hoj] at h1
        exact (Option.some.inj h1).symm
      subst this
      have hiun := (mem_ready.1 hr).1
      have hun1 : ∀ k, listed.getD k true = false → ∀ e ∈ oj'.after, Region.binds .any e = true → e.on ≠ k := fun k hk e he hb heq => by
        have h1 := hall e he hb
        rw [heq] at h1
        rcases Nat.lt_or_ge k listed.size with h' | h'
        · simp [h'] at hk h1; rw [hk] at h1; cases h1
        · simp [Array.getElem?_eq_none h'] at h1
      have hnot : j ∉ B := fun hjB => by
        obtain ⟨_, oq, hoq, e, he, hb, hon⟩ := hB j hjB
        have : oq = oj' := by rw [hoj] at hoq; exact (Option.some.inj hoq).symm
        subst this
        rcases hon with hon | hon
        · exact hun1 i hiun e he hb hon
        · exact hun1 e.on (hB e.on hon).1 e he hb rfl
      obtain ⟨hap, hload, hmuj⟩ := hfree j oj' hoj hji hjun hnot
      obtain ⟨a1, a2, a3⟩ := Oper.apart_spec hap
      obtain ⟨u, O, rfl, hO, _, hall1⟩ := step_spec hs (.inl (mapUp_acts hq))
      have hOn := hO hq
      subst hOn
      obtain ⟨u2, O2, rfl, hO2, hmk2, hall2⟩ := step_spec hsj (.inl hmuj)
      -- j before i
      have hjS : Step P kb w0 ops j oj' S (S.ap oj'.dst u2 O2) := by
        refine hall2 S ⟨fun t ht => ?_, rfl, rfl⟩ (fun _ d => rfl) (fun _ p r hp => by rw [← place_congr (S := S.ap oj'.dst u2 [] |>.ap none u2 []) (T := S) (fun d => rfl)]; rw [place_congr (S := S.ap oi.dst u []) (T := S.ap oj'.dst u2 [] |>.ap none u2 []) (fun d => rfl)] at hp; exact hp)
        cases hd : oi.dst with
        | none => rfl
        | some d =>
          simp only [AS.ap, get_cons]
          rw [if_neg (fun e => a1 d hd (by rw [e]; exact ht))]
      -- i behind j
      have hplace : loads oi.op = true → ∀ p r, S.place p = some r → (S.ap oj'.dst u2 O2).place p = some r := by
        intro hl p r hp
        cases hact : acts oj'.op with
        | false =>
          rw [hO2 hact]
          rw [← place_congr (S := S) (T := S.ap oj'.dst u2 []) (fun d => rfl)]
          exact hp
        | true =>
          have hm := hload hl hact
          have hk : ∀ d, get S.objs d ≠ none → get (S.ap oj'.dst u2 O2).objs d = get S.objs d := by
            intro d hd
            have hnotin : ∀ ob, (d, ob) ∉ O2 := fun ob hmem => by
              obtain ⟨e, he, hde⟩ := hmk2 hm d ob hmem
              exact hd (by rw [hde]; exact hfr hl j oj' e hoj hjun hm he)
            show get (O2 ++ S.objs) d = get S.objs d
            clear hmk2 hall2 hsj hrest hjS hO2
            induction O2 with
            | nil => rfl
            | cons q O2 ihq =>
              obtain ⟨k, ob⟩ := q
              simp only [List.cons_append, get_cons]
              rw [if_neg (fun e => hnotin ob (by rw [e]; simp))]
              exact ihq (fun ob' hmem => hnotin ob' (by simp [hmem]))
          cases p <;> simp only [AS.place] at hp ⊢ <;> try (first | exact hp | (cases hp; done))
          rename_i d v sz k off
          cases hg : get S.objs d with
          | none => rw [hg] at hp; cases hp
          | some ob =>
            rw [hk d (by rw [hg]; simp)]
            exact hp
      have hiT : Step P kb w0 ops i oi (S.ap oj'.dst u2 O2) ((S.ap oj'.dst u2 O2).ap oi.dst u []) := by
        refine hall1 _ ⟨fun t ht => ?_, rfl, rfl⟩ (fun h0 => by rw [hq] at h0; cases h0) hplace
        cases hd : oj'.dst with
        | none => rfl
        | some d =>
          simp only [AS.ap, get_cons]
          rw [if_neg (fun e => a3 d hd (by rw [e]; exact ht))]
      have heq : ((S.ap oi.dst u []).ap oj'.dst u2 O2).eqv ((S.ap oj'.dst u2 O2).ap oi.dst u []) := by
        refine ⟨fun t => ?_, fun d => rfl, rfl, rfl⟩
        cases hd1 : oi.dst with
        | none => rfl
        | some d1 =>
          cases hd2 : oj'.dst with
          | none => rfl
          | some d2 =>
            have hne : d2 ≠ d1 := fun e => a2 d1 hd1 (by rw [hd2, e])
            simp only [AS.ap, get_cons]
            by_cases h1 : d1 = t <;> by_cases h2 : d2 = t <;> simp [h1, h2]
            exact absurd (h2.trans h1.symm) hne
      refine ⟨oj', _, hoj, hjS, ih (listed.setIfInBounds j true) _ _ (fun k hk => by
        have hjk : j ≠ k := by rintro rfl; exact hnot hk
        exact ⟨by rw [getD_set_ne true hjk]; exact (hB k hk).1, (hB k hk).2⟩) (fun k ok hk hki hun hno => hfree k ok hk hki ?_ hno) (fun hl k ok d hk hun hm hd => ?_) (ready_mono hr (Ne.symm hji)) hiT ?_⟩
      · by_cases hjk : j = k
        · subst hjk; exact hjun
        · rw [getD_set_ne true hjk] at hun; exact hun
      · have hjk : j ≠ k := by
          rintro rfl
          have hjl : j < listed.size := by
            rcases Nat.lt_or_ge j listed.size with h | h
            · exact h
            · simp [Array.getElem?_eq_none h] at hjun
          simp [hjl] at hun
        have hun' : listed.getD k true = false := by rwa [getD_set_ne true hjk] at hun
        have h0 := hfr hl k ok d hk hun' hm hd
        show get (O2 ++ S.objs) (kb + d) = none
        cases hact : acts oj'.op with
        | false => rw [hO2 hact]; exact h0
        | true =>
          have hmj := hload hl hact
          have hnotin : ∀ ob, (kb + d, ob) ∉ O2 := fun ob hmem => by
            obtain ⟨e, hdj, hde⟩ := hmk2 hmj _ ob hmem
            have hed : d = e := Nat.add_left_cancel hde
            exact hjk (mkOk_spec hnd hoj hk hmj hm (by rw [hdj, hd, hed]))
          clear hmk2 hall2 hsj hrest hjS hO2 hplace hiT heq
          induction O2 with
          | nil => exact h0
          | cons q O2 ihq =>
            obtain ⟨k', ob⟩ := q
            simp only [List.cons_append, get_cons]
            rw [if_neg (fun e => hnotin ob (by rw [e]; simp))]
            exact ihq (fun ob' hmem => hnotin ob' (by simp [hmem]))
      · rw [Array.setIfInBounds_comm _ _ hji]
        exact any_eqv hK n _ _ _ heq hrest
theorem any_only {ops : List Oper} {K : AS → Prop} {n i : Nat} {o : Oper} {listed : Array Bool} {S S' : AS} (hi : ops[i]? = some o) (hr : Region.ready .any ops.toArray listed = [i]) (hs : Step P kb w0 ops i o S S') (h : awAny P kb w0 ops K n (listed.setIfInBounds i true) S') : awAny P kb w0 ops K (n + 1) listed S := by
  refine ⟨fun h0 => (by rw [hr] at h0; cases h0), fun j hj => ?_⟩
  rw [hr] at hj
  have : j = i := by simpa using hj
  subst this
  exact ⟨o, S', hi, hs, h⟩
def mayTake (ops : List Oper) (listed : Array Bool) (i : Nat) (ks : List Nat) : Bool :=
  match ops[i]? with
  | some o => (!acts o.op && (Region.ready .any ops.toArray listed).contains i && firstOk ops listed i o && (!loads o.op || (List.range ops.length).all fun j => listed.getD j true || (match ops[j]? with
      | some oj => !makes oj.op || (match oj.dst with | some d => ks.contains d | none => true)
      | none => true))) || (Region.ready .any ops.toArray listed == [i])
  | none => false
def goodOrder (ops : List Oper) : Array Bool → List (Nat × List Nat) → Bool
  | listed, [] => (Region.ready .any ops.toArray listed).isEmpty
  | listed, (i, ks) :: l => mayTake ops listed i ks && goodOrder ops (listed.setIfInBounds i true) l
def AWO (P : Program) (kb : Nat) (w0 : Bs) (ops : List Oper) (Q : Exit → AS → Prop) : List (Nat × List Nat) → AS → Prop
  | [], S => ∃ S', ({ S with nx := S.nx + ops.length } : AS).le S' ∧ Q .normal S'
  | (i, ks) :: l, S => ∃ o S', ops[i]? = some o ∧ (ks.all fun d => (get S.objs (kb + d)).isNone) = true ∧ Step P kb w0 ops i o S S' ∧ AWO P kb w0 ops Q l S'
theorem awo_any {ops : List Oper} (hk : mkOk ops = true) : ∀ (l : List (Nat × List Nat)) (listed : Array Bool) (S : AS), goodOrder ops listed l = true → AWO P kb w0 ops Q l S →
    awAny P kb w0 ops (fun S => ∃ S', ({ S with nx := S.nx + ops.length } : AS).le S' ∧ Q .normal S') l.length listed S
  | [], listed, S, hg, h => ⟨by simpa [goodOrder] using hg, h⟩
  | (i, ks) :: l, listed, S, hg, h => by
    simp only [goodOrder, Bool.and_eq_true] at hg
    obtain ⟨o, S', ho, hks, hs, hrest⟩ := h
    have ih := awo_any hk l _ S' hg.2 hrest
    have hm := hg.1
    unfold mayTake at hm
    simp only [ho, Bool.or_eq_true, Bool.and_eq_true, beq_iff_eq] at hm
    rcases hm with ⟨⟨⟨h1, h2⟩, h3⟩, h4⟩ | hm
    · obtain ⟨B, hB, hfree⟩ := firstOk_spec h3
      refine any_first ?_ ho (by simpa using h1) hk B l.length listed S S' hB hfree (fun hl j oj d hj hun hmk hd => ?_) (by simpa using h2) hs ih
      · rintro S T he ⟨S2, h5, h6⟩
        have he' : ({ T with nx := T.nx + ops.length } : AS).eqv { S with nx := S.nx + ops.length } := ⟨fun t => (he.1 t).symm, fun d => (he.2.1 d).symm, by simp only; rw [he.2.2.1], he.2.2.2.symm⟩
        exact ⟨S2, AS.le_trans he'.le h5, h6⟩
      · rcases h4 with h4 | h4
        · simp [hl] at h4
        · have h5 := List.all_eq_true.1 h4 j (List.mem_range.2 (List.getElem?_eq_some_iff.1 hj).1)
          simp only [hun, hj, hmk, hd, Bool.not_true, Bool.false_or] at h5
          have h6 := List.all_eq_true.1 hks d (by simpa using h5)
          simpa using h6
    · exact any_only ho hm hs ih
theorem awk_draw {id : Nat} {l : List Oper} {S : AS} (kb : Nat) (ord : List (Nat × List Nat)) (hm : P.follows .mixedOrders = true) (hg : (goodOrder l (Array.replicate l.length false) ord && (mkOk l && ord.length == l.length)) = true) (h : AWO P kb w0 l Q ord S) : AW P w0 N0 (.region id l.toArray true) Q S := by
  simp only [Bool.and_eq_true, beq_iff_eq] at hg
  obtain ⟨hg, hk, hl⟩ := hg
  rintro a w ⟨μ, hr⟩
  refine wp_region_any hm ?_
  have hsz : l.toArray.size = l.length := by simp
  rw [hsz]
  have haw := awo_any hk ord _ S hg h
  rw [hl] at haw
  refine any_sound (K := fun S => ∃ S', ({ S with nx := S.nx + l.length } : AS).le S' ∧ Q .normal S') ?_ l.length _ S a _ (by simp) ⟨μ, ?_⟩ haw
  · rintro S a w ⟨S', h1, h2⟩ ⟨μ, hr⟩
    refine ⟨S', h2, h1 _ _ _ _ ⟨μ, ⟨hr.defers, hr.size, hr.below, hr.n0, fun d v hv => ?_, hr.objs, hr.inj, hr.env⟩⟩⟩
    rcases hr.fresh d v hv with h3 | ⟨j, hj, e⟩
    · exact .inl (by simp only; omega)
    · exact .inl (by simp only; omega)
  · have := hr.drew
    exact this.more (fun j hj => hj.elim)
theorem aw_draw {id : Nat} {l : List Oper} {S : AS} (ord : List (Nat × List Nat)) (hm : P.follows .mixedOrders = true) (hg : (goodOrder l (Array.replicate l.length false) ord && (mkOk l && ord.length == l.length)) = true) (h : AWO P 0 w0 l Q ord S) : AW P w0 N0 (.region id l.toArray true) Q S := awk_draw 0 ord hm hg h
def runOK (P : Program) (kb : Nat) (ops : List Oper) : List (Nat × List Nat) → AS → Option AS
  | [], S => some S
  | (i, ks) :: l, S => match nth ops i with
    | some o => if (ks.all fun d => (get S.objs (kb + d)).isNone) = true then (match astepK P kb ops i o S with
      | some S' => runOK P kb ops l S'
      | none => none) else none
    | none => none
theorem awo_run {ops : List Oper} : ∀ {l : List (Nat × List Nat)} {S S1 S' : AS}, runOK P kb ops l S = some S1 → ({ S1 with nx := S1.nx + ops.length } : AS).le S' → Q .normal S' → AWO P kb w0 ops Q l S
  | [], S, S1, S', hs, hle, h => by
    simp only [runOK, Option.some.injEq] at hs
    subst hs
    exact ⟨S', hle, h⟩
  | (i, ks) :: l, S, S1, S', hs, hle, h => by
    simp only [runOK] at hs
    split at hs
    case h_2 => cases hs
    rename_i o ho
    split at hs
    case isFalse => cases hs
    rename_i hks
    split at hs
    case h_2 => cases hs
    rename_i S2 h2
    rw [nth_eq] at ho
    exact ⟨o, S2, ho, hks, .inl h2, awo_run hs hle h⟩
end
end Go.Eng

namespace Go.Eng
def runO (P : Program) (ops : List Oper) (l : List (Nat × List Nat)) (S : AS) : Option AS := runOK P 0 ops l S
attribute [simp] runO runOK AS.gv wrapG
def runDK (P : Program) (kb : Nat) (l : List Oper) (ord : List (Nat × List Nat)) (L M : List Nat) (S : AS) : Option AS :=
  match runOK P kb l ord S with
  | some S' => some ((S'.bump l.length).keep L M)
  | none => none
def runD (P : Program) (l : List Oper) (ord : List (Nat × List Nat)) (L M : List Nat) (S : AS) : Option AS := runDK P 0 l ord L M S
attribute [simp] runD runDK
section
variable {P : Program} {kb : Nat} {w0 : Bs} {N0 : Nat → Prop} {Q : Exit → AS → Prop} {S : AS}
theorem awk_done {id : Nat} {l : List Oper} {S' : AS} (kb : Nat) (ord : List (Nat × List Nat)) (L M : List Nat) (hm : P.follows .mixedOrders = true) (hg : (goodOrder l (Array.replicate l.length false) ord && (mkOk l && ord.length == l.length)) = true) (hs : runDK P kb l ord L M S = some S') (h : Q .normal S') :
    AW P w0 N0 (.region id l.toArray true) Q S := by
  unfold runDK at hs
  split at hs
  case h_2 => cases hs
  rename_i S1 h1
  injection hs with hs
  subst hs
  exact awk_draw kb ord hm hg (awo_run h1 (le_keep _ L M) h)
theorem aw_done {id : Nat} {l : List Oper} {S' : AS} (ord : List (Nat × List Nat)) (L M : List Nat) (hm : P.follows .mixedOrders = true) (hg : (goodOrder l (Array.replicate l.length false) ord && (mkOk l && ord.length == l.length)) = true) (hs : runD P l ord L M S = some S') (h : Q .normal S') :
    AW P w0 N0 (.region id l.toArray true) Q S := awk_done 0 ord L M hm hg hs h
theorem aw_dstep {id : Nat} {l : List Oper} {rest : Code} {S' : AS} (ord : List (Nat × List Nat)) (L M : List Nat) (hm : P.follows .mixedOrders = true) (hg : (goodOrder l (Array.replicate l.length false) ord && (mkOk l && ord.length == l.length)) = true) (hs : runD P l ord L M S = some S') (h : AW P w0 N0 rest Q S') :
    AW P w0 N0 (.seq (.region id l.toArray true) rest) Q S := aw_seq (aw_done ord L M hm hg hs h)
theorem awo_app {ops : List Oper} : ∀ {l1 l2 : List (Nat × List Nat)} {S S1 : AS}, runOK P kb ops l1 S = some S1 → AWO P kb w0 ops Q l2 S1 → AWO P kb w0 ops Q (l1 ++ l2) S
  | [], l2, S, S1, hs, h => by
    simp only [runOK, Option.some.injEq] at hs
    subst hs
    exact h
  | (i, ks) :: l, l2, S, S1, hs, h => by
    simp only [runOK] at hs
    split at hs
    case h_2 => cases hs
    rename_i o ho
    split at hs
    case isFalse => cases hs
    rename_i hks
    split at hs
    case h_2 => cases hs
    rename_i S2 h2
    rw [nth_eq] at ho
    exact ⟨o, S2, ho, hks, .inl h2, awo_app hs h⟩
theorem awo_go {ops : List Oper} {l : List (Nat × List Nat)} {S1 : AS} (n : Nat) (hs : runO P ops (l.take n) S = some S1) (h : AWO P 0 w0 ops Q (l.drop n) S1) : AWO P 0 w0 ops Q l S := by
  have := awo_app (kb := 0) (l2 := l.drop n) hs h
  rwa [List.take_append_drop] at this
theorem awo_end {ops : List Oper} {l : List (Nat × List Nat)} {S' : AS} (L M : List Nat) (hs : runD P ops l L M S = some S') (h : Q .normal S') : AWO P 0 w0 ops Q l S := by
  unfold runD runDK at hs
  split at hs
  case h_2 => cases hs
  rename_i S1 h1
  injection hs with hs
  subst hs
  exact awo_run h1 (le_keep _ L M) h
theorem awo_call {ops : List Oper} {i : Nat} {ks : List Nat} {l : List (Nat × List Nat)} {o : Oper} {c : Bool} {f : Operand} {fid : FuncId} {fn : Func} {args : Array Operand} {ats : Array TypeId} {vs : List V} {res : V} {S' : AS}
    (hc : c = true → AC P fid vs (fun r => r = res)) (hfn : P.funcs[fid]? = some fn) (hb : fn.body.isSome = true) (hn : (fn.name == "runtime.NumGoroutine") = false) (hi : nth ops i = some o) (hks : (ks.all fun d => (get S.objs (0 + d)).isNone) = true)
    (hg : S.gv ops o = some c) (ho : o.op = .call { callee := .value f, args := args, argTypes := ats }) (hf : S.evc c f = some (.fn fid)) (ha : S.args c args.toList = some vs) (hp : vs.all V.pureV = true) (hs : S.putv o.dst (wrapG o c res) = some S') (h : AWO P 0 w0 ops Q l S') : AWO P 0 w0 ops Q ((i, ks) :: l) S := by
  rw [nth_eq] at hi
  exact ⟨o, S', hi, hks, .inr (.inl ⟨c, f, args, ats, fid, fn, vs, res, hg, ho, hf, hfn, hb, hn, ha, hp, fun h => (hc h).b, hs⟩), h⟩
theorem awl_gcall {ops : List Oper} {i : Nat} {o : Oper} {rest : List Oper} {c : Bool} {f : Operand} {fid : FuncId} {fn : Func} {args : Array Operand} {ats : Array TypeId} {vs : List V} {res : V} {S' : AS}
    (hc : c = true → AC P fid vs (fun r => r = res)) (hfn : P.funcs[fid]? = some fn) (hb : fn.body.isSome = true) (hn : (fn.name == "runtime.NumGoroutine") = false)
    (hg : S.gv ops o = some c) (ho : o.op = .call { callee := .value f, args := args, argTypes := ats }) (hf : S.evc c f = some (.fn fid)) (ha : S.args c args.toList = some vs) (hp : vs.all V.pureV = true) (hs : S.putv o.dst (wrapG o c res) = some S') (h : AWL P w0 N0 ops Q (i + 1) rest S') : AWL P w0 N0 ops Q i (o :: rest) S :=
  awl_st (kb := 0) (.inr (.inl ⟨c, f, args, ats, fid, fn, vs, res, hg, ho, hf, hfn, hb, hn, ha, hp, fun h => (hc h).b, hs⟩)) h
theorem aw_count {c : Code} (st : Nat → Nat → AS) (Inv : Nat → Prop) (n : Nat) (nx0 : Nat) (h0 : Inv 0) (hS : S.le (st 0 nx0))
    (round : ∀ k nx, k ≤ n → Inv k → AW P w0 N0 c (ethen (fun S' => k < n ∧ Inv (k + 1) ∧ ∃ nx', S'.le (st (k + 1) nx')) Q) (st k nx)) : AW P w0 N0 (.loop c) Q S := by
  refine aw_loop (fun x : Nat × Nat => st x.1 x.2) (fun x => x.1 ≤ n ∧ Inv x.1) (fun x => n - x.1) (0, nx0) ⟨Nat.zero_le _, h0⟩ hS ?_
  rintro ⟨k, nx⟩ ⟨hk, hI⟩
  refine (round k nx hk hI).mono ?_
  intro e T hT
  cases e with
  | normal =>
    obtain ⟨h1, h2, nx', h3⟩ := hT
    exact ⟨(k + 1, nx'), ⟨h1, h2⟩, by simp only; omega, h3⟩
  | _ => exact hT
end
end Go.Eng

namespace Go.Eng
open Go.RowKit
def AS.adoptS (S : AS) (t d sz : Nat) (ty : TypeId) : AS := { S with env := (t, .sl d S.nx sz 0) :: S.env, objs := (d, ⟨S.nx, sz, ty, []⟩) :: S.objs, nx := S.nx + 1 }
section
variable {P : Program} {w0 : Bs} {N0 : Nat → Prop} {Q : Exit → AS → Prop} {S : AS} {μ : Mu} {a : Act} {w : World}
theorem RelM.addRow (h : RelM (fun _ => False) w0 N0 μ S a w) (d sz : Nat) (ty : TypeId) :
    RelM (fun _ => False) w0 N0 (muSet μ d S.nx none) { S with objs := (d, ⟨S.nx, sz, ty, []⟩) :: S.objs, nx := S.nx + 1 } a w := by
  have hmono := h.muSet_mono (i := 0) (fun hf => hf) d none
  have hfr := h.muSet_fresh 0 d none
  simp only [Nat.add_zero] at hmono hfr
  obtain ⟨hr, _⟩ := h.update (D' := fun j => False ∨ j = 0) (d := d) (o' := ⟨S.nx, sz, ty, []⟩) (l' := none) (w' := w) (μ' := muSet μ d S.nx none) hmono hfr (muSet_same _ _ _ _) h.below (Keeps.refl _ _)
    (fun _ _ _ _ _ _ _ => rfl) (fun g c e => by cases e) (fun N' hN => rfl)
  refine ⟨hr.defers, hr.size, hr.below, hr.n0, fun d v hv => ?_, hr.objs, hr.inj, hr.env⟩
  rcases hr.fresh d v hv with h1 | ⟨j, hj, e⟩
  · exact .inl (by simp only at h1 ⊢; omega)
  · rcases hj with hj | hj
    · exact hj.elim
    · subst hj; exact .inl (by simp only at e ⊢; omega)
theorem le_adoptS {t d sz : Nat} {ty : TypeId} (ht : get S.env t = some .nils) : S.le (S.adoptS t d sz ty) := by
  rintro w0 N0 a w ⟨μ, h⟩
  have hr := h.addRow d sz ty
  refine ⟨_, ⟨hr.defers, hr.size, hr.below, hr.n0, hr.fresh, hr.objs, hr.inj, fun t' v hv => ?_⟩⟩
  simp only [AS.adoptS, get_cons] at hv
  split at hv
  · rename_i e
    subst e
    injection hv with hv
    subst hv
    obtain ⟨h1, h2⟩ := hr.env t .nils ht
    refine ⟨h1, ?_⟩
    generalize a.tmps.getD t undef = x at h2
    cases h2 with
    | pur h2 => cases h2 with
      | nils A => exact .slv d S.nx sz A (muSet_same _ _ _ _)
  · exact hr.env t' v hv
theorem aw_adoptS {c : Code} {S' : AS} (t d sz : Nat) (ty : TypeId) (L M : List Nat) (ht : get S.env t = some .nils) (hS : (S.adoptS t d sz ty).keep L M = S') (h : AW P w0 N0 c Q S') : AW P w0 N0 c Q S := by
  subst hS
  exact aw_le (AS.le_trans (le_adoptS ht) (le_keep _ L M)) h
end
attribute [simp] AS.adoptS
end Go.Eng

namespace Go.Eng
open Go.RowKit Go.ChangeShapes Go.WideShapes
def laidFs (P : Program) : List Field → Nat → Nat → Bool
  | [], off, tot => off == tot
  | f :: r, off, tot => (f.offset == off) && laidFs P r (off + P.cellsOf f.type) tot
def okT (P : Program) : Nat → TypeId → Bool
  | 0, _ => false
  | n + 1, t => match P.underlying t with
    | some .bool | some (.int _) | some .string => P.cellsOf t == 1
    | some (.slice e) => (P.cellsOf t == 1) && decide (0 < P.cellsOf e) && okT P n e
    | some (.struct fs) => laidFs P fs.toList 0 (P.cellsOf t) && fs.toList.all fun f => okT P n f.type
    | _ => false
def mkV (b : Option Bool) (cs : List V) : V := if b = some true then .agg cs else cs.headD .nils
def RdF (P : Program) (r : TypeId → List V → Prop) : List Field → List V → Prop
  | [], vs => vs = []
  | f :: fs, vs => ∃ us ws, vs = us ++ ws ∧ r f.type us ∧ RdF P r fs ws
def Rd (P : Program) : Nat → TypeId → List V → Prop
  | 0, _, _ => False
  | n + 1, t, vs => match P.underlying t with
    | some .bool => ∃ b, vs = [.bool b]
    | some (.int k) => ∃ i, vs = [.int k i] ∧ (Lit.int k i).wf = true
    | some .string => ∃ l, vs = [.str l] ∧ l.length ≤ maxLen
    | some (.slice e) => ∃ es : List (List V), vs = [.ro (P.cellsOf e) (es.map (mkV (tagg P e)))] ∧ es.length ≤ maxLen ∧ ∀ x ∈ es, Rd P n e x
    | some (.struct fs) => RdF P (Rd P n) fs.toList vs
    | _ => False
def Purs (w : World) (N : Nat → Prop) (cs : List Value) (vs : List V) : Prop :=
  cs.length = vs.length ∧ ∀ (i : Nat) x v, cs[i]? = some x → vs[i]? = some v → Pur w N x v
theorem Purs.append {w : World} {N : Nat → Prop} {a b : List Value} {u v : List V} (h : Purs w N a u) (k : Purs w N b v) : Purs w N (a ++ b) (u ++ v) := by
  refine ⟨by simp [h.1, k.1], fun i x y hx hy => ?_⟩
  by_cases hi : i < a.length
  · rw [List.getElem?_append_left hi] at hx
    rw [List.getElem?_append_left (by rw [← h.1]; exact hi)] at hy
    exact h.2 i x y hx hy
  · rw [List.getElem?_append_right (by omega)] at hx
    rw [List.getElem?_append_right (by rw [← h.1]; omega), ← h.1] at hy
    exact k.2 _ x y hx hy
theorem Purs.one {w : World} {N : Nat → Prop} {x : Value} {v : V} (h : Pur w N x v) : Purs w N [x] [v] := by
  refine ⟨rfl, fun i y u hy hu => ?_⟩
  rcases i with _ | i
  · simp at hy hu; subst hy; subst hu; exact h
  · simp at hy
theorem list_of {α : Type} {p : Nat → α → Prop} : ∀ {n : Nat}, (∀ i, i < n → ∃ y, p i y) → ∃ l : List α, l.length = n ∧ ∀ i y, l[i]? = some y → p i y
  | 0, _ => ⟨[], rfl, by simp⟩
  | n + 1, h => by
    obtain ⟨l, hl, hp⟩ := list_of (n := n) (fun i hi => h i (by omega))
    obtain ⟨y, hy⟩ := h n (by omega)
    refine ⟨l ++ [y], by simp [hl], fun i z hz => ?_⟩
    by_cases hi : i < l.length
    · rw [List.getElem?_append_left hi] at hz; exact hp i z hz
    · rw [List.getElem?_append_right (by omega)] at hz
      have : i - l.length = 0 := by
        rcases h0 : i - l.length with _ | k
        · rfl
        · rw [h0] at hz; simp at hz
      rw [this] at hz
      simp at hz
      subst hz
      have : i = n := by omega
      subst this
      exact hy
theorem map_of {α β : Type} {f : α → β} : ∀ {l : List β}, (∀ x ∈ l, ∃ y, x = f y) → ∃ l' : List α, l = l'.map f
  | [], _ => ⟨[], rfl⟩
  | x :: r, h => by
    obtain ⟨y, hy⟩ := h x (by simp)
    obtain ⟨l', hl'⟩ := map_of (fun x hx => h x (by simp [hx]) : ∀ x ∈ r, ∃ y, x = f y)
    exact ⟨y :: l', by simp [hy, hl']⟩
section
variable {H : Type} {enc : TypeId × Value → H} {P : Program} {w : World} {base : Nat} {spare : Nat → Bool} {held : Bool}
end
theorem trodAll_below {H : Type} {enc : TypeId × Value → H} {P : Program} {W W' : World} (hl : laidOutB P = true) (hb : Below W.heap.size W W') : ∀ {ts : List TypeId} {vs : List Value} {ds : List (DataW H)} {ps : List MemPlace},
    (∀ t ∈ ts, P.readableRec t = true ∧ t < P.types.size) → DataW.TrodAll enc P W 0 (fun _ => true) true ts vs ds ps → DataW.TrodAll enc P W' 0 (fun b => decide (b < W.heap.size)) true ts vs ds ps
  | [], vs, ds, ps, _, h => by
    obtain ⟨rfl, rfl, rfl⟩ := trodAll_nil h
    exact trodAll_mk0
  | t :: ts, vs, ds, ps, ho, h => by
    obtain ⟨v, vs', d, ds', p, q, rfl, rfl, rfl, h1, h2⟩ := trodAll_cons h
    have k0 := h1
    have lt0 : ∀ x ∈ p, x.block < W.heap.size := by obtain ⟨m, hm⟩ := k0; exact DataW.trod_lt m _ _ _ hm
    exact trodAll_cons_mk (Below.trod hl (ho t (by simp)).1 (ho t (by simp)).2 h1 hb lt0) (trodAll_below hl hb (fun t ht => ho t (by simp [ht])) h2)
section
variable {P : Program} {n : Nat} {t e : TypeId} {k : IntKind} {vs : List V} {fs : Array Field}
theorem rd_int (hu : P.underlying t = some (.int k)) (h : Rd P n t vs) : ∃ i, vs = [.int k i] ∧ (Lit.int k i).wf = true := by
  cases n with
  | zero => exact h.elim
  | succ n => unfold Rd at h; rw [hu] at h; exact h
theorem rd_str (hu : P.underlying t = some .string) (h : Rd P n t vs) : ∃ l, vs = [.str l] ∧ l.length ≤ maxLen := by
  cases n with
  | zero => exact h.elim
  | succ n => unfold Rd at h; rw [hu] at h; exact h
theorem rd_slice (hu : P.underlying t = some (.slice e)) (h : Rd P n t vs) : ∃ es : List (List V), vs = [.ro (P.cellsOf e) (es.map (mkV (tagg P e)))] ∧ es.length ≤ maxLen ∧ ∀ x ∈ es, Rd P (n - 1) e x := by
  cases n with
  | zero => exact h.elim
  | succ n => unfold Rd at h; rw [hu] at h; exact h
theorem rd_struct (hu : P.underlying t = some (.struct fs)) (h : Rd P n t vs) : RdF P (Rd P (n - 1)) fs.toList vs := by
  cases n with
  | zero => exact h.elim
  | succ n => unfold Rd at h; rw [hu] at h; exact h
end
end Go.Eng

namespace Go.Eng
open Go.RowKit
def ACO (P : Program) (f : FuncId) (args : List V) (sz : Nat) (ty : TypeId) (R : (Nat → Nat → V) → List V → Prop) : Prop :=
  ∀ (w : World) (N : Nat → Prop) (xs : List Value), (∀ b, N b → b < w.heap.size) → xs.length = args.length → (∀ (i : Nat) x v, xs[i]? = some x → args[i]? = some v → Pur w N x v) →
    Calls P f xs.toArray w (fun e w' => ∃ x F es l, e = .returned x ∧ R F es ∧ Below w.heap.size w w' ∧
      ∀ d v μ N', μ d v = some l → Enc w' N' μ x (F d v) ∧ ObEnc w' N' μ ⟨w, fun _ => False, fun _ _ => none, []⟩ ⟨v, sz, ty, es⟩ l)
def flatE (e : V) : Bool := e.cells.all V.flat
def V.reC (q vq d v : Nat) : V → V
  | .sl d' v' sz len => if d' = q ∧ v' = vq then .sl d v sz len else .sl d' v' sz len
  | u => u
def V.re (q vq d v : Nat) : V → V
  | .agg cs => .agg (cs.map (V.reC q vq d v))
  | u => u.reC q vq d v
def V.liteC (q vq : Nat) : V → Bool
  | .sl d' v' _ _ => (d' == q) && (v' == vq)
  | u => u.flat
def V.liteE (q vq : Nat) : V → Bool
  | .agg cs => cs.all (V.liteC q vq)
  | u => u.liteC q vq
section
variable {P : Program} {w0 : Bs} {N0 : Nat → Prop} {Q : Exit → AS → Prop} {S : AS}
theorem Enc.reC {w : World} {N N' : Nat → Prop} {μ μ' : Mu} {q vq d v : Nat} {x : Value} {u : V} (h : Enc w N μ x u) (hl : u.liteC q vq = true) (hμ : ∀ l, μ q vq = some l → μ' d v = some l) : Enc w N' μ' x (u.reC q vq d v) ∧ (u.reC q vq d v).isCell = true := by
  cases h with
  | pur h =>
    cases h with
    | bool b => exact ⟨.pur (.bool b), rfl⟩
    | int k n => exact ⟨.pur (.int k n), rfl⟩
    | str l => exact ⟨.pur (.str l), rfl⟩
    | nils A => exact ⟨.pur (.nils A), rfl⟩
    | fn f => exact ⟨.pur (.fn f), rfl⟩
    | nilp => exact ⟨.pur .nilp, rfl⟩
    | nili => exact ⟨.pur .nili, rfl⟩
    | nilf => exact ⟨.pur .nilf, rfl⟩
    | ifc t x v h1 h2 => exact ⟨.pur (.ifc t x v h1 (h2.of_flat2 h1)), rfl⟩
    | agg | tup | ro | rp | mp | fc | dm | rm => simp [V.liteC, V.flat] at hl
  | slr d' v' sz len g cap h1 h2 h3 =>
    simp only [V.liteC, Bool.and_eq_true, beq_iff_eq] at hl
    obtain ⟨rfl, rfl⟩ := hl
    simp only [V.reC, and_self, if_true]
    exact ⟨.slr d v sz len g cap (hμ _ h1) h2 h3, rfl⟩
  | slv d' v' sz A h1 =>
    simp only [V.liteC, Bool.and_eq_true, beq_iff_eq] at hl
    obtain ⟨rfl, rfl⟩ := hl
    simp only [V.reC, and_self, if_true]
    exact ⟨.slv d v sz A (hμ _ h1), rfl⟩
  | ifc t x v hc h => exact ⟨.pur ((Pur.ifc t x v hl (h.flat2 hc hl)).of_flat hl), rfl⟩
  | ss | bp | agg | tup | whn | clo | mr => simp [V.liteC, V.flat] at hl
theorem Enc.re {w : World} {N N' : Nat → Prop} {μ μ' : Mu} {q vq d v : Nat} {x : Value} {u : V} (h : Enc w N μ x u) (hl : u.liteE q vq = true) (hμ : ∀ l, μ q vq = some l → μ' d v = some l) : Enc w N' μ' x (u.re q vq d v) := by
  have key : ∀ (xs : List Value) (cs : List V), xs.length = cs.length → (∀ (i : Nat) x c, xs[i]? = some x → cs[i]? = some c → Enc w N μ x c) → cs.all (V.liteC q vq) = true → Enc w N' μ' (.agg xs.toArray) (.agg (cs.map (V.reC q vq d v))) := by
    intro xs cs h1 h2 h3
    refine .agg xs _ (by simp [h1]) (fun c hc => ?_) (fun i x c hx hc => ?_)
    · simp only [List.mem_map] at hc
      obtain ⟨c0, hc0, rfl⟩ := hc
      obtain ⟨i, hi⟩ := List.getElem?_of_mem hc0
      have hlt : i < xs.length := by rw [h1]; exact (List.getElem?_eq_some_iff.1 hi).1
      exact ((h2 i xs[i] c0 (List.getElem?_eq_getElem hlt) hi).reC (N' := N') (List.all_eq_true.1 h3 c0 hc0) hμ).2
    · simp only [List.getElem?_map, Option.map_eq_some_iff] at hc
      obtain ⟨c0, hc0, rfl⟩ := hc
      exact ((h2 i x c0 hx hc0).reC (List.all_eq_true.1 h3 c0 (List.mem_of_getElem? hc0)) hμ).1
  cases u with
  | agg cs =>
    cases h with
    | pur h => cases h with
      | agg xs _ h1 h2 h3 => exact key xs cs h1 (fun i x c a b => .pur (h3 i x c a b)) hl
    | agg xs _ h1 h2 h3 => exact key xs cs h1 h3 hl
  | _ => exact (h.reC hl hμ).1
theorem awl_callO {ops : List Oper} {i : Nat} {o : Oper} {rest : List Oper} {f : Operand} {fid : FuncId} {fn : Func} {args : Array Operand} {ats : Array TypeId} {vs us : List V} {sz : Nat} {ty : TypeId} {R : (Nat → Nat → V) → List V → Prop} (d : Nat)
    (hg : o.guard = none) (ho : o.op = .call { callee := .value f, args := args, argTypes := ats }) (hf : S.evc true f = some (.fn fid)) (hfn : P.funcs[fid]? = some fn) (hb : fn.body.isSome = true) (hn : (fn.name == "runtime.NumGoroutine") = false)
    (ha : S.args true args.toList = some vs) (hp : S.views vs = some us) (hc : ACO P fid us sz ty R)
    (h : ∀ F es, R F es → ∃ S', ({ S with objs := (d, ⟨S.nx + i, sz, ty, es⟩) :: S.objs } : AS).putv o.dst (F d (S.nx + i)) = some S' ∧ AWL P w0 N0 ops Q (i + 1) rest S') : AWL P w0 N0 ops Q i (o :: rest) S := by
  rintro D a w hD ⟨μ, hr⟩
  refine wpList_plain hg fun K hK => ?_
  have hfv := hr.evc hf rfl
  have hfe : a.eval f = .func (.func fid) #[] #[] := by
    generalize a.eval f = y at hfv
    cases hfv with
    | pur hfv => cases hfv with
      | fn => rfl
  obtain ⟨h1, h2⟩ := args_spec hr rfl ha
  obtain ⟨h3, h4⟩ := views_spec hp
  unfold Oper.wp
  rw [run_call_fn ho hfe hfn hb hn]
  have hcall := hc w N0 (args.toList.map a.eval) (fun b hb => Nat.lt_of_lt_of_le (hr.n0.1 b hb).1 hr.below.size) (by simp [h1, h3]) (fun j x v hx hv => by
    simp only [List.getElem?_map, Option.map_eq_some_iff] at hx
    obtain ⟨y, hy, rfl⟩ := hx
    have hj : j < vs.length := by rw [← h3]; exact (List.getElem?_eq_some_iff.1 hv).1
    exact hr.view (h2 j y vs[j] hy (List.getElem?_eq_getElem hj)) (h4 j vs[j] v (List.getElem?_eq_getElem hj) hv))
  have harr : (args.toList.map a.eval).toArray = args.map a.eval := by apply Array.ext'; simp
  rw [harr] at hcall
  refine hcall.mono ?_
  rintro e w' ⟨x, F, es, l, rfl, hR, hbw, hpx⟩
  obtain ⟨S', hs, hrest⟩ := h F es hR
  have hi : ¬ D i := fun hd => absurd (hD i hd) (by omega)
  have hmono := hr.muSet_mono hi d l
  obtain ⟨hrel, _⟩ := hr.update (D' := fun j => D j ∨ j = i) (d := d) (o' := ⟨S.nx + i, sz, ty, es⟩) (l' := l) (w' := w') (μ' := muSet μ d (S.nx + i) l) hmono (hr.muSet_fresh i d _) (muSet_same _ _ _ _)
    (hr.below.trans (hbw.mono hr.below.size)) (Keeps.of_below hbw _) (fun d1 o1 g c _ h1 h2 => hbw.block g (hr.block_lt h1 h2))
    (fun g c e => by
      have := (hpx d (S.nx + i) (muSet μ d (S.nx + i) l) (fun _ => False) (muSet_same _ _ _ _)).2
      rw [e] at this
      exact .inl (this.1.elim id (fun h => h.elim)))
    (fun N' _ => by
      have := (hpx d (S.nx + i) (muSet μ d (S.nx + i) l) N' (muSet_same _ _ _ _)).2
      cases l with
      | none => exact this
      | some gc => exact ⟨.inl (Nat.le_trans hr.below.size (this.1.elim id (fun h => h.elim))), this.2⟩)
  refine hK _ _ (hrest (fun j => D j ∨ j = i) _ w' (fun j hj => ?_) ⟨_, hrel.putv hs (hpx d (S.nx + i) _ _ (muSet_same _ _ _ _)).1⟩)
  rcases hj with hj | hj
  · have := hD j hj; omega
  · omega
theorem awl_callO1 {ops : List Oper} {i : Nat} {o : Oper} {rest : List Oper} {f : Operand} {fid : FuncId} {fn : Func} {args : Array Operand} {ats : Array TypeId} {vs us : List V} {sz : Nat} {ty : TypeId} {F : Nat → Nat → V} {es : List V} {S' : AS} (d : Nat)
    (hc : ACO P fid us sz ty (fun F' es' => F' = F ∧ es' = es)) (hfn : P.funcs[fid]? = some fn) (hb : fn.body.isSome = true) (hn : (fn.name == "runtime.NumGoroutine") = false)
    (hg : o.guard = none) (ho : o.op = .call { callee := .value f, args := args, argTypes := ats }) (hf : S.evc true f = some (.fn fid))
    (ha : S.args true args.toList = some vs) (hp : S.views vs = some us) (hs : ({ S with objs := (d, ⟨S.nx + i, sz, ty, es⟩) :: S.objs } : AS).putv o.dst (F d (S.nx + i)) = some S')
    (h : AWL P w0 N0 ops Q (i + 1) rest S') : AWL P w0 N0 ops Q i (o :: rest) S :=
  awl_callO d hg ho hf hfn hb hn ha hp hc (fun _ _ ⟨h1, h2⟩ => by subst h1; subst h2; exact ⟨S', hs, h⟩)
def aresL (P : Program) (S : AS) : List ResultVar → Option (List V)
  | [] => some []
  | r :: rs => match aresult P S r, aresL P S rs with
    | some v, some vs => some (v :: vs)
    | _, _ => none
def aresO (P : Program) (S : AS) (q vq : Nat) (rs : List ResultVar) : Option (Nat → Nat → V) :=
  match aresL P S rs with
  | some [v] => if v.liteE q vq = true then some (fun d w => v.re q vq d w) else none
  | some vs => if vs.all (V.liteE q vq) = true then some (fun d w => .tup (vs.map (V.re q vq d w))) else none
  | none => none
def EndsO (P : Program) (fn : Func) (sz : Nat) (ty : TypeId) (R : (Nat → Nat → V) → List V → Prop) (e : Exit) (S : AS) : Prop :=
  (e = .ret ∨ e = .normal) ∧ ((∃ q o F, get S.objs q = some o ∧ o.sz = sz ∧ o.ty = ty ∧ o.es.all flatE = true ∧ aresO P S q o.v fn.results.toList = some F ∧ R F o.es) ∨
    ∃ F, aresO P S 0 (S.nx + 1) fn.results.toList = some F ∧ R F [])
theorem aresO_run {D : Nat → Prop} {μ : Mu} {a : Act} {w : World} (h : RelM D w0 N0 μ S a w) {fn : Func} {q vq : Nat} {F : Nat → Nat → V} (hv : aresO P S q vq fn.results.toList = some F) :
    ∃ x, (results fn a.tmps).run P w = .ok x w ∧ ∀ d v (μ' : Mu) N', (∀ l, μ q vq = some l → μ' d v = some l) → Enc w N' μ' x (F d v) := by
  have key : ∀ (l : List ResultVar) (vs : List V), aresL P S l = some vs → ∃ xs : List Value, (l.mapM (resSem a.tmps)).run P w = .ok xs w ∧
      xs.length = vs.length ∧ ∀ (i : Nat) x v, xs[i]? = some x → vs[i]? = some v → Enc w (Own N0 μ S) μ x v := by
    intro l
    induction l with
    | nil => intro vs hvs; simp only [aresL, Option.some.injEq] at hvs; subst hvs; exact ⟨[], rfl, rfl, by simp⟩
    | cons q l ih =>
      intro vs hvs
      simp only [aresL] at hvs
      split at hvs
      case h_2 => cases hvs
      rename_i v vs' h1 h2
      injection hvs with hvs
      subst hvs
      obtain ⟨x, hx, hex⟩ := aresult_run h h1
      obtain ⟨xs, hxs, hl, hh⟩ := ih vs' h2
      refine ⟨x :: xs, ?_, by simp [hl], fun i y v hy hv => ?_⟩
      · rw [List.mapM_cons, Sem.run_bind, hx, Result.andThen_ok, Sem.run_bind, hxs, Result.andThen_ok]
        rfl
      · rcases i with _ | i
        · simp at hy hv; subst hy; subst hv; exact hex
        · simp at hy hv; exact hh i y v hy hv
  have hmap : ∀ xs : List Value, (fn.results.toList.mapM (resSem a.tmps)).run P w = .ok xs w →
      (results fn a.tmps).run P w = .ok (if h : xs.toArray.size = 1 then xs.toArray[0] else .tuple xs.toArray) w := by
    intro xs hxs
    rw [results_eq, Sem.run_bind, Array.mapM_eq_mapM_toList, Sem.run_map, hxs]
    rfl
  unfold aresO at hv
  split at hv
  · rename_i v hvs
    split at hv
    case isFalse => cases hv
    rename_i hl
    injection hv with hv
    subst hv
    obtain ⟨xs, h1, h2, h3⟩ := key _ _ hvs
    match xs, h2 with
    | [x], _ => exact ⟨x, hmap [x] h1, fun d v' μ' N' hμ => (h3 0 x _ rfl rfl).re hl hμ⟩
  · rename_i vs hne hvs
    split at hv
    case isFalse => cases hv
    rename_i hl
    injection hv with hv
    subst hv
    obtain ⟨xs, h1, h2, h3⟩ := key _ _ hvs
    refine ⟨.tuple xs.toArray, ?_, fun d v' μ' N' hμ => .tup xs _ (by simp [h2]) (fun i x c hx hc => ?_)⟩
    · rw [hmap xs h1]
      have : ¬ xs.toArray.size = 1 := by
        intro h0
        have hl : vs.length = 1 := by simp at h0; omega
        match vs, hl with
        | [v], _ => exact hne v rfl
      rw [dif_neg this]
    · simp only [List.getElem?_map, Option.map_eq_some_iff] at hc
      obtain ⟨c0, hc0, rfl⟩ := hc
      exact (h3 i x c0 hx hc0).re (List.all_eq_true.1 hl c0 (List.mem_of_getElem? hc0)) hμ
  · cases hv
theorem aco_intro {f : FuncId} {fn : Func} {c : Code} {args : List V} {sz : Nat} {ty : TypeId} {R : (Nat → Nat → V) → List V → Prop} (hf : P.funcs[f]? = some fn) (hb : fn.body = some c) (hl : args.length ≤ fn.ntmps)
    (h : ∀ w0 N0, AW P w0 N0 c (EndsO P fn sz ty R) ⟨env0 0 args, [], 0, fn.ntmps⟩) : ACO P f args sz ty R := by
  intro w N xs hN hlen hp
  refine calls_of_wp hf hb (wp_mono (h ⟨w, fun _ => False, fun _ _ => none, []⟩ N _ w ⟨fun _ _ => none, ⟨rfl, ?_, Bs.Below.refl _, ⟨fun b hb => ⟨hN b hb, fun h => h⟩, fun _ _ _ h => by cases h⟩, fun d v hv => absurd rfl hv, fun d o hd => ?_, fun d o _ _ _ _ _ hd => ?_, fun t v hv => ?_⟩⟩) ?_)
  · simp only [Array.size_append, List.size_toArray, Array.size_replicate]; omega
  · simp [get] at hd
  · simp [get] at hd
  · obtain ⟨_, h2⟩ := get_env0 hv
    simp only [Nat.sub_zero] at h2
    have ht : t < args.length := (List.getElem?_eq_some_iff.1 h2).1
    refine ⟨by simp only; omega, .pur ?_⟩
    have hx : xs[t]? = some xs[t] := List.getElem?_eq_getElem (by omega)
    have := hp t xs[t] v hx h2
    have hget : (xs.toArray ++ Array.replicate (fn.ntmps - xs.toArray.size) undef).getD t undef = xs[t] := by
      rw [Array.getD_eq_getD_getElem?, Array.getElem?_append_left (by simp; omega)]
      simp [hx]
    rw [hget]
    exact this.keep (Keeps.refl _ _) (fun b hb ho => by
      rcases ho with h0 | ⟨d, o, c, h1, _⟩
      · exact h0
      · simp [get] at h1)
  · rintro e a' w' ⟨S', ⟨he, hE⟩, ⟨μ, hr⟩⟩
    have key : ∃ v, (results fn a'.tmps).run P w' = .ok v w' ∧ ∃ x F es l, Ending.returned v = .returned x ∧ R F es ∧ Below w.heap.size w w' ∧
        ∀ d v μ N', μ d v = some l → Enc w' N' μ x (F d v) ∧ ObEnc w' N' μ ⟨w, fun _ => False, fun _ _ => none, []⟩ ⟨v, sz, ty, es⟩ l := by
      rcases hE with ⟨q, o, F, hq, hsz, hty, hfl, hres, hR⟩ | ⟨F, hres, hR⟩
      · obtain ⟨x, hx, hex⟩ := aresO_run hr hres
        obtain ⟨l, hl, hob⟩ := hr.objs q o hq
        refine ⟨x, hx, x, F, o.es, l, rfl, hR, hr.below.plain, fun d v μ' N' hμ => ⟨hex d v μ' N' (fun l' hl' => ?_), ?_⟩⟩
        · rw [hl] at hl'; injection hl' with hl'; subst hl'; exact hμ
        · subst hsz; subst hty
          cases l with
          | none => exact hob
          | some gc =>
            obtain ⟨h1, h2, h3, h4, arr, h5, h6, h7⟩ := hob
            refine ⟨h1, h2, h3, h4, arr, h5, h6, fun k e j c he' hj => ?_⟩
            obtain ⟨y, hy, hey⟩ := h7 k e j c he' hj
            have hfc : c.flat = true := List.all_eq_true.1 (List.all_eq_true.1 hfl e (List.mem_of_getElem? he')) c (List.mem_of_getElem? hj)
            refine ⟨y, hy, ?_⟩
            exact .pur ((hey.flatP hfc).of_flat hfc)
      · obtain ⟨x, hx, hex⟩ := aresO_run hr hres
        refine ⟨x, hx, x, F, [], none, rfl, hR, hr.below.plain, fun d v μ' N' hμ => ⟨hex d v μ' N' (fun l' hl' => ?_), rfl⟩⟩
        exfalso
        rcases hr.fresh 0 (S'.nx + 1) (by rw [hl']; simp) with h1 | ⟨j, hj, _⟩
        · omega
        · exact hj
    rcases he with rfl | rfl
    · exact ⟨hr.defers, key⟩
    · exact ⟨hr.defers, key⟩
theorem endso_row {fn : Func} {sz : Nat} {ty : TypeId} {R : (Nat → Nat → V) → List V → Prop} {F : Nat → Nat → V} (q : Nat) {o : Ob} (ho : get S.objs q = some o) (hsz : o.sz = sz) (hty : o.ty = ty) (hfl : o.es.all flatE = true) (hr : aresO P S q o.v fn.results.toList = some F) (h : R F o.es) : EndsO P fn sz ty R .ret S :=
  ⟨.inl rfl, .inl ⟨q, o, F, ho, hsz, hty, hfl, hr, h⟩⟩
attribute [simp] aresO aresL V.liteE V.liteC V.re V.reC flatE
end
end Go.Eng

namespace Go.Eng
open Go.RowKit
def V.slen : V → Option Nat
  | .ro _ es => some es.length
  | .nils => some 0
  | .sl _ _ _ n => some n
  | .ss _ _ _ _ n => some n
  | _ => none
attribute [simp] V.slen
def tslice (P : Program) (t : TypeId) : Bool := match P.underlying t with | some (.slice _) => true | _ => false
section
variable {P : Program} {w0 : Bs} {N0 : Nat → Prop} {Q : Exit → AS → Prop} {S : AS}
theorem Enc.slen {w : World} {N : Nat → Prop} {μ : Mu} {x : Value} {v : V} {n : Nat} (h : Enc w N μ x v) (hn : v.slen = some n) : ∃ A l c, x = .slice A l c ∧ (A = none → n = 0) := by
  cases h with
  | pur h =>
    cases h with
    | ro A ad m cap sz es g h1 h2 h3 h4 =>
      simp only [V.slen, Option.some.injEq] at hn
      refine ⟨A, m, cap, rfl, fun hA => ?_⟩
      rcases Nat.eq_zero_or_pos m with h0 | h0
      · omega
      · have := (h4 h0).1; rw [hA] at this; cases this
    | nils A => simp only [V.slen, Option.some.injEq] at hn; exact ⟨A, 0, 0, rfl, fun _ => hn.symm⟩
    | _ => simp [V.slen] at hn
  | slr d v sz len g cap h1 h2 h3 => exact ⟨_, _, _, rfl, fun hA => by cases hA⟩
  | slv d v sz A h1 => simp only [V.slen, Option.some.injEq] at hn; exact ⟨A, 0, 0, rfl, fun _ => hn.symm⟩
  | ss d v sz off len g c cap A h1 h2 h3 =>
    simp only [V.slen, Option.some.injEq] at hn
    refine ⟨A, len, c, rfl, fun hA => ?_⟩
    rcases Nat.eq_zero_or_pos len with h0 | h0
    · omega
    · have := (h3 h0).2; rw [hA] at this; cases this
  | _ => simp [V.slen] at hn
theorem run_equal_nil {t e : TypeId} {w : World} (hty : P.underlying t = some (.slice e)) (A : Option Addr) (m c l c' : Nat) : ∀ d, (Op.equalIn (d + 1) t (.slice A m c) (.slice none l c')).run P w = .ok A.isNone w := by
  intro d
  have hu := run_underlying (w := w) hty
  cases A with
  | none => simp [Op.equalIn, hu]
  | some ad => simp [Op.equalIn, hu]
theorem awl_isnil {ops : List Oper} {i : Nat} {o : Oper} {rest : List Oper} {x : Operand} {t t' : TypeId} {v : V} {n l c : Nat} (hg : o.guard = none) (ho : o.op = .binOp .eql t x (.const (.slice none l c)) t') (hx : S.evc true x = some v) (hn : v.slen = some n) (ht : tslice P t = true)
    (h : ∀ b : Bool, (b = true → n = 0) → ∃ S', S.putv o.dst (.bool b) = some S' ∧ AWL P w0 N0 ops Q (i + 1) rest S') : AWL P w0 N0 ops Q i (o :: rest) S := by
  rintro D a w hD ⟨μ, hr⟩
  refine wpList_plain hg fun K hK => ?_
  obtain ⟨A, m, cc, he, hA⟩ := (hr.evc hx rfl).slen hn
  obtain ⟨S', hs, hrest⟩ := h A.isNone (fun hb => hA (by simpa using hb))
  have hty : ∃ e, P.underlying t = some (.slice e) := by
    unfold tslice at ht
    split at ht
    · exact ⟨_, by assumption⟩
    · cases ht
  obtain ⟨e, hty⟩ := hty
  unfold Oper.wp
  have hrun : (execOp a.eval o).run P w = .ok (.value (.bool A.isNone)) w := by
    unfold execOp
    rw [ho]
    have hq := run_equal_nil (w := w) hty A m cc l c 9999
    have hb : (binOp .eql t (.slice A m cc) (.slice none l c) : Sem Value) = (do pure (.bool (← Op.equalIn (9999 + 1) t (.slice A m cc) (.slice none l c)))) := rfl
    have he2 : a.eval (.const (.slice none l c)) = .slice none l c := rfl
    have hgd : (eqGuard .eql t x (.const (.slice none l c)) (.slice A m cc) (.slice none l c) : Sem Unit) = pure () := rfl
    simp only [he, he2, hgd, hb, Sem.run_bind, Sem.run_pure, Result.andThen_ok, hq]
  rw [hrun]
  exact hK _ _ (hrest D _ w (fun j hj => Nat.lt_succ_of_lt (hD j hj)) ⟨μ, hr.putv hs (.pur (.bool _))⟩)
end
end Go.Eng

namespace Go.Eng
open Go.RowKit
section
variable {P : Program} {w0 : Bs} {N0 : Nat → Prop} {Q : Exit → AS → Prop} {S : AS}
end
end Go.Eng

namespace Go.Eng
open Go.RowKit
def RowAt (w : World) (g : Nat) (ty : TypeId) (sz cap : Nat) (es : List V) : Prop :=
  es.length ≤ cap ∧ (∀ e ∈ es, e.fits sz) ∧ ∃ arr, w.heap[g]? = some (.cells arr ty (0, 0)) ∧ arr.size = cap * sz ∧
    ∀ (k : Nat) e (j : Nat) c, es[k]? = some e → e.cells[j]? = some c → ∃ x, arr[k * sz + j]? = some x ∧ Pur w (fun _ => False) x c
def ACI (P : Program) (f : FuncId) (sz : Nat) (ty : TypeId) (es es' : List V) (F : Nat → Nat → V) : Prop :=
  (∀ (w : World) (g cap : Nat), cap ≤ maxLen → RowAt w g ty sz cap es → Calls P f #[.slice (some ⟨g, 0, none⟩) es.length cap] w (fun e w' => ∃ x, e = .returned x ∧ w.grownBy w' (some g) ∧ RowAt w' g ty sz cap es' ∧
      ∀ d v μ N', μ d v = some (some (g, cap)) → Enc w' N' μ x (F d v))) ∧
  (es = [] → es' = [] ∧ ∀ (w : World) A, Calls P f #[.slice A 0 0] w (fun e w' => ∃ x, e = .returned x ∧ w.grownBy w' none ∧ ∀ d v μ N', μ d v = some none → Enc w' N' μ x (F d v)))
section
variable {P : Program} {w0 : Bs} {N0 : Nat → Prop} {Q : Exit → AS → Prop} {S : AS}
theorem Keeps.of_grown {w w' : World} {row : Option Nat} {N : Nat → Prop} (h : w.grownBy w' row) (hr : ∀ g, row = some g → N g) : Keeps w N w' :=
  ⟨h.size, fun b hb hN => h.block b hb (fun e => hN (hr b e.symm))⟩
theorem awl_callI {ops : List Oper} {i : Nat} {o : Oper} {rest : List Oper} {f x : Operand} {fid : FuncId} {fn : Func} {ats : Array TypeId} {d v sz : Nat} {ty : TypeId} {es es' : List V} {F : Nat → Nat → V} {S' : AS}
    (hc : ACI P fid sz ty es es' F) (hfl : es.all flatE = true) (hfl' : es'.all flatE = true) (hfn : P.funcs[fid]? = some fn) (hb : fn.body.isSome = true) (hn : (fn.name == "runtime.NumGoroutine") = false)
    (hg : o.guard = none) (hop : o.op = .call { callee := .value f, args := #[x], argTypes := ats }) (hf : S.evc true f = some (.fn fid))
    (hx : S.evc true x = some (.sl d v sz es.length)) (ho : get S.objs d = some ⟨v, sz, ty, es⟩) (hs : ({ S with objs := (d, ⟨v, sz, ty, es'⟩) :: S.objs } : AS).putv o.dst (F d v) = some S')
    (h : AWL P w0 N0 ops Q (i + 1) rest S') : AWL P w0 N0 ops Q i (o :: rest) S := by
  rintro D a w hD ⟨μ, hr⟩
  refine wpList_plain hg fun K hK => ?_
  have hfv := hr.evc hf rfl
  have hfe : a.eval f = .func (.func fid) #[] #[] := by
    generalize a.eval f = y at hfv
    cases hfv with
    | pur hfv => cases hfv with
      | fn => rfl
  have hxv := hr.evc hx rfl
  obtain ⟨l, hl, hob⟩ := hr.objs d _ ho
  unfold Oper.wp
  rw [run_call_fn hop hfe hfn hb hn]
  have hmap : #[x].map a.eval = #[a.eval x] := by simp
  rw [hmap]
  have finish : ∀ (e : Ending) (w' : World) (xv : Value) (row : Option Nat), e = .returned xv → w.grownBy w' row → (∀ g, row = some g → ∃ c, l = some (g, c)) → (∀ N', ObEnc w' N' μ w0 ⟨v, sz, ty, es'⟩ l) → (∀ N', Enc w' N' μ xv (F d v)) →
      ∃ r, e = .returned r ∧ K (a.put o.dst r) w' := by
    rintro e w' xv row rfl hgr hrow hob' henc
    refine ⟨xv, rfl, ?_⟩
    have hbel : w0.Below w' := hr.below.grown hgr hr.below.size (fun k hk => by
      obtain ⟨c, e⟩ := hrow k hk
      rw [e] at hob
      exact hob.1)
    obtain ⟨hrel, _⟩ := hr.update (D' := D) (d := d) (o' := ⟨v, sz, ty, es'⟩) (l' := l) (w' := w') (μ' := μ) (fun _ _ _ hh => hh) hr.fresh hl hbel
      (Keeps.of_grown hgr (fun g hg => by obtain ⟨c, e⟩ := hrow g hg; exact .inr ⟨d, _, c, ho, by rw [hl, e]⟩))
      (fun d1 o1 g c hne h1 h2 => hgr.block g (hr.block_lt h1 h2) (fun e => by
        obtain ⟨c', e'⟩ := hrow g e.symm
        exact hne (hr.inj _ _ _ _ _ _ _ h1 ho h2 (by rw [hl, e']))))
      (fun g c e => .inr ⟨_, c, ho, by rw [hl, e]⟩) (fun N' _ => hob' N')
    exact hK _ _ (h D _ w' (fun j hj => Nat.lt_succ_of_lt (hD j hj)) ⟨μ, hrel.putv hs (henc _)⟩)
  have flatEnc : ∀ {w1 w2 : World} {N1 : Nat → Prop} {μ1 : Mu} {y : Value} {c : V}, c.flat = true → Enc w1 N1 μ1 y c → Pur w2 (fun _ => False) y c := by
    intro w1 w2 N1 μ1 y c hcf hy
    exact (hy.flatP hcf).of_flat hcf
  generalize hxe : a.eval x = xv at hxv
  have hcall : Calls P fid #[xv] w (fun e w' => ∃ r, e = .returned r ∧ K (a.put o.dst r) w') := by
    generalize hve : V.sl d v sz es.length = sv at hxv
    cases hxv with
    | pur hxv => cases hxv <;> cases hve
    | slr d' v' sz' len g cap h1 h2 h3 =>
      cases hve
      rw [hl] at h1
      injection h1 with h1
      subst h1
      obtain ⟨b1, b2, b3, b4, arr, b5, b6, b7⟩ := hob
      refine (hc.1 w g cap h3 ⟨b2, b4, arr, b5, b6, fun k e j c he hj => ?_⟩).mono ?_
      · obtain ⟨y, hy, hey⟩ := b7 k e j c he hj
        exact ⟨y, hy, flatEnc (List.all_eq_true.1 (List.all_eq_true.1 hfl e (List.mem_of_getElem? he)) c (List.mem_of_getElem? hj)) hey⟩
      · rintro e w' ⟨r, he, hgr, ⟨c1, c2, arr', c3, c4, c5⟩, henc⟩
        refine finish e w' r (some g) he hgr (fun g' hg' => by cases hg'; exact ⟨cap, rfl⟩) (fun N' => ⟨b1, c1, h3, c2, arr', c3, c4, fun k e j c he hj => ?_⟩) (fun N' => henc d v μ N' hl)
        obtain ⟨y, hy, hey⟩ := c5 k e j c he hj
        exact ⟨y, hy, .pur (hey.of_flat (List.all_eq_true.1 (List.all_eq_true.1 hfl' e (List.mem_of_getElem? he)) c (List.mem_of_getElem? hj)))⟩
    | slv d' v' sz' A h1 =>
      injection hve with e1 e2 e3 e4
      subst e1; subst e2; subst e3
      rw [hl] at h1
      injection h1 with h1
      subst h1
      have he0 : es = [] := hob
      obtain ⟨h2, h3⟩ := hc.2 he0
      refine (h3 w A).mono ?_
      rintro e w' ⟨r, he, hgr, henc⟩
      exact finish e w' r none he hgr (fun g hg => by cases hg) (fun N' => h2) (fun N' => henc d v μ N' hl)
    | _ => cases hve
  refine hcall.mono ?_
  rintro e w' ⟨r, rfl, hk⟩
  exact hk
end
end Go.Eng

namespace Go.Eng
open Go.RowKit
def AS.viewT (S : AS) : V → Option V
  | .tup vs => match S.views vs with
    | some us => some (.tup us)
    | none => none
  | v => S.view v
theorem ACO.ac {P : Program} {f : FuncId} {args : List V} {sz : Nat} {ty : TypeId} {R : (Nat → Nat → V) → List V → Prop} {R' : V → Prop} (h : ACO P f args sz ty R)
    (hv : ∀ F es, R F es → ∃ u, AS.viewT ⟨[], [(0, ⟨0, sz, ty, es⟩)], 1, 0⟩ (F 0 0) = some u ∧ R' u) : AC P f args R' := by
  intro w N xs h1 h2 h3
  refine (h w N xs h1 h2 h3).mono ?_
  rintro e w' ⟨x, F, es, l, rfl, hR, hb, henc⟩
  obtain ⟨u, hu, hR'⟩ := hv F es hR
  refine ⟨x, u, rfl, hR', ?_, hb⟩
  generalize hS : (⟨[], [(0, ⟨0, sz, ty, es⟩)], 1, 0⟩ : AS) = S at hu
  let μ : Mu := fun d v => if d = 0 ∧ v = 0 then some l else none
  have hμ : μ 0 0 = some l := by simp [μ]
  have hr : RelM (fun _ => False) ⟨w, fun _ => False, fun _ _ => none, []⟩ N μ S ⟨#[], []⟩ w' := by
    subst hS
    refine ⟨rfl, rfl, ⟨hb.os, hb.tape, hb.output, hb.size, fun k hk _ => hb.block k hk⟩, ⟨fun b hb => ⟨h1 b hb, fun h => h⟩, fun _ _ _ h => by cases h⟩, fun d v hdv => ?_, fun d o hd => ?_, fun d o d' o' g c c' g1 g2 _ _ => ?_, fun t v ht => by simp [get] at ht⟩
    · left
      by_cases e : d = 0 ∧ v = 0
      · simp only; omega
      · simp [μ, e] at hdv
    · simp only [get_cons] at hd
      split at hd
      · rename_i e0
        subst e0
        injection hd with hd
        subst hd
        exact ⟨l, hμ, (henc 0 0 μ _ hμ).2⟩
      · simp [get] at hd
    · simp only [get_cons] at g1 g2
      split at g1
      · split at g2
        · omega
        · simp [get] at g2
      · simp [get] at g1
  have hx := (henc 0 0 μ (Own N μ S) hμ).1
  generalize F 0 0 = r at hx hu
  unfold AS.viewT at hu
  split at hu
  · rename_i vs
    split at hu
    case h_2 => cases hu
    rename_i us hus
    injection hu with hu
    subst hu
    obtain ⟨h4, h5⟩ := views_spec hus
    have key : ∀ ys : List Value, ys.length = vs.length → (∀ (i : Nat) y c, ys[i]? = some y → vs[i]? = some c → Enc w' (Own N μ S) μ y c) → Pur w' N (.tuple ys.toArray) (.tup us) := by
      intro ys hl hh
      refine .tup ys us (by rw [hl, h4]) (fun i y c hy hc => ?_)
      have hi : i < vs.length := by rw [← h4]; exact (List.getElem?_eq_some_iff.1 hc).1
      exact hr.view (hh i y vs[i] hy (List.getElem?_eq_getElem hi)) (h5 i vs[i] c (List.getElem?_eq_getElem hi) hc)
    cases hx with
    | pur hx => cases hx with
      | tup ys _ hl hh => exact key ys hl (fun i y c a b => .pur (hh i y c a b))
    | tup ys _ hl hh => exact key ys hl hh
  · exact hr.view hx hu
attribute [simp] AS.viewT
end Go.Eng

namespace Go.Eng
open Go.RowKit
end Go.Eng

namespace Go.Eng
open Go.RowKit Go.ChangeShapes Go.WideShapes Go.ChangeAt
def okT1 (P : Program) (L : List TypeId) (t : TypeId) : Bool := match P.underlying t with
  | some .bool | some (.int _) | some .string => P.cellsOf t == 1
  | some (.slice e) => (P.cellsOf t == 1) && decide (0 < P.cellsOf e) && L.contains e
  | some (.struct fs) => laidFs P fs.toList 0 (P.cellsOf t) && fs.toList.all fun f => L.contains f.type
  | _ => false
def okL (P : Program) (L : List TypeId) : Bool := L.all (okT1 P L)
section
variable {H : Type} {enc : TypeId × Value → H} {P : Program} {w : World} {base : Nat} {spare : Nat → Bool} {held : Bool}
def RdW (P : Program) (t : TypeId) (v : V) : Prop := ∃ n vs, Rd P n t vs ∧ v = mkV (tagg P t) vs
end
def RdAllW (P : Program) : List TypeId → List V → Prop
  | [], vs => vs = []
  | t :: ts, vs => ∃ u us, vs = u :: us ∧ RdW P t u ∧ RdAllW P ts us
end Go.Eng

namespace Go.Eng
open Go.RowKit
def Relax (v v' : V) : Prop := (∀ (w : World) (N : Nat → Prop) (x : Value), Pur w N x v → Pur w N x v') ∧ (v.isCell = true → v'.isCell = true)
inductive RelaxL : List V → List V → Prop
  | nil : RelaxL [] []
  | cons {v v' : V} {l l' : List V} (h : Relax v v') (t : RelaxL l l') : RelaxL (v :: l) (v' :: l')
theorem Relax.refl (v : V) : Relax v v := ⟨fun _ _ _ h => h, id⟩
theorem Relax.trans {u v w : V} (h : Relax u v) (k : Relax v w) : Relax u w := ⟨fun a b c d => k.1 a b c (h.1 a b c d), fun c => k.2 (h.2 c)⟩
theorem Pur.nils_ro {w : World} {N : Nat → Prop} {x : Value} (sz : Nat) (h : Pur w N x .nils) : Pur w N x (.ro sz []) := by
  cases h with
  | nils A => exact .ro A ⟨0, 0, none⟩ 0 0 sz [] (fun _ _ => undef) rfl (Nat.le_refl _) (Nat.zero_le _) (fun h0 => by omega) (by simp) (by simp) (by simp)
theorem RelaxL.length {l l' : List V} (h : RelaxL l l') : l.length = l'.length := by induction h <;> simp_all
theorem RelaxL.get {l l' : List V} (h : RelaxL l l') : ∀ (i : Nat) v', l'[i]? = some v' → ∃ v, l[i]? = some v ∧ Relax v v' := by
  induction h with
  | nil => intro i v' h; simp at h
  | cons h _ ih =>
    intro i v' hv
    rcases i with _ | i
    · simp at hv; subst hv; exact ⟨_, rfl, h⟩
    · simp at hv; obtain ⟨v, h1, h2⟩ := ih i v' hv; exact ⟨v, by simpa using h1, h2⟩
theorem RelaxL.refl : ∀ l : List V, RelaxL l l
  | [] => .nil
  | v :: l => .cons (Relax.refl v) (RelaxL.refl l)
theorem Relax.agg {cs ds : List V} (h : RelaxL cs ds) : Relax (.agg cs) (.agg ds) := by
  refine ⟨fun w N x hx => ?_, fun h => by simp [V.isCell] at h⟩
  cases hx with
  | agg xs _ hl hc hh =>
    refine .agg xs ds (by rw [hl, h.length]) (fun c hc' => ?_) (fun i x c hx' hc' => ?_)
    · obtain ⟨i, hi⟩ := List.getElem?_of_mem hc'
      obtain ⟨v, h1, h2⟩ := h.get i c hi
      exact h2.2 (hc v (List.mem_of_getElem? h1))
    · obtain ⟨v, h1, h2⟩ := h.get i c hc'
      exact h2.1 _ _ _ (hh i x v hx' h1)
theorem Relax.tup {cs ds : List V} (h : RelaxL cs ds) : Relax (.tup cs) (.tup ds) := by
  refine ⟨fun w N x hx => ?_, fun h => by simp [V.isCell] at h⟩
  cases hx with
  | tup xs _ hl hh =>
    refine .tup xs ds (by rw [hl, h.length]) (fun i x c hx' hc' => ?_)
    obtain ⟨v, h1, h2⟩ := h.get i c hc'
    exact h2.1 _ _ _ (hh i x v hx' h1)
theorem Relax.ro {sz : Nat} {es fs : List V} (h : RelaxL es fs) (hf : ∀ (k : Nat) e f, es[k]? = some e → fs[k]? = some f → e.cells.length = f.cells.length ∧ (∀ (j : Nat) c d, e.cells[j]? = some c → f.cells[j]? = some d → Relax c d)) : Relax (.ro sz es) (.ro sz fs) := by
  refine ⟨fun w N x hx => ?_, fun _ => rfl⟩
  cases hx with
  | ro A ad n cap _ _ g hn hcap hmax hA hfit hc hh =>
    have hl := h.length
    have at_ : ∀ (k : Nat) f, fs[k]? = some f → ∃ e, es[k]? = some e ∧ e.cells.length = f.cells.length ∧ (∀ (j : Nat) c d, e.cells[j]? = some c → f.cells[j]? = some d → Relax c d) := by
      intro k f hk
      obtain ⟨e, h1, _⟩ := h.get k f hk
      exact ⟨e, h1, hf k e f h1 hk⟩
    refine .ro A ad n cap sz fs g (by rw [← hl]; exact hn) hcap hmax hA (fun f hf' => ?_) (fun k f j d hk hj => ?_) (fun k f j d hk hj => ?_)
    · obtain ⟨k, hk⟩ := List.getElem?_of_mem hf'
      obtain ⟨e, h1, h2, h3⟩ := at_ k f hk
      have hfe := hfit e (List.mem_of_getElem? h1)
      refine ⟨by rw [← h2]; exact hfe.1, fun d hd => ?_⟩
      obtain ⟨j, hj⟩ := List.getElem?_of_mem hd
      have hlt : j < e.cells.length := by rw [h2]; exact (List.getElem?_eq_some_iff.1 hj).1
      exact (h3 j _ d (List.getElem?_eq_getElem hlt) hj).2 (hfe.2 _ (List.getElem_mem hlt))
    · obtain ⟨e, h1, h2, h3⟩ := at_ k f hk
      have hlt : j < e.cells.length := by rw [h2]; exact (List.getElem?_eq_some_iff.1 hj).1
      exact hc k e j _ h1 (List.getElem?_eq_getElem hlt)
    · obtain ⟨e, h1, h2, h3⟩ := at_ k f hk
      have hlt : j < e.cells.length := by rw [h2]; exact (List.getElem?_eq_some_iff.1 hj).1
      exact (h3 j _ d (List.getElem?_eq_getElem hlt) hj).1 _ _ _ (hh k e j _ h1 (List.getElem?_eq_getElem hlt))
end Go.Eng

namespace Go.Eng
open Go.RowKit
theorem Pur.ro_len {w : World} {N : Nat → Prop} {x : Value} {sz : Nat} {es : List V} (h : Pur w N x (.ro sz es)) : es.length ≤ maxLen := by
  cases h with
  | ro A ad n cap _ _ g hn hcap hmax _ _ _ _ => omega
theorem ac_lenR {P : Program} {f : FuncId} {args : List V} {R : V → Prop} (i : Nat) {sz : Nat} {es : List V} (h : args[i]? = some (.ro sz es)) (k : es.length ≤ maxLen → AC P f args R) : AC P f args R := by
  intro w N xs h1 h2 h3
  have hi : i < xs.length := by rw [h2]; exact (List.getElem?_eq_some_iff.1 h).1
  exact k (h3 i xs[i] _ (List.getElem?_eq_getElem hi) h).ro_len w N xs h1 h2 h3
end Go.Eng

namespace Go.Eng
open Go.RowKit
def V.frzC (d v sz : Nat) (es : List V) : V → V
  | .sl d' v' sz' len => if d' = d ∧ v' = v ∧ sz' = sz ∧ es.length = len then .ro sz es else .sl d' v' sz' len
  | .ss d' v' sz' off len => if d' = d ∧ v' = v ∧ sz' = sz ∧ off + len ≤ es.length then .ro sz ((es.drop off).take len) else .ss d' v' sz' off len
  | .bp d' v' sz' k off => if d' = d ∧ v' = v ∧ sz' = sz ∧ off = 0 then (match nth es k with | some e => .rp e | none => .bp d' v' sz' k off) else .bp d' v' sz' k off
  | u => u
def V.frzA (d v sz : Nat) (es : List V) : V → V
  | .agg cs => .agg (cs.map (V.frzC d v sz es))
  | u => u.frzC d v sz es
def V.frz (d v sz : Nat) (es : List V) : V → V
  | .agg cs => .agg (cs.map (V.frzC d v sz es))
  | .tup vs => .tup (vs.map (V.frzA d v sz es))
  | u => u.frzC d v sz es
def eraseK {α : Type} (d : Nat) : List (Nat × α) → List (Nat × α)
  | [] => []
  | (k, x) :: r => if k = d then eraseK d r else (k, x) :: eraseK d r
theorem get_eraseK {α : Type} (d t : Nat) : ∀ (l : List (Nat × α)) (x : α), get (eraseK d l) t = some x → t ≠ d ∧ get l t = some x
  | [], x, h => by simp [eraseK, get] at h
  | (k, y) :: r, x, h => by
    unfold eraseK at h
    split at h
    · rename_i e
      obtain ⟨h1, h2⟩ := get_eraseK d t r x h
      refine ⟨h1, ?_⟩
      rw [get_cons, if_neg (by omega)]
      exact h2
    · rename_i e
      rw [get_cons] at h ⊢
      split at h
      · rename_i e2; exact ⟨by omega, by rw [if_pos e2]; exact h⟩
      · rename_i e2
        obtain ⟨h1, h2⟩ := get_eraseK d t r x h
        exact ⟨h1, by rw [if_neg e2]; exact h2⟩
theorem get_mapK {α β : Type} (f : α → β) (t : Nat) : ∀ (l : List (Nat × α)) (y : β), get (mapK f l) t = some y → ∃ x, get l t = some x ∧ f x = y
  | [], y, h => by simp [mapK, get] at h
  | (k, x) :: r, y, h => by
    unfold mapK at h
    rw [get_cons] at h
    rw [get_cons]
    split at h
    · rename_i e; rw [if_pos e]; injection h with h; exact ⟨x, rfl, h⟩
    · rename_i e; rw [if_neg e]; exact get_mapK f t r y h
def AS.freeze (S : AS) (d : Nat) : Option AS :=
  match get S.objs d with
  | some o => if o.es.all V.pureE = true then some { S with env := mapK (V.frz d o.v o.sz o.es) S.env, objs := mapK (fun q => { q with es := q.es.map (V.frzA d o.v o.sz o.es) }) (eraseK d S.objs) } else none
  | none => none
def AS.freezeK (S : AS) (d : Nat) (L M : List Nat) : Option AS :=
  match S.freeze d with
  | some S' => some (S'.keep L M)
  | none => none
attribute [simp] V.frzC V.frzA V.frz eraseK mapK AS.freeze AS.freezeK
section
variable {P : Program} {D : Nat → Prop} {w0 : Bs} {w : World} {N0 : Nat → Prop} {μ : Mu} {S : AS} {a : Act} {Q : Exit → AS → Prop}
theorem RelM.frzC (h : RelM D w0 N0 μ S a w) {d : Nat} {o : Ob} (ho : get S.objs d = some o) (hp : o.es.all V.pureE = true) {N' : Nat → Prop} (hsub : ∀ b, b < w.heap.size → N' b → Own N0 μ S b)
    (hd : ∀ g c, μ d o.v = some (some (g, c)) → ¬ N' g) {x : Value} {v : V} (hx : Enc w (Own N0 μ S) μ x v) : Enc w N' μ x (v.frzC d o.v o.sz o.es) := by
  have other : Enc w N' μ x v := hx.keep (Keeps.refl _ _) hsub (fun _ _ _ hh => hh)
  have key : ∀ (v : V) (es : List V), Enc w (Own N0 μ S) μ x v → S.elems v = some (o.sz, es) → es.all V.pureE = true → (∃ off len, v = .ss d o.v o.sz off len ∨ v = .sl d o.v o.sz len) → Enc w N' μ x (.ro o.sz es) := by
    intro v es hx hes hp hform
    refine .pur ?_
    obtain ⟨A, c, rfl, hlc, hrest⟩ := h.elems hx hes
    by_cases hne : es = []
    · subst hne
      have hc : c ≤ maxLen := by
        obtain ⟨off, len, rfl | rfl⟩ := hform
        · cases hx with
          | pur hx => cases hx
          | ss _ _ _ _ _ g c' cap A' h1 h2 h3 => exact h2
        · cases hx with
          | pur hx => cases hx
          | slr _ _ _ _ g cap h1 h2 h3 => exact h3
          | slv => simp [maxLen]
      exact .ro A ⟨0, 0, none⟩ 0 c _ [] (fun _ _ => undef) rfl hlc hc (fun h0 => absurd h0 (by simp)) (by simp) (by simp) (by simp)
    · obtain ⟨hf, ad, vs, rfl, hvl, hvc, hrow⟩ := hrest hne
      have hblk : ad.block < w.heap.size ∧ ¬ N' ad.block ∧ c ≤ maxLen := by
        have hpos := List.length_pos_iff.2 hne
        obtain ⟨off, len, rfl | rfl⟩ := hform
        · simp only [AS.elems, ho] at hes
          split at hes
          case isFalse => cases hes
          rename_i hb
          obtain ⟨_, _, hb3⟩ := hb
          simp only [Option.some.injEq, Prod.mk.injEq, true_and] at hes
          subst hes
          have hl' : ((o.es.drop off).take len).length = len := by simp; omega
          rw [hl'] at hpos hx
          cases hx with
          | pur hx => cases hx
          | ss _ _ _ _ _ g c' cap A' h1 h2 h3 =>
            obtain ⟨hm, hA⟩ := h3 hpos
            injection hA with hA
            subst hA
            exact ⟨h.block_lt ho hm, hd _ _ hm, h2⟩
        · simp only [AS.elems, ho] at hes
          split at hes
          case isFalse => cases hes
          rename_i hb
          obtain ⟨_, _, hb3⟩ := hb
          simp only [Option.some.injEq, Prod.mk.injEq, true_and] at hes
          subst hes
          rw [hb3] at hpos hx
          cases hx with
          | pur hx => cases hx
          | slr _ _ _ _ g cap hm h2 h3 => exact ⟨h.block_lt ho hm, hd _ _ hm, h3⟩
          | slv => exact absurd hpos (by simp)
      have hat : ∀ (k : Nat) e (j : Nat) c, es[k]? = some e → e.cells[j]? = some c → ∃ y, vs[k * o.sz + j]? = some y ∧ Enc w (Own N0 μ S) μ y c := by
        intro k e j c hk hj
        have hfl := flat_get hf hk hj
        have hlt : k * o.sz + j < vs.length := by rw [hrow.1]; exact (List.getElem?_eq_some_iff.1 hfl).1
        exact ⟨_, List.getElem?_eq_getElem hlt, hrow.2 _ _ c (List.getElem?_eq_getElem hlt) hfl⟩
      refine .ro _ ad es.length c o.sz es (fun k j => (vs[k * o.sz + j]?).getD undef) rfl hlc hblk.2.2 (fun _ => ⟨rfl, hblk.1, hblk.2.1⟩) hf (fun k e j c hk hj => ?_) (fun k e j c hk hj => ?_)
      · obtain ⟨y, hy, _⟩ := hat k e j c hk hj
        simp only [hy, Option.getD_some]
        exact hvc _ _ hy
      · obtain ⟨y, hy, hey⟩ := hat k e j c hk hj
        simp only [hy, Option.getD_some]
        have hpc : c.pureC = true := List.all_eq_true.1 (List.all_eq_true.1 hp e (List.mem_of_getElem? hk)) c (List.mem_of_getElem? hj)
        exact (hey.pureC hpc).keep (Keeps.refl _ _) hsub
  unfold V.frzC
  split
  · split
    · rename_i d' v' sz' len hc
      obtain ⟨rfl, rfl, rfl, hl⟩ := hc
      exact key _ o.es hx (by simp [AS.elems, ho, hl]) hp ⟨0, len, .inr rfl⟩
    · exact other
  · split
    · rename_i d' v' sz' off len hc
      obtain ⟨rfl, rfl, rfl, hl⟩ := hc
      refine key _ _ hx (by simp [AS.elems, ho, hl]) ?_ ⟨off, len, .inl rfl⟩
      rw [List.all_eq_true] at hp ⊢
      exact fun e he => hp e (List.mem_of_mem_drop (List.mem_of_mem_take he))
    · exact other
  · split
    · rename_i d' v' sz' k off hc
      obtain ⟨rfl, rfl, rfl, rfl⟩ := hc
      split
      · rename_i e he
        rw [nth_eq] at he
        cases hx with
        | pur hx => cases hx
        | bp _ _ _ _ _ g cap hm =>
          obtain ⟨l, hl, hob⟩ := h.objs d' o ho
          rw [hm] at hl
          injection hl with hl
          subst hl
          obtain ⟨b1, b2, b3, b4, arr, b5, b6, b7⟩ := hob
          have hpe := List.all_eq_true.1 hp e (List.mem_of_getElem? he)
          have hcell : ∀ j, w.cell? ((⟨g, k * o.sz + 0, none⟩ : Addr).add j) = arr[k * o.sz + j]? := by
            intro j
            rw [Addr.add_lit, Nat.add_zero]
            simp [World.cell?, b5]
          refine .pur (.rp ⟨g, k * o.sz + 0, none⟩ o.sz e (fun j => (arr[k * o.sz + j]?).getD undef) (h.block_lt ho hm) (hd _ _ hm) (b4 e (List.mem_of_getElem? he)) (fun j c hj => ?_) (fun j c hj => ?_))
          · obtain ⟨y, hy, _⟩ := b7 k e j c he hj
            rw [hcell, hy]; rfl
          · obtain ⟨y, hy, hey⟩ := b7 k e j c he hj
            simp only [hy, Option.getD_some]
            exact (hey.pureC (List.all_eq_true.1 hpe c (List.mem_of_getElem? hj))).keep (Keeps.refl _ _) hsub
      · exact other
    · exact other
  · exact other
theorem frzC_cell (d v sz : Nat) (es : List V) {c : V} (h : c.isCell = true) : (c.frzC d v sz es).isCell = true := by
  unfold V.frzC
  split
  · split <;> first | rfl | exact h
  · split <;> first | rfl | exact h
  · split
    · split <;> rfl
    · exact h
  · exact h
theorem frz_cells (d v sz : Nat) (es : List V) (e : V) : (e.frzA d v sz es).cells = e.cells.map (V.frzC d v sz es) := by
  cases e with
  | agg cs => rfl
  | sl d' v' sz' len => simp only [V.frzA, V.frzC, V.cells, List.map_cons, List.map_nil]; by_cases hc : d' = d ∧ v' = v ∧ sz' = sz ∧ es.length = len <;> simp [hc]
  | ss d' v' sz' off len => simp only [V.frzA, V.frzC, V.cells, List.map_cons, List.map_nil]; by_cases hc : d' = d ∧ v' = v ∧ sz' = sz ∧ off + len ≤ es.length <;> simp [hc]
  | bp d' v' sz' k off =>
    simp only [V.frzA, V.frzC, V.cells, List.map_cons, List.map_nil]
    by_cases hc : d' = d ∧ v' = v ∧ sz' = sz ∧ off = 0
    · simp only [if_pos hc]; cases nth es k <;> rfl
    · simp only [if_neg hc]
  | _ => rfl
theorem RelM.frzA (h : RelM D w0 N0 μ S a w) {d : Nat} {o : Ob} (ho : get S.objs d = some o) (hp : o.es.all V.pureE = true) {N' : Nat → Prop} (hsub : ∀ b, b < w.heap.size → N' b → Own N0 μ S b)
    (hd : ∀ g c, μ d o.v = some (some (g, c)) → ¬ N' g) {x : Value} {v : V} (hx : Enc w (Own N0 μ S) μ x v) : Enc w N' μ x (v.frzA d o.v o.sz o.es) := by
  cases v with
  | agg cs =>
    have key : ∀ xs : List Value, xs.length = cs.length → (∀ c ∈ cs, c.isCell = true) → (∀ (i : Nat) x c, xs[i]? = some x → cs[i]? = some c → Enc w (Own N0 μ S) μ x c) → Enc w N' μ (.agg xs.toArray) (.agg (cs.map (V.frzC d o.v o.sz o.es))) := by
      intro xs hl hc hh
      refine .agg xs _ (by simp [hl]) (fun c hc' => ?_) (fun i x c hx' hc' => ?_)
      · simp only [List.mem_map] at hc'
        obtain ⟨c0, hc0, rfl⟩ := hc'
        exact frzC_cell _ _ _ _ (hc c0 hc0)
      · simp only [List.getElem?_map, Option.map_eq_some_iff] at hc'
        obtain ⟨c0, hc0, rfl⟩ := hc'
        exact h.frzC ho hp hsub hd (hh i x c0 hx' hc0)
    cases hx with
    | pur hx => cases hx with
      | agg xs _ hl hc hh => exact key xs hl hc (fun i x c a b => .pur (hh i x c a b))
    | agg xs _ hl hc hh => exact key xs hl hc hh
  | _ => exact h.frzC ho hp hsub hd hx
theorem RelM.frz (h : RelM D w0 N0 μ S a w) {d : Nat} {o : Ob} (ho : get S.objs d = some o) (hp : o.es.all V.pureE = true) {N' : Nat → Prop} (hsub : ∀ b, b < w.heap.size → N' b → Own N0 μ S b)
    (hd : ∀ g c, μ d o.v = some (some (g, c)) → ¬ N' g) {x : Value} {v : V} (hx : Enc w (Own N0 μ S) μ x v) : Enc w N' μ x (v.frz d o.v o.sz o.es) := by
  cases v with
  | tup vs =>
    have key : ∀ xs : List Value, xs.length = vs.length → (∀ (i : Nat) x c, xs[i]? = some x → vs[i]? = some c → Enc w (Own N0 μ S) μ x c) → Enc w N' μ (.tuple xs.toArray) (.tup (vs.map (V.frzA d o.v o.sz o.es))) := by
      intro xs hl hh
      refine .tup xs _ (by simp [hl]) (fun i x c hx' hc' => ?_)
      simp only [List.getElem?_map, Option.map_eq_some_iff] at hc'
      obtain ⟨c0, hc0, rfl⟩ := hc'
      exact h.frzA ho hp hsub hd (hh i x c0 hx' hc0)
    cases hx with
    | pur hx => cases hx with
      | tup xs _ hl hh => exact key xs hl (fun i x c a b => .pur (hh i x c a b))
    | tup xs _ hl hh => exact key xs hl hh
  | agg cs => exact h.frzA ho hp hsub hd hx
  | _ => exact h.frzC ho hp hsub hd hx
theorem le_freeze {d : Nat} {S' : AS} (hs : S.freeze d = some S') : S.le S' := by
  rintro w0 N0 a w ⟨μ, h⟩
  unfold AS.freeze at hs
  split at hs
  case h_2 => cases hs
  rename_i o ho
  split at hs
  case isFalse => cases hs
  rename_i hp
  injection hs with hs
  subst hs
  generalize hS' : ({ S with env := mapK (V.frz d o.v o.sz o.es) S.env, objs := mapK (fun q => { q with es := q.es.map (V.frzA d o.v o.sz o.es) }) (eraseK d S.objs) } : AS) = S'
  have hob : ∀ d1 o1, get S'.objs d1 = some o1 → d1 ≠ d ∧ ∃ q, get S.objs d1 = some q ∧ o1 = { q with es := q.es.map (V.frzA d o.v o.sz o.es) } := by
    subst hS'
    intro d1 o1 h1
    obtain ⟨q, h2, h3⟩ := get_mapK _ _ _ _ h1
    obtain ⟨h4, h5⟩ := get_eraseK _ _ _ _ h2
    exact ⟨h4, q, h5, h3.symm⟩
  have hsub : ∀ b, b < w.heap.size → Own N0 μ S' b → Own N0 μ S b := by
    rintro b hb (h0 | ⟨d1, o1, c, h1, h2⟩)
    · exact .inl h0
    · obtain ⟨_, q, h3, rfl⟩ := hob d1 o1 h1
      exact .inr ⟨d1, q, c, h3, h2⟩
  have hd : ∀ g c, μ d o.v = some (some (g, c)) → ¬ Own N0 μ S' g := by
    rintro g c hm (h0 | ⟨d1, o1, c1, h1, h2⟩)
    · have := h.n0.1 g h0
      obtain ⟨l, hl, hobl⟩ := h.objs d o ho
      rw [hm] at hl
      injection hl with hl
      subst hl
      exact hobl.1.elim (fun h => by have := this.1; omega) this.2
    · obtain ⟨hne, q, h3, rfl⟩ := hob d1 o1 h1
      exact hne (h.inj _ _ _ _ _ _ _ h3 ho h2 hm)
  refine ⟨μ, h.defers, by subst hS'; exact h.size, h.below, h.n0, by subst hS'; exact h.fresh, fun d1 o1 h1 => ?_, fun d1 o1 d2 o2 g c c' h1 h2 h3 h4 => ?_, fun t v hv => ?_⟩
  · obtain ⟨_, q, h3, rfl⟩ := hob d1 o1 h1
    obtain ⟨l, hl, hobl⟩ := h.objs d1 q h3
    refine ⟨l, hl, ?_⟩
    cases l with
    | none =>
      have : q.es = [] := hobl
      show q.es.map _ = []
      rw [this]; rfl
    | some gc =>
      obtain ⟨b1, b2, b3, b4, arr, b5, b6, b7⟩ := hobl
      refine ⟨b1, by simpa using b2, b3, fun e he => ?_, arr, b5, b6, fun k e j c he hj => ?_⟩
      · simp only [List.mem_map] at he
        obtain ⟨e0, he0, rfl⟩ := he
        have hf := b4 e0 he0
        refine ⟨by rw [frz_cells, List.length_map]; exact hf.1, fun c hc => ?_⟩
        rw [frz_cells] at hc
        simp only [List.mem_map] at hc
        obtain ⟨c0, hc0, rfl⟩ := hc
        exact frzC_cell _ _ _ _ (hf.2 c0 hc0)
      · simp only [List.getElem?_map, Option.map_eq_some_iff] at he
        obtain ⟨e0, he0, rfl⟩ := he
        rw [frz_cells, List.getElem?_map, Option.map_eq_some_iff] at hj
        obtain ⟨c0, hc0, rfl⟩ := hj
        obtain ⟨x, hx, hex⟩ := b7 k e0 j c0 he0 hc0
        exact ⟨x, hx, h.frzC ho hp hsub hd hex⟩
  · obtain ⟨_, q1, h5, rfl⟩ := hob d1 o1 h1
    obtain ⟨_, q2, h6, rfl⟩ := hob d2 o2 h2
    exact h.inj _ _ _ _ _ _ _ h5 h6 h3 h4
  · have hv' : get (mapK (V.frz d o.v o.sz o.es) S.env) t = some v := by subst hS'; exact hv
    obtain ⟨u, h1, rfl⟩ := get_mapK _ _ _ _ hv'
    obtain ⟨h2, h3⟩ := h.env t u h1
    exact ⟨by subst hS'; exact h2, h.frz ho hp hsub hd h3⟩
theorem aw_freeze {c : Code} {S' : AS} (d : Nat) (L M : List Nat) (hS : S.freezeK d L M = some S') (h : AW P w0 N0 c Q S') : AW P w0 N0 c Q S := by
  unfold AS.freezeK at hS
  split at hS
  case h_2 => cases hS
  rename_i S1 h1
  injection hS with hS
  exact aw_le (le_freeze h1) (aw_keep L M hS h)
end
end Go.Eng

namespace Go.Eng
open Go.RowKit
section
variable {P : Program} {w0 : Bs} {N0 : Nat → Prop} {Q : Exit → AS → Prop} {S : AS}
theorem awl_skip {ops : List Oper} {i : Nat} {o : Oper} {rest : List Oper} {S' : AS} (hg : S.gv ops o = some false) (hs : S.putv o.dst (.whn false (.bool true)) = some S') (h : AWL P w0 N0 ops Q (i + 1) rest S') : AWL P w0 N0 ops Q i (o :: rest) S := by
  rintro D a w hD ⟨μ, hr⟩
  refine wpList_step fun K hK => ?_
  have hw : Region.wanted o (yielded ops.toArray a.tmps) = false := by
    unfold AS.gv at hg
    split at hg
    · cases hg
    · rename_i j want hgn; exact gd_spec hr hgn hg
  rw [hw, if_neg (by simp)]
  exact hK _ _ (h D _ w (fun j hj => Nat.lt_succ_of_lt (hD j hj)) ⟨μ, hr.putv hs (.whn _ _ _ (fun hf => by cases hf) (fun _ => rfl))⟩)
def skipOps (ops : List Oper) : List Oper → AS → Option AS
  | [], S => some S
  | o :: r, S => match S.gv ops o with
    | some false => (match S.putv o.dst (.whn false (.bool true)) with
      | some S' => skipOps ops r S'
      | none => none)
    | _ => none
attribute [simp] skipOps
theorem awl_skipl {ops : List Oper} : ∀ {l1 l2 : List Oper} {i : Nat} {S S1 : AS}, skipOps ops l1 S = some S1 → AWL P w0 N0 ops Q (i + l1.length) l2 S1 → AWL P w0 N0 ops Q i (l1 ++ l2) S
  | [], l2, i, S, S1, hs, h => by
    simp only [skipOps, Option.some.injEq] at hs
    subst hs
    exact h
  | o :: r, l2, i, S, S1, hs, h => by
    simp only [skipOps] at hs
    split at hs
    case h_2 => cases hs
    rename_i hg
    split at hs
    case h_2 => cases hs
    rename_i S' hp
    refine awl_skip hg hp (awl_skipl hs ?_)
    rw [show i + 1 + r.length = i + (o :: r).length by simp; omega]
    exact h
theorem awl_skips {ops l : List Oper} {i : Nat} {S1 : AS} (n : Nat) (hs : skipOps ops (l.take n) S = some S1) (h : AWL P w0 N0 ops Q (i + (l.take n).length) (l.drop n) S1) : AWL P w0 N0 ops Q i l S := by
  have := awl_skipl (Q := Q) (P := P) (w0 := w0) (N0 := N0) hs h
  rwa [List.take_append_drop] at this
end
end Go.Eng

namespace Go.Eng
open Go.RowKit
end Go.Eng

namespace Go.Eng
open Go.RowKit
attribute [simp] assoc lookV V.mset okMs V.okM V.okM1 V.flat0 mapK
section
variable {P : Program} {w0 : Bs} {N0 : Nat → Prop} {Q : Exit → AS → Prop} {S : AS}
theorem awl_makeMap {ops : List Oper} {i : Nat} {o : Oper} {rest : List Oper} {t : TypeId} (k : IntKind) (hg : o.guard = none) (ho : o.op = .makeMap t none)
    (h : ∀ b, w0.free b → (∀ t' b' k' m', get S.env t' = some (.mp b' k' m') → b' ≠ b) → ∃ S', S.putv o.dst (.mp b k []) = some S' ∧ AWL P w0 N0 ops Q (i + 1) rest S') : AWL P w0 N0 ops Q i (o :: rest) S := by
  rintro D a w hD ⟨μ, hr⟩
  refine wpList_plain hg fun K hK => ?_
  obtain ⟨S', hs, hrest⟩ := h w.heap.size (.inl hr.below.size) (fun t' b' k' m' hm => by
    have := (hr.env t' _ hm).2
    generalize a.tmps.getD t' undef = y at this
    cases this with
    | pur hp => cases hp with
      | mp _ _ _ es cl g hN hb => have := (Array.getElem?_eq_some_iff.1 hb).1; omega)
  have hb : Below w.heap.size w (w.alloc (.map #[] 0)) := (Below.refl _ _).alloc (Nat.le_refl _) _
  unfold Oper.wp
  have hrun : (execOp a.eval o).run P w = .ok (.value (.map (some w.heap.size))) (w.alloc (.map #[] 0)) := by
    unfold execOp
    rw [ho]
    rfl
  rw [hrun]
  refine hK _ _ (hrest D _ _ (fun j hj => Nat.lt_succ_of_lt (hD j hj)) ⟨μ, (hr.later hb).putv hs (.pur ?_)⟩)
  exact .mp _ k [] #[] 0 (fun _ => undef) (fun hn => by have := hr.own_lt _ hn; omega) (heap_alloc_new w _) (by simp) (by simp [assoc]) (by simp [findA]) (by simp) (by simp [assoc])
theorem okMs_get : ∀ {l : List (Nat × V)}, okMs l = true → ∀ t v, get l t = some v → v.okM = true := fun h t v => okMs_iff h t v
theorem mapStep {ops : List Oper} {i : Nat} {o : Oper} {S' : AS} {t e : TypeId} {m x v : Operand} {b : Nat} {k : IntKind} {es : List (Int × V)} {a : Int} {u : V} (hb : w0.free b) (hg : o.guard = none) (hd : o.dst = none) (ho : o.op = .mapUpdate t m x v)
    (hm : S.evc true m = some (.mp b k es)) (hx : S.evc true x = some (.int k a)) (hv : S.evc true v = some u) (hf : u.flat0 = true) (ht : tmap P t = some (k, e)) (hok : okMs S.env = true) (hS : ({ S with env := mapK (V.mset b k ((a, u) :: es)) S.env } : AS) = S') : Step P 0 w0 ops i o S S' :=
  .inr (.inr ⟨t, m, x, v, b, k, es, a, u, e, hg, hd, ho, hm, hx, hv, hf, ht, hb, okMs_get hok, hS.symm⟩)
theorem awl_mapUpdate {ops : List Oper} {i : Nat} {o : Oper} {rest : List Oper} {S' : AS} {t e : TypeId} {m x v : Operand} {b : Nat} {k : IntKind} {es : List (Int × V)} {a : Int} {u : V} (hb : w0.free b) (hg : o.guard = none) (hd : o.dst = none) (ho : o.op = .mapUpdate t m x v)
    (hm : S.evc true m = some (.mp b k es)) (hx : S.evc true x = some (.int k a)) (hv : S.evc true v = some u) (hf : u.flat0 = true) (ht : tmap P t = some (k, e)) (hok : okMs S.env = true) (hS : ({ S with env := mapK (V.mset b k ((a, u) :: es)) S.env } : AS) = S')
    (h : AWL P w0 N0 ops Q (i + 1) rest S') : AWL P w0 N0 ops Q i (o :: rest) S := awl_st (mapStep hb hg hd ho hm hx hv hf ht hok hS) h
theorem awo_mapUpdate {ops : List Oper} {i : Nat} {ks : List Nat} {l : List (Nat × List Nat)} {o : Oper} {S' : AS} {t e : TypeId} {m x v : Operand} {b : Nat} {k : IntKind} {es : List (Int × V)} {a : Int} {u : V} (hb : w0.free b) (hi : ops[i]? = some o) (hks : (ks.all fun d => (get S.objs (0 + d)).isNone) = true) (hg : o.guard = none) (hd : o.dst = none) (ho : o.op = .mapUpdate t m x v)
    (hm : S.evc true m = some (.mp b k es)) (hx : S.evc true x = some (.int k a)) (hv : S.evc true v = some u) (hf : u.flat0 = true) (ht : tmap P t = some (k, e)) (hok : okMs S.env = true) (hS : ({ S with env := mapK (V.mset b k ((a, u) :: es)) S.env } : AS) = S')
    (h : AWO P 0 w0 ops Q l S') : AWO P 0 w0 ops Q ((i, ks) :: l) S := ⟨o, S', hi, hks, mapStep hb hg hd ho hm hx hv hf ht hok hS, h⟩
end
end Go.Eng
