/- From the given rows to contracts over pure values: what comes in reads as pure values; a contract 'true' gives the row's step. No condition. -/
import Derived.Test.YtepkalebaaidcaaEng17
import Derived.WalkKit
import Derived.ProofKit
import Derived.OpenShut
import Derived.ShutString
import Derived.ChangeOld
import Derived.Carry
namespace Go.Eng
open Go.RowKit Go.ChangeShapes Go.WideShapes
set_option linter.unusedSimpArgs false

def laidFs (P : Program) : List Field → Nat → Nat → Bool
  | [], off, tot => off == tot
  | f :: r, off, tot => (f.offset == off) && laidFs P r (off + P.cellsOf f.type) tot

/-- Types that the reading covers: flags, numbers, texts, slices, structs. -/
def okT (P : Program) : Nat → TypeId → Bool
  | 0, _ => false
  | n + 1, t => match P.underlying t with
    | some .bool | some (.int _) | some .string => P.cellsOf t == 1
    | some (.slice e) => (P.cellsOf t == 1) && decide (0 < P.cellsOf e) && okT P n e
    | some (.struct fs) => laidFs P fs.toList 0 (P.cellsOf t) && fs.toList.all fun f => okT P n f.type
    | _ => false

def mkV (b : Option Bool) (cs : List V) : V := if b = some true then .agg cs else cs.headD .nils

def RdF (P : Program) (r : TypeId → List V → Prop) : List Field → List V → Prop
  | [], vs => vs = []
  | f :: fs, vs => ∃ us ws, vs = us ++ ws ∧ r f.type us ∧ RdF P r fs ws

/-- What the cells of a value of a type look like. -/
def Rd (P : Program) : Nat → TypeId → List V → Prop
  | 0, _, _ => False
  | n + 1, t, vs => match P.underlying t with
    | some .bool => ∃ b, vs = [.bool b]
    | some (.int k) => ∃ i, vs = [.int k i] ∧ (Lit.int k i).wf = true
    | some .string => ∃ l, vs = [.str l] ∧ l.length ≤ maxLen
    | some (.slice e) => ∃ es : List (List V), vs = [.ro (P.cellsOf e) (es.map (mkV (tagg P e)))] ∧ es.length ≤ maxLen ∧ ∀ x ∈ es, Rd P n e x
    | some (.struct fs) => RdF P (Rd P n) fs.toList vs
    | _ => False

def Purs (w : World) (N : Nat → Prop) (cs : List Value) (vs : List V) : Prop :=
  cs.length = vs.length ∧ ∀ (i : Nat) x v, cs[i]? = some x → vs[i]? = some v → Pur w N x v

theorem Purs.append {w : World} {N : Nat → Prop} {a b : List Value} {u v : List V} (h : Purs w N a u) (k : Purs w N b v) : Purs w N (a ++ b) (u ++ v) := by
  refine ⟨by simp [h.1, k.1], fun i x y hx hy => ?_⟩
  by_cases hi : i < a.length
  · rw [List.getElem?_append_left hi] at hx
    rw [List.getElem?_append_left (by rw [← h.1]; exact hi)] at hy
    exact h.2 i x y hx hy
  · rw [List.getElem?_append_right (by omega)] at hx
    rw [List.getElem?_append_right (by rw [← h.1]; omega), ← h.1] at hy
    exact k.2 _ x y hx hy

theorem Purs.one {w : World} {N : Nat → Prop} {x : Value} {v : V} (h : Pur w N x v) : Purs w N [x] [v] := by
  refine ⟨rfl, fun i y u hy hu => ?_⟩
  rcases i with _ | i
  · simp at hy hu; subst hy; subst hu; exact h
  · simp at hy

theorem laidFs_le {P : Program} : ∀ {fs : List Field} {off tot : Nat}, laidFs P fs off tot = true → off ≤ tot
  | [], off, tot, h => by simp [laidFs] at h; omega
  | f :: r, off, tot, h => by simp only [laidFs, Bool.and_eq_true] at h; have := laidFs_le h.2; omega

theorem list_of {α : Type} {p : Nat → α → Prop} : ∀ {n : Nat}, (∀ i, i < n → ∃ y, p i y) → ∃ l : List α, l.length = n ∧ ∀ i y, l[i]? = some y → p i y
  | 0, _ => ⟨[], rfl, by simp⟩
  | n + 1, h => by
    obtain ⟨l, hl, hp⟩ := list_of (n := n) (fun i hi => h i (by omega))
    obtain ⟨y, hy⟩ := h n (by omega)
    refine ⟨l ++ [y], by simp [hl], fun i z hz => ?_⟩
    by_cases hi : i < l.length
    · rw [List.getElem?_append_left hi] at hz; exact hp i z hz
    · rw [List.getElem?_append_right (by omega)] at hz
      have : i - l.length = 0 := by
        rcases h0 : i - l.length with _ | k
        · rfl
        · rw [h0] at hz; simp at hz
      rw [this] at hz
      simp at hz
      subst hz
      have : i = n := by omega
      subst this
      exact hy

theorem map_of {α β : Type} {f : α → β} : ∀ {l : List β}, (∀ x ∈ l, ∃ y, x = f y) → ∃ l' : List α, l = l'.map f
  | [], _ => ⟨[], rfl⟩
  | x :: r, h => by
    obtain ⟨y, hy⟩ := h x (by simp)
    obtain ⟨l', hl'⟩ := map_of (fun x hx => h x (by simp [hx]) : ∀ x ∈ r, ∃ y, x = f y)
    exact ⟨y :: l', by simp [hy, hl']⟩

section
variable {H : Type} {enc : TypeId × Value → H} {P : Program} {w : World} {base : Nat} {spare : Nat → Bool} {held : Bool}

theorem trod_purs : ∀ (n : Nat) {fuel : Nat} {t : TypeId} {cs : List Value} {x : DataW H × List MemPlace}, okT P n t = true → DataW.trod enc P w base spare held fuel t cs = some x →
    ∃ vs, Purs w (fun _ => False) cs vs ∧ (∀ v ∈ vs, v.isCell = true) ∧ Rd P n t vs ∧ cs.length = P.cellsOf t
  | 0, _, _, _, _, h, _ => by simp [okT] at h
  | _ + 1, 0, _, _, _, _, h => by simp [DataW.trod] at h
  | n + 1, fuel + 1, t, cs, x, ho, h => by
    unfold okT at ho
    unfold DataW.trod at h
    unfold Rd
    generalize hu : P.underlying t = u at ho h ⊢
    split at ho
    · -- bool
      simp only [beq_iff_eq] at ho
      split at h <;> simp_all
      rename_i b
      exact ⟨[.bool b], Purs.one (.bool _), by simp [V.isCell], by cases b <;> simp⟩
    · simp only [beq_iff_eq] at ho
      split at h <;> simp_all
      exact ⟨[.int _ _], Purs.one (.int _ _), by simp [V.isCell], _, rfl, h.1.2⟩
    · simp only [beq_iff_eq] at ho
      split at h <;> simp_all
      rename_i s
      refine ⟨[.str s.data.toList], Purs.one ?_, by simp [V.isCell], _, rfl, by simpa using h.1⟩
      have := Pur.str (w := w) (N := fun _ => False) s.data.toList
      simpa using this
    · rename_i e
      simp only [Bool.and_eq_true, beq_iff_eq, decide_eq_true_eq] at ho
      obtain ⟨⟨ho1, ho2⟩, ho3⟩ := ho
      split at h
      all_goals try (exfalso; first | (rename_i he; cases he; done) | (rename_i he _; cases he; done) | (rename_i he _ _; cases he; done) | (cases h; done))
      · refine ⟨[.ro (P.cellsOf e) []], Purs.one (.ro none ⟨0, 0, none⟩ 0 0 _ [] (fun _ _ => undef) rfl (Nat.le_refl _) (Nat.zero_le _) (fun h0 => by omega) (by simp) (by simp) (by simp)), by simp [V.isCell], ⟨[], rfl, by simp, by simp⟩, by simp [ho1]⟩
      · rename_i e' a len cap heq
        cases heq
        simp only at h
        split at h
        case isFalse => cases h
        rename_i hb
        simp only [Option.bind_eq_some_iff] at h
        obtain ⟨elems, he, _⟩ := h
        have hlen : elems.length = len := by simpa using mapM_some_length he
        have hel : ∀ i, i < len → ∃ vs : List V, ∃ ci : List Value, w.cells? base (a.add (i * P.cellsOf e)) (P.cellsOf e) = some ci ∧ Purs w (fun _ => False) ci vs ∧ (∀ v ∈ vs, v.isCell = true) ∧ Rd P n e vs ∧ ci.length = P.cellsOf e := by
          intro i hi
          have h1 := mapM_some_get he i i (by simp [hi])
          rw [List.getElem?_eq_getElem (by omega)] at h1
          simp only [Option.bind_eq_some_iff] at h1
          obtain ⟨ci, h2, h3⟩ := h1
          obtain ⟨vs, h4, h5, h6, h7⟩ := trod_purs n ho3 h3
          exact ⟨vs, ci, h2, h4, h5, h6, h7⟩
        obtain ⟨es, hes, hp⟩ := list_of hel
        have hcells : ∀ (k : Nat) us, es[k]? = some us → (mkV (tagg P e) us).cells = us ∧ (mkV (tagg P e) us).fits (P.cellsOf e) := by
          intro k us hk
          obtain ⟨ci, h1, h2, h3, h4, h5⟩ := hp k us hk
          have hc : (mkV (tagg P e) us).cells = us := by
            unfold mkV
            split
            · rfl
            · rename_i hna
              have h1' : us.length = 1 := by
                rw [← h2.1, h5]
                cases n with
                | zero => simp [okT] at ho3
                | succ n =>
                  unfold okT at ho3
                  unfold tagg at hna
                  generalize P.underlying e = ue at ho3 hna
                  split at ho3
                  · simpa using ho3
                  · simpa using ho3
                  · simpa using ho3
                  · simp only [Bool.and_eq_true, beq_iff_eq] at ho3; exact ho3.1.1
                  · simp at hna
                  · cases ho3
              match us, h1', h3 with
              | [c], _, h3 => simpa using V.cells_one (h3 c (by simp))
          exact ⟨hc, by rw [hc, ← h2.1, h5], by rw [hc]; exact h3⟩
        refine ⟨[.ro (P.cellsOf e) (es.map (mkV (tagg P e)))], Purs.one (.ro (some a) a len cap _ _ (fun k j => (w.cell? (a.add (k * P.cellsOf e + j))).getD undef) (by simp [hes]) hb.2.1 hb.2.2 (fun h0 => ⟨rfl, ?_, id⟩) ?_ ?_ ?_), by simp [V.isCell], ⟨es, rfl, by omega, ?_⟩, by simp [ho1]⟩
        · obtain ⟨vs, ci, h1, _, _, _, h5⟩ := hel 0 h0
          obtain ⟨_, h6, h7⟩ := World.cells?_some h1
          have := h7 0 ho2
          rw [List.getElem?_eq_getElem (by omega)] at this
          have := World.block_lt_of_cell? _ _ this
          rwa [add_block, add_block] at this
        · intro v hv
          simp only [List.mem_map] at hv
          obtain ⟨us, hus, rfl⟩ := hv
          obtain ⟨k, hk⟩ := List.getElem?_of_mem hus
          exact (hcells k us hk).2
        all_goals
          try
            intro k v j c hk hj
            simp only [List.getElem?_map, Option.map_eq_some_iff] at hk
            obtain ⟨us, hk, rfl⟩ := hk
            rw [(hcells k us hk).1] at hj
            obtain ⟨ci, h1, h2, h3, h4, h5⟩ := hp k us hk
            obtain ⟨_, h6, h7⟩ := World.cells?_some h1
            have hjl : j < us.length := (List.getElem?_eq_some_iff.1 hj).1
            have hji : j < ci.length := by rw [h2.1]; exact hjl
            have h8 := h7 j (by omega)
            rw [add_add', List.getElem?_eq_getElem hji] at h8
        · rw [h8]; rfl
        · rw [h8]; exact h2.2 j _ c (List.getElem?_eq_getElem hji) hj
        · intro us hus
          obtain ⟨k, hk⟩ := List.getElem?_of_mem hus
          exact (hp k us hk).choose_spec.2.2.2.1
    · rename_i fs
      simp only [Bool.and_eq_true, List.all_eq_true] at ho
      obtain ⟨hlaid, hall⟩ := ho
      replace h : (if cs.length = P.cellsOf t then (fs.toList.mapM fun f => DataW.trod enc P w base spare held fuel f.type ((cs.drop f.offset).take (P.cellsOf f.type))).map fun xs => (DataW.agg (xs.map (·.1)), xs.flatMap (·.2)) else none) = some x := h
      split at h
      case isFalse => cases h
      rename_i hlen
      simp only [Option.map_eq_some_iff] at h
      obtain ⟨xs, hxs, _⟩ := h
      have hf : ∀ f ∈ fs.toList, ∃ vs, Purs w (fun _ => False) ((cs.drop f.offset).take (P.cellsOf f.type)) vs ∧ (∀ v ∈ vs, v.isCell = true) ∧ Rd P n f.type vs ∧ ((cs.drop f.offset).take (P.cellsOf f.type)).length = P.cellsOf f.type := by
        intro f hfm
        obtain ⟨i, hi⟩ := List.getElem?_of_mem hfm
        have h1 := mapM_some_get hxs i f hi
        have hl := mapM_some_length hxs
        have hil : i < xs.length := by rw [hl]; exact (List.getElem?_eq_some_iff.1 hi).1
        rw [List.getElem?_eq_getElem hil] at h1
        exact trod_purs n (hall f hfm) h1
      have key : ∀ (l : List Field) (off : Nat), laidFs P l off (P.cellsOf t) = true → (∀ f ∈ l, ∃ vs, Purs w (fun _ => False) ((cs.drop f.offset).take (P.cellsOf f.type)) vs ∧ (∀ v ∈ vs, v.isCell = true) ∧ Rd P n f.type vs ∧ ((cs.drop f.offset).take (P.cellsOf f.type)).length = P.cellsOf f.type) →
          ∃ vs, Purs w (fun _ => False) (cs.drop off) vs ∧ (∀ v ∈ vs, v.isCell = true) ∧ RdF P (Rd P n) l vs := by
        intro l
        induction l with
        | nil =>
          intro off hl _
          simp only [laidFs, beq_iff_eq] at hl
          refine ⟨[], ⟨by simp; omega, by simp⟩, by simp, rfl⟩
        | cons f l ih =>
          intro off hl hh
          simp only [laidFs, Bool.and_eq_true, beq_iff_eq] at hl
          obtain ⟨ho, hl⟩ := hl
          subst ho
          obtain ⟨ws, h1, h2, h3⟩ := ih _ hl (fun g hg => hh g (by simp [hg]))
          obtain ⟨us, g1, g2, g3, _⟩ := hh f (by simp)
          refine ⟨us ++ ws, ?_, ?_, us, ws, rfl, g3, h3⟩
          · have := g1.append h1
            rwa [← List.drop_drop, List.take_append_drop] at this
          · intro v hv
            rcases List.mem_append.1 hv with hv | hv
            · exact g2 v hv
            · exact h2 v hv
      obtain ⟨vs, h1, h2, h3⟩ := key fs.toList 0 hlaid hf
      exact ⟨vs, by simpa using h1, h2, h3, hlen⟩
    · cases ho

/-- What an argument of a type looks like. -/
def RdV (P : Program) (n : Nat) (t : TypeId) (v : V) : Prop := ∃ vs, Rd P n t vs ∧ v = mkV (tagg P t) vs

theorem arg_pur {n : Nat} {r : Reach} {b0 : Nat} {t : TypeId} {v : Value} {d : DataW H} {ps : List MemPlace} (ho : okT P n t = true) (hval : Value.okWide P w r b0 t v) (hd : DataW.Trod enc P w base spare held t v d ps) :
    ∃ u, Pur w (fun _ => False) v u ∧ RdV P n t u := by
  obtain ⟨fuel, hf⟩ := hd
  obtain ⟨vs, h1, h2, h3, h4⟩ := trod_purs n ho hf
  refine ⟨mkV (tagg P t) vs, ?_, vs, h3, rfl⟩
  cases n with
  | zero => simp [okT] at ho
  | succ n =>
  unfold okT at ho
  generalize hu : P.underlying t = u at ho
  have one : v.cells = #[v] → tagg P t = some false → Pur w (fun _ => False) v (mkV (tagg P t) vs) := by
    intro hv hb
    have hl := h1.1
    rw [hv] at hl h1
    match vs, hl, h1 with
    | [c], _, h1 =>
      rw [hb]
      exact h1.2 0 v c rfl rfl
  split at ho
  · obtain ⟨b, rfl⟩ := okWide_bool hu hval
    exact one rfl (by simp [tagg, hu])
  · obtain ⟨b, rfl⟩ := okWide_int hu hval
    exact one rfl (by simp [tagg, hu])
  · obtain ⟨b, rfl⟩ := okWide_string hu hval
    exact one rfl (by simp [tagg, hu])
  · obtain ⟨a, l, c, rfl⟩ := okWide_slice hu hval
    exact one rfl (by simp [tagg, hu])
  · obtain ⟨cs, rfl, _⟩ := okWide_struct hu hval
    have : tagg P t = some true := by simp [tagg, hu]
    rw [this]
    have := Pur.agg cs.toList vs h1.1 h2 h1.2
    simpa [mkV] using this
  · cases ho

end

/-- Values one by one of their types. -/
def RdAll (P : Program) (n : Nat) : List TypeId → List V → Prop
  | [], vs => vs = []
  | t :: ts, vs => ∃ u us, vs = u :: us ∧ RdV P n t u ∧ RdAll P n ts us

theorem args_pur {H : Type} {enc : TypeId × Value → H} {P : Program} {n : Nat} {W : World} {r : Reach} {b0 : Nat} {sp : Nat → Bool} {hd : Bool} : ∀ {ts : List TypeId} {vs : List Value} {ds : List (DataW H)} {ps : List MemPlace}, (∀ t ∈ ts, okT P n t = true) →
    (∀ (j : Nat) t v, ts[j]? = some t → vs[j]? = some v → Value.okWide P W r b0 t v) → DataW.TrodAll enc P W 0 sp hd ts vs ds ps → ∃ us, RdAll P n ts us ∧ Purs W (fun _ => False) vs us
  | [], vs, ds, ps, _, _, h => by
    obtain ⟨rfl, rfl, rfl⟩ := trodAll_nil h
    exact ⟨[], rfl, rfl, by simp⟩
  | t :: ts, vs, ds, ps, ho, hv, h => by
    obtain ⟨v, vs', d, ds', p, q, rfl, rfl, rfl, h1, h2⟩ := trodAll_cons h
    obtain ⟨u, g1, g2⟩ := arg_pur (ho t (by simp)) (hv 0 t v rfl rfl) h1
    obtain ⟨us, g3, g4⟩ := args_pur (fun t ht => ho t (by simp [ht])) (fun j t' v' ht hv' => hv (j + 1) t' v' ht hv') h2
    exact ⟨u :: us, ⟨u, us, rfl, g2, g3⟩, (Purs.one g1).append g4⟩

theorem trodAll_below {H : Type} {enc : TypeId × Value → H} {P : Program} {W W' : World} (hl : laidOutB P = true) (hb : Below W.heap.size W W') : ∀ {ts : List TypeId} {vs : List Value} {ds : List (DataW H)} {ps : List MemPlace},
    (∀ t ∈ ts, P.readableRec t = true ∧ t < P.types.size) → DataW.TrodAll enc P W 0 (fun _ => true) true ts vs ds ps → DataW.TrodAll enc P W' 0 (fun b => decide (b < W.heap.size)) true ts vs ds ps
  | [], vs, ds, ps, _, h => by
    obtain ⟨rfl, rfl, rfl⟩ := trodAll_nil h
    exact trodAll_mk0
  | t :: ts, vs, ds, ps, ho, h => by
    obtain ⟨v, vs', d, ds', p, q, rfl, rfl, rfl, h1, h2⟩ := trodAll_cons h
    have k0 := h1
    have lt0 : ∀ x ∈ p, x.block < W.heap.size := by obtain ⟨m, hm⟩ := k0; exact DataW.trod_lt m _ _ _ hm
    exact trodAll_cons_mk (Below.trod hl (ho t (by simp)).1 (ho t (by simp)).2 h1 hb lt0) (trodAll_below hl hb (fun t ht => ho t (by simp [ht])) h2)

/-- The row's step from a contract: for all that can come in the law returns true. -/
theorem row_contract {H : Type} {enc : TypeId × Value → H} {P : Program} {f : FuncId} {fn : Func} {s : ChangeSpec} {n : Nat} {tb : TypeId} {ts : List TypeId} (hts : fn.params.toList = ts) (hok : (ts.all fun t => okT P n t && P.readableRec t && decide (t < P.types.size)) = true) (hlaid : laidOutB P = true) (hres : fn.resultTypes = #[tb]) (htb : P.underlying tb = some .bool)
    (hvars : s.vars = []) (hs : ∀ ds : List (DataW H), ds.length = ts.length → s.fn H ds = { results := [.lit (.bool true)], args := ds }) (hc : ∀ vs, RdAll P n ts vs → AC P f vs (fun r => r = .bool true))
    {W : World} {base : Nat} {args : Array Value} {ds gs : List (DataW H)} {before : List MemPlace}
    (hval : ∀ (j : Nat) t v, fn.params[j]? = some t → args[j]? = some v → Value.okWide P W .any base t v) (hW : DataW.Whole enc P fn.params.toList s.vars false W args.toList ds gs before) :
    Calls P f args W fun e W' => ∃ v, e = .returned v ∧ s.post enc P fn false true false false W args v W' := by
  have hW' := hW
  obtain ⟨p, q, hA, hV, rfl, hfz, hnd⟩ := hW
  rw [hvars] at hV
  obtain ⟨rfl, rfl⟩ := trodVars_none hV
  have hdl : ds.length = ts.length := by
    have : ∀ (ts : List TypeId) (vs : List Value) (ds : List (DataW H)) (ps : List MemPlace), DataW.TrodAll enc P W 0 (fun _ => true) true ts vs ds ps → ds.length = ts.length := by
      intro ts
      induction ts with
      | nil => intro vs ds ps h; obtain ⟨_, rfl, _⟩ := trodAll_nil h; rfl
      | cons t ts ih => intro vs ds ps h; obtain ⟨v, vs', d, ds', p, q, rfl, rfl, rfl, _, h2⟩ := trodAll_cons h; simp [ih _ _ _ h2]
    rw [← hts]; exact this _ _ _ _ hA
  have hall : ∀ t ∈ ts, okT P n t = true ∧ P.readableRec t = true ∧ t < P.types.size := by
    intro t ht
    have := List.all_eq_true.1 hok t ht
    simp only [Bool.and_eq_true, decide_eq_true_eq] at this
    exact ⟨this.1.1, this.1.2, this.2⟩
  obtain ⟨us, h1, h2⟩ := args_pur (n := n) (ts := ts) (fun t ht => (hall t ht).1) (fun j t v ht hv => hval j t v (by rw [← hts] at ht; simpa using ht) (by simpa using hv)) (hts ▸ hA)
  have hcall := hc us h1 W (fun _ => False) args.toList (fun _ hb => hb.elim) h2.1 h2.2
  rw [show args.toList.toArray = args by simp] at hcall
  refine hcall.mono ?_
  rintro e W1 ⟨x, r, rfl, rfl, hp, hb⟩
  obtain rfl : x = .bool true := by cases hp; rfl
  refine ⟨_, rfl, ds, [], p ++ [], [], p, [], hW', ?_, ?_, ?_, hb.frame _, fun h => by cases h⟩
  · rw [List.append_nil, hs ds hdl, hres]
    exact trodAll_mk1 (shut_bool htb true)
  · rw [List.append_nil, hs ds hdl]
    exact trodAll_below hlaid hb (fun t ht => (hall t (hts ▸ ht)).2) hA
  · rw [List.append_nil, hs ds hdl, hvars]
    exact rfl

section
variable {P : Program} {n : Nat} {t e : TypeId} {k : IntKind} {vs : List V} {fs : Array Field}
theorem rd_bool (hu : P.underlying t = some .bool) (h : Rd P n t vs) : ∃ b, vs = [.bool b] := by
  cases n with
  | zero => exact h.elim
  | succ n => unfold Rd at h; rw [hu] at h; exact h
theorem rd_int (hu : P.underlying t = some (.int k)) (h : Rd P n t vs) : ∃ i, vs = [.int k i] ∧ (Lit.int k i).wf = true := by
  cases n with
  | zero => exact h.elim
  | succ n => unfold Rd at h; rw [hu] at h; exact h
theorem rd_str (hu : P.underlying t = some .string) (h : Rd P n t vs) : ∃ l, vs = [.str l] ∧ l.length ≤ maxLen := by
  cases n with
  | zero => exact h.elim
  | succ n => unfold Rd at h; rw [hu] at h; exact h
theorem rd_slice (hu : P.underlying t = some (.slice e)) (h : Rd P n t vs) : ∃ es : List (List V), vs = [.ro (P.cellsOf e) (es.map (mkV (tagg P e)))] ∧ es.length ≤ maxLen ∧ ∀ x ∈ es, Rd P (n - 1) e x := by
  cases n with
  | zero => exact h.elim
  | succ n => unfold Rd at h; rw [hu] at h; exact h
theorem rd_struct (hu : P.underlying t = some (.struct fs)) (h : Rd P n t vs) : RdF P (Rd P (n - 1)) fs.toList vs := by
  cases n with
  | zero => exact h.elim
  | succ n => unfold Rd at h; rw [hu] at h; exact h
end
theorem map_map_of {α β γ : Type} {f : α → β} {g : β → γ} {l : List β} {f' : α → γ} (h : ∀ x ∈ l, ∃ y, x = f y) (hg : ∀ y, g (f y) = f' y) : ∃ l' : List α, l.map g = l'.map f' ∧ l'.length = l.length := by
  obtain ⟨l', rfl⟩ := map_of h
  exact ⟨l', by rw [List.map_map]; exact List.map_congr_left fun y _ => hg y, by simp⟩

end Go.Eng
