/- Regions whose order is left open: one order serves for all. No condition. -/
import Derived.Test.YtmkbhognijicjaaEng12
set_option linter.unusedSimpArgs false
namespace Go.Eng
open Go.RowKit

/-- An operation that makes or writes memory. -/
def acts : Op → Bool
  | .alloc _ | .box .. | .buildSlice .. | .makeSlice .. | .store .. => true
  | .call { callee := .builtin .append, .. } => true
  | _ => false
/-- An operation that makes an object under its own slot's name. -/
def makes : Op → Bool
  | .alloc _ | .box .. | .buildSlice .. | .makeSlice .. => true
  | _ => false
def loads : Op → Bool
  | .load .. => true
  | _ => false

def AS.gv (S : AS) (ops : List Oper) (o : Oper) : Option Bool := match o.guard with | none => some true | some (j, want) => S.gd ops j want
def wrapG (o : Oper) (c : Bool) (v : V) : V := match o.guard with | none => v | some _ => .whn c v

/-- A call by its contract, under a guard or not. -/
def CallStep (P : Program) (ops : List Oper) (o : Oper) (S S' : AS) : Prop :=
  ∃ c f args ats fid fn vs res, S.gv ops o = some c ∧ o.op = .call { callee := .value f, args := args, argTypes := ats } ∧ S.evc c f = some (.fn fid) ∧ P.funcs[fid]? = some fn ∧ fn.body.isSome = true ∧ (fn.name == "runtime.NumGoroutine") = false ∧
    S.args c args.toList = some vs ∧ vs.all V.pureV = true ∧ (c = true → AC P fid vs (fun r => r = res)) ∧ S.putv o.dst (wrapG o c res) = some S'

def Step (P : Program) (ops : List Oper) (i : Nat) (o : Oper) (S S' : AS) : Prop := astep P ops i o S = some S' ∨ CallStep P ops o S S'

section
variable {P : Program} {w0 : World} {N0 : Nat → Prop} {Q : Exit → AS → Prop}

theorem step_sound {S S' : AS} {D : Nat → Prop} {a : Act} {w : World} {ops : List Oper} {i : Nat} {o : Oper} (hr : RelD D w0 N0 S a w) (hi : ¬ D i) (hs : Step P ops i o S S') {K : Act → World → Prop} {Q' : Exit → Act → World → Prop}
    (hK : ∀ a' w', RelD (fun j => D j ∨ j = i) w0 N0 S' a' w' → K a' w') :
    if Region.wanted o (yielded ops.toArray a.tmps) = true then o.wp P a w K Q' else K (a.put o.dst undef) w := by
  obtain ⟨μ, hr⟩ := hr
  have hmore : ∀ {a' w'}, RelM D w0 N0 μ S' a' w' → RelD (fun j => D j ∨ j = i) w0 N0 S' a' w' := fun h => ⟨μ, h.more (fun j hj => .inl hj)⟩
  rcases hs with hs | ⟨c, f, args, ats, fid, fn, vs, res, hgv, ho, hf, hfn, hb, hn, ha, hp, hc, hs⟩
  · unfold astep at hs
    split at hs
    · rename_i hg
      have hw : Region.wanted o (yielded ops.toArray a.tmps) = true := by simp [Region.wanted, hg]
      rw [if_pos hw]
      split at hs
      · rename_i v hv
        obtain ⟨x, hx, hex⟩ := aval_run hr rfl hv
        unfold Oper.wp
        rw [hx]
        exact hK _ _ (hmore (hr.putv hs hex))
      · obtain ⟨x, w', hdo, hrel⟩ := aeff_run hr hi hs
        unfold Oper.wp
        rcases hdo with hx | ⟨hx, rfl⟩
        · rw [hx]; exact hK _ _ hrel
        · rw [hx]; exact hK _ _ hrel
    · rename_i j want hg
      split at hs
      case h_2 => cases hs
      rename_i c hc
      have hwc := gd_spec hr hg hc
      rw [hwc]
      split at hs
      · rename_i v hv
        cases c with
        | true =>
          rw [if_pos rfl]
          obtain ⟨x, hx, hex⟩ := aval_run hr rfl hv
          unfold Oper.wp
          rw [hx]
          exact hK _ _ (hmore (hr.putv hs (.whn _ _ _ (fun _ => hex) (fun hf => (by cases hf)))))
        | false =>
          rw [if_neg (by simp)]
          exact hK _ _ (hmore (hr.putv hs (.whn _ _ _ (fun hf => (by cases hf)) (fun _ => rfl))))
      · split at hs
        case isFalse => cases hs
        rename_i hcf
        obtain ⟨rfl, _⟩ := hcf
        rw [if_neg (by simp)]
        exact hK _ _ (hmore (hr.putv hs (.whn _ _ _ (fun hf => (by cases hf)) (fun _ => rfl))))
  · have hwc : Region.wanted o (yielded ops.toArray a.tmps) = c := by
      unfold AS.gv at hgv
      split at hgv
      · rename_i hg
        injection hgv with hgv
        subst hgv
        simp [Region.wanted, hg]
      · rename_i j want hg
        exact gd_spec hr hg hgv
    rw [hwc]
    cases c with
    | false =>
      rw [if_neg (by simp)]
      refine hK _ _ (hmore (hr.putv hs ?_))
      unfold wrapG
      split
      · rename_i hg
        simp [AS.gv, hg] at hgv
      · exact .whn _ _ _ (fun hf => (by cases hf)) (fun _ => rfl)
    | true =>
      rw [if_pos rfl]
      have hfv := hr.evc hf rfl
      have hfe : a.eval f = .func (.func fid) #[] #[] := by
        generalize a.eval f = y at hfv
        cases hfv with
        | pur hfv => cases hfv with
          | fn => rfl
      obtain ⟨h1, h2⟩ := args_spec hr rfl ha
      unfold Oper.wp
      rw [run_call_fn ho hfe hfn hb hn]
      have hcall := hc rfl w (Own N0 μ S) (args.toList.map a.eval) hr.own_lt (by simp [h1]) (fun j x v hx hv => by
        simp only [List.getElem?_map, Option.map_eq_some_iff] at hx
        obtain ⟨y, hy, rfl⟩ := hx
        exact (h2 j y v hy hv).pureV (List.all_eq_true.1 hp v (List.mem_of_getElem? hv)))
      have harr : (args.toList.map a.eval).toArray = args.map a.eval := by apply Array.ext'; simp
      rw [harr] at hcall
      refine hcall.mono ?_
      rintro e w' ⟨x, r, rfl, rfl, hpx, hbw⟩
      refine hK _ _ (hmore ((hr.later hbw).putv hs ?_))
      unfold wrapG
      split
      · exact .pur hpx
      · exact .whn _ _ _ (fun _ => .pur hpx) (fun hf => (by cases hf))

/-- A step of a plain region, a guarded call among them. -/
theorem awl_st {S S' : AS} {ops : List Oper} {i : Nat} {o : Oper} {rest : List Oper} (hs : Step P ops i o S S') (h : AWL P w0 N0 ops Q (i + 1) rest S') : AWL P w0 N0 ops Q i (o :: rest) S := by
  intro D a w hD hr
  have hi : ¬ D i := fun hd => absurd (hD i hd) (by omega)
  refine wpList_step fun K hK => step_sound hr hi hs (fun a' w' hr' => hK _ _ (h _ a' w' (fun j hj => ?_) hr'))
  rcases hj with hj | hj
  · have := hD j hj; omega
  · omega

/-- What an operation does to a state. -/
def AS.ap (S : AS) (dst : Option Nat) (u : V) (O : List (Nat × Ob)) : AS := { S with env := (match dst with | some d => (d, u) :: S.env | none => S.env), objs := O ++ S.objs }

theorem putv_ap {S S' : AS} {dst : Option Nat} {u : V} (h : S.putv dst u = some S') : S' = S.ap dst u [] ∧ ∀ d, dst = some d → d < S.nt := by
  unfold AS.putv at h
  split at h
  · split at h
    · rename_i hd
      injection h with h
      subst h
      exact ⟨rfl, fun d' hd' => by injection hd' with hd'; subst hd'; exact hd⟩
    · cases h
  · injection h with h
    subst h
    exact ⟨rfl, fun d hd => by cases hd⟩
theorem ap_putv {S : AS} {dst : Option Nat} (u : V) (h : ∀ d, dst = some d → d < S.nt) : S.putv dst u = some (S.ap dst u []) := by
  unfold AS.putv
  cases dst with
  | none => rfl
  | some d => simp only [h d rfl, if_true]; rfl

/-- Two states that look alike to an operation. -/
def Alike (ops : List Oper) (o : Oper) (S T : AS) : Prop := (∀ t ∈ o.looksAt ops.toArray, get S.env t = get T.env t) ∧ S.nt = T.nt ∧ S.nx = T.nx

theorem Alike.ev {ops : List Oper} {o : Oper} {S T : AS} (h : Alike ops o S T) {x : Operand} (hx : x ∈ o.op.operands) : S.ev x = T.ev x := by
  cases x with
  | tmp t =>
    refine h.1 t ?_
    unfold Oper.looksAt
    refine List.mem_append_left _ (List.mem_filterMap.2 ⟨.tmp t, by simpa using hx, rfl⟩)
  | _ => rfl
theorem Alike.evc {ops : List Oper} {o : Oper} {S T : AS} (h : Alike ops o S T) {x : Operand} (hx : x ∈ o.op.operands) (c : Bool) : S.evc c x = T.evc c x := by
  unfold AS.evc
  rw [h.ev hx]
theorem Alike.gv {ops : List Oper} {o : Oper} {S T : AS} (h : Alike ops o S T) : S.gv ops o = T.gv ops o := by
  unfold AS.gv
  split
  · rfl
  · rename_i j want hg
    unfold AS.gd
    cases ho : ops[j]? with
    | none => rfl
    | some oj =>
      simp only
      cases hd : oj.dst with
      | none => rfl
      | some d =>
        simp only
        have := h.1 d (by
          unfold Oper.looksAt
          refine List.mem_append_right _ ?_
          rw [hg]
          simp [ho, hd])
        rw [this]


theorem evs_congr {S T : AS} {c : Bool} : ∀ {l : List (Nat × Operand)}, (∀ p ∈ l, S.evc c p.2 = T.evc c p.2) → S.evs c l = T.evs c l
  | [], _ => rfl
  | (i, x) :: r, h => by
    simp only [AS.evs]
    rw [h (i, x) (by simp), evs_congr (fun p hp => h p (by simp [hp]))]
theorem args_congr {S T : AS} {c : Bool} : ∀ {l : List Operand}, (∀ x ∈ l, S.evc c x = T.evc c x) → S.args c l = T.args c l
  | [], _ => rfl
  | x :: r, h => by
    simp only [AS.args]
    rw [h x (by simp), args_congr (fun p hp => h p (by simp [hp]))]
theorem evo_congr {S T : AS} {c : Bool} {x : Option Operand} (h : ∀ y, x = some y → S.evc c y = T.evc c y) : S.evo c x = T.evo c x := by
  cases x with
  | none => rfl
  | some y => simp only [AS.evo]; rw [h y rfl]

theorem aval_congr {ops : List Oper} {o : Oper} {S T : AS} (h : Alike ops o S T) {c : Bool} {v : V} (hpl : loads o.op = true → ∀ p r, S.place p = some r → T.place p = some r) (hv : aval P S c o.op = some v) : aval P T c o.op = some v := by
  have he := fun x (hx : x ∈ o.op.operands) (c : Bool) => h.evc hx c
  clear h
  generalize o.op = op at *
  cases op <;> simp only [aval] at hv ⊢ <;> (try (cases hv; done))
  case move x => rw [← he x (by simp [Op.operands])]; exact hv
  case assign x => rw [← he x (by simp [Op.operands])]; exact hv
  case pick x y z => simp only [← he x (by simp [Op.operands]), ← he y (by simp [Op.operands]), ← he z (by simp [Op.operands])]; exact hv
  case load t x =>
    rw [← he x (by simp [Op.operands])]
    split at hv
    · rename_i p hp
      split at hv
      case h_2 => cases hv
      rename_i e off n g h1 h2 h3
      simp only [hpl rfl _ _ h1, h2, h3]
      exact hv
    · cases hv
  case nilCheck x => rw [← he x (by simp [Op.operands])]; exact hv
  case binOp op t x y yt => rw [← he x (by simp [Op.operands]), ← he y (by simp [Op.operands])]; exact hv
  case unOp op t x => rw [← he x (by simp [Op.operands])]; exact hv
  case convert src dst x => rw [← he x (by simp [Op.operands])]; exact hv
  case fieldAddr t x f => rw [← he x (by simp [Op.operands])]; exact hv
  case field t x f => rw [← he x (by simp [Op.operands])]; exact hv
  case indexAddr t x i => rw [← he x (by simp [Op.operands]), ← he i (by simp [Op.operands])]; exact hv
  case index t x i => rw [← he x (by simp [Op.operands]), ← he i (by simp [Op.operands])]; exact hv
  case extract x i => rw [← he x (by simp [Op.operands])]; exact hv
  case slice t x lo hi mx =>
    cases mx with
    | some m => simp only at hv; cases hv
    | none =>
      simp only at hv ⊢
      rw [← he x (by simp [Op.operands]), ← evo_congr (S := S) (T := T) (c := c) (x := lo) (fun y hy => he y (by simp [Op.operands, hy]) c), ← evo_congr (S := S) (T := T) (c := c) (x := hi) (fun y hy => he y (by simp [Op.operands, hy]) c)]
      exact hv
  case build t parts =>
    rw [← evs_congr (S := S) (T := T) (c := c) (l := parts.toList) (fun p hp => he p.2 (by simp [Op.operands]; exact ⟨p.1, by simpa using hp⟩) c)]
    exact hv
  case call cl =>
    obtain ⟨callee, args, argTypes⟩ := cl
    cases callee with
    | value f => cases hv
    | invoke r m => cases hv
    | builtin b =>
    cases b <;> simp only at hv ⊢ <;> try (cases hv; done)
    split at hv
    case h_2 => cases hv
    rename_i x t ha ht
    rw [← he x (by simp [Op.operands, Call.operands]; rw [← Array.mem_toList_iff, ha]; simp)]
    exact hv

theorem Alike.symm {ops : List Oper} {o : Oper} {S T : AS} (h : Alike ops o S T) : Alike ops o T S := ⟨fun t ht => (h.1 t ht).symm, h.2.1.symm, h.2.2.symm⟩

theorem aval_none {ops : List Oper} {o : Oper} {S T : AS} (h : Alike ops o S T) {c : Bool} (hfb : S.fb c o.op = true) (hv : aval P S c o.op = none) : aval P T c o.op = none ∧ T.fb c o.op = true := by
  cases hl : loads o.op with
  | false =>
    refine ⟨?_, ?_⟩
    · cases hT : aval P T c o.op with
      | none => rfl
      | some v =>
        have := aval_congr h.symm (fun h0 => by rw [hl] at h0; cases h0) hT
        rw [hv] at this
        cases this
    · generalize o.op = op at *
      cases op <;> first | rfl | simp [loads] at hl
  | true =>
    have he := fun x (hx : x ∈ o.op.operands) (c : Bool) => h.evc hx c
    generalize o.op = op at *
    cases op <;> first | (simp [loads] at hl; done) | skip
    case load t x =>
    have hx := he x (by simp [Op.operands]) c
    simp only [AS.fb] at hfb ⊢
    simp only [aval]
    rw [← hx]
    refine ⟨?_, hfb⟩
    split
    · rename_i p hp
      rw [hp] at hfb
      cases p <;> first | (simp at hfb; done) | rfl
    · rfl

theorem elems_congr {S T : AS} (h : ∀ d, get S.objs d = get T.objs d) (p : V) : S.elems p = T.elems p := by
  cases p <;> simp only [AS.elems] <;> rw [h]
theorem place_congr {S T : AS} (h : ∀ d, get S.objs d = get T.objs d) (p : V) : S.place p = T.place p := by
  cases p <;> simp only [AS.place] <;> rw [h]

theorem acore_congr {ops : List Oper} {o : Oper} {S T : AS} (h : Alike ops o S T) (hob : ∀ d, get S.objs d = get T.objs d) {i : Nat} {O : List (Nat × Ob)} {v : V} (hv : acore P i S o.dst o.op = some (O, v)) :
    ∃ d ob, O = (d, ob) :: S.objs ∧ acore P i T o.dst o.op = some ((d, ob) :: T.objs, v) ∧ (makes o.op = true → o.dst = some d) := by
  have he := fun x (hx : x ∈ o.op.operands) (c : Bool) => h.evc hx c
  have hnx := h.2.2
  clear h
  generalize o.op = op at *
  generalize o.dst = dst at *
  cases op <;> simp only [acore] at hv ⊢ <;> (try (cases hv; done))
  case alloc t =>
    split at hv
    case h_2 => cases hv
    rename_i d z n h1 h2
    simp only [Option.some.injEq, Prod.mk.injEq] at hv
    obtain ⟨rfl, rfl⟩ := hv
    exact ⟨d, _, rfl, by simp only [h1, h2, hnx], fun _ => rfl⟩
  case box t x =>
    split at hv
    case h_2 => cases hv
    rename_i d z h2
    split at hv
    case isFalse => cases hv
    rename_i hok
    simp only [Option.some.injEq, Prod.mk.injEq] at hv
    obtain ⟨rfl, rfl⟩ := hv
    rw [he x (by simp [Op.operands])] at h2
    exact ⟨d, _, rfl, by simp only [h2, hok, if_true, hnx], fun _ => rfl⟩
  case buildSlice t len parts =>
    split at hv
    case h_2 => cases hv
    rename_i d te vs h2 h3
    split at hv
    case h_2 => cases hv
    rename_i z n h4 h5
    split at hv
    case isFalse => cases hv
    rename_i h6
    split at hv
    case h_2 => cases hv
    rename_i es h7
    simp only [Option.some.injEq, Prod.mk.injEq] at hv
    obtain ⟨rfl, rfl⟩ := hv
    rw [evs_congr (S := S) (T := T) (c := true) (l := parts.toList) (fun p hp => he p.2 (by simp [Op.operands]; exact ⟨p.1, by simpa using hp⟩) true)] at h3
    exact ⟨d, _, rfl, by simp only [h2, h3, h4, h5, if_pos h6, h7, hnx], fun _ => rfl⟩
  case makeSlice t l c =>
    split at hv
    case h_2 => cases hv
    rename_i d te k1 lv k2 cv h2 h3 h4
    split at hv
    case h_2 => cases hv
    rename_i z n b h5 h6 h7
    split at hv
    case isFalse => cases hv
    rename_i h8
    simp only [Option.some.injEq, Prod.mk.injEq] at hv
    obtain ⟨rfl, rfl⟩ := hv
    rw [he l (by simp [Op.operands])] at h3
    rw [he c (by simp [Op.operands])] at h4
    exact ⟨d, _, rfl, by simp only [h2, h3, h4, h5, h6, h7, if_pos h8, hnx], fun _ => rfl⟩
  case store t x y =>
    split at hv
    case h_2 => cases hv
    rename_i d v' sz k off u n h1 h2 h3
    split at hv
    case h_2 => cases hv
    rename_i ob hob'
    split at hv
    case isFalse => cases hv
    rename_i h4
    split at hv
    case h_2 => cases hv
    rename_i e h5
    split at hv
    case isFalse => cases hv
    rename_i h6
    simp only [Option.some.injEq, Prod.mk.injEq] at hv
    obtain ⟨rfl, rfl⟩ := hv
    rw [he x (by simp [Op.operands])] at h1
    rw [he y (by simp [Op.operands])] at h2
    rw [hob] at hob'
    exact ⟨d, _, rfl, by simp only [h1, h2, h3, hob', if_pos h4, h5, if_pos h6], fun hm => by simp [makes] at hm⟩
  case call cl =>
    obtain ⟨callee, args, argTypes⟩ := cl
    cases callee with
    | value f => cases hv
    | invoke r m => cases hv
    | builtin b =>
    cases b <;> simp only at hv ⊢ <;> try (cases hv; done)
    split at hv
    case h_2 => cases hv
    rename_i s x t t' dd ha ht
    split at hv
    case isFalse => cases hv
    rename_i htt
    split at hv
    case h_2 => cases hv
    rename_i sv xv te h1 h2 h3
    split at hv
    case h_2 => cases hv
    rename_i sz' news n b h4 h5 h6
    rw [he s (by simp [Op.operands, Call.operands]; rw [← Array.mem_toList_iff, ha]; simp)] at h1
    rw [he x (by simp [Op.operands, Call.operands]; rw [← Array.mem_toList_iff, ha]; simp)] at h2
    rw [elems_congr hob] at h4
    split at hv
    · rename_i d v' sz len
      split at hv
      case h_2 => cases hv
      rename_i ob hob'
      split at hv
      case isFalse => cases hv
      rename_i hb
      simp only [Option.some.injEq, Prod.mk.injEq] at hv
      obtain ⟨rfl, rfl⟩ := hv
      rw [hob] at hob'
      exact ⟨d, _, rfl, by simp only [ha, ht, if_pos htt, h1, h2, h3, h4, h5, h6, hob', if_pos hb, hnx], fun hm => by simp [makes] at hm⟩
    · split at hv
      case isFalse => cases hv
      rename_i hb
      simp only [Option.some.injEq, Prod.mk.injEq] at hv
      obtain ⟨rfl, rfl⟩ := hv
      exact ⟨dd, _, rfl, by simp only [ha, ht, if_pos htt, h1, h2, h3, h4, h5, h6, if_pos hb, hnx], fun hm => by simp [makes] at hm⟩
    · cases hv

theorem acts_core {op : Op} (h : acts op = false) (i : Nat) (S : AS) (dst : Option Nat) : acore P i S dst op = none := by
  cases op <;> first | rfl | (simp [acts] at h; done) | skip
  case call cl =>
    obtain ⟨callee, args, argTypes⟩ := cl
    cases callee with
    | value f => rfl
    | invoke r m => rfl
    | builtin b => cases b <;> first | rfl | simp [acts] at h
theorem acts_val {op : Op} (h : acts op = true) (S : AS) (c : Bool) : aval P S c op = none := by
  cases op <;> first | rfl | (simp [acts] at h; done) | skip
  case call cl =>
    obtain ⟨callee, args, argTypes⟩ := cl
    cases callee with
    | value f => rfl
    | invoke r m => rfl
    | builtin b => cases b <;> first | rfl | simp [acts] at h

/-- What a step does, and that it does so in every state that looks alike. -/
theorem step_spec {ops : List Oper} {i : Nat} {o : Oper} {S S' : AS} (hs : Step P ops i o S S') :
    ∃ u O, S' = S.ap o.dst u O ∧ (acts o.op = false → O = []) ∧ (makes o.op = true → ∀ d ob, (d, ob) ∈ O → o.dst = some d) ∧
      ∀ T, Alike ops o S T → (acts o.op = true → ∀ d, get S.objs d = get T.objs d) → (loads o.op = true → ∀ p r, S.place p = some r → T.place p = some r) → Step P ops i o T (T.ap o.dst u O) := by
  rcases hs with hs | ⟨c, f, args, ats, fid, fn, vs, res, hgv, ho, hf, hfn, hb, hn, ha, hp, hc, hs⟩
  · have hs0 := hs
    unfold astep at hs
    split at hs
    · rename_i hg
      split at hs
      · rename_i v hv
        obtain ⟨h1, h2⟩ := putv_ap hs
        refine ⟨v, [], h1, fun _ => rfl, fun _ d ob hm => (by simp at hm), fun T hT _ hpl => .inl ?_⟩
        unfold astep
        rw [hg]
        simp only [aval_congr hT hpl hv]
        exact ap_putv v (fun d hd => by rw [← hT.2.1]; exact h2 d hd)
      · rename_i hv
        have hact : acts o.op = true := by
          cases h0 : acts o.op with
          | true => rfl
          | false =>
            unfold aeff at hs
            rw [acts_core h0] at hs
            cases hs
        unfold aeff at hs
        split at hs
        case h_2 => cases hs
        rename_i O v hcore
        obtain ⟨h1, h2⟩ := putv_ap hs
        obtain ⟨d, ob, rfl, _, hmk⟩ := acore_congr (ops := ops) (T := S) ⟨fun _ _ => rfl, rfl, rfl⟩ (fun _ => rfl) hcore
        refine ⟨v, [(d, ob)], by rw [h1]; rfl, fun h0 => (by rw [hact] at h0; cases h0), fun hm d' ob' hmem => ?_, fun T hT hob _ => .inl ?_⟩
        · simp at hmem
          rw [hmem.1]
          exact hmk hm
        · unfold astep
          rw [hg]
          simp only [acts_val hact]
          obtain ⟨d', ob', he, hcT, _⟩ := acore_congr hT (hob hact) hcore
          injection he with he _
          injection he with he1 he2
          subst he1; subst he2
          unfold aeff
          simp only [hcT]
          have hlt : ∀ d1, o.dst = some d1 → d1 < ({ T with objs := (d, ob) :: T.objs } : AS).nt := fun d1 hd1 => by
            have := h2 d1 hd1
            simp only at this ⊢
            rw [← hT.2.1]; exact this
          have := ap_putv (S := { T with objs := (d, ob) :: T.objs }) v hlt
          rw [this]
          rfl
    · rename_i j want hg
      split at hs
      case h_2 => cases hs
      rename_i c hc
      have hgvS : S.gv ops o = some c := by simp only [AS.gv, hg]; exact hc
      split at hs
      · rename_i v hv
        obtain ⟨h1, h2⟩ := putv_ap hs
        refine ⟨.whn c v, [], h1, fun _ => rfl, fun _ d ob hm => (by simp at hm), fun T hT _ hpl => .inl ?_⟩
        have hgT : T.gd ops j want = some c := by have := hT.gv; rw [hgvS] at this; simp only [AS.gv, hg] at this; exact this.symm
        unfold astep
        rw [hg]
        simp only [hgT, aval_congr hT hpl hv]
        exact ap_putv _ (fun d hd => by rw [← hT.2.1]; exact h2 d hd)
      · rename_i hv
        split at hs
        case isFalse => cases hs
        rename_i hcf
        obtain ⟨rfl, hfb⟩ := hcf
        obtain ⟨h1, h2⟩ := putv_ap hs
        refine ⟨.whn false (.bool true), [], h1, fun _ => rfl, fun _ d ob hm => (by simp at hm), fun T hT _ hpl => ?_⟩
        have hgT : T.gd ops j want = some false := by have := hT.gv; rw [hgvS] at this; simp only [AS.gv, hg] at this; exact this.symm
        obtain ⟨hvT, hfT⟩ := aval_none hT hfb hv
        refine .inl ?_
        unfold astep
        rw [hg]
        simp only [hgT, hvT, hfT, and_self, if_true]
        exact ap_putv _ (fun d hd => by rw [← hT.2.1]; exact h2 d hd)
  · obtain ⟨h1, h2⟩ := putv_ap hs
    refine ⟨wrapG o c res, [], h1, fun _ => rfl, fun _ d ob hm => (by simp at hm), fun T hT _ _ => .inr ?_⟩
    have hops : ∀ x ∈ args.toList, x ∈ o.op.operands := fun x hx => by
      rw [ho]
      simp [Op.operands, Call.operands]
      right; simpa using hx
    refine ⟨c, f, args, ats, fid, fn, vs, res, by rw [← hT.gv]; exact hgv, ho, ?_, hfn, hb, hn, ?_, hp, hc, ap_putv _ (fun d hd => by rw [← hT.2.1]; exact h2 d hd)⟩
    · rw [← hT.evc (by rw [ho]; simp [Op.operands, Call.operands])]; exact hf
    · rw [← args_congr (S := S) (T := T) (fun x hx => hT.evc (hops x hx) c)]; exact ha
end
end Go.Eng
