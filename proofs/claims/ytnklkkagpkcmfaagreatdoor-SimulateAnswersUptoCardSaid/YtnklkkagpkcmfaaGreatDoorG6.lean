import Derived.Test.YtnklkkagpkcmfaaGreatDoorG5
set_option linter.all false
namespace Go.Eng
open Go.RowKit
noncomputable def nub {α : Type} : List (Nat × α) → List (Nat × α)
  | [] => []
  | (k, x) :: r => (k, x) :: (nub r).filter (fun p => !(p.1 == k))
theorem get_filter {α : Type} (k : Nat) : ∀ (l : List (Nat × α)) (t : Nat), t ≠ k → get (l.filter (fun p => !(p.1 == k))) t = get l t
  | [], t, _ => rfl
  | (a, x) :: r, t, h => by
    by_cases e : a = k
    · subst e
      simp only [List.filter_cons, beq_self_eq_true, Bool.not_true, Bool.false_eq_true, if_false]
      rw [get_filter a r t h, get_cons, if_neg (fun e => h e.symm)]
    · have : (!(a == k)) = true := by simp [e]
      simp only [List.filter_cons, this, if_true]
      rw [get_cons, get_cons, get_filter k r t h]
theorem get_nub {α : Type} : ∀ (l : List (Nat × α)) (t : Nat), get (nub l) t = get l t
  | [], t => rfl
  | (k, x) :: r, t => by
    simp only [nub]
    rw [get_cons, get_cons]
    split
    · rfl
    · rename_i h
      rw [get_filter k _ t (fun e => h e.symm), get_nub r t]
noncomputable def nubB {α : Type} : Nat → List (Nat × α) → List (Nat × α)
  | _, [] => []
  | m, (k, x) :: r => bif Nat.testBit m k then nubB m r else (k, x) :: nubB (m ||| 1 <<< k) r
theorem get_nubB {α : Type} : ∀ (l : List (Nat × α)) (m t : Nat), get (nubB m l) t = if Nat.testBit m t = true then none else get l t
  | [], m, t => by simp [nubB, get]
  | (k, x) :: r, m, t => by
    simp only [nubB]
    cases hk : Nat.testBit m k with
    | true =>
      simp only [cond_true]
      rw [get_nubB r m t, get_cons]
      split
      · rfl
      · rename_i ht; rw [if_neg (fun e => by subst e; exact ht hk)]
    | false =>
      simp only [cond_false]
      rw [get_cons, get_cons, get_nubB r _ t]
      have hb : Nat.testBit (m ||| 1 <<< k) t = (Nat.testBit m t || decide (k = t)) := by
        rw [Nat.testBit_or, Nat.one_shiftLeft, Nat.testBit_two_pow]
      rw [hb]
      by_cases e : k = t
      · subst e; simp [hk]
      · simp [e]
noncomputable def AS.nub (S : AS) : AS := { S with env := nubB 0 S.env, objs := Eng.nub S.objs }
theorem le_nub (S : AS) : S.le S.nub := le_of_get rfl (Nat.le_refl _) (fun t v h => by simpa [AS.nub, get_nubB] using h) (fun d o h => by simpa [AS.nub, get_nub] using h)
noncomputable def forceN {α : Type} (n : Nat) (f : Nat → α) : α := match n + 1 with | 0 => f 0 | m + 1 => f m
theorem forceN_eq {α : Type} (n : Nat) (f : Nat → α) : forceN n f = f n := rfl
noncomputable def forceI {α : Type} (n : Int) (f : Int → α) : α := match n with | .ofNat m => forceN m fun m => f (.ofNat m) | .negSucc m => forceN m fun m => f (.negSucc m)
theorem forceI_eq {α : Type} (n : Int) (f : Int → α) : forceI n f = f n := by cases n <;> simp [forceI, forceN_eq]
noncomputable def forceB {α : Type} (b : Bool) (f : Bool → α) : α := match b with | true => f true | false => f false
theorem forceB_eq {α : Type} (b : Bool) (f : Bool → α) : forceB b f = f b := by cases b <;> rfl
noncomputable def forceL {α β : Type} : List β → (List β → α) → α
  | [], f => f []
  | x :: r, f => forceL r fun r => f (x :: r)
theorem forceL_eq {α β : Type} : ∀ (l : List β) (f : List β → α), forceL l f = f l
  | [], f => rfl
  | x :: r, f => by simp only [forceL]; rw [forceL_eq r]
noncomputable def forceV {α : Type} (v : V) (f : V → α) : α := match v with
  | .int k n => forceI n fun n => f (.int k n)
  | .bool b => forceB b fun b => f (.bool b)
  | .whn b (.bool c) => forceB b fun b => forceB c fun c => f (.whn b (.bool c))
  | .whn b (.int k n) => forceB b fun b => forceI n fun n => f (.whn b (.int k n))
  | .whn b v => forceB b fun b => f (.whn b v)
  | .bp d v sz k off => forceN d fun d => forceN v fun v => forceN k fun k => forceN off fun off => f (.bp d v sz k off)
  | .sl d v sz len => forceN d fun d => forceN v fun v => forceN len fun len => f (.sl d v sz len)
  | .ss d v sz off len => forceN d fun d => forceN v fun v => forceN off fun off => forceN len fun len => f (.ss d v sz off len)
  | .str l => forceL l fun l => f (.str l)
  | .agg l => forceL l fun l => f (.agg l)
  | .ro sz l => forceL l fun l => f (.ro sz l)
  | v => f v
theorem forceV_eq {α : Type} (v : V) (f : V → α) : forceV v f = f v := by
  unfold forceV
  split <;> simp only [forceI_eq, forceB_eq, forceN_eq, forceL_eq]
noncomputable def forceH {α β : Type} (l : List β) (f : List β → α) : α := match l with | [] => f [] | x :: r => f (x :: r)
theorem forceH_eq {α β : Type} (l : List β) (f : List β → α) : forceH l f = f l := by cases l <;> rfl
noncomputable def AS.pack {α : Type} (b : Bool) (S : AS) (f : AS → α) : α := match S with
  | ⟨e, o, x, t⟩ => forceN x fun x => forceN t fun t =>
    match e with
    | (d, v) :: r => forceH r fun r => forceV v fun v => (bif b then (match o with
      | (k, ⟨w, sz, ty, es⟩) :: q => forceN k fun k => forceN w fun w => forceL es fun es => forceH q fun q => f ⟨(d, v) :: r, (k, ⟨w, sz, ty, es⟩) :: q, x, t⟩
      | [] => f ⟨(d, v) :: r, [], x, t⟩) else forceH o fun o => f ⟨(d, v) :: r, o, x, t⟩)
    | [] => forceH o fun o => f ⟨[], o, x, t⟩
theorem pack_eq {α : Type} (b : Bool) (S : AS) (f : AS → α) : S.pack b f = f S := by
  obtain ⟨e, o, x, t⟩ := S
  unfold AS.pack
  simp only [forceN_eq]
  split
  · simp only [forceH_eq]
    rw [forceV_eq]
    cases b with
    | true =>
      simp only [cond_true]
      split
      · rw [forceL_eq]
      · rfl
    | false => rfl
  · simp only [forceH_eq]
noncomputable def isSt : Op → Bool
  | .store .. | .call .. | .alloc .. | .box .. | .buildSlice .. | .makeSlice .. => true
  | _ => false
noncomputable def AS.prune (S : AS) : AS := if Nat.ble S.env.length 150 = true then (if Nat.ble S.objs.length 400 = true then S else S.nub) else S.nub
theorem le_prune (S : AS) : S.le S.prune := by
  unfold AS.prune
  split
  · split
    · exact AS.le_refl S
    · exact le_nub S
  · exact le_nub S
abbrev Out := V × List (Nat × Ob) × Nat
noncomputable def ACN (H : Bs → Prop) (P : Program) (f : FuncId) (args : List V) (ins : List (Nat × Ob)) (nx : Nat) (l : List Out) : Prop :=
  ∀ (B : Bs) (N : Nat → Prop) (μ : Mu) (xs : List Value), H B → xs.length = args.length → B.df = [] →
    RelM (fun _ => False) B N μ ⟨env0 0 args, ins, nx, args.length⟩ ⟨xs.toArray, []⟩ B.w →
    Calls P f xs.toArray B.w (fun e w' => ∃ t ∈ l, ∃ x μ', e = .returned x ∧ RelM (fun _ => False) B N μ' ⟨[(0, t.1)], t.2.1, t.2.2, 1⟩ ⟨#[x], []⟩ w')
structure Her (H H0 : Bs → Prop) : Prop where
  hand : ∀ {D : Nat → Prop} {w0 : Bs} {N0 : Nat → Prop} {μ : Mu} {S : AS} {a : Act} {w : World}, H w0 → RelM D w0 N0 μ S a w → H ⟨w, OwnB μ S.objs, μ, []⟩
  zero : ∀ {B : Bs}, H B → H0 B
  hand0 : ∀ {D : Nat → Prop} {w0 : Bs} {N0 : Nat → Prop} {μ : Mu} {S : AS} {a : Act} {w : World}, H0 w0 → RelM D w0 N0 μ S a w → H0 ⟨w, OwnB μ S.objs, μ, []⟩
  pure : ∀ {w0 : Bs} {w : World}, H0 w0 → w0.Below w → H0 ⟨w, fun _ => False, fun _ _ => none, []⟩
theorem Her.low {H H0 : Bs → Prop} (h : Her H H0) : Her H0 H0 := ⟨h.hand0, id, h.hand0, h.pure⟩
noncomputable def ACH (H : Bs → Prop) (P : Program) (f : FuncId) (args : List V) (R : V → Prop) : Prop := ∀ w0, H w0 → ACB w0 P f args R
theorem AC.h {H : Bs → Prop} {P : Program} {f : FuncId} {args : List V} {R : V → Prop} (h : AC P f args R) : ACH H P f args R := fun _ _ => h.b
theorem ACQ.h {G : Gp} {P : Program} {f : FuncId} {args : List V} {R : V → Prop} (h : ACQ G P f args R) : ACH (Gon G) P f args R := fun _ hG => h.b hG
noncomputable def callV : V → List V → Option (FuncId × List V)
  | .fn fid, vs => some (fid, vs)
  | .clo fid us ds, vs => some (fid, us ++ vs ++ ds)
  | .fc fid us ds, vs => some (fid, us ++ vs ++ ds)
  | _, _ => none
noncomputable def allM {α β : Type} (f : α → Option β) : List α → Option (List β)
  | [] => some []
  | x :: r => match f x with
    | some y => match allM f r with
      | some l => some (y :: l)
      | none => none
    | none => none
theorem allM_mem {α β : Type} {f : α → Option β} : ∀ {l : List α} {r : List β}, allM f l = some r → ∀ x ∈ l, ∃ y ∈ r, f x = some y
  | [], r, _, x, hx => by cases hx
  | a :: l, r, h, x, hx => by
    simp only [allM] at h
    split at h
    case h_2 => cases h
    rename_i y hy
    split at h
    case h_2 => cases h
    rename_i q hq
    injection h with h
    subst h
    rcases List.mem_cons.1 hx with rfl | hx
    · exact ⟨y, by simp, hy⟩
    · obtain ⟨z, hz, hf⟩ := allM_mem hq x hx
      exact ⟨z, by simp [hz], hf⟩
theorem allM_inv {α β : Type} {f : α → Option β} : ∀ {l : List α} {r : List β}, allM f l = some r → ∀ y ∈ r, ∃ x ∈ l, f x = some y
  | [], r, h, y, hy => by simp only [allM, Option.some.injEq] at h; subst h; cases hy
  | a :: l, r, h, y, hy => by
    simp only [allM] at h
    split at h
    case h_2 => cases h
    rename_i z hz
    split at h
    case h_2 => cases h
    rename_i q hq
    injection h with h
    subst h
    rcases List.mem_cons.1 hy with rfl | hy
    · exact ⟨a, by simp, hz⟩
    · obtain ⟨x, hx, hf⟩ := allM_inv hq y hy
      exact ⟨x, by simp [hx], hf⟩
noncomputable def bindM {α β : Type} (f : α → Option (List β)) (l : List α) : Option (List β) := (allM f l).map List.flatten
theorem bindM_mem {α β : Type} {f : α → Option (List β)} {l : List α} {r : List β} (h : bindM f l = some r) : ∀ x ∈ l, ∃ q, f x = some q ∧ ∀ y ∈ q, y ∈ r := by
  unfold bindM at h
  obtain ⟨qs, h1, rfl⟩ := Option.map_eq_some_iff.1 h
  intro x hx
  obtain ⟨q, hq, hf⟩ := allM_mem h1 x hx
  exact ⟨q, hf, fun y hy => List.mem_flatten.2 ⟨q, hq, hy⟩⟩
theorem bindM_inv {α β : Type} {f : α → Option (List β)} {l : List α} {r : List β} (h : bindM f l = some r) : ∀ y ∈ r, ∃ x ∈ l, ∃ q, f x = some q ∧ y ∈ q := by
  unfold bindM at h
  obtain ⟨qs, h1, rfl⟩ := Option.map_eq_some_iff.1 h
  intro y hy
  obtain ⟨q, hq, hyq⟩ := List.mem_flatten.1 hy
  obtain ⟨x, hx, hf⟩ := allM_inv h1 q hq
  exact ⟨x, hx, q, hf, hyq⟩
section
variable {P : Program} {kb : Nat} {w0 : Bs} {N0 : Nat → Prop} {S S' : AS} {Q : Exit → AS → Prop} {ops : List Oper} {H H0 : Bs → Prop}
noncomputable def Sub (a b : List (Nat × Ob)) : Prop := ∀ k, get b k = none → get a k = none
theorem Sub.refl (a : List (Nat × Ob)) : Sub a a := fun _ h => h
theorem Sub.trans {a b c : List (Nat × Ob)} (h : Sub a b) (k : Sub b c) : Sub a c := fun d hd => h d (k d hd)
theorem Sub.cons (a : List (Nat × Ob)) (p : Nat × Ob) : Sub a (p :: a) := fun k h => by
  obtain ⟨d, o⟩ := p
  rw [get_cons] at h
  split at h
  · cases h
  · exact h
theorem putv_objs {dst : Option Nat} {v : V} (h : S.putv dst v = some S') : S'.objs = S.objs := by
  unfold AS.putv at h
  split at h
  · split at h
    · injection h with h; subst h; rfl
    · cases h
  · injection h with h; subst h; rfl
theorem acore_sub {i : Nat} {dst : Option Nat} {kd : Nat} {op : Op} {O : List (Nat × Ob)} {v : V} (h : acore P i S dst kd op = some (O, v)) : Sub S.objs O := by
  unfold acore at h
  repeat' split at h
  all_goals first
    | (cases h; done)
    | (injection h with h; injection h with h _; subst h; exact Sub.cons _ _)
theorem astepK_sub {i : Nat} {o : Oper} (h : astepK P kb ops i o S = some S') : Sub S.objs S'.objs := by
  unfold astepK at h
  split at h
  · split at h
    · rw [putv_objs h]; exact Sub.refl _
    · unfold aeff at h
      split at h
      · rename_i O v hc
        rw [putv_objs h]; exact acore_sub hc
      · cases h
  · split at h
    · split at h
      · rw [putv_objs h]; exact Sub.refl _
      · split at h
        · rw [putv_objs h]; exact Sub.refl _
        · cases h
    · cases h
theorem gact_sub {i : Nat} {o : Oper} (h : gact P kb ops i o S = some S') : Sub S.objs S'.objs := by
  unfold gact at h
  repeat' split at h
  all_goals first
    | (cases h; done)
    | (rename_i hc; rw [putv_objs h]; exact acore_sub hc)
theorem RelM.fewer {D : Nat → Prop} {μ : Mu} {a : Act} {w : World} {outs : List (Nat × Ob)} (h : RelM D w0 N0 μ { S with objs := outs ++ S.objs } a w) : RelM D w0 N0 μ { S with objs := outs } a w := by
  have ho : ∀ d o, get outs d = some o → get (outs ++ S.objs) d = some o := fun d o hd => by rw [get_app, hd]
  have hsub : ∀ b, b < w.heap.size → Own N0 μ { S with objs := outs } b → Own N0 μ { S with objs := outs ++ S.objs } b := by
    rintro b _ (h0 | ⟨d, o, c, h1, h2⟩)
    · exact .inl h0
    · exact .inr ⟨d, o, c, ho d o h1, h2⟩
  have hk := Keeps.refl w (Own N0 μ { S with objs := outs ++ S.objs })
  refine ⟨h.defers, h.size, h.below, h.n0, h.fresh, fun d o hd => ?_, fun d o d' o' g c c' h1 h2 => h.inj d o d' o' g c c' (ho _ _ h1) (ho _ _ h2), fun t v hv => ?_⟩
  · obtain ⟨l, hl, hob⟩ := h.objs d o (ho _ _ hd)
    exact ⟨l, hl, hob.keep hk hsub (fun _ _ _ hh => hh) (fun _ _ _ => rfl)⟩
  · obtain ⟨h1, h2⟩ := h.env t v hv
    exact ⟨h1, h2.keep hk hsub (fun _ _ _ hh => hh)⟩
theorem RelM.fewG {D : Nat → Prop} {μ : Mu} {a : Act} {w : World} {outs : List (Nat × Ob)} (ho : ∀ d o, get outs d = some o → get S.objs d = some o) (h : RelM D w0 N0 μ S a w) : RelM D w0 N0 μ { S with objs := outs } a w := by
  have hsub : ∀ b, b < w.heap.size → Own N0 μ { S with objs := outs } b → Own N0 μ S b := by
    rintro b _ (h0 | ⟨d, o, c, h1, h2⟩)
    · exact .inl h0
    · exact .inr ⟨d, o, c, ho d o h1, h2⟩
  have hk := Keeps.refl w (Own N0 μ S)
  refine ⟨h.defers, h.size, h.below, h.n0, h.fresh, fun d o hd => ?_, fun d o d' o' g c c' h1 h2 => h.inj d o d' o' g c c' (ho _ _ h1) (ho _ _ h2), fun t v hv => ?_⟩
  · obtain ⟨l, hl, hob⟩ := h.objs d o (ho _ _ hd)
    exact ⟨l, hl, hob.keep hk hsub (fun _ _ _ hh => hh) (fun _ _ _ => rfl)⟩
  · obtain ⟨h1, h2⟩ := h.env t v hv
    exact ⟨h1, h2.keep hk hsub (fun _ _ _ hh => hh)⟩
theorem Enc.fewer {μ : Mu} {w : World} {outs : List (Nat × Ob)} {x : Value} {v : V} (h : Enc w (Own N0 μ { S with objs := outs ++ S.objs }) μ x v) : Enc w (Own N0 μ { S with objs := outs }) μ x v :=
  h.keep (Keeps.refl w _) (fun b _ hb => by
    rcases hb with h0 | ⟨d, o, c, h1, h2⟩
    · exact .inl h0
    · exact .inr ⟨d, o, c, by simp only at h1 ⊢; rw [get_app, h1], h2⟩) (fun _ _ _ hh => hh)
theorem app3 {R : Value → V → Prop} {xs zs ys : List Value} {us vs ds : List V} (h1 : xs.length = us.length) (h2 : zs.length = vs.length) (h3 : ys.length = ds.length)
    (k1 : ∀ (i : Nat) x c, xs[i]? = some x → us[i]? = some c → R x c) (k2 : ∀ (i : Nat) x c, zs[i]? = some x → vs[i]? = some c → R x c) (k3 : ∀ (i : Nat) x c, ys[i]? = some x → ds[i]? = some c → R x c) :
    (xs ++ zs ++ ys).length = (us ++ vs ++ ds).length ∧ ∀ (j : Nat) x v, (xs ++ zs ++ ys)[j]? = some x → (us ++ vs ++ ds)[j]? = some v → R x v := by
  refine ⟨by simp [h1, h2, h3], fun j x v hx hv => ?_⟩
  have hl1 : (xs ++ zs).length = (us ++ vs).length := by simp [h1, h2]
  by_cases hj : j < (us ++ vs).length
  · rw [List.getElem?_append_left (by omega)] at hx
    rw [List.getElem?_append_left hj] at hv
    by_cases hj2 : j < us.length
    · rw [List.getElem?_append_left (by omega)] at hx
      rw [List.getElem?_append_left hj2] at hv
      exact k1 j x v hx hv
    · rw [List.getElem?_append_right (by omega)] at hx
      rw [List.getElem?_append_right (by omega)] at hv
      rw [h1] at hx
      exact k2 _ x v hx hv
  · rw [List.getElem?_append_right (by omega)] at hx
    rw [List.getElem?_append_right (by omega)] at hv
    rw [hl1] at hx
    exact k3 _ x v hx hv
theorem callV_eval {D : Nat → Prop} {μ : Mu} {a : Act} {w : World} (h : RelM D w0 N0 μ S a w) {f : Operand} {fv : V} {vs us : List V} {zs : List Value} {fid : FuncId} (hf : S.evc true f = some fv)
    (hl : zs.length = vs.length) (hz : ∀ (j : Nat) x v, zs[j]? = some x → vs[j]? = some v → Enc w (Own N0 μ S) μ x v) (hcv : callV fv vs = some (fid, us)) :
    ∃ xs ys : List Value, a.eval f = .func (.func fid) xs.toArray ys.toArray ∧ (xs ++ zs ++ ys).length = us.length ∧ ∀ (j : Nat) x v, (xs ++ zs ++ ys)[j]? = some x → us[j]? = some v → Enc w (Own N0 μ S) μ x v := by
  have hfe := h.evc hf rfl
  cases fv <;> simp only [callV] at hcv <;> try (cases hcv; done)
  case fn g =>
    simp only [Option.some.injEq, Prod.mk.injEq] at hcv
    obtain ⟨rfl, rfl⟩ := hcv
    exact ⟨[], [], fn_eval h hf, by simpa using hl, by simpa using hz⟩
  case clo g cs ds =>
    simp only [Option.some.injEq, Prod.mk.injEq] at hcv
    obtain ⟨rfl, rfl⟩ := hcv
    generalize hfe' : a.eval f = y at hfe
    cases hfe with
    | pur hp => cases hp
    | clo _ xs ys _ _ h1 h2 _ h3 h4 =>
      obtain ⟨k1, k2⟩ := app3 h1 hl h2 h3 hz h4
      exact ⟨xs, ys, rfl, k1, k2⟩
  case fc g cs ds =>
    simp only [Option.some.injEq, Prod.mk.injEq] at hcv
    obtain ⟨rfl, rfl⟩ := hcv
    generalize hfe' : a.eval f = y at hfe
    cases hfe with
    | pur hp => cases hp with
      | fc _ xs ys _ _ h1 h2 h3 h4 =>
        obtain ⟨k1, k2⟩ := app3 (R := Enc w (Own N0 μ S) μ) h1 hl h2 (fun i x c hx hc => .pur (h3 i x c hx hc)) hz (fun i x c hx hc => .pur (h4 i x c hx hc))
        exact ⟨xs, ys, rfl, k1, k2⟩
theorem call_runF {o : Oper} {a : Act} {w : World} {f : Operand} {fid : FuncId} {fn : Func} {args : Array Operand} {ats : Array TypeId} {xs ys : List Value} (ho : o.op = .call { callee := .value f, args := args, argTypes := ats }) (hf : a.eval f = .func (.func fid) xs.toArray ys.toArray)
    (hfn : P.funcs[fid]? = some fn) (hb : fn.body.isSome = true) (hn : (fn.name == "runtime.NumGoroutine") = false) {K : Act → World → Prop} {Q' : Exit → Act → World → Prop} {R : Ending → World → Prop}
    (hc : Calls P fid (xs ++ args.toList.map a.eval ++ ys).toArray w R) (h1 : ∀ x w', R (.returned x) w' → K (a.put o.dst x) w') (h2 : ∀ ch w', R (.panicked ch) w' → Q' (.panic ch) a w') (h3 : ∀ w', ¬ R .outgrown w') : o.wp P a w K Q' := by
  unfold Oper.wp
  rw [run_call_fv ho hf hfn hb hn]
  refine hc.mono ?_
  intro e w' hR
  cases e with
  | returned x => exact h1 x w' hR
  | panicked ch => exact h2 ch w' hR
  | outgrown => exact (h3 w' hR).elim
theorem rs_callN {i : Nat} {o : Oper} {f : Operand} {fv : V} {fid : FuncId} {fn : Func} {args : Array Operand} {ats : Array TypeId} {vs us : List V} {l : List Out} {r : List AS}
    (hHer : Her H H0) (hH : H w0) (hc : ACN H P fid us S.objs (S.nx + ops.length + 1) l) (hfn : P.funcs[fid]? = some fn) (hb : fn.body.isSome = true) (hn : (fn.name == "runtime.NumGoroutine") = false)
    (hg : S.gv ops o = some true) (ho : o.op = .call { callee := .value f, args := args, argTypes := ats }) (hf : S.evc true f = some fv)
    (ha : S.args true args.toList = some vs) (hcv : callV fv vs = some (fid, us))
    (hcov : ∀ t ∈ l, Sub S.objs t.2.1)
    (h : allM (fun t : Out => ({ S with objs := t.2.1, nx := t.2.2 } : AS).putv o.dst (wrapG o true t.1)) l = some r) :
    RelStep P w0 N0 ops Q i o S (fun S' => S' ∈ r) := by
  rintro D a w ⟨μ, hr⟩ hi hD K hK
  rw [wanted_of hr hg, if_pos rfl]
  have hfresh := hr.fresh_lt hD
  obtain ⟨h1, h2⟩ := args_spec hr rfl ha
  have hins : ∀ k q, get S.objs k = some q → get S.objs k = some q := fun _ _ h => h
  obtain ⟨xs, ys, hfe, hz1, hz2⟩ := callV_eval hr hf (zs := args.toList.map a.eval) (by simp [h1]) (fun j x v hx hv => by
    simp only [List.getElem?_map, Option.map_eq_some_iff] at hx
    obtain ⟨y, hy, rfl⟩ := hx
    exact h2 j y v hy hv) hcv
  have hhand := hr.hand (nx := S.nx + ops.length + 1) hfresh (ins := S.objs) hz1 hins hz2
  have hcall := hc ⟨w, OwnB μ S.objs, μ, []⟩ _ μ _ (hHer.hand hH hr) hz1 rfl hhand
  refine call_runF ho hfe hfn hb hn hcall ?_ ?_ ?_
  · rintro x w' ⟨t, ht, x', μ', he, hrel⟩
    injection he with he
    subst he
    obtain ⟨T, hT, hs⟩ := allM_mem h t ht
    obtain ⟨hb1, hb2⟩ := hr.back hins (hcov t ht) hrel
    replace hb1 := RelM.fewer (S := { S with nx := t.2.2 }) hb1
    replace hb2 := Enc.fewer (S := { S with nx := t.2.2 }) hb2
    refine hK T _ _ hT ⟨μ', (hb1.putv hs ?_).more (fun j hj => hj.elim)⟩
    unfold wrapG
    split
    · exact hb2
    · exact .whn _ _ _ (fun _ => hb2) (fun hf => by cases hf)
  · rintro ch w' ⟨t, ht, x', μ', he, _⟩
    cases he
  · rintro w' ⟨t, ht, x', μ', he, _⟩
    cases he
theorem awl_rel {i : Nat} {o : Oper} {rest : List Oper} {R : AS → Prop} (hlt : i < ops.length) (hs : RelStep P w0 N0 ops Q i o S R) (h : ∀ S', R S' → AWL P w0 N0 ops Q (i + 1) rest S') : AWL P w0 N0 ops Q i (o :: rest) S := by
  intro D a w hD hr
  have hi : ¬ D i := fun hd => absurd (hD i hd) (by omega)
  refine wpList_step fun K hK => hs D a w hr hi (fun j hj => Nat.lt_trans (hD j hj) hlt) _ (fun S' a' w' hR hr' => hK _ _ (h S' hR _ a' w' (fun j hj => ?_) hr'))
  rcases hj with hj | hj
  · have := hD j hj; omega
  · omega
noncomputable def cops (step : Nat → Oper → AS → Option (List AS)) : Nat → List Oper → AS → Option (List AS)
  | i, [], S => some [S.bump i]
  | i, o :: r, S => match step i o S with
    | some ts => bindM (cops step (i + 1) r) ts
    | none => none
theorem cops_sound {step : Nat → Oper → AS → Option (List AS)} (hst : ∀ i o S ts, step i o S = some ts → RelStep P w0 N0 ops Q i o S (fun T => T ∈ ts)) :
    ∀ {l : List Oper} {i : Nat} {S : AS} {r : List AS}, i + l.length = ops.length → cops step i l S = some r → (∀ T ∈ r, Q .normal T) → AWL P w0 N0 ops Q i l S
  | [], i, S, r, _, h, hQ => by
    simp only [cops, Option.some.injEq] at h
    subst h
    exact awl_nil (hQ _ (by simp [AS.bump]))
  | o :: l, i, S, r, hl, h, hQ => by
    simp only [cops] at h
    split at h
    case h_2 => cases h
    rename_i ts hts
    refine awl_rel (by simp at hl; omega) (hst i o S ts hts) (fun T hT => ?_)
    obtain ⟨q, hq, hqr⟩ := bindM_mem h T hT
    exact cops_sound hst (by simp at hl; omega) hq (fun U hU => hQ U (hqr U hU))
theorem ax_fin' {n : Nat} {listed : Array Bool} (hsz : listed.size = ops.length) (h0 : (Region.ready .any ops.toArray listed).isEmpty = true) (h : Q .normal (S.bump ops.length)) : AX P w0 N0 ops Q n listed S := by
  have h0' : Region.ready .any ops.toArray listed = [] := by simpa using h0
  rintro a w ⟨μ, hr⟩
  have hq : post w0 N0 Q .normal a w := by
    refine ⟨_, h, ⟨μ, ⟨hr.defers, hr.size, hr.below, hr.n0, fun d v hv => ?_, hr.objs, hr.inj, hr.env⟩⟩⟩
    rcases hr.fresh d v hv with h3 | ⟨j, hj, e⟩
    · exact .inl (by show v < S.nx + ops.length; omega)
    · have hlt : j < listed.size := by
        rcases Nat.lt_or_ge j listed.size with h | h
        · exact h
        · simp [Array.getElem?_eq_none h] at hj
      exact .inl (by show v < S.nx + ops.length; omega)
  cases n with
  | zero => exact ⟨h0', hq⟩
  | succ n => exact ⟨fun _ => hq, fun i hi => by rw [h0'] at hi; cases hi⟩
noncomputable def cany (step : Nat → Oper → AS → Option (List AS)) (ops : List Oper) : Nat → Array Bool → AS → Option (List AS)
  | 0, listed, S => if (Region.ready .any ops.toArray listed).isEmpty = true then some [S.bump ops.length] else none
  | n + 1, listed, S => if (Region.ready .any ops.toArray listed).isEmpty = true then some [S.bump ops.length] else
    bindM (fun i => match nth ops i with
      | some o => match step i o S with
        | some ts => bindM (cany step ops n (listed.setIfInBounds i true)) ts
        | none => none
      | none => none) (Region.ready .any ops.toArray listed)
theorem cany_sound {step : Nat → Oper → AS → Option (List AS)} (hst : ∀ i o S ts, step i o S = some ts → RelStep P w0 N0 ops Q i o S (fun T => T ∈ ts)) :
    ∀ {n : Nat} {listed : Array Bool} {S : AS} {r : List AS}, listed.size = ops.length → cany step ops n listed S = some r → (∀ T ∈ r, Q .normal T) → AX P w0 N0 ops Q n listed S
  | 0, listed, S, r, hsz, h, hQ => by
    simp only [cany] at h
    split at h
    case isFalse => cases h
    rename_i h0
    injection h with h
    subst h
    exact ax_fin' hsz h0 (hQ _ (by simp))
  | n + 1, listed, S, r, hsz, h, hQ => by
    simp only [cany] at h
    split at h
    · rename_i h0
      injection h with h
      subst h
      exact ax_fin' hsz h0 (hQ _ (by simp))
    · rename_i h0
      refine ax_fork (Region.ready .any ops.toArray listed) (by simp [hsz, h0]) (fun i hi => ?_)
      obtain ⟨q, hq, hqr⟩ := bindM_mem h i hi
      split at hq
      case h_2 => cases hq
      rename_i o ho
      split at hq
      case h_2 => cases hq
      rename_i ts hts
      rw [nth_eq] at ho
      refine ⟨o, _, ho, hst i o S ts hts, fun T hT => ?_⟩
      obtain ⟨q2, hq2, hqr2⟩ := bindM_mem hq T hT
      exact cany_sound hst (by simpa using hsz) hq2 (fun U hU => hQ U (hqr U (hqr2 U hU)))
noncomputable def XVok (P : Program) (H : Bs → Prop) (XV : Op → AS → Option V) : Prop := ∀ (w0 : Bs) (D N0 : Nat → Prop) (μ : Mu) (S : AS) (a : Act) (w : World) (o : Oper) (v : V), H w0 → RelM D w0 N0 μ S a w → XV o.op S = some v →
  ∃ x, (execOp a.eval o).run P w = .ok (.value x) w ∧ Enc w (Own N0 μ S) μ x v
noncomputable def nKS : FuncId → List V → List (Nat × Ob) → Nat → Option (List Out) := fun _ _ _ _ => none
noncomputable def nXV (P : Program) : Op → AS → Option V
  | .binOp .eql t x (.const (.slice none _ _)) _, S => bif tslice P t then (match S.evc true x with
    | some v => (match v.slen with
      | some n => bif Nat.ble 1 n then some (.bool false) else none
      | none => none)
    | none => none) else none
  | .binOp .eql t x (.const .nilIface) _, S => match P.underlying t with
    | some (.interface _) => (match S.evc true x with
      | some .nili => some (.bool true)
      | _ => none)
    | _ => none
  | .slice t x lo hi none, S => match S.evc true x, S.evo true lo, S.evo true hi with
    | some .nils, some lv, some hv => match telem P t with
      | some te => match tsz P te, abounds 0 lv hv with
        | some _, some _ => some .nils
        | _, _ => none
      | none => none
    | _, _, _ => none
  | _, _ => none
theorem nXV_ok : XVok P H (nXV P) := by
  intro w0 D N0 μ S a w o v _ hr hv
  unfold nXV at hv
  split at hv
  case h_4 => cases hv
  case h_2 =>
    rename_i t x t' ho
    split at hv
    case h_2 => cases hv
    rename_i ms hty
    split at hv
    case h_2 => cases hv
    rename_i hu
    injection hv with hv
    subst hv
    have hx := hr.evc hu rfl
    have he : a.eval x = .nilIface := by
      generalize a.eval x = y at hx
      cases hx with
      | pur hx => cases hx with
        | nili => rfl
    refine ⟨.bool true, ?_, .pur (.bool _)⟩
    unfold execOp
    rw [ho]
    have hq : (Op.equalIn (9999 + 1) t .nilIface .nilIface).run P w = .ok true w := by
      unfold Op.equalIn
      simp only [Sem.run_bind, run_underlying hty, Result.andThen_ok, Sem.run_pure]
    have hb2 : (binOp .eql t .nilIface .nilIface : Sem Value) = (do pure (.bool (← Op.equalIn (9999 + 1) t .nilIface .nilIface))) := rfl
    have he2 : a.eval (.const .nilIface) = .nilIface := rfl
    have hgd : (eqGuard .eql t x (.const .nilIface) .nilIface .nilIface : Sem Unit) = pure () := by cases x <;> rfl
    simp only [he, he2, hgd, hb2, Sem.run_bind, Sem.run_pure, Result.andThen_ok, hq]
  case h_3 =>
    rename_i t x lo hi ho
    split at hv
    case h_2 => cases hv
    rename_i lv hv' h1 h2 h3
    obtain ⟨b1, b2⟩ := hr.evo h2 rfl
    obtain ⟨b3, b4⟩ := hr.evo h3 rfl
    have hx := hr.evc h1 rfl
    split at hv
    case h_2 => cases hv
    rename_i te hte
    split at hv
    case h_2 => cases hv
    rename_i z pq hz hb
    obtain ⟨p, q⟩ := pq
    injection hv with hv
    subst hv
    generalize hxe : a.eval x = xv at hx
    cases hx with
    | pur hx =>
    cases hx with
    | nils A =>
    obtain ⟨k1, k2, k3⟩ := bounds_run (P := P) (w := w) (isSlice := true) hb (Nat.le_refl 0) b1 b2 b3 b4
    have hq : q = 0 := by omega
    have hp : p = 0 := by omega
    subst hq
    subst hp
    have hrun := slice_run (A := A) hte hz k1
    refine ⟨.slice A 0 0, ?_, .pur (.nils A)⟩
    unfold execOp
    rw [ho]
    simp only [Option.map_none, hxe]
    rw [Sem.run_bind, hrun]
    rfl
  rename_i t x l c t' ho
  cases ht : tslice P t with
  | false => rw [ht] at hv; cases hv
  | true =>
    rw [ht] at hv
    simp only [cond_true] at hv
    split at hv
    case h_2 => cases hv
    rename_i u hu
    split at hv
    case h_2 => cases hv
    rename_i n hn
    cases hb : Nat.ble 1 n with
    | false => rw [hb] at hv; cases hv
    | true =>
      rw [hb] at hv
      simp only [cond_true, Option.some.injEq] at hv
      subst hv
      obtain ⟨A, m, cc, he, hA⟩ := (hr.evc hu rfl).slen hn
      have hne : A.isNone = false := by
        cases hAn : A with
        | none => have := hA hAn; have := Nat.le_of_ble_eq_true hb; omega
        | some _ => rfl
      have hty : ∃ e, P.underlying t = some (.slice e) := by
        unfold tslice at ht
        split at ht
        · exact ⟨_, by assumption⟩
        · cases ht
      obtain ⟨e, hty⟩ := hty
      refine ⟨.bool false, ?_, .pur (.bool _)⟩
      unfold execOp
      rw [ho]
      have hq := run_equal_nil (w := w) hty A m cc l c 9999
      have hb2 : (binOp .eql t (.slice A m cc) (.slice none l c) : Sem Value) = (do pure (.bool (← Op.equalIn (9999 + 1) t (.slice A m cc) (.slice none l c)))) := rfl
      have he2 : a.eval (.const (.slice none l c)) = .slice none l c := rfl
      have hgd : (eqGuard .eql t x (.const (.slice none l c)) (.slice A m cc) (.slice none l c) : Sem Unit) = pure () := rfl
      simp only [he, he2, hgd, hb2, Sem.run_bind, Sem.run_pure, Result.andThen_ok, hq, hne]
theorem rs_xv {XV : Op → AS → Option V} (hX : XVok P H XV) (hH : H w0) {i : Nat} {o : Oper} {v : V} {S' : AS} (hg : S.gv ops o = some true) (hv : XV o.op S = some v) (hs : S.putv o.dst (wrapG o true v) = some S') : RelStep P w0 N0 ops Q i o S (fun T => T ∈ [S']) := by
  rintro D a w ⟨μ, hr⟩ hi hD K hK
  rw [wanted_of hr hg, if_pos rfl]
  obtain ⟨x, hx, hex⟩ := hX w0 D N0 μ S a w o v hH hr hv
  unfold Oper.wp
  rw [hx]
  refine hK S' _ _ (by simp) ⟨μ, (hr.putv hs ?_).more (fun j hj => .inl hj)⟩
  unfold wrapG
  split
  · exact hex
  · exact .whn _ _ _ (fun _ => hex) (fun hf => by cases hf)
noncomputable def estepX (P : Program) (o : Oper) (S : AS) : Option (List AS) := match o.guard with
  | some _ => none
  | none => match o.op with
    | .binOp .eql t x (.const (.slice none _ _)) _ => bif tslice P t then (match S.evc true x with
      | some v => (match v.slen with
        | some n => bif Nat.beq n 0 then (match S.putv o.dst (.bool true), S.putv o.dst (.bool false) with
          | some T, some U => some [T, U]
          | _, _ => none) else none
        | none => none)
      | none => none) else none
    | .call { callee := .builtin .copy, args := args, argTypes := ats } => match args.toList, ats.toList with
      | [x, y], [dT, _] => match telem P dT with
        | some te => if tsz P te = some 1 then (match S.copyTS x y o.dst with
          | some T => some [T]
          | none => (S.copyT x y o.dst).map fun T => [T]) else none
        | none => none
      | _, _ => none
    | _ => none
theorem estepX_sound {i : Nat} {o : Oper} {ts : List AS} (h : estepX P o S = some ts) : RelStep P w0 N0 ops Q i o S (fun T => T ∈ ts) := by
  unfold estepX at h
  split at h
  · cases h
  rename_i hgn
  rintro D a w ⟨μ, hr⟩ hi hD K hK
  have hw : Region.wanted o (yielded ops.toArray a.tmps) = true := by simp [Region.wanted, hgn]
  rw [hw, if_pos rfl]
  split at h
  · rename_i t x l c t' ho
    cases ht : tslice P t with
    | false => rw [ht] at h; cases h
    | true =>
    rw [ht] at h
    simp only [cond_true] at h
    split at h
    case h_2 => cases h
    rename_i v hv
    split at h
    case h_2 => cases h
    rename_i n hn
    cases hn0 : Nat.beq n 0 with
    | false => rw [hn0] at h; cases h
    | true =>
    rw [hn0] at h
    simp only [cond_true] at h
    split at h
    case h_2 => cases h
    rename_i T U hT hU
    injection h with h
    subst h
    obtain ⟨A, m, cc, he, _⟩ := (hr.evc hv rfl).slen hn
    have hty : ∃ e, P.underlying t = some (.slice e) := by
      unfold tslice at ht
      split at ht
      · exact ⟨_, by assumption⟩
      · cases ht
    obtain ⟨e, hty⟩ := hty
    have hex : (execOp a.eval o).run P w = .ok (.value (.bool A.isNone)) w := by
      unfold execOp
      rw [ho]
      have hq := run_equal_nil (w := w) hty A m cc l c 9999
      have hb2 : (binOp .eql t (.slice A m cc) (.slice none l c) : Sem Value) = (do pure (.bool (← Op.equalIn (9999 + 1) t (.slice A m cc) (.slice none l c)))) := rfl
      have he2 : a.eval (.const (.slice none l c)) = .slice none l c := rfl
      have hgd : (eqGuard .eql t x (.const (.slice none l c)) (.slice A m cc) (.slice none l c) : Sem Unit) = pure () := rfl
      simp only [he, he2, hgd, hb2, Sem.run_bind, Sem.run_pure, Result.andThen_ok, hq]
    unfold Oper.wp
    rw [hex]
    cases A.isNone with
    | true => exact hK T _ _ (by simp) ⟨μ, (hr.putv hT (.pur (.bool _))).more (fun j hj => .inl hj)⟩
    | false => exact hK U _ _ (by simp) ⟨μ, (hr.putv hU (.pur (.bool _))).more (fun j hj => .inl hj)⟩
  · rename_i args ats ho
    split at h
    case h_2 => cases h
    rename_i x y dT sT hargs hats
    have ho : o.op = .call { callee := .builtin .copy, args := #[x, y], argTypes := #[dT, sT] } := by
      rw [ho]
      have e1 : args = #[x, y] := by apply Array.ext'; simpa using hargs
      have e2 : ats = #[dT, sT] := by apply Array.ext'; simpa using hats
      rw [e1, e2]
    split at h
    case h_2 => cases h
    rename_i te ht
    split at h
    case isFalse => cases h
    rename_i hn
    split at h
    · rename_i T hs
      injection h with h
      subst h
      unfold AS.copyTS at hs
      split at hs
      case h_2 => cases hs
      rename_i d v sz len xv hx hy
      split at hs
      case h_2 => cases hs
      rename_i ob n es hob he
      split at hs
      case isFalse => cases hs
      rename_i hc
      obtain ⟨rfl, rfl, hsz, rfl, rfl, hle⟩ := hc
      obtain ⟨w', hrun, hr'⟩ := eff_copyS (P := P) (sT := sT) (ty := o.type) hr ht hn (hr.evc hx rfl) hob rfl hsz (hr.evc hy rfl) he hle
      have hex : (execOp a.eval o).run P w = .ok (.value (goInt es.length)) w' := by
        unfold execOp
        rw [ho]
        simp [resolve, invoke, builtin, hrun, Result.andThen]
      unfold Oper.wp
      rw [hex]
      exact hK _ _ _ (by simp) ⟨μ, (hr'.putv hs (.pur (.int _ _))).more (fun j hj => .inl hj)⟩
    · obtain ⟨T, hs, rfl⟩ := Option.map_eq_some_iff.1 h
      unfold AS.copyT at hs
      split at hs
      case h_2 => cases hs
      rename_i d v sz len xv hx hy
      split at hs
      case h_2 => cases hs
      rename_i ob n es hob he
      split at hs
      case isFalse => cases hs
      rename_i hc
      obtain ⟨rfl, rfl, hsz, rfl, rfl, hle⟩ := hc
      obtain ⟨w', hrun, hr'⟩ := eff_copy (P := P) (sT := sT) (ty := o.type) hr ht hn (hr.evc hx rfl) hob rfl hsz (hr.evc hy rfl) he hle
      have hex : (execOp a.eval o).run P w = .ok (.value (goInt ob.es.length)) w' := by
        unfold execOp
        rw [ho]
        simp [resolve, invoke, builtin, hrun, Result.andThen]
      unfold Oper.wp
      rw [hex]
      exact hK _ _ _ (by simp) ⟨μ, (hr'.putv hs (.pur (.int _ _))).more (fun j hj => .inl hj)⟩
  · cases h
theorem estepX_sub {o : Oper} {ts : List AS} (h : estepX P o S = some ts) : ∀ T ∈ ts, Sub S.objs T.objs := by
  unfold estepX at h
  split at h
  · cases h
  split at h
  · cases ht : tslice P _ with
    | false => rw [ht] at h; cases h
    | true =>
    rw [ht] at h
    simp only [cond_true] at h
    split at h
    case h_2 => cases h
    split at h
    case h_2 => cases h
    rename_i n hn
    cases hn0 : Nat.beq n 0 with
    | false => rw [hn0] at h; cases h
    | true =>
    rw [hn0] at h
    simp only [cond_true] at h
    split at h
    case h_2 => cases h
    rename_i T U hT hU
    injection h with h
    subst h
    intro R hR
    simp only [List.mem_cons, List.not_mem_nil, or_false] at hR
    rcases hR with rfl | rfl
    · rw [putv_objs hT]; exact Sub.refl _
    · rw [putv_objs hU]; exact Sub.refl _
  · split at h
    case h_2 => cases h
    split at h
    case h_2 => cases h
    split at h
    case isFalse => cases h
    split at h
    · rename_i T hs
      injection h with h
      subst h
      intro R hR
      rw [List.mem_singleton.1 hR]
      unfold AS.copyTS at hs
      split at hs
      case h_2 => cases hs
      split at hs
      case h_2 => cases hs
      split at hs
      case isFalse => cases hs
      rw [putv_objs hs]
      exact Sub.cons _ _
    · obtain ⟨T, hs, rfl⟩ := Option.map_eq_some_iff.1 h
      intro R hR
      rw [List.mem_singleton.1 hR]
      unfold AS.copyT at hs
      split at hs
      case h_2 => cases hs
      split at hs
      case h_2 => cases hs
      split at hs
      case isFalse => cases hs
      rw [putv_objs hs]
      exact Sub.cons _ _
  · cases h
noncomputable def callR (S : AS) (o : Oper) (t : Out) : Option AS := match t with
  | (r, O, nx) => match ({ S with objs := O, nx := nx } : AS).putv o.dst (wrapG o true r) with
    | some T => T.pack true some
    | none => none
theorem callR_eq (S : AS) (o : Oper) (t : Out) : callR S o t = ({ S with objs := t.2.1, nx := t.2.2 } : AS).putv o.dst (wrapG o true t.1) := by
  obtain ⟨r, O, nx⟩ := t
  unfold callR
  simp only
  split
  · rename_i T hT; rw [pack_eq, hT]
  · rename_i hT; exact hT.symm
noncomputable def estepC (P : Program) (XV : Op → AS → Option V) (call : FuncId → List V → List (Nat × Ob) → Nat → Option (List Out)) (ops : List Oper) (i : Nat) (o : Oper) (S : AS) : Option (List AS) :=
  match S.gv ops o with
    | some true => match XV o.op S with
      | some v => (S.putv o.dst (wrapG o true v)).map fun T => [T]
      | none => match o.op with
      | .call { callee := .value f, args := args, argTypes := _ } => match S.evc true f, S.args true args.toList with
        | some fv, some vs => match callV fv vs with
          | some (fid, us) => match P.funcs[fid]? with
            | some fn => if fn.body.isSome = true then (match call fid us S.objs (S.nx + ops.length + 1) with
              | some l => allM (callR S o) l
              | none => none) else none
            | none => none
          | none => none
        | _, _ => none
      | _ => match estepX P o S with
        | some ts => some ts
        | none => (gact P (S.nx * 4096) ops i o S).map fun T => [T]
    | some false => (S.putv o.dst (.whn false (.bool true))).map fun T => [T]
    | none => none
noncomputable def estep (P : Program) (XV : Op → AS → Option V) (call : FuncId → List V → List (Nat × Ob) → Nat → Option (List Out)) (ops : List Oper) (i : Nat) (o : Oper) (S : AS) : Option (List AS) :=
  match stepD P (S.nx * 4096) ops i o S with
  | some T => T.pack (isSt o.op) fun T => some [T]
  | none => estepC P XV call ops i o S
theorem estep_sound (hHer : Her H H0) (hH : H w0) {XV : Op → AS → Option V} (hXV : XVok P H XV) (hNG : ∀ (fid : FuncId) fn, P.funcs[fid]? = some fn → (fn.name == "runtime.NumGoroutine") = false) {call : FuncId → List V → List (Nat × Ob) → Nat → Option (List Out)} (hcall : ∀ fid vs ins nx l, call fid vs ins nx = some l → ACN H P fid vs ins nx l ∧ ∀ t ∈ l, Sub ins t.2.1)
    (i : Nat) (o : Oper) (S : AS) (ts : List AS) (h : estep P XV call ops i o S = some ts) : RelStep P w0 N0 ops Q i o S (fun T => T ∈ ts) := by
  have one : ∀ {T : AS}, StepX P (S.nx * 4096) w0 [i] ops i o S T → RelStep P w0 N0 ops Q i o S (fun U => U ∈ [T]) := fun hT D a w hr hi hD K hK => rs_step hT D a w hr hi hD K (fun S' a' w' hS => hK S' a' w' (by simpa using hS))
  unfold estep at h
  split at h
  · rename_i T hT
    rw [pack_eq] at h
    injection h with h
    subst h
    rw [stepD_eq] at hT
    exact one (sx_go hT)
  unfold estepC at h
  split at h
  · rename_i hg
    split at h
    · rename_i v hv
      obtain ⟨T, hT, rfl⟩ := Option.map_eq_some_iff.1 h
      exact rs_xv hXV hH hg hv hT
    split at h
    · rename_i f args ats hop
      split at h
      case h_2 => cases h
      rename_i fv vs hf ha
      split at h
      case h_2 => cases h
      rename_i fid us hcv
      split at h
      case h_2 => cases h
      rename_i fn hfn
      split at h
      case isFalse => cases h
      rename_i hb
      split at h
      case h_2 => cases h
      rename_i l hl
      exact rs_callN hHer hH (hcall _ _ _ _ _ hl).1 hfn hb (hNG _ _ hfn) hg hop hf ha hcv (hcall _ _ _ _ _ hl).2 (by rw [← h]; congr 1; funext t; exact (callR_eq S o t).symm)
    · split at h
      · rename_i us hus
        injection h with h
        subst h
        exact estepX_sound hus
      obtain ⟨T, hT, rfl⟩ := Option.map_eq_some_iff.1 h
      exact one (sx_act hT)
  · rename_i hg
    obtain ⟨T, hT, rfl⟩ := Option.map_eq_some_iff.1 h
    exact one (sx_skip (by simp) hg hT)
  · cases h
theorem estep_sub {XV : Op → AS → Option V} {call : FuncId → List V → List (Nat × Ob) → Nat → Option (List Out)} (hcall : ∀ fid vs ins nx l, call fid vs ins nx = some l → ∀ t ∈ l, Sub ins t.2.1)
    (i : Nat) (o : Oper) (S : AS) (ts : List AS) (h : estep P XV call ops i o S = some ts) : ∀ T ∈ ts, Sub S.objs T.objs := by
  unfold estep at h
  split at h
  · rename_i T hT
    rw [pack_eq] at h
    injection h with h
    subst h
    intro U hU
    rw [List.mem_singleton.1 hU]
    rw [stepD_eq] at hT
    exact astepK_sub hT
  unfold estepC at h
  split at h
  · split at h
    · obtain ⟨T, hT, rfl⟩ := Option.map_eq_some_iff.1 h
      intro U hU
      rw [List.mem_singleton.1 hU, putv_objs hT]
      exact Sub.refl _
    split at h
    · split at h
      case h_2 => cases h
      split at h
      case h_2 => cases h
      split at h
      case h_2 => cases h
      split at h
      case isFalse => cases h
      split at h
      case h_2 => cases h
      rename_i l hl
      intro U hU
      obtain ⟨t, ht, he⟩ := allM_inv h U hU
      rw [callR_eq] at he
      rw [putv_objs he]
      exact hcall _ _ _ _ _ hl t ht
    · split at h
      · rename_i us hus
        injection h with h
        subst h
        exact estepX_sub hus
      obtain ⟨T, hT, rfl⟩ := Option.map_eq_some_iff.1 h
      intro U hU
      rw [List.mem_singleton.1 hU]
      exact gact_sub hT
  · obtain ⟨T, hT, rfl⟩ := Option.map_eq_some_iff.1 h
    intro U hU
    rw [List.mem_singleton.1 hU, putv_objs hT]
    exact Sub.refl _
  · cases h
theorem cops_sub {step : Nat → Oper → AS → Option (List AS)} (hst : ∀ i o S ts, step i o S = some ts → ∀ T ∈ ts, Sub S.objs T.objs) :
    ∀ {l : List Oper} {i : Nat} {S : AS} {r : List AS}, cops step i l S = some r → ∀ T ∈ r, Sub S.objs T.objs
  | [], i, S, r, h, T, hT => by
    simp only [cops, Option.some.injEq] at h
    subst h
    rw [List.mem_singleton.1 hT]
    exact Sub.refl _
  | o :: l, i, S, r, h, T, hT => by
    simp only [cops] at h
    split at h
    case h_2 => cases h
    rename_i ts hts
    obtain ⟨U, hU, q, hq, hTq⟩ := bindM_inv h T hT
    exact (hst i o S ts hts U hU).trans (cops_sub hst hq T hTq)
theorem cany_sub {step : Nat → Oper → AS → Option (List AS)} (hst : ∀ i o S ts, step i o S = some ts → ∀ T ∈ ts, Sub S.objs T.objs) :
    ∀ {n : Nat} {listed : Array Bool} {S : AS} {r : List AS}, cany step ops n listed S = some r → ∀ T ∈ r, Sub S.objs T.objs
  | 0, listed, S, r, h, T, hT => by
    simp only [cany] at h
    split at h
    case isFalse => cases h
    injection h with h
    subst h
    rw [List.mem_singleton.1 hT]
    exact Sub.refl _
  | n + 1, listed, S, r, h, T, hT => by
    simp only [cany] at h
    split at h
    · injection h with h
      subst h
      rw [List.mem_singleton.1 hT]
      exact Sub.refl _
    · obtain ⟨i, hi, q, hq, hTq⟩ := bindM_inv h T hT
      split at hq
      case h_2 => cases hq
      rename_i o ho
      split at hq
      case h_2 => cases hq
      rename_i ts hts
      obtain ⟨U, hU, q2, hq2, hT2⟩ := bindM_inv hq T hTq
      exact (hst i o S ts hts U hU).trans (cany_sub hst hq2 T hT2)
theorem opq_ofB {ops : List Oper} {i : Nat} {o : Oper} {args : Array Operand} {vs : List V} {fid : FuncId} {us cs : List V} {res : V} {more : List Operand}
    (hc : ACB w0 P fid (us ++ vs ++ cs) (fun r => r = res)) (hg : S.gv ops o = some true)
    (hev : ∀ T, Alike ops o S T → (∀ x ∈ more, ∀ c, T.evc c x = S.evc c x) ∧ T.args true args.toList = S.args true args.toList)
    (hrun : ∀ T, (∀ x ∈ more, ∀ c, T.evc c x = S.evc c x) → ∀ (N0 : Nat → Prop) (μ : Mu) (D : Nat → Prop) (a : Act) (w : World), RelM D w0 N0 μ T a w →
      ∃ xs ys : List Value, xs.length = us.length ∧ ys.length = cs.length ∧ (∀ (i : Nat) x c, xs[i]? = some x → us[i]? = some c → Pur w (Own N0 μ T) x c) ∧ (∀ (i : Nat) x c, ys[i]? = some x → cs[i]? = some c → Pur w (Own N0 μ T) x c) ∧
        (execOp a.eval o).run P w = .ok (.enter fid (xs ++ args.toList.map a.eval ++ ys).toArray) w)
    (ha : S.args true args.toList = some vs) (hp : vs.all V.pureV = true) (hs : S.putv o.dst (wrapG o true res) = some S') : OpqStep P w0 ops i o S S' := by
  obtain ⟨hs1, hs2⟩ := putv_ap hs
  refine ⟨wrapG o true res, [], hs1, fun T hT hob N0 D a w hr hi hDb K Q' hK => ?_⟩
  obtain ⟨hmore, hargs⟩ := hev T hT
  replace hg : T.gv ops o = some true := by rw [← hT.gv]; exact hg
  replace ha : T.args true args.toList = some vs := by rw [hargs]; exact ha
  have hs := ap_putv (S := T) (wrapG o true res) (fun d hd => by rw [← hT.2.1]; exact hs2 d hd)
  obtain ⟨μ, hr⟩ := hr
  rw [wanted_of hr hg, if_pos rfl]
  obtain ⟨h1, h2⟩ := args_spec hr rfl ha
  obtain ⟨xs, ys, hxl, hyl, hxp, hyp, hex⟩ := hrun T hmore N0 μ D a w hr
  unfold Oper.wp
  rw [hex]
  have hcall := hc w (Own N0 μ T) (xs ++ args.toList.map a.eval ++ ys) hr.below hr.own_lt (by simp [h1, hxl, hyl]) (fun j x v hx hv => by
    have hl1 : (xs ++ args.toList.map a.eval).length = (us ++ vs).length := by simp [h1, hxl]
    by_cases hj : j < (us ++ vs).length
    · rw [List.getElem?_append_left (by omega)] at hx
      rw [List.getElem?_append_left hj] at hv
      by_cases hj2 : j < us.length
      · rw [List.getElem?_append_left (by omega)] at hx
        rw [List.getElem?_append_left hj2] at hv
        exact hxp j x v hx hv
      · rw [List.getElem?_append_right (by omega)] at hx
        rw [List.getElem?_append_right (by omega)] at hv
        rw [hxl] at hx
        simp only [List.getElem?_map, Option.map_eq_some_iff] at hx
        obtain ⟨y, hy, rfl⟩ := hx
        exact (h2 _ y v hy hv).pureV (List.all_eq_true.1 hp v (List.mem_of_getElem? hv))
    · rw [List.getElem?_append_right (by omega)] at hx
      rw [List.getElem?_append_right (by omega)] at hv
      rw [hl1] at hx
      exact hyp _ x v hx hv)
  refine hcall.mono ?_
  rintro e w' ⟨x, r, rfl, rfl, hpx, hbw⟩
  refine hK _ _ ⟨μ, ((hr.later hbw).putv hs ?_).more (fun j hj => .inl hj)⟩
  unfold wrapG
  split
  · exact .pur hpx
  · exact .whn _ _ _ (fun _ => .pur hpx) (fun hf => by cases hf)
theorem opq_callH {ops : List Oper} {i : Nat} {o : Oper} {f : Operand} {fid : FuncId} {us cs : List V} {fn : Func} {args : Array Operand} {ats : Array TypeId} {vs : List V} {res : V}
    (hc : ACB w0 P fid (us ++ vs ++ cs) (fun r => r = res)) (hfn : P.funcs[fid]? = some fn) (hb : fn.body.isSome = true) (hn : (fn.name == "runtime.NumGoroutine") = false) (hg : S.gv ops o = some true) (ho : o.op = .call { callee := .value f, args := args, argTypes := ats }) (hf : S.evc true f = some (.fc fid us cs))
    (ha : S.args true args.toList = some vs) (hp : vs.all V.pureV = true) (hs : S.putv o.dst (wrapG o true res) = some S') : OpqStep P w0 ops i o S S' := by
  refine opq_ofB (more := [f]) hc hg (fun T hT => ⟨fun x hx c => ?_, ?_⟩) (fun T hT N0 μ D a w hr => ?_) ha hp hs
  · simp only [List.mem_singleton] at hx
    subst hx
    exact (hT.evc (by rw [ho]; simp [Op.operands, Call.operands]) c).symm
  · exact (args_congr (S := S) (T := T) (fun x hx => hT.evc (by rw [ho]; simp [Op.operands, Call.operands]; right; simpa using hx) true)).symm
  · have hfT : T.evc true f = some (.fc fid us cs) := by rw [hT f (by simp)]; exact hf
    have hfe := hr.evc hfT rfl
    generalize hfe' : a.eval f = y at hfe
    cases hfe with
    | pur hfe => cases hfe with
      | fc _ xs ys _ _ hl hm h k => exact ⟨xs, ys, hl, hm, h, k, run_call_fv ho hfe' hfn hb hn⟩
noncomputable def xPos (ops : List Oper) : List Nat := (List.range ops.length).filter fun i => match nth ops i with
  | some o => (match o.op with | .call { callee := .value (.tmp _), args := _, argTypes := _ } => true | _ => false)
  | none => false
noncomputable def lightK (K : FuncId → List V → Option V) (f : FuncId) (us : List V) : Option V := match K f us with
  | some r => if r.light = true then some r else none
  | none => none
theorem lightK_some {K : FuncId → List V → Option V} {f : FuncId} {us : List V} {r : V} (h : lightK K f us = some r) : K f us = some r ∧ r.light = true := by
  unfold lightK at h
  split at h
  · rename_i q hq
    split at h
    · rename_i hl; injection h with h; subst h; exact ⟨hq, hl⟩
    · cases h
  · cases h
noncomputable def koF (sz n : Nat) (ex : Option (List V)) : Nat → Nat → V := fun d q => match ex with
  | none => .sl d q sz n
  | some l => .tup (.sl d q sz n :: l)
def KOok (P : Program) (KO : FuncId → List V → Option (Nat × TypeId × List V × Option (List V))) : Prop := ∀ f us sz ty es ex, KO f us = some (sz, ty, es, ex) → ACO P f us sz ty (fun F' es' => F' = koF sz es.length ex ∧ es' = es)
noncomputable def nKO : FuncId → List V → Option (Nat × TypeId × List V × Option (List V)) := fun _ _ => none
theorem nKO_ok {P : Program} : KOok P nKO := fun _ _ _ _ _ _ h => by cases h
abbrev KOt := (FuncId → List V → Option (Nat × TypeId × List V × Option (List V))) × (FuncId → List V → List (Nat × Ob) → Nat → Option (List Out))
structure KOkH (P : Program) (H0 : Bs → Prop) (KO : KOt) : Prop where
  ko : KOok P KO.1
  cl : ∀ fid vs ins nx l, KO.2 fid vs ins nx = some l → ACN H0 P fid vs ins nx l
  hand : ∀ {D : Nat → Prop} {w0 : Bs} {N0 : Nat → Prop} {μ : Mu} {S : AS} {a : Act} {w : World}, H0 w0 → RelM D w0 N0 μ S a w → H0 ⟨w, OwnB μ S.objs, μ, []⟩
noncomputable def stepN (CL : FuncId → List V → List (Nat × Ob) → Nat → Option (List Out)) (k i : Nat) (o : Oper) (fid : FuncId) (vs : List V) (S : AS) : Option AS := match vs with
  | .sl d v sz n :: us => if us.all V.pureV = true then (match get S.objs d with
    | some ob => if Nat.beq ob.v v && Nat.beq ob.sz sz && Nat.beq ob.es.length n then (match CL fid vs [(d, ob)] (S.nx + k) with
      | some [(.sl d' v' sz' n', outs, _)] => (match get outs d with
        | some oc => if Nat.beq d' d && Nat.beq oc.v v' && Nat.beq sz' sz && Nat.beq oc.sz sz && Nat.beq oc.ty ob.ty && Nat.beq n' oc.es.length && oc.es.all flatE then
            ({ S with objs := (d, ⟨S.nx + i, sz, oc.ty, oc.es⟩) :: S.objs } : AS).putv o.dst (wrapG o true (.sl d (S.nx + i) sz oc.es.length)) else none
        | none => none)
      | _ => none) else none
    | none => none) else none
  | _ => none
theorem gen_callN (hand : ∀ {D : Nat → Prop} {w0 : Bs} {N0 : Nat → Prop} {μ : Mu} {S : AS} {a : Act} {w : World}, H0 w0 → RelM D w0 N0 μ S a w → H0 ⟨w, OwnB μ S.objs, μ, []⟩) (hH : H0 w0)
    {ops : List Oper} {i : Nat} {o : Oper} {f : Operand} {fid : FuncId} {fn : Func} {args : Array Operand} {ats : Array TypeId} {d v sz v' nx' : Nat} {ty : TypeId} {es es' vs : List V} {outs : List (Nat × Ob)}
    (hc : ACN H0 P fid (.sl d v sz es.length :: vs) [(d, ⟨v, sz, ty, es⟩)] (S.nx + (ops.length + 1)) [(.sl d v' sz es'.length, outs, nx')]) (hout : get outs d = some ⟨v', sz, ty, es'⟩) (hfl : es'.all flatE = true) (hfn : P.funcs[fid]? = some fn) (hb : fn.body.isSome = true) (hn : (fn.name == "runtime.NumGoroutine") = false)
    (hg : S.gv ops o = some true) (ho : o.op = .call { callee := .value f, args := args, argTypes := ats }) (hf : S.evc true f = some (.fn fid))
    (ha : S.args true args.toList = some (.sl d v sz es.length :: vs)) (hd : get S.objs d = some ⟨v, sz, ty, es⟩) (hs : ({ S with objs := (d, ⟨S.nx + i, sz, ty, es'⟩) :: S.objs } : AS).putv o.dst (wrapG o true (.sl d (S.nx + i) sz es'.length)) = some S') : GenStep P w0 ops i o S S' := by
  intro N0 D a w hr hi hDb K Q' hK
  obtain ⟨μ, hr⟩ := hr
  rw [wanted_of hr hg, if_pos rfl]
  obtain ⟨h1, h2⟩ := args_spec hr rfl ha
  have hins : ∀ k o, get [(d, (⟨v, sz, ty, es⟩ : Ob))] k = some o → get S.objs k = some o := by
    intro k o hk
    simp only [get_cons, get] at hk
    split at hk
    · rename_i e; subst e; injection hk with hk; subst hk; exact hd
    · cases hk
  have hfresh := hr.fresh_lt hDb
  have hhand := hr.hand (nx := S.nx + (ops.length + 1)) (by simpa only [Nat.add_assoc] using hfresh) (vs := .sl d v sz es.length :: vs) (xs := args.toList.map a.eval) (ins := [(d, ⟨v, sz, ty, es⟩)]) (by simp [h1]) hins (fun j x v hx hv => by
    simp only [List.getElem?_map, Option.map_eq_some_iff] at hx
    obtain ⟨y, hy, rfl⟩ := hx
    exact h2 j y v hy hv)
  have hcall := hc ⟨w, OwnB μ [(d, ⟨v, sz, ty, es⟩)], μ, []⟩ _ μ (args.toList.map a.eval) (hand hH (hr.fewG hins)) (by simp [h1]) rfl hhand
  refine call_run ho (fn_eval hr hf) hfn hb hn hcall ?_ ?_ ?_
  · rintro x w' ⟨t, ht, x', μ', he, hrel⟩
    injection he with he
    subst he
    rw [List.mem_singleton.1 ht] at hrel
    obtain ⟨μ'', hb1, hb2⟩ := hr.backA hi hd hfl (hrel.fewG (outs := [(d, ⟨v', sz, ty, es'⟩)]) (fun k o hk => by
      simp only [get_cons, get] at hk
      split at hk
      · rename_i e; subst e; injection hk with hk; subst hk; exact hout
      · cases hk))
    refine hK _ _ ⟨μ'', hb1.putv hs ?_⟩
    unfold wrapG
    split
    · exact hb2 _
    · exact .whn _ _ _ (fun _ => hb2 _) (fun hf => by cases hf)
  · rintro ch w' ⟨t, ht, x', μ', he, _⟩
    cases he
  · rintro w' ⟨t, ht, x', μ', he, _⟩
    cases he
theorem stepN_sound {KO : KOt} (hKO : KOkH P H0 KO) (hH : H0 w0) {X : List Nat} {ops : List Oper} {i : Nat} {o : Oper} {f : Operand} {fid : FuncId} {fn : Func} {args : Array Operand} {ats : Array TypeId} {vs : List V}
    (hX : i ∈ X) (hfn : P.funcs[fid]? = some fn) (hb : fn.body.isSome = true) (hn : (fn.name == "runtime.NumGoroutine") = false)
    (hg : S.gv ops o = some true) (ho : o.op = .call { callee := .value f, args := args, argTypes := ats }) (hf : S.evc true f = some (.fn fid)) (ha : S.args true args.toList = some vs) (h : stepN KO.2 (ops.length + 1) i o fid vs S = some S') : StepX P kb w0 X ops i o S S' := by
  unfold stepN at h
  split at h
  case h_2 => cases h
  rename_i d v sz n us
  split at h
  case isFalse => cases h
  split at h
  case h_2 => cases h
  rename_i ob hob
  split at h
  case isFalse => cases h
  rename_i h1
  split at h
  case h_2 => cases h
  rename_i d' v' sz' n' outs nx' hcl
  split at h
  case h_2 => cases h
  rename_i oc hoc
  split at h
  case isFalse => cases h
  rename_i h2
  obtain ⟨ov, osz, oty, oes⟩ := ob
  obtain ⟨cv, csz, cty, ces⟩ := oc
  simp only [Bool.and_eq_true, Nat.beq_eq] at h1 h2
  obtain ⟨⟨rfl, rfl⟩, rfl⟩ := h1
  obtain ⟨⟨⟨⟨⟨⟨rfl, rfl⟩, rfl⟩, rfl⟩, rfl⟩, rfl⟩, hfl⟩ := h2
  have hs := h
  obtain ⟨hs1, hs2⟩ := putv_ap hs
  refine .inr (.inr ⟨hX, _, [(d', ⟨S.nx + i, csz, cty, ces⟩)], by rw [hs1]; rfl, fun T hT hobs => ?_⟩)
  have hnx : S.nx = T.nx := hT.2.2
  refine gen_callN (S := T) hKO.hand hH (by rw [← hnx]; exact hKO.cl _ _ _ _ _ hcl) hoc hfl hfn hb hn (by rw [← hT.gv]; exact hg) ho (by rw [← hT.evc (by rw [ho]; simp [Op.operands, Call.operands])]; exact hf)
    (by rw [← args_congr (S := S) (T := T) (fun x hx => hT.evc (by rw [ho]; simp [Op.operands, Call.operands]; right; simpa using hx) true)]; exact ha) (by rw [← hobs]; exact hob) ?_
  rw [ap_putv _ (fun q hq => by have := hs2 q hq; simp only at this ⊢; rw [← hT.2.1]; exact this), hnx]
  rfl
theorem stepN_sub {CL : FuncId → List V → List (Nat × Ob) → Nat → Option (List Out)} {k i : Nat} {o : Oper} {fid : FuncId} {vs : List V} (h : stepN CL k i o fid vs S = some S') : Sub S.objs S'.objs := by
  unfold stepN at h
  repeat' split at h
  all_goals first
    | (cases h; done)
    | (rw [putv_objs h]; exact Sub.cons _ _)
noncomputable def insB (S : AS) : List V → Option (List (Nat × Ob))
  | [] => some []
  | .bp d v sz _ _ :: r => match get S.objs d with
    | some ob => if Nat.beq ob.v v && Nat.beq ob.sz sz then (match insB S r with
      | some l => some ((d, ob) :: l)
      | none => none) else none
    | none => none
  | u :: r => if u.pureV = true then insB S r else none
theorem insB_get {S : AS} : ∀ {vs : List V} {l : List (Nat × Ob)}, insB S vs = some l → ∀ k q, get l k = some q → get S.objs k = some q
  | [], l, h, k, q, hk => by simp only [insB, Option.some.injEq] at h; subst h; cases hk
  | v :: r, l, h, k, q, hk => by
    unfold insB at h
    split at h
    · cases ‹v :: r = []›
    · rename_i d v' sz k' o r' heq
      injection heq with h1 h2
      subst h1; subst h2
      split at h
      case h_2 => cases h
      rename_i ob hob
      split at h
      case isFalse => cases h
      split at h
      case h_2 => cases h
      rename_i l' hl'
      injection h with h
      subst h
      rw [get_cons] at hk
      split at hk
      · rename_i e; subst e; injection hk with hk; subst hk; exact hob
      · exact insB_get hl' k q hk
    · rename_i u r' _ heq
      injection heq with h1 h2
      subst h1; subst h2
      split at h
      · exact insB_get h k q hk
      · cases h
noncomputable def outsB (O : List (Nat × Ob)) : List (Nat × Ob) → List (Nat × Ob)
  | [] => []
  | (d, _) :: r => match get O d with
    | some o => (d, o) :: outsB O r
    | none => outsB O r
theorem outsB_get {O : List (Nat × Ob)} : ∀ {l : List (Nat × Ob)} (k : Nat) (q : Ob), get (outsB O l) k = some q → get O k = some q
  | [], k, q, h => by cases h
  | (d, _) :: r, k, q, h => by
    simp only [outsB] at h
    split at h
    · rename_i o ho
      rw [get_cons] at h
      split at h
      · rename_i e; subst e; injection h with h; subst h; exact ho
      · exact outsB_get k q h
    · exact outsB_get k q h
noncomputable def stepS (CL : FuncId → List V → List (Nat × Ob) → Nat → Option (List Out)) (k : Nat) (o : Oper) (fid : FuncId) (vs : List V) (S : AS) : Option AS := match insB S vs with
  | some ins => (match CL fid vs ins (S.nx + k) with
    | some [(r, O, _)] => if r.pureV && storeOnly ins (outsB O ins) then ({ S with objs := outsB O ins ++ S.objs } : AS).putv o.dst (wrapG o true r) else none
    | _ => none)
  | none => none
theorem stepS_sound {KO : KOt} (hKO : KOkH P H0 KO) (hH : H0 w0) {X : List Nat} {ops : List Oper} {i : Nat} {o : Oper} {f : Operand} {fid : FuncId} {fn : Func} {args : Array Operand} {ats : Array TypeId} {vs : List V}
    (hX : i ∈ X) (hfn : P.funcs[fid]? = some fn) (hb : fn.body.isSome = true) (hn : (fn.name == "runtime.NumGoroutine") = false)
    (hg : S.gv ops o = some true) (ho : o.op = .call { callee := .value f, args := args, argTypes := ats }) (hf : S.evc true f = some (.fn fid)) (ha : S.args true args.toList = some vs) (h : stepS KO.2 (ops.length + 1) o fid vs S = some S') : StepX P kb w0 X ops i o S S' := by
  unfold stepS at h
  split at h
  case h_2 => cases h
  rename_i ins hins
  split at h
  case h_2 => cases h
  rename_i r O nx' hcl
  split at h
  case isFalse => cases h
  rename_i hc
  rw [Bool.and_eq_true] at hc
  obtain ⟨hp, hso⟩ := hc
  have hs := h
  have hins0 := insB_get hins
  have hcl0 := hKO.cl _ _ _ _ _ hcl
  generalize houts : outsB O ins = outs at hso hs
  have hog : ∀ k q, get outs k = some q → get O k = some q := fun k q hk => by rw [← houts] at hk; exact outsB_get k q hk
  obtain ⟨hs1, hs2⟩ := putv_ap hs
  refine .inr (.inr ⟨hX, wrapG o true r, outs, by rw [hs1]; rfl, fun T hT hob N0 D a w hr hi hDb K Q' hK => ?_⟩)
  replace hg : T.gv ops o = some true := by rw [← hT.gv]; exact hg
  replace hf : T.evc true f = some (.fn fid) := by rw [← hT.evc (by rw [ho]; simp [Op.operands, Call.operands])]; exact hf
  replace ha : T.args true args.toList = some vs := by rw [← args_congr (S := S) (T := T) (fun x hx => hT.evc (by rw [ho]; simp [Op.operands, Call.operands]; right; simpa using hx) true)]; exact ha
  replace hins0 : ∀ k q, get ins k = some q → get T.objs k = some q := fun k q hk => by rw [← hob]; exact hins0 k q hk
  have hnx : S.nx = T.nx := hT.2.2
  rw [hnx] at hcl0
  obtain ⟨μ, hr⟩ := hr
  rw [wanted_of hr hg, if_pos rfl]
  obtain ⟨h1, h2⟩ := args_spec hr rfl ha
  have hfresh := hr.fresh_lt hDb
  have hhand := hr.hand (nx := T.nx + (ops.length + 1)) (by simpa only [Nat.add_assoc] using hfresh) (vs := vs) (xs := args.toList.map a.eval) (ins := ins) (by simp [h1]) hins0 (fun j x v hx hv => by
    simp only [List.getElem?_map, Option.map_eq_some_iff] at hx
    obtain ⟨y, hy, rfl⟩ := hx
    exact h2 j y v hy hv)
  have hcall := hcl0 ⟨w, OwnB μ ins, μ, []⟩ _ μ (args.toList.map a.eval) (hKO.hand hH (hr.fewG hins0)) (by simp [h1]) rfl hhand
  refine call_run ho (fn_eval hr hf) hfn hb hn hcall ?_ ?_ ?_
  · rintro x w' ⟨t, ht, x', μ', he, hrel⟩
    injection he with he
    subst he
    rw [List.mem_singleton.1 ht] at hrel
    obtain ⟨hb1, hb2⟩ := hr.back0 hins0 hso hp (hrel.fewG hog)
    have hput := ap_putv (S := { T with objs := outs ++ T.objs }) (dst := o.dst) (wrapG o true r) (fun d hd => by have := hs2 d hd; simp only at this ⊢; rw [← hT.2.1]; exact this)
    refine hK _ _ ⟨μ, (hb1.putv hput ?_).more (fun j hj => .inl hj)⟩
    unfold wrapG
    split
    · exact .pur hb2
    · exact .whn _ _ _ (fun _ => .pur hb2) (fun hf => by cases hf)
  · rintro ch w' ⟨t, ht, x', μ', he, _⟩
    cases he
  · rintro w' ⟨t, ht, x', μ', he, _⟩
    cases he
theorem stepS_sub {CL : FuncId → List V → List (Nat × Ob) → Nat → Option (List Out)} {k : Nat} {o : Oper} {fid : FuncId} {vs : List V} (h : stepS CL k o fid vs S = some S') : Sub S.objs S'.objs := by
  unfold stepS at h
  repeat' split at h
  all_goals first
    | (cases h; done)
    | (rw [putv_objs h]; intro k hk; rw [get_app] at hk; split at hk; (cases hk); exact hk)
noncomputable def stepQ (CL : FuncId → List V → List (Nat × Ob) → Nat → Option (List Out)) (k i : Nat) (o : Oper) (fid : FuncId) (vs : List V) (S : AS) : Option AS := match stepN CL k i o fid vs S with
  | some T => some T
  | none => stepS CL k o fid vs S
theorem stepQ_sound {KO : KOt} (hKO : KOkH P H0 KO) (hH : H0 w0) {X : List Nat} {ops : List Oper} {i : Nat} {o : Oper} {f : Operand} {fid : FuncId} {fn : Func} {args : Array Operand} {ats : Array TypeId} {vs : List V}
    (hX : i ∈ X) (hfn : P.funcs[fid]? = some fn) (hb : fn.body.isSome = true) (hn : (fn.name == "runtime.NumGoroutine") = false)
    (hg : S.gv ops o = some true) (ho : o.op = .call { callee := .value f, args := args, argTypes := ats }) (hf : S.evc true f = some (.fn fid)) (ha : S.args true args.toList = some vs) (h : stepQ KO.2 (ops.length + 1) i o fid vs S = some S') : StepX P kb w0 X ops i o S S' := by
  unfold stepQ at h
  split at h
  · rename_i T hT
    injection h with h
    subst h
    exact stepN_sound hKO hH hX hfn hb hn hg ho hf ha hT
  · exact stepS_sound hKO hH hX hfn hb hn hg ho hf ha h
theorem stepQ_sub {CL : FuncId → List V → List (Nat × Ob) → Nat → Option (List Out)} {k i : Nat} {o : Oper} {fid : FuncId} {vs : List V} (h : stepQ CL k i o fid vs S = some S') : Sub S.objs S'.objs := by
  unfold stepQ at h
  split at h
  · rename_i T hT
    injection h with h
    subst h
    exact stepN_sub hT
  · exact stepS_sub h
noncomputable def dstepC (P : Program) (KO : KOt) (K : FuncId → List V → Option V) (kb : Nat) (X : List Nat) (ops : List Oper) (i : Nat) (o : Oper) (S : AS) : Option AS :=
  match o.op with
    | .call { callee := .value f, args := args, argTypes := _ } => match S.gv ops o with
      | some true => match S.evc true f, S.args true args.toList with
        | some (.fn fid), some vs => match P.funcs[fid]? with
          | some fn => if fn.body.isSome = true then (if vs.all V.pureV = true then (match K fid vs with
              | some r => S.putv o.dst (wrapG o true r)
              | none => none) else (if X.contains i = true then (match S.viewsB vs with
              | some us => (match lightK K fid us with
                | some r => S.putv o.dst (wrapG o true r)
                | none => (match S.views vs, o.dst with
                  | some us, some d => (match KO.1 fid us with
                    | some (sz, ty, es, ex) => ({ S with objs := (kb + d, ⟨S.nx + i, sz, ty, es⟩) :: S.objs } : AS).putv o.dst (wrapG o true (koF sz es.length ex (kb + d) (S.nx + i)))
                    | none => stepQ KO.2 (ops.length + 1) i o fid vs S)
                  | _, _ => stepQ KO.2 (ops.length + 1) i o fid vs S))
              | none => stepQ KO.2 (ops.length + 1) i o fid vs S) else none)) else none
          | none => none
        | some (.fc fid us ds), some vs => match P.funcs[fid]? with
          | some fn => if fn.body.isSome = true then (if vs.all V.pureV = true then (match K fid (us ++ vs ++ ds) with
              | some r => if X.contains i = true then S.putv o.dst (wrapG o true r) else none
              | none => none) else none) else none
          | none => none
        | _, _ => none
      | some false => (match S.evc false f, S.args false args.toList with
        | some (.fn fid), some vs => match P.funcs[fid]? with
          | some fn => if fn.body.isSome = true then (if vs.all V.pureV = true then S.putv o.dst (wrapG o false (.bool true)) else (if X.contains i = true then S.putv o.dst (.whn false (.bool true)) else none)) else none
          | none => none
        | _, _ => if X.contains i = true then S.putv o.dst (.whn false (.bool true)) else none)
      | none => none
    | _ => gact P kb ops i o S
noncomputable def dstep (P : Program) (KO : KOt) (K : FuncId → List V → Option V) (kb : Nat) (X : List Nat) (ops : List Oper) (i : Nat) (o : Oper) (S : AS) : Option AS :=
  match stepD P kb ops i o S with
  | some T => T.pack (isSt o.op) fun T => some T
  | none => dstepC P KO K kb X ops i o S
theorem dstep_sound {X : List Nat} (hH : H0 w0) {KO : KOt} (hKO : KOkH P H0 KO) {K : FuncId → List V → Option V} (hK : ∀ f vs r, K f vs = some r → ACH H0 P f vs (fun x => x = r)) (hNG : ∀ (fid : FuncId) fn, P.funcs[fid]? = some fn → (fn.name == "runtime.NumGoroutine") = false) {i : Nat} {o : Oper} {T : AS} (h : dstep P KO K kb X ops i o S = some T) : StepX P kb w0 X ops i o S T := by
  unfold dstep at h
  split at h
  · rename_i U hU
    rw [pack_eq] at h
    injection h with h
    subst h
    rw [stepD_eq] at hU
    exact sx_go hU
  unfold dstepC at h
  split at h
  · rename_i f args ats hop
    split at h
    · rename_i hg
      split at h
      · rename_i fid vs hf ha
        split at h
        case h_2 => cases h
        rename_i fn hfn
        split at h
        case isFalse => cases h
        rename_i hb
        split at h
        case isFalse =>
          split at h
          case isFalse => cases h
          rename_i hX
          have hN := fun h => stepQ_sound (S := S) (S' := T) (kb := kb) (i := i) (ops := ops) hKO hH (by simpa using hX) hfn hb (hNG _ _ hfn) hg hop hf ha h
          split at h
          case h_2 => exact hN h
          rename_i us hus
          split at h
          case h_2 =>
            split at h
            case h_2 => exact hN h
            rename_i us2 d hus2 hd
            split at h
            case h_2 => exact hN h
            rename_i sz ty es ex hko
            exact sx_callO (F := koF sz es.length ex) (kb + d) (by simpa using hX) (hKO.ko _ _ _ _ _ _ hko) hfn hb (hNG _ _ hfn) hg hop hf ha hus2 h
          rename_i r hr
          obtain ⟨hr, hl⟩ := lightK_some hr
          exact .inr (.inr ⟨by simpa using hX, opq_callvBB (hK _ _ _ hr w0 hH) hfn hb (hNG _ _ hfn) hg hop hf ha hus hl h⟩)
        rename_i hp
        split at h
        case h_2 => cases h
        rename_i r hr
        exact .inl (.inr (.inl ⟨true, f, args, ats, fid, fn, vs, r, hg, hop, hf, hfn, hb, hNG _ _ hfn, ha, hp, fun _ => hK _ _ _ hr w0 hH, h⟩))
      · rename_i fid us ds vs hf ha
        split at h
        case h_2 => cases h
        rename_i fn hfn
        split at h
        case isFalse => cases h
        rename_i hb
        split at h
        case isFalse => cases h
        rename_i hp
        split at h
        case h_2 => cases h
        rename_i r hr
        split at h
        case isFalse => cases h
        rename_i hX
        exact .inr (.inr ⟨by simpa using hX, opq_callH (hK _ _ _ hr w0 hH) hfn hb (hNG _ _ hfn) hg hop hf ha hp h⟩)
      · cases h
    · rename_i hg
      split at h
      · rename_i fid vs hf ha
        split at h
        case h_2 => cases h
        rename_i fn hfn
        split at h
        case isFalse => cases h
        rename_i hb
        split at h
        case isFalse =>
          split at h
          case isFalse => cases h
          rename_i hX
          exact sx_skip (by simpa using hX) hg h
        rename_i hp
        exact .inl (.inr (.inl ⟨false, f, args, ats, fid, fn, vs, _, hg, hop, hf, hfn, hb, hNG _ _ hfn, ha, hp, fun hc => by (cases hc), h⟩))
      · split at h
        case isFalse => cases h
        rename_i hX
        exact sx_skip (by simpa using hX) hg h
    · cases h
  · exact sx_act h
theorem dstep_sub {KO : KOt} {K : FuncId → List V → Option V} {X : List Nat} {i : Nat} {o : Oper} {T : AS} (h : dstep P KO K kb X ops i o S = some T) : Sub S.objs T.objs := by
  unfold dstep at h
  split at h
  · rename_i U hU
    rw [pack_eq] at h
    injection h with h
    subst h
    rw [stepD_eq] at hU
    exact astepK_sub hU
  unfold dstepC at h
  split at h
  · repeat' split at h
    all_goals first
      | (cases h; done)
      | (rw [putv_objs h]; exact Sub.refl _)
      | (rw [putv_objs h]; exact Sub.cons _ _)
      | exact stepQ_sub h
  · exact gact_sub h
noncomputable def leftD (ops : List Oper) (done : List Nat) : List Nat := (List.range ops.length).filterMap fun j => if done.contains j then none else (nth ops j).bind fun o => if makes o.op = true then o.dst else none
noncomputable def cdraw (P : Program) (KO : KOt) (K : FuncId → List V → Option V) (kb : Nat) (X : List Nat) (ops : List Oper) : Nat → List Nat → AS → Option (List AS)
  | 0, done, S => if (Region.ready .any ops.toArray (lst ops done)).isEmpty = true then some [S.bump ops.length] else none
  | n + 1, done, S => if (Region.ready .any ops.toArray (lst ops done)).isEmpty = true then some [S.bump ops.length] else
    match (Region.ready .any ops.toArray (lst ops done)).find? (fun i => Nat.blt done.length ops.length && mkOk ops && xmayTake X ops (lst ops done) i (leftD ops done)) with
    | some i => if ((leftD ops done).all fun d => (get S.objs (kb + d)).isNone) = true then (match nth ops i with
      | some o => match dstep P KO K kb X ops i o S with
        | some T => cdraw P KO K kb X ops n (i :: done) T
        | none => none
      | none => none) else none
    | none => if Nat.blt done.length ops.length = true then bindM (fun i => match nth ops i with
      | some o => match dstep P KO K kb X ops i o S with
        | some T => cdraw P KO K kb X ops n (i :: done) T
        | none => none
      | none => none) (Region.ready .any ops.toArray (lst ops done)) else none
theorem cdraw_sound {X : List Nat} (hH : H0 w0) {KO : KOt} (hKO : KOkH P H0 KO) {K : FuncId → List V → Option V} (hK : ∀ f vs r, K f vs = some r → ACH H0 P f vs (fun x => x = r)) (hNG : ∀ (fid : FuncId) fn, P.funcs[fid]? = some fn → (fn.name == "runtime.NumGoroutine") = false) :
    ∀ {n : Nat} {done : List Nat} {S : AS} {r : List AS}, cdraw P KO K kb X ops n done S = some r → (∀ T ∈ r, Q .normal T) → AT P kb w0 X ops Q done S
  | 0, done, S, r, h, hQ => by
    simp only [cdraw] at h
    split at h
    case isFalse => cases h
    rename_i h0
    injection h with h
    subst h
    exact at_fin h0 (AS.le_refl _) (hQ _ (by simp [AS.bump]))
  | n + 1, done, S, r, h, hQ => by
    simp only [cdraw] at h
    split at h
    · rename_i h0
      injection h with h
      subst h
      exact at_fin h0 (AS.le_refl _) (hQ _ (by simp [AS.bump]))
    rename_i hne
    split at h
    · rename_i i hi
      split at h
      case isFalse => cases h
      rename_i hks
      split at h
      case h_2 => cases h
      rename_i o ho
      split at h
      case h_2 => cases h
      rename_i T hT
      rw [nth_eq] at ho
      exact at_step (by simpa using List.find?_some hi) ho hks (dstep_sound hH hKO hK hNG hT) (cdraw_sound hH hKO hK hNG h hQ)
    · split at h
      case isFalse => cases h
      rename_i hlt
      refine at_fork (Region.ready .any ops.toArray (lst ops done)) (by simp [hlt, hne]) (fun i hi => ?_)
      obtain ⟨q, hq, hqr⟩ := bindM_mem h i hi
      split at hq
      case h_2 => cases hq
      rename_i o ho
      split at hq
      case h_2 => cases hq
      rename_i T hT
      rw [nth_eq] at ho
      exact ⟨o, T, ho, dstep_sound hH hKO hK hNG hT, cdraw_sound hH hKO hK hNG hq (fun U hU => hQ U (hqr U hU))⟩
theorem cdraw_sub {KO : KOt} {K : FuncId → List V → Option V} {X : List Nat} : ∀ {n : Nat} {done : List Nat} {S : AS} {r : List AS}, cdraw P KO K kb X ops n done S = some r → ∀ T ∈ r, Sub S.objs T.objs
  | 0, done, S, r, h, T, hT => by
    simp only [cdraw] at h
    split at h
    case isFalse => cases h
    injection h with h
    subst h
    rw [List.mem_singleton.1 hT]
    exact Sub.refl _
  | n + 1, done, S, r, h, T, hT => by
    simp only [cdraw] at h
    split at h
    · injection h with h
      subst h
      rw [List.mem_singleton.1 hT]
      exact Sub.refl _
    split at h
    · split at h
      case isFalse => cases h
      split at h
      case h_2 => cases h
      split at h
      case h_2 => cases h
      rename_i U hU
      exact (dstep_sub hU).trans (cdraw_sub h T hT)
    · split at h
      case isFalse => cases h
      obtain ⟨i, hi, q, hq, hTq⟩ := bindM_inv h T hT
      split at hq
      case h_2 => cases hq
      split at hq
      case h_2 => cases hq
      rename_i U hU
      exact (dstep_sub hU).trans (cdraw_sub hq T hTq)
noncomputable def planD (X : List Nat) (ops : List Oper) : Nat → List Nat → Option (List Nat)
  | 0, done => if (Region.ready .any ops.toArray (lst ops done)).isEmpty = true then some [] else none
  | n + 1, done => if (Region.ready .any ops.toArray (lst ops done)).isEmpty = true then some [] else
    match (Region.ready .any ops.toArray (lst ops done)).find? (fun i => Nat.blt done.length ops.length && mkOk ops && xmayTake X ops (lst ops done) i (leftD ops done)) with
    | some i => match planD X ops n (i :: done) with
      | some r => some (i :: r)
      | none => none
    | none => none
noncomputable def cplan (P : Program) (KO : KOt) (K : FuncId → List V → Option V) (kb : Nat) (X : List Nat) (ops : List Oper) : List Nat → List Nat → AS → Option AS
  | [], _, S => some (S.bump ops.length)
  | i :: r, done, S => if ((leftD ops done).all fun d => (get S.objs (kb + d)).isNone) = true then (match nth ops i with
      | some o => match dstep P KO K kb X ops i o S with
        | some T => cplan P KO K kb X ops r (i :: done) T
        | none => none
      | none => none) else none
theorem cplan_sound {X : List Nat} (hH : H0 w0) {KO : KOt} (hKO : KOkH P H0 KO) {K : FuncId → List V → Option V} (hK : ∀ f vs r, K f vs = some r → ACH H0 P f vs (fun x => x = r)) (hNG : ∀ (fid : FuncId) fn, P.funcs[fid]? = some fn → (fn.name == "runtime.NumGoroutine") = false) :
    ∀ {n : Nat} {done ord : List Nat} {S T : AS}, planD X ops n done = some ord → cplan P KO K kb X ops ord done S = some T → Q .normal T → AT P kb w0 X ops Q done S
  | 0, done, ord, S, T, hp, h, hQ => by
    simp only [planD] at hp
    split at hp
    case isFalse => cases hp
    rename_i h0
    injection hp with hp
    subst hp
    simp only [cplan, Option.some.injEq] at h
    subst h
    exact at_fin h0 (AS.le_refl _) hQ
  | n + 1, done, ord, S, T, hp, h, hQ => by
    simp only [planD] at hp
    split at hp
    · rename_i h0
      injection hp with hp
      subst hp
      simp only [cplan, Option.some.injEq] at h
      subst h
      exact at_fin h0 (AS.le_refl _) hQ
    split at hp
    case h_2 => cases hp
    rename_i i hi
    split at hp
    case h_2 => cases hp
    rename_i r hr
    injection hp with hp
    subst hp
    simp only [cplan] at h
    split at h
    case isFalse => cases h
    rename_i hks
    split at h
    case h_2 => cases h
    rename_i o ho
    split at h
    case h_2 => cases h
    rename_i U hU
    rw [nth_eq] at ho
    exact at_step (by simpa using List.find?_some hi) ho hks (dstep_sound hH hKO hK hNG hU) (cplan_sound hH hKO hK hNG hr h hQ)
theorem cplan_sub {KO : KOt} {K : FuncId → List V → Option V} {X : List Nat} : ∀ {ord done : List Nat} {S T : AS}, cplan P KO K kb X ops ord done S = some T → Sub S.objs T.objs
  | [], done, S, T, h => by
    simp only [cplan, Option.some.injEq] at h
    subst h
    exact Sub.refl _
  | i :: r, done, S, T, h => by
    simp only [cplan] at h
    split at h
    case isFalse => cases h
    split at h
    case h_2 => cases h
    split at h
    case h_2 => cases h
    rename_i U hU
    exact (dstep_sub hU).trans (cplan_sub h)
noncomputable def cdrawP (P : Program) (KO : KOt) (K : FuncId → List V → Option V) (kb : Nat) (X : List Nat) (ops : List Oper) (S : AS) : Option (List AS) :=
  match planD X ops ops.length [] with
  | some ord => (cplan P KO K kb X ops ord [] S).map fun T => [T]
  | none => cdraw P KO K kb X ops ops.length [] S
theorem cdrawP_sound {X : List Nat} (hH : H0 w0) {KO : KOt} (hKO : KOkH P H0 KO) {K : FuncId → List V → Option V} (hK : ∀ f vs r, K f vs = some r → ACH H0 P f vs (fun x => x = r)) (hNG : ∀ (fid : FuncId) fn, P.funcs[fid]? = some fn → (fn.name == "runtime.NumGoroutine") = false)
    {S : AS} {r : List AS} (h : cdrawP P KO K kb X ops S = some r) (hQ : ∀ T ∈ r, Q .normal T) : AT P kb w0 X ops Q [] S := by
  unfold cdrawP at h
  split at h
  · rename_i ord ho
    obtain ⟨T, hT, rfl⟩ := Option.map_eq_some_iff.1 h
    exact cplan_sound hH hKO hK hNG ho hT (hQ T (by simp))
  · exact cdraw_sound hH hKO hK hNG h hQ
theorem cdrawP_sub {KO : KOt} {K : FuncId → List V → Option V} {X : List Nat} {S : AS} {r : List AS} (h : cdrawP P KO K kb X ops S = some r) : ∀ T ∈ r, Sub S.objs T.objs := by
  unfold cdrawP at h
  split at h
  · obtain ⟨T, hT, rfl⟩ := Option.map_eq_some_iff.1 h
    intro U hU
    rw [List.mem_singleton.1 hU]
    exact cplan_sub hT
  · exact cdraw_sub h
noncomputable def AWIn (P : Program) (w0 : Bs) (N0 : Nat → Prop) (c : Code) (Q : Exit → AS → Prop) (S : AS) : Prop :=
  ∀ a w, Rel w0 N0 S a w → ∀ b k cs, ∃ e a' w', post w0 N0 Q e a' w' ∧ Arrives P (lone (b.at a (.code c :: .inLoop c :: k)) cs w) b k cs e a' w'
theorem awin_loop {c : Code} (h : AWIn P w0 N0 c Q S) : AW P w0 N0 (.loop c) Q S := by
  intro a w hr b k cs
  obtain ⟨e, a', w', hq, harr⟩ := h a w hr b k cs
  exact ⟨e, a', w', hq, .of_steps (.one step_loop) harr⟩
theorem awin_round {c : Code} (h : AW P w0 N0 c (ethen (AWIn P w0 N0 c Q) Q) S) : AWIn P w0 N0 c Q S := by
  intro a w hr b k cs
  obtain ⟨e, a1, w1, ⟨S', hQ, hR⟩, harr⟩ := h a w hr b (.inLoop c :: k) cs
  cases e with
  | normal =>
    obtain ⟨e2, a2, w2, hq2, harr2⟩ := hQ a1 w1 hR b k cs
    exact ⟨e2, a2, w2, hq2, .of_steps (Steps.trans harr (.one step_inLoop)) harr2⟩
  | exit id => exact ⟨_, a1, w1, ⟨S', hQ, hR⟩, .pass (x := .inLoop c) rfl (fun _ _ => .inl (by simp)) harr⟩
  | goto l => exact ⟨_, a1, w1, ⟨S', hQ, hR⟩, .pass (x := .inLoop c) rfl (fun _ _ => .inl (by simp)) harr⟩
  | ret => exact ⟨_, a1, w1, ⟨S', hQ, hR⟩, .pass (x := .inLoop c) rfl (fun _ _ => .inl (by simp)) harr⟩
  | panic ch => exact ⟨_, a1, w1, ⟨S', hQ, hR⟩, .pass (x := .inLoop c) rfl (fun _ _ => .inl (by simp)) harr⟩
  | outgrown => exact ⟨_, a1, w1, ⟨S', hQ, hR⟩, .pass (x := .inLoop c) rfl (fun _ _ => .inl (by simp)) harr⟩
noncomputable def cthen (f : AS → Option (List (Exit × AS))) (l : List (Exit × AS)) : Option (List (Exit × AS)) :=
  bindM (fun p => match p with | (.normal, S) => f S | q => some [q]) l
theorem cthen_mem {f : AS → Option (List (Exit × AS))} {l r : List (Exit × AS)} (h : cthen f l = some r) {K : AS → Prop} {Q : Exit → AS → Prop} (hf : ∀ S q, f S = some q → (∀ p ∈ q, Q p.1 p.2) → K S) (hr : ∀ p ∈ r, Q p.1 p.2) : ∀ p ∈ l, ethen K Q p.1 p.2 := by
  rintro ⟨e, T⟩ hp
  obtain ⟨q, hq, hqr⟩ := bindM_mem h _ hp
  cases e with
  | normal => exact hf T q hq (fun p hp => hr p (hqr p hp))
  | _ => simp only [Option.some.injEq] at hq; subst hq; exact hr _ (hqr _ (by simp))
noncomputable def cloop (f : AS → Option (List (Exit × AS))) : Nat → AS → Option (List (Exit × AS))
  | 0, _ => none
  | n + 1, S => match f S.prune with
    | some l => cthen (cloop f n) l
    | none => none
theorem cloop_sound {f : AS → Option (List (Exit × AS))} {c : Code} (hf : ∀ S l (Q : Exit → AS → Prop), f S = some l → (∀ p ∈ l, Q p.1 p.2) → AW P w0 N0 c Q S) :
    ∀ {n : Nat} {S : AS} {r : List (Exit × AS)}, cloop f n S = some r → (∀ p ∈ r, Q p.1 p.2) → AWIn P w0 N0 c Q S
  | 0, S, r, h, _ => by cases h
  | n + 1, S, r, h, hQ => by
    simp only [cloop] at h
    split at h
    case h_2 => cases h
    rename_i l hl
    have := awin_round (hf S.prune l _ hl (cthen_mem h (fun T q hq hp => cloop_sound hf hq hp) hQ))
    exact fun a w hr => this a w (le_prune S _ _ _ _ hr)
noncomputable def cblock (id : Nat) (p : Exit × AS) : Exit × AS := match p.1 with
  | .exit id' => if id' = id then (.normal, p.2) else p
  | _ => p
noncomputable def frz1 (S : AS) (d : Nat) : AS := match S.freeze d with | some T => T | none => S
theorem le_frz1 (S : AS) (d : Nat) : S.le (frz1 S d) := by
  unfold frz1
  split
  · rename_i T h; exact le_freeze h
  · exact AS.le_refl S
theorem frz1_nt (S : AS) (d : Nat) : (frz1 S d).nt = S.nt := by
  unfold frz1
  split
  · rename_i T h
    unfold AS.freeze at h
    split at h
    · split at h
      · injection h with h; subst h; rfl
      · cases h
    · cases h
  · rfl
theorem get_eraseK_ne {α : Type} {d t : Nat} (h : t ≠ d) : ∀ (l : List (Nat × α)), get (eraseK d l) t = none → get l t = none
  | [], _ => rfl
  | (k, y) :: r, hn => by
    unfold eraseK at hn
    split at hn
    · rename_i e; rw [get_cons, if_neg (by omega)]; exact get_eraseK_ne h r hn
    · rw [get_cons] at hn ⊢
      split at hn
      · cases hn
      · rename_i e; rw [if_neg e]; exact get_eraseK_ne h r hn
theorem get_mapK_none {α β : Type} (f : α → β) (t : Nat) : ∀ (l : List (Nat × α)), get (mapK f l) t = none → get l t = none
  | [], _ => rfl
  | (k, y) :: r, hn => by
    unfold mapK at hn
    rw [get_cons] at hn ⊢
    split at hn
    · cases hn
    · rename_i e; rw [if_neg e]; exact get_mapK_none f t r hn
theorem frz1_get (S : AS) {d t : Nat} (h : t ≠ d) (hn : get (frz1 S d).objs t = none) : get S.objs t = none := by
  unfold frz1 at hn
  split at hn
  · rename_i T hT
    unfold AS.freeze at hT
    split at hT
    · split at hT
      · injection hT with hT; subst hT
        exact get_eraseK_ne h _ (get_mapK_none _ t _ hn)
      · cases hT
    · cases hT
  · exact hn
noncomputable def frzL : List Nat → AS → AS
  | [], S => S
  | d :: r, S => frzL r (frz1 S d)
theorem le_frzL : ∀ (ks : List Nat) (S : AS), S.le (frzL ks S)
  | [], S => AS.le_refl S
  | d :: r, S => AS.le_trans (le_frz1 S d) (le_frzL r (frz1 S d))
theorem frzL_nt : ∀ (ks : List Nat) (S : AS), (frzL ks S).nt = S.nt
  | [], S => rfl
  | d :: r, S => (frzL_nt r (frz1 S d)).trans (frz1_nt S d)
theorem frzL_get : ∀ (ks : List Nat) (S : AS) (t : Nat), t ∉ ks → get (frzL ks S).objs t = none → get S.objs t = none
  | [], S, t, _, h => h
  | d :: r, S, t, ht, h => by
    simp only [List.mem_cons, not_or] at ht
    exact frz1_get S ht.1 (frzL_get r (frz1 S d) t ht.2 h)
noncomputable def innK (O : List (Nat × Ob)) : List Nat := O.flatMap fun p => p.2.es.filterMap fun e => match e with
  | .sl d _ _ _ => some d
  | .ss d _ _ _ _ => some d
  | _ => none
noncomputable def frK (b : Bool) (nx : Nat) (v : V) (O : List (Nat × Ob)) : List Nat := (bif b then O.map (·.1) ++ O.map (·.1) else (match v with | .sl .. => [] | _ => innK O)).filter fun k => Nat.ble (nx * 4096) k
noncomputable def cret (b : Bool) (ins : List (Nat × Ob)) (nx : Nat) (t : Out) : Out :=
  if (ins.all fun p => Nat.blt p.1 (nx * 4096)) = true then
    (match frzL (frK b nx t.1 t.2.1) ⟨[(0, t.1)], t.2.1, t.2.2, 1⟩ with
    | S => match get S.env 0 with | some r => (r, S.objs, S.nx) | none => t) else t
theorem cret_rel {b : Bool} {ins : List (Nat × Ob)} {nx : Nat} {t : Out} {B : Bs} {N : Nat → Prop} {x : Value} {w : World} (h : ∃ μ, RelM (fun _ => False) B N μ ⟨[(0, t.1)], t.2.1, t.2.2, 1⟩ ⟨#[x], []⟩ w) :
    ∃ μ, RelM (fun _ => False) B N μ ⟨[(0, (cret b ins nx t).1)], (cret b ins nx t).2.1, (cret b ins nx t).2.2, 1⟩ ⟨#[x], []⟩ w := by
  unfold cret
  split
  · generalize frK b nx t.1 t.2.1 = ks
    have h1 := le_frzL ks ⟨[(0, t.1)], t.2.1, t.2.2, 1⟩ B N ⟨#[x], []⟩ w h
    have h2 := frzL_nt ks ⟨[(0, t.1)], t.2.1, t.2.2, 1⟩
    generalize frzL ks ⟨[(0, t.1)], t.2.1, t.2.2, 1⟩ = T at h1 h2
    simp only
    split
    · rename_i r hr
      exact le_of_get (S := T) (S' := ⟨[(0, r)], T.objs, T.nx, 1⟩) h2.symm (Nat.le_refl _) (fun k v hk => by
        simp only [get_cons, get] at hk
        split at hk
        · rename_i e; subst e; injection hk with hk; subst hk; exact hr
        · cases hk) (fun _ _ hk => hk) B N _ w h1
    · exact h
  · exact h
theorem cret_sub {b : Bool} {ins : List (Nat × Ob)} {nx : Nat} {t : Out} (h : Sub ins t.2.1) : Sub ins (cret b ins nx t).2.1 := by
  unfold cret
  split
  · rename_i hall
    generalize hks : frK b nx t.1 t.2.1 = ks
    have hlt : ∀ k ∈ ks, nx * 4096 ≤ k := by
      intro k hk
      rw [← hks] at hk
      unfold frK at hk
      exact Nat.le_of_ble_eq_true (List.mem_filter.1 hk).2
    have hg := frzL_get ks ⟨[(0, t.1)], t.2.1, t.2.2, 1⟩
    generalize frzL ks ⟨[(0, t.1)], t.2.1, t.2.2, 1⟩ = T at hg
    simp only
    split
    · intro k hk
      cases hq : get ins k with
      | none => rfl
      | some q =>
        obtain ⟨p, hp, hpk⟩ := List.mem_map.1 (get_mem hq)
        have h1 := List.all_eq_true.1 hall p hp
        rw [hpk] at h1
        have h2 : k < nx * 4096 := by simpa using h1
        have h3 := h k (hg k (fun hm => by have := hlt k hm; omega) hk)
        rw [hq] at h3
        cases h3
    · exact h
  · exact h
noncomputable def bitsO : List Operand → Nat → Nat
  | [], m => m
  | .tmp t :: r, m => bitsO r (m ||| 1 <<< t)
  | _ :: r, m => bitsO r m
noncomputable def extR : List Oper → Nat → Nat → Nat
  | [], _, e => e
  | o :: r, d, e => extR r (match o.dst with | some t => d ||| 1 <<< t | none => d) (e ||| ((bitsO o.op.operands.toList 0) ^^^ ((bitsO o.op.operands.toList 0) &&& d)))
noncomputable def keepC : Code → Nat
  | .seq x y => keepC x ||| keepC y
  | .cond c x y => bitsO [c] 0 ||| (keepC x ||| keepC y)
  | .block _ x => keepC x
  | .loop x => keepC x
  | .scope x => keepC x
  | .region _ ops _ => extR ops.toList 0 0
  | _ => 0
noncomputable def bitsR : List ResultVar → Nat → Nat
  | [], m => m
  | .tmp t :: r, m => bitsR r (m ||| 1 <<< t)
  | .cell t _ :: r, m => bitsR r (m ||| 1 <<< t)
noncomputable def dropM (fn : Func) (c : Code) : Nat := (2 ^ fn.ntmps - 1) ^^^ ((2 ^ fn.ntmps - 1) &&& bitsR fn.results.toList (keepC c))
noncomputable def eqO (a b : Ob) : Bool := bif Nat.beq a.v b.v then (bif Nat.beq a.sz b.sz then (bif Nat.beq a.ty b.ty then eqVs a.es b.es else false) else false) else false
theorem eqO_eq {a b : Ob} (h : eqO a b = true) : a = b := by
  obtain ⟨v, s, t, e⟩ := a
  obtain ⟨v', s', t', e'⟩ := b
  simp only [eqO, Bool.cond_false_right, Bool.and_eq_true] at h
  obtain ⟨h1, h2, h3, h4⟩ := h
  rw [Nat.eq_of_beq_eq_true h1, Nat.eq_of_beq_eq_true h2, Nat.eq_of_beq_eq_true h3, eqVs_eq _ _ h4]
noncomputable def subM {α : Type} (eq : α → α → Bool) (A B : List (Nat × α)) : Bool := A.all fun p => match getR p.1 A, getR p.1 B with
  | some a, some b => eq a b
  | _, _ => false
theorem subM_get {α : Type} {eq : α → α → Bool} (heq : ∀ a b, eq a b = true → a = b) {A B : List (Nat × α)} (h : subM eq A B = true) (t : Nat) (v : α) (hv : get A t = some v) : get B t = some v := by
  obtain ⟨p, hp, hpk⟩ := List.mem_map.1 (get_mem hv)
  have hm := List.all_eq_true.1 h _ hp
  simp only [getR_eq, hpk] at hm
  rw [hv] at hm
  split at hm
  · rename_i a b ha hb
    injection ha with ha
    subst ha
    rw [hb, heq _ _ hm]
  · cases hm
noncomputable def adJ (t u : Out) : Bool := match t, u with
  | (.nils, O, n1), (.sl d v sz n, O', n2) => bif Nat.beq n 0 then (bif Nat.ble n1 v then (bif Nat.blt v n2 then (match get O' d with
    | some ob => bif Nat.beq ob.v v then (bif Nat.beq ob.sz sz then (match ob.es with
      | [] => subM eqO O' ((d, ob) :: O)
      | _ => false) else false) else false
    | none => false) else false) else false) else false
  | _, _ => false
theorem adJ_rel {t u : Out} (h : adJ t u = true) : AS.le ⟨[(0, t.1)], t.2.1, t.2.2, 1⟩ ⟨[(0, u.1)], u.2.1, u.2.2, 1⟩ := by
  unfold adJ at h
  split at h
  case h_2 => cases h
  rename_i O n1 d v sz n O' n2
  simp only [Bool.cond_false_right, Bool.and_eq_true] at h
  obtain ⟨h1, h2, h3, h⟩ := h
  split at h
  case h_2 => cases h
  rename_i ob hob
  simp only [Bool.cond_false_right, Bool.and_eq_true] at h
  obtain ⟨h4, h5, h⟩ := h
  split at h
  case h_2 => cases h
  rename_i hes
  obtain ⟨ov, osz, oty, oes⟩ := ob
  simp only at hes h4 h5
  have h1 := Nat.eq_of_beq_eq_true h1
  have h4 := Nat.eq_of_beq_eq_true h4
  have h5 := Nat.eq_of_beq_eq_true h5
  have h2 := Nat.le_of_ble_eq_true h2
  have h3 : v < n2 := by simpa using h3
  subst h1; subst h4; subst h5; subst hes
  have k1 : AS.le ⟨[(0, .nils)], O, n1, 1⟩ ⟨[(0, .nils)], O, ov, 1⟩ := le_of_get rfl h2 (fun _ _ h => h) (fun _ _ h => h)
  have k2 := le_adoptS (S := ⟨[(0, .nils)], O, ov, 1⟩) (t := 0) (d := d) (sz := osz) (ty := oty) rfl
  refine AS.le_trans k1 (AS.le_trans k2 (le_of_get rfl (by simp only [AS.adoptS]; omega) (fun k w hk => ?_) (fun k o hk => ?_)))
  · simp only [AS.adoptS, get_cons, get] at hk ⊢
    split at hk
    · rename_i e; rw [if_pos e]; exact hk
    · cases hk
  · simp only [AS.adoptS]
    exact subM_get (fun _ _ h => eqO_eq h) h k o hk
noncomputable def adL (l : List Out) : List Out := match l with
  | [t, u] => bif adJ t u then [u] else (bif adJ u t then [t] else [t, u])
  | l => l
theorem adL_mem {l : List Out} {t : Out} (h : t ∈ adL l) : t ∈ l := by
  unfold adL at h
  split at h
  · rename_i a b
    cases h1 : adJ a b with
    | true => rw [h1] at h; rw [List.mem_singleton.1 h]; simp
    | false =>
      rw [h1] at h
      cases h2 : adJ b a with
      | true => rw [h2] at h; rw [List.mem_singleton.1 h]; simp
      | false => rw [h2] at h; exact h
  · exact h
theorem adL_rel {l : List Out} {t : Out} (ht : t ∈ l) {B : Bs} {N : Nat → Prop} {x : Value} {w : World} (h : ∃ μ, RelM (fun _ => False) B N μ ⟨[(0, t.1)], t.2.1, t.2.2, 1⟩ ⟨#[x], []⟩ w) :
    ∃ u ∈ adL l, ∃ μ, RelM (fun _ => False) B N μ ⟨[(0, u.1)], u.2.1, u.2.2, 1⟩ ⟨#[x], []⟩ w := by
  unfold adL
  split
  · rename_i a b
    cases h1 : adJ a b with
    | true =>
      refine ⟨b, by simp, ?_⟩
      simp only [List.mem_cons, List.not_mem_nil, or_false] at ht
      rcases ht with rfl | rfl
      · exact adJ_rel h1 _ _ _ _ h
      · exact h
    | false =>
      cases h2 : adJ b a with
      | true =>
        refine ⟨a, by simp, ?_⟩
        simp only [List.mem_cons, List.not_mem_nil, or_false] at ht
        rcases ht with rfl | rfl
        · exact h
        · exact adJ_rel h2 _ _ _ _ h
      | false => exact ⟨t, ht, h⟩
  · exact ⟨t, ht, h⟩
noncomputable def cfun (P : Program) (F : FuncId → Bool) (ex : Nat → Code → AS → Option (List (Exit × AS))) (fid : FuncId) (vs : List V) (ins : List (Nat × Ob)) (nx : Nat) : Option (List Out) :=
  match P.funcs[fid]? with
  | some fn => match fn.body with
    | some c => if vs.length ≤ fn.ntmps then forceN (dropM fn c) (fun m => match ex m c ⟨env0 0 vs, ins, nx, fn.ntmps⟩ with
      | some l => (allM (fun p : Exit × AS => match p.1 with
        | .ret => (aresT P p.2 fn.results.toList).map fun r => cret (F fid) ins nx (r, p.2.objs, p.2.nx)
        | .normal => (aresT P p.2 fn.results.toList).map fun r => cret (F fid) ins nx (r, p.2.objs, p.2.nx)
        | _ => none) l).map adL
      | none => none) else none
    | none => none
  | none => none
theorem acn_ach (hHer : Her H H) {b : Bool} {f : FuncId} {vs : List V} {l : List Out} {R : V → Prop} (hl : ∀ t ∈ l, (cret b [] 0 t).1.pureV = true ∧ R (cret b [] 0 t).1) (h : ACN H P f vs [] 0 l) : ACH H P f vs R := by
  intro w0 hH w N xs hbel hN hlen hp
  refine (h ⟨w, fun _ => False, fun _ _ => none, []⟩ N (fun _ _ => none) xs (hHer.pure hH hbel) hlen rfl ⟨rfl, by simp [hlen], Bs.Below.refl _, ⟨fun b hb => ⟨hN b hb, fun h => h⟩, fun _ _ _ h => by cases h⟩, fun d v hv => absurd rfl hv, fun d o hd => by simp [get] at hd, fun d o _ _ _ _ _ hd => by simp [get] at hd, fun t v hv => ?_⟩).mono ?_
  · obtain ⟨_, h2⟩ := get_env0 hv
    simp only [Nat.sub_zero] at h2
    have ht : t < vs.length := (List.getElem?_eq_some_iff.1 h2).1
    refine ⟨ht, ?_⟩
    have hx : xs[t]? = some xs[t] := List.getElem?_eq_getElem (by omega)
    have : xs.toArray.getD t undef = xs[t] := by simp [hx]
    rw [this]
    refine .pur ?_
    exact (hp t xs[t] v hx h2).keep (Keeps.refl w _) (fun b _ hb => by
      rcases hb with h0 | ⟨d, o, c, h1, _⟩
      · exact h0
      · simp [get] at h1)
  · rintro e w' ⟨t, ht, x, μ', rfl, hr⟩
    obtain ⟨h1, h2⟩ := hl t ht
    obtain ⟨μ2, hr⟩ := cret_rel (b := b) (ins := []) (nx := 0) ⟨μ', hr⟩
    generalize cret b [] 0 t = t at h1 h2 hr
    obtain ⟨_, he⟩ := hr.env 0 t.1 (by simp [get])
    have hx : (#[x] : Array Value).getD 0 undef = x := rfl
    rw [show (⟨#[x], []⟩ : Act).tmps.getD 0 undef = x from rfl] at he
    have hpx := he.pureV h1
    refine ⟨x, t.1, rfl, h2, hpx.keep (Keeps.refl w' _) (fun b hb hn => .inl hn), hr.below.plain⟩
theorem get_env0_of : ∀ (vs : List V) (i t : Nat), i ≤ t → get (env0 i vs) t = vs[t - i]?
  | [], i, t, _ => by simp [env0, get]
  | v :: vs, i, t, h => by
    rw [env0, get_cons]
    by_cases e : i = t
    · subst e; simp
    · rw [if_neg e, get_env0_of vs (i + 1) t (by omega), show t - i = (t - (i + 1)) + 1 by omega]; simp
theorem acn_of_ach (hHer : Her H H0) {f : FuncId} {us : List V} {r : V} {ins : List (Nat × Ob)} {nx : Nat} (h : ACH H0 P f us (fun x => x = r)) (hp : us.all V.pureV = true) : ACN H P f us ins nx [(r, ins, nx)] := by
  intro B N μ xs hB hlen hd hr
  refine (h B (hHer.zero hB) B.w (Own N μ ⟨env0 0 us, ins, nx, us.length⟩) xs (Bs.Below.refl B) hr.own_lt hlen (fun i x v hx hv => ?_)).mono ?_
  · have hlt : i < us.length := (List.getElem?_eq_some_iff.1 hv).1
    obtain ⟨_, he⟩ := hr.env i v (by rw [get_env0_of _ _ _ (Nat.zero_le _)]; simpa using hv)
    have hx' : xs.toArray.getD i undef = x := by simp [hx]
    rw [hx'] at he
    exact he.pureV (List.all_eq_true.1 hp v (List.mem_of_getElem? hv))
  · rintro e w' ⟨x, r', rfl, rfl, hpx, hbw⟩
    exact ⟨_, List.mem_singleton.2 rfl, x, μ, rfl, (hr.later hbw).leave hd (.pur hpx) (fun _ _ h => h)⟩
noncomputable def joinC (a b : V) : Option V := bif eqV a b then some a else (match a, b with
  | .nils, .ro s [] => some (.ro s [])
  | .ro s [], .nils => some (.ro s [])
  | _, _ => none)
def leP (a b : V) : Prop := ∀ (w : World) (N : Nat → Prop) (y : Value), Pur w N y a → Pur w N y b
theorem leP_nil (s : Nat) : leP .nils (.ro s []) := fun w N y h => by
  cases h with
  | nils A => exact .ro A ⟨0, 0, none⟩ 0 0 s [] (fun _ _ => undef) rfl (Nat.le_refl _) (Nat.zero_le _) (fun h => absurd h (by omega)) (fun e he => by cases he) (fun k e j c he _ => by simp at he) (fun k e j c he _ => by simp at he)
theorem joinC_le {a b c : V} (h : joinC a b = some c) : leP a c ∧ leP b c ∧ (a.isCell = true → c.isCell = true) := by
  unfold joinC at h
  cases he : eqV a b with
  | true =>
    rw [he] at h
    simp only [cond_true, Option.some.injEq] at h
    subst h
    have := eqV_eq _ _ he
    subst this
    exact ⟨fun _ _ _ h => h, fun _ _ _ h => h, id⟩
  | false =>
    rw [he] at h
    simp only [cond_false] at h
    split at h
    · injection h with h; subst h; exact ⟨leP_nil _, fun _ _ _ h => h, fun _ => rfl⟩
    · injection h with h; subst h; exact ⟨fun _ _ _ h => h, leP_nil _, fun _ => rfl⟩
    · cases h
noncomputable def zipM (f : V → V → Option V) : List V → List V → Option (List V)
  | [], [] => some []
  | a :: l, b :: m => match f a b with
    | some c => match zipM f l m with
      | some r => some (c :: r)
      | none => none
    | none => none
  | _, _ => none
theorem zipM_get {f : V → V → Option V} : ∀ {l m r : List V}, zipM f l m = some r → r.length = l.length ∧ m.length = l.length ∧ ∀ (i : Nat) c, r[i]? = some c → ∃ a b, l[i]? = some a ∧ m[i]? = some b ∧ f a b = some c
  | [], [], r, h => by simp only [zipM, Option.some.injEq] at h; subst h; simp
  | [], b :: m, r, h => by simp [zipM] at h
  | a :: l, [], r, h => by simp [zipM] at h
  | a :: l, b :: m, r, h => by
    simp only [zipM] at h
    split at h
    case h_2 => cases h
    rename_i c hc
    split at h
    case h_2 => cases h
    rename_i q hq
    injection h with h
    subst h
    obtain ⟨h1, h2, h3⟩ := zipM_get hq
    refine ⟨by simp [h1], by simp [h2], fun i d hd => ?_⟩
    cases i with
    | zero => simp only [List.getElem?_cons_zero, Option.some.injEq] at hd; subst hd; exact ⟨a, b, rfl, rfl, hc⟩
    | succ i => simpa using h3 i d (by simpa using hd)
noncomputable def joinA (a b : V) : Option V := match a, b with
  | .agg l, .agg m => (zipM joinC l m).map .agg
  | a, b => joinC a b
theorem joinA_le {a b c : V} (h : joinA a b = some c) : leP a c ∧ leP b c := by
  unfold joinA at h
  split at h
  · obtain ⟨r, hr, rfl⟩ := Option.map_eq_some_iff.1 h
    rename_i l m
    obtain ⟨h1, h2, h3⟩ := zipM_get hr
    have hcell : (∀ x ∈ l, x.isCell = true) → ∀ x ∈ r, x.isCell = true := fun hl x hx => by
      obtain ⟨i, hi⟩ := List.getElem?_of_mem hx
      obtain ⟨a, b, ha, _, hf⟩ := h3 i x hi
      exact (joinC_le hf).2.2 (hl a (List.mem_of_getElem? ha))
    have hcell2 : (∀ x ∈ m, x.isCell = true) → ∀ x ∈ r, x.isCell = true := fun hm x hx => by
      obtain ⟨i, hi⟩ := List.getElem?_of_mem hx
      obtain ⟨a, b, _, hb, hf⟩ := h3 i x hi
      have hbc := hm b (List.mem_of_getElem? hb)
      unfold joinC at hf
      cases he : eqV a b with
      | true => rw [he] at hf; simp only [cond_true, Option.some.injEq] at hf; subst hf; rw [eqV_eq _ _ he]; exact hbc
      | false =>
        rw [he] at hf
        simp only [cond_false] at hf
        split at hf
        · injection hf with hf; subst hf; rfl
        · injection hf with hf; subst hf; rfl
        · cases hf
    constructor
    · intro w N y hy
      cases hy with
      | agg xs _ hl hc hh =>
        exact .agg xs r (by omega) (hcell hc) (fun i x c hx hcc => by
          obtain ⟨a, b, ha, _, hf⟩ := h3 i c hcc
          exact (joinC_le hf).1 _ _ _ (hh i x a hx ha))
    · intro w N y hy
      cases hy with
      | agg xs _ hl hc hh =>
        exact .agg xs r (by omega) (hcell2 hc) (fun i x c hx hcc => by
          obtain ⟨a, b, _, hb, hf⟩ := h3 i c hcc
          exact (joinC_le hf).2.1 _ _ _ (hh i x b hx hb))
  · exact ⟨(joinC_le h).1, (joinC_le h).2.1⟩
noncomputable def joinV (a b : V) : Option V := match a, b with
  | .tup l, .tup m => (zipM joinA l m).map .tup
  | a, b => joinA a b
theorem joinV_le {a b c : V} (h : joinV a b = some c) : leP a c ∧ leP b c := by
  unfold joinV at h
  split at h
  · obtain ⟨r, hr, rfl⟩ := Option.map_eq_some_iff.1 h
    obtain ⟨h1, h2, h3⟩ := zipM_get hr
    constructor
    · intro w N y hy
      cases hy with
      | tup xs _ hl hh =>
        exact .tup xs r (by omega) (fun i x c hx hcc => by
          obtain ⟨a, b, ha, _, hf⟩ := h3 i c hcc
          exact (joinA_le hf).1 _ _ _ (hh i x a hx ha))
    · intro w N y hy
      cases hy with
      | tup xs _ hl hh =>
        exact .tup xs r (by omega) (fun i x c hx hcc => by
          obtain ⟨a, b, _, hb, hf⟩ := h3 i c hcc
          exact (joinA_le hf).2 _ _ _ (hh i x b hx hb))
  · exact joinA_le h
noncomputable def joinL : V → List V → Option V
  | a, [] => some a
  | a, b :: r => match joinV a b with
    | some c => joinL c r
    | none => none
theorem joinL_le : ∀ {l : List V} {a c : V}, joinL a l = some c → leP a c ∧ ∀ x ∈ l, leP x c
  | [], a, c, h => by
    simp only [joinL, Option.some.injEq] at h
    subst h
    exact ⟨fun _ _ _ h => h, fun x hx => by cases hx⟩
  | b :: r, a, c, h => by
    simp only [joinL] at h
    split at h
    case h_2 => cases h
    rename_i d hd
    obtain ⟨h1, h2⟩ := joinV_le hd
    obtain ⟨h3, h4⟩ := joinL_le h
    refine ⟨fun w N y hy => h3 w N y (h1 w N y hy), fun x hx => ?_⟩
    rcases List.mem_cons.1 hx with rfl | hx
    · exact fun w N y hy => h3 w N y (h2 w N y hy)
    · exact h4 x hx
noncomputable def pureK (K : FuncId → List V → Option V) (call : FuncId → List V → List (Nat × Ob) → Nat → Option (List Out)) (fid : FuncId) (vs : List V) : Option V :=
  match K fid vs with
  | some r => some r
  | none => if vs.all V.pureV = true then (match call fid vs [] 0 with
    | some (t :: ts) => if ((t :: ts).all fun u => (cret true [] 0 u).1.pureV) = true then joinL (cret true [] 0 t).1 (ts.map fun u => (cret true [] 0 u).1) else none
    | _ => none) else none
theorem pureK_sound (hHer : Her H H) {K : FuncId → List V → Option V} (hK : ∀ f vs r, K f vs = some r → ACH H P f vs (fun x => x = r)) {call : FuncId → List V → List (Nat × Ob) → Nat → Option (List Out)} (hcall : ∀ fid vs ins nx l, call fid vs ins nx = some l → ACN H P fid vs ins nx l) :
    ∀ f vs r, pureK K call f vs = some r → ACH H P f vs (fun x => x = r) := by
  intro f vs r h
  unfold pureK at h
  split at h
  · rename_i r' hr
    injection h with h
    subst h
    exact hK _ _ _ hr
  split at h
  case isFalse => cases h
  split at h
  · rename_i t ts ht
    split at h
    case isFalse => cases h
    rename_i hp
    obtain ⟨h1, h2⟩ := joinL_le h
    have hA : ACH H P f vs (fun x => leP x r) := by
      refine acn_ach hHer (b := true) (fun u hu => ⟨List.all_eq_true.1 hp u hu, ?_⟩) (hcall _ _ _ _ _ ht)
      rcases List.mem_cons.1 hu with rfl | hu
      · exact h1
      · exact h2 _ (List.mem_map_of_mem hu)
    intro w0 hH w N xs k1 k2 k3 k4
    refine (hA w0 hH w N xs k1 k2 k3 k4).mono ?_
    rintro e w' ⟨x, q, rfl, hq, hpx, hbw⟩
    exact ⟨x, r, rfl, rfl, hq _ _ _ hpx, hbw⟩
  · cases h
noncomputable def pureF (F : FuncId → Bool) (K : FuncId → List V → Option V) (call : FuncId → List V → List (Nat × Ob) → Nat → Option (List Out)) (fid : FuncId) (vs : List V) : Option V :=
  bif F fid then pureK K call fid vs else K fid vs
theorem pureF_sound {F : FuncId → Bool} (hHer : Her H H) {K : FuncId → List V → Option V} (hK : ∀ f vs r, K f vs = some r → ACH H P f vs (fun x => x = r)) {call : FuncId → List V → List (Nat × Ob) → Nat → Option (List Out)} (hcall : ∀ fid vs ins nx l, call fid vs ins nx = some l → ACN H P fid vs ins nx l) :
    ∀ f vs r, pureF F K call f vs = some r → ACH H P f vs (fun x => x = r) := by
  intro f vs r h
  unfold pureF at h
  cases hF : F f with
  | true => rw [hF] at h; exact pureK_sound hHer hK hcall _ _ _ h
  | false => rw [hF] at h; exact hK _ _ _ h
noncomputable def viewK (KV : FuncId → List V → Option V) (fid : FuncId) (vs : List V) (ins : List (Nat × Ob)) : Option V :=
  if vs.all V.pureV = true then none else match (⟨[], ins, 0, 0⟩ : AS).viewsB vs with
    | some us => lightK KV fid us
    | none => none
theorem acn_of_view (hHer : Her H H0) {KV : FuncId → List V → Option V} (hK : ∀ f vs r, KV f vs = some r → ACH H0 P f vs (fun x => x = r)) {f : FuncId} {vs : List V} {r : V} {ins : List (Nat × Ob)} {nx : Nat} (h : viewK KV f vs ins = some r) : ACN H P f vs ins nx [(r, ins, nx)] := by
  unfold viewK at h
  split at h
  · cases h
  split at h
  case h_2 => cases h
  rename_i us hus
  obtain ⟨hk, hl⟩ := lightK_some h
  intro B N μ xs hB hlen hd hr
  obtain ⟨h3, h4⟩ := viewsB_spec hus
  refine (hK _ _ _ hk B (hHer.zero hB) B.w N xs (Bs.Below.refl B) (fun b hb => Nat.lt_of_lt_of_le (hr.n0.1 b hb).1 hr.below.size) (by omega) (fun i x u hx hu => ?_)).mono ?_
  · have hlt : i < vs.length := by rw [← h3]; exact (List.getElem?_eq_some_iff.1 hu).1
    obtain ⟨_, he⟩ := hr.env i vs[i] (by rw [get_env0_of _ _ _ (Nat.zero_le _)]; simp [hlt])
    have hx' : xs.toArray.getD i undef = x := by simp [hx]
    rw [hx'] at he
    have hv := h4 i vs[i] u (List.getElem?_eq_getElem hlt) hu
    have hv2 : (⟨env0 0 vs, ins, nx, vs.length⟩ : AS).viewB vs[i] = some u := by
      have := viewsB_congr (S := ⟨[], ins, 0, 0⟩) (T := ⟨env0 0 vs, ins, nx, vs.length⟩) (fun _ => rfl) [vs[i]]
      simp only [AS.viewsB, hv] at this
      split at this
      · rename_i u' us' hu' _; simp only [Option.some.injEq, List.cons.injEq] at this; rw [hu', this.1]
      · cases this
    exact hr.viewB he hv2
  · rintro e w' ⟨x, r', rfl, rfl, hpx, hbw⟩
    exact ⟨_, List.mem_singleton.2 rfl, x, μ, rfl, (hr.later hbw).leave hd (.pur (hpx.of_light hl)) (fun _ _ h => h)⟩
noncomputable def viewO (KO : FuncId → List V → Option (Nat × TypeId × List V × Option (List V))) (fid : FuncId) (vs : List V) (ins : List (Nat × Ob)) (nx : Nat) : Option Out :=
  if vs.all V.pureV = true then none else match (⟨[], ins, 0, 0⟩ : AS).views vs with
    | some us => match KO fid us with
      | some (sz, ty, es, ex) => some (koF sz es.length ex (nx * 4096) nx, (nx * 4096, ⟨nx, sz, ty, es⟩) :: ins, nx + 1)
      | none => none
    | none => none
theorem acn_of_viewO {KO : FuncId → List V → Option (Nat × TypeId × List V × Option (List V))} (hKO : KOok P KO) {f : FuncId} {vs : List V} {t : Out} {ins : List (Nat × Ob)} {nx : Nat} (h : viewO KO f vs ins nx = some t) : ACN H P f vs ins nx [t] ∧ Sub ins t.2.1 := by
  unfold viewO at h
  split at h
  · cases h
  split at h
  case h_2 => cases h
  rename_i us hus
  split at h
  case h_2 => cases h
  rename_i sz ty es ex hko
  injection h with h
  subst h
  refine ⟨?_, Sub.cons _ _⟩
  intro B N μ xs hB hlen hd hr
  obtain ⟨h3, h4⟩ := views_spec hus
  have hcall := hKO _ _ _ _ _ _ hko B.w N xs (fun b hb => Nat.lt_of_lt_of_le (hr.n0.1 b hb).1 hr.below.size) (by omega) (fun i x u hx hu => by
    have hlt : i < vs.length := by rw [← h3]; exact (List.getElem?_eq_some_iff.1 hu).1
    obtain ⟨_, he⟩ := hr.env i vs[i] (by rw [get_env0_of _ _ _ (Nat.zero_le _)]; simp [hlt])
    have hx' : xs.toArray.getD i undef = x := by simp [hx]
    rw [hx'] at he
    have hv := h4 i vs[i] u (List.getElem?_eq_getElem hlt) hu
    have hv2 : (⟨env0 0 vs, ins, nx, vs.length⟩ : AS).view vs[i] = some u := by
      have := views_congr (S := ⟨[], ins, 0, 0⟩) (T := ⟨env0 0 vs, ins, nx, vs.length⟩) (fun _ => rfl) [vs[i]]
      simp only [AS.views, hv] at this
      split at this
      · rename_i u' us' hu' _; simp only [Option.some.injEq, List.cons.injEq] at this; rw [hu', this.1]
      · cases this
    exact hr.view he hv2)
  refine hcall.mono ?_
  rintro e w' ⟨x, F', es', l, rfl, ⟨rfl, rfl⟩, hbw, hpx⟩
  refine ⟨_, List.mem_singleton.2 rfl, x, muSet μ (nx * 4096) nx l, rfl, ?_⟩
  have hmono := hr.muSet_mono (i := 0) (fun hf => hf) (nx * 4096) l
  have hfr := hr.muSet_fresh 0 (nx * 4096) l
  simp only [Nat.add_zero] at hmono hfr
  obtain ⟨hrel, _⟩ := hr.update (D' := fun j => False ∨ j = 0) (d := nx * 4096) (o' := ⟨nx, sz, ty, es'⟩) (l' := l) (w' := w') (μ' := muSet μ (nx * 4096) nx l) hmono hfr (muSet_same _ _ _ _)
    (hr.below.trans (hbw.mono hr.below.size)) (Keeps.of_below hbw _) (fun d1 o1 g c _ h1 h2 => hbw.block g (hr.block_lt h1 h2))
    (fun g c e => by
      have := (hpx (nx * 4096) nx (muSet μ (nx * 4096) nx l) (fun _ => False) (muSet_same _ _ _ _)).2
      rw [e] at this
      exact .inl (this.1.elim id (fun h => h.elim)))
    (fun N' _ => by
      have := (hpx (nx * 4096) nx (muSet μ (nx * 4096) nx l) N' (muSet_same _ _ _ _)).2
      cases l with
      | none => exact this
      | some gc => exact ⟨.inl (Nat.le_trans hr.below.size (this.1.elim id (fun h => h.elim))), this.2⟩)
  have hrel2 : RelM (fun _ => False) B N (muSet μ (nx * 4096) nx l) ⟨env0 0 vs, (nx * 4096, ⟨nx, sz, ty, es'⟩) :: ins, nx + 1, vs.length⟩ ⟨xs.toArray, []⟩ w' :=
    ⟨hrel.defers, hrel.size, hrel.below, hrel.n0, fun d v hv => by
      rcases hrel.fresh d v hv with h1 | ⟨j, hj, e⟩
      · exact .inl (by simp only at h1 ⊢; omega)
      · rcases hj with hj | hj
        · exact hj.elim
        · subst hj; exact .inl (by simp only at e ⊢; omega), hrel.objs, hrel.inj, hrel.env⟩
  exact hrel2.leave hd (hpx (nx * 4096) nx _ _ (muSet_same _ _ _ _)).1 (fun _ _ h => h)
noncomputable def ecall (KO : FuncId → List V → Option (Nat × TypeId × List V × Option (List V))) (KV K : FuncId → List V → Option V) (KS call : FuncId → List V → List (Nat × Ob) → Nat → Option (List Out)) (fid : FuncId) (vs : List V) (ins : List (Nat × Ob)) (nx : Nat) : Option (List Out) :=
  match K fid vs with
  | some r => if vs.all V.pureV = true then some [(r, ins, nx)] else none
  | none => match KS fid vs ins nx with
    | some l => some l
    | none => match viewK KV fid vs ins with
      | some r => some [(r, ins, nx)]
      | none => match viewO KO fid vs ins nx with
        | some t => some [t]
        | none => call fid vs ins nx
theorem ecall_sound (hHer : Her H H0) {KO : FuncId → List V → Option (Nat × TypeId × List V × Option (List V))} (hKO : KOok P KO) {KV K : FuncId → List V → Option V} {KS call : FuncId → List V → List (Nat × Ob) → Nat → Option (List Out)} (hKV : ∀ f vs r, KV f vs = some r → ACH H0 P f vs (fun x => x = r)) (hK : ∀ f vs r, K f vs = some r → ACH H0 P f vs (fun x => x = r))
    (hKS : ∀ fid vs ins nx l, KS fid vs ins nx = some l → ACN H P fid vs ins nx l ∧ ∀ t ∈ l, Sub ins t.2.1) (hcall : ∀ fid vs ins nx l, call fid vs ins nx = some l → ACN H P fid vs ins nx l ∧ ∀ t ∈ l, Sub ins t.2.1)
    (fid : FuncId) (vs : List V) (ins : List (Nat × Ob)) (nx : Nat) (l : List Out) (h : ecall KO KV K KS call fid vs ins nx = some l) : ACN H P fid vs ins nx l ∧ ∀ t ∈ l, Sub ins t.2.1 := by
  unfold ecall at h
  split at h
  · rename_i r hr
    split at h
    case isFalse => cases h
    rename_i hp
    injection h with h
    subst h
    exact ⟨acn_of_ach hHer (hK _ _ _ hr) hp, fun t ht => by rw [List.mem_singleton.1 ht]; exact Sub.refl _⟩
  split at h
  · rename_i q hq
    injection h with h
    subst h
    exact hKS _ _ _ _ _ hq
  split at h
  · rename_i r hr
    injection h with h
    subst h
    exact ⟨acn_of_view hHer hKV hr, fun t ht => by rw [List.mem_singleton.1 ht]; exact Sub.refl _⟩
  split at h
  · rename_i u hu
    injection h with h
    subst h
    obtain ⟨k1, k2⟩ := acn_of_viewO (H := H) hKO hu
    exact ⟨k1, fun t ht => by rw [List.mem_singleton.1 ht]; exact k2⟩
  · exact hcall _ _ _ _ _ h
noncomputable def AS.cut (S : AS) (m : Nat) : AS := { S with env := nubB m S.env }
noncomputable def nubF {α β : Type} : Nat → List (Nat × β) → (List (Nat × β) → α) → α
  | _, [], f => f []
  | m, (k, x) :: r, f => bif Nat.testBit m k then nubF m r f else forceN (m ||| 1 <<< k) fun m => nubF m r fun q => f ((k, x) :: q)
theorem nubF_eq {α β : Type} : ∀ (l : List (Nat × β)) (m : Nat) (f : List (Nat × β) → α), nubF m l f = f (nubB m l)
  | [], m, f => rfl
  | (k, x) :: r, m, f => by
    simp only [nubF, nubB, forceN_eq]
    cases Nat.testBit m k <;> simp only [cond_true, cond_false] <;> rw [nubF_eq r]
noncomputable def AS.cutF {α : Type} (S : AS) (m : Nat) (f : AS → α) : α := match S with
  | ⟨e, o, x, t⟩ => forceN x fun x => forceH o fun o => nubF m e fun e => f ⟨e, o, x, t⟩
theorem cutF_eq {α : Type} (S : AS) (m : Nat) (f : AS → α) : S.cutF m f = f (S.cut m) := by
  obtain ⟨e, o, x, t⟩ := S
  simp only [AS.cutF, forceN_eq, forceH_eq, nubF_eq, AS.cut]
theorem le_cut (S : AS) (m : Nat) : S.le (S.cut m) := le_of_get rfl (Nat.le_refl _) (fun t v h => by
  simp only [AS.cut, get_nubB] at h
  split at h
  · cases h
  · exact h) (fun d o h => h)
theorem aw_leF {c : Code} {f : AS → AS} (hf : ∀ T : AS, T.le (f T)) (h : AW P w0 N0 c (fun e T => Q e (f T)) S) : AW P w0 N0 c Q S := fun a w hr => wp_mono (h a w hr) fun _ _ _ ⟨T, hq, hR⟩ => ⟨f T, hq, hf T _ _ _ _ hR⟩
noncomputable def noGo : Exit → Bool
  | .goto _ => false
  | _ => true
theorem aw_scope {c : Code} (h : AW P w0 N0 c (fun e T => noGo e = true ∧ Q e T) S) : AW P w0 N0 (.scope c) Q S := fun a w hr => wp_scope_straight (wp_mono (h a w hr) fun e a' w' ⟨T, hq, hR⟩ => by
  cases e with
  | goto l => exact absurd hq.1 (by simp [noGo])
  | _ => exact ⟨T, hq.2, hR⟩)
noncomputable def cPos (ops : List Oper) : List Nat := (List.range ops.length).filter fun i => match nth ops i with
  | some o => (match o.op with | .call { callee := .value _, args := _, argTypes := _ } => true | _ => false)
  | none => false
noncomputable def eqS (R T : AS) : Bool := bif Nat.beq R.nt T.nt then (bif Nat.ble T.nx R.nx then (bif subM eqV R.env T.env then subM eqO R.objs T.objs else false) else false) else false
theorem eqS_le {R T : AS} (h : eqS R T = true) : T.le R := by
  simp only [eqS, Bool.cond_false_right, Bool.and_eq_true] at h
  obtain ⟨h1, h2, h3, h4⟩ := h
  exact le_of_get (Nat.eq_of_beq_eq_true h1) (Nat.le_of_ble_eq_true h2) (subM_get eqV_eq h3) (subM_get (fun _ _ h => eqO_eq h) h4)
noncomputable def jn : List AS → List AS
  | [] => []
  | T :: r => match r with
    | [] => [T]
    | _ :: _ => match jn r with
      | q => if (q.any fun R => eqS R T) = true then q else T :: q
theorem jn_le : ∀ (l : List AS), ∀ T ∈ l, ∃ R ∈ jn l, T.le R
  | [], T, h => by cases h
  | [U], T, h => by rw [List.mem_singleton.1 h]; exact ⟨U, by simp [jn], AS.le_refl U⟩
  | U :: V :: r, T, h => by
    have ih := jn_le (V :: r)
    rw [jn]
    generalize jn (V :: r) = q at ih
    split
    · rename_i ha
      rcases List.mem_cons.1 h with rfl | h
      · obtain ⟨R, hR, hq⟩ := List.any_eq_true.1 ha
        exact ⟨R, hR, eqS_le hq⟩
      · exact ih T h
    · rcases List.mem_cons.1 h with rfl | h
      · exact ⟨T, by simp, AS.le_refl T⟩
      · obtain ⟨R, hR, hq⟩ := ih T h
        exact ⟨R, List.mem_cons_of_mem _ hR, hq⟩
theorem jn_mem : ∀ (l : List AS), ∀ T ∈ jn l, T ∈ l
  | [], T, h => by simp [jn] at h
  | [U], T, h => by simpa [jn] using h
  | U :: V :: r, T, h => by
    have ih := jn_mem (V :: r)
    rw [jn] at h
    generalize jn (V :: r) = q at ih h
    split at h
    · exact List.mem_cons_of_mem _ (ih T h)
    · rcases List.mem_cons.1 h with rfl | h
      · simp
      · exact List.mem_cons_of_mem _ (ih T h)
theorem aw_leR {c : Code} (h : AW P w0 N0 c (fun e T => ∃ R, T.le R ∧ Q e R) S) : AW P w0 N0 c Q S := fun a w hr => wp_mono (h a w hr) fun _ _ _ ⟨_, ⟨R, hle, hq⟩, hR⟩ => ⟨R, hq, hle _ _ _ _ hR⟩
noncomputable def creg (P : Program) (KO : KOt) (KP KQ : FuncId → List V → Option V) (call : FuncId → List V → List (Nat × Ob) → Nat → Option (List Out)) (XV : Op → AS → Option V) (m : Nat) (ops : Array Oper) (draw : Bool) (S : AS) : Option (List (Exit × AS)) :=
  (if draw = true then (if P.follows .mixedOrders = true then (match cdrawP P KO KP (S.nx * 4096) (xPos ops.toList) ops.toList S with
      | some l => some l
      | none => match cdrawP P KO KP (S.nx * 4096) (cPos ops.toList) ops.toList S with
      | some l => some l
      | none => if Nat.ble ops.toList.length 6 = true then cany (estep P XV call ops.toList) ops.toList ops.toList.length (Array.replicate ops.toList.length false) S else cdrawP P KO KQ (S.nx * 4096) (cPos ops.toList) ops.toList S) else none)
      else cops (estep P XV call ops.toList) 0 ops.toList S).map fun l => (jn (l.map fun T => T.cutF m fun T => T)).map fun T => (.normal, T)
noncomputable def cexec (P : Program) (KO : FuncId → List V → Option (Nat × TypeId × List V × Option (List V))) (K : FuncId → List V → Option V) (F : FuncId → Bool) : Nat → (FuncId → List V → List (Nat × Ob) → Nat → Option (List Out)) → (Op → AS → Option V) → Nat → Code → AS → Option (List (Exit × AS))
  | 0, _, _, _, _, _ => none
  | n + 1, KS, XV, m, c, S => match c with
    | .skip => some [(.normal, S)]
    | .label _ => some [(.normal, S)]
    | .ret => some [(.ret, S)]
    | .exit id => some [(.exit id, S)]
    | .seq x y => match cexec P KO K F n KS XV m x S with
      | some l => cthen (cexec P KO K F n KS XV m y) l
      | none => none
    | .cond c x y => match S.evc true c with
      | some (.bool true) => cexec P KO K F n KS XV m x S
      | some (.bool false) => cexec P KO K F n KS XV m y S
      | _ => none
    | .block id x => (cexec P KO K F n KS XV m x S).map fun l => l.map (cblock id)
    | .loop x => cloop (cexec P KO K F n KS XV m x) n S
    | .scope x => match cexec P KO K F n KS XV m x S with
      | some l => if (l.all fun p => noGo p.1) = true then some l else none
      | none => none
    | .region _ ops draw => creg P (KO, ecall KO K K nKS (cfun P F (cexec P KO K F n nKS (nXV P)))) (pureF F K (ecall KO K K nKS (cfun P F (cexec P KO K F n nKS (nXV P))))) (pureK K (ecall KO K K nKS (cfun P F (cexec P KO K F n nKS (nXV P))))) (ecall KO K (pureF F K (cfun P F (cexec P KO K F n nKS (nXV P)))) KS (cfun P F (cexec P KO K F n KS XV))) XV m ops draw S
    | _ => none
theorem cfun_sound {F : FuncId → Bool} {ex : Nat → Code → AS → Option (List (Exit × AS))} (hex : ∀ m c S l, ex m c S = some l → ∀ (w0 : Bs) (N0 : Nat → Prop) (Q : Exit → AS → Prop), H w0 → (∀ p ∈ l, Q p.1 p.2) → AW P w0 N0 c Q S)
    (fid : FuncId) (vs : List V) (ins : List (Nat × Ob)) (nx : Nat) (l : List Out) (h : cfun P F ex fid vs ins nx = some l) : ACN H P fid vs ins nx l := by
  unfold cfun at h
  split at h
  case h_2 => cases h
  rename_i fn hfn
  split at h
  case h_2 => cases h
  rename_i c hb
  split at h
  case isFalse => cases h
  rename_i hl
  rw [forceN_eq] at h
  split at h
  case h_2 => cases h
  rename_i q hq
  obtain ⟨l0, h0, rfl⟩ := Option.map_eq_some_iff.1 h
  intro B N μ xs hB hlen hd hr
  refine calls_of_wp hfn hb (wp_mono (hex _ c _ q hq B N (fun e S' => (e = .ret ∨ e = .normal) ∧ ∃ r, aresT P S' fn.results.toList = some r ∧ cret (F fid) ins nx (r, S'.objs, S'.nx) ∈ l0) hB (fun p hp => ?_) _ B.w ⟨μ, hr.enter hlen hl hd⟩) ?_)
  · obtain ⟨t, ht, hp2⟩ := allM_mem h0 p hp
    obtain ⟨e, T⟩ := p
    cases e with
    | ret =>
      obtain ⟨r, hr, rfl⟩ := Option.map_eq_some_iff.1 hp2
      exact ⟨.inl rfl, r, hr, ht⟩
    | normal =>
      obtain ⟨r, hr, rfl⟩ := Option.map_eq_some_iff.1 hp2
      exact ⟨.inr rfl, r, hr, ht⟩
    | _ => cases hp2
  · rintro e a' w' ⟨S', ⟨he, r, h1, h2⟩, ⟨μ', hr'⟩⟩
    have hdf : a'.defers = [] := by rw [hr'.defers, hd]
    obtain ⟨x, hx, hex⟩ := aresT_run hr' h1
    have key : ∃ v, (results fn a'.tmps).run P w' = .ok v w' ∧ ∃ t ∈ adL l0, ∃ x μ', Ending.returned v = .returned x ∧ RelM (fun _ => False) B N μ' ⟨[(0, t.1)], t.2.1, t.2.2, 1⟩ ⟨#[x], []⟩ w' :=
      by
        obtain ⟨μ2, h3⟩ := cret_rel (b := F fid) (ins := ins) (nx := nx) (t := (r, S'.objs, S'.nx)) ⟨μ', hr'.leave hd hex (fun _ _ h => h)⟩
        obtain ⟨u, hu, μ3, h4⟩ := adL_rel h2 ⟨μ2, h3⟩
        exact ⟨x, hx, u, hu, x, μ3, rfl, h4⟩
    rcases he with rfl | rfl
    · exact ⟨hdf, key⟩
    · exact ⟨hdf, key⟩
theorem nub_sub (S : AS) : Sub S.objs S.nub.objs := fun k h => by
  have : get (Eng.nub S.objs) k = none := h
  rwa [get_nub] at this
theorem prune_sub (S : AS) : Sub S.objs S.prune.objs := by
  unfold AS.prune
  split
  · split
    · exact Sub.refl _
    · exact nub_sub S
  · exact nub_sub S
theorem cthen_sub {f : AS → Option (List (Exit × AS))} {l r : List (Exit × AS)} {O : List (Nat × Ob)} (hf : ∀ S q, f S = some q → ∀ p ∈ q, Sub S.objs p.2.objs) (h : cthen f l = some r) (hl : ∀ p ∈ l, Sub O p.2.objs) : ∀ p ∈ r, Sub O p.2.objs := by
  intro p hp
  obtain ⟨⟨e, T⟩, hT, q, hq, hpq⟩ := bindM_inv h p hp
  cases e with
  | normal => exact (hl _ hT).trans (hf T q hq p hpq)
  | _ => simp only [Option.some.injEq] at hq; subst hq; rw [List.mem_singleton.1 hpq]; exact hl _ hT
theorem cloop_sub {f : AS → Option (List (Exit × AS))} (hf : ∀ S q, f S = some q → ∀ p ∈ q, Sub S.objs p.2.objs) : ∀ {n : Nat} {S : AS} {r : List (Exit × AS)}, cloop f n S = some r → ∀ p ∈ r, Sub S.objs p.2.objs
  | 0, S, r, h => by cases h
  | n + 1, S, r, h => by
    simp only [cloop] at h
    split at h
    case h_2 => cases h
    rename_i l hl
    exact cthen_sub (fun T q hq => cloop_sub hf hq) h (fun p hp => (prune_sub S).trans (hf S.prune l hl p hp))
theorem cfun_sub {F : FuncId → Bool} {ex : Nat → Code → AS → Option (List (Exit × AS))} (hex : ∀ m c S l, ex m c S = some l → ∀ p ∈ l, Sub S.objs p.2.objs) (fid : FuncId) (vs : List V) (ins : List (Nat × Ob)) (nx : Nat) (l : List Out) (h : cfun P F ex fid vs ins nx = some l) : ∀ t ∈ l, Sub ins t.2.1 := by
  unfold cfun at h
  split at h
  case h_2 => cases h
  split at h
  case h_2 => cases h
  split at h
  case isFalse => cases h
  rw [forceN_eq] at h
  split at h
  case h_2 => cases h
  rename_i q hq
  obtain ⟨l0, h0, rfl⟩ := Option.map_eq_some_iff.1 h
  intro t ht
  replace ht := adL_mem ht
  obtain ⟨⟨e, T⟩, hT, he⟩ := allM_inv h0 t ht
  have := hex _ _ _ _ hq _ hT
  cases e with
  | ret => obtain ⟨r, _, rfl⟩ := Option.map_eq_some_iff.1 he; exact cret_sub this
  | normal => obtain ⟨r, _, rfl⟩ := Option.map_eq_some_iff.1 he; exact cret_sub this
  | _ => cases he
theorem ecall_sub {KO : FuncId → List V → Option (Nat × TypeId × List V × Option (List V))} {KV K : FuncId → List V → Option V} {KS call : FuncId → List V → List (Nat × Ob) → Nat → Option (List Out)}
    (hKS : ∀ fid vs ins nx l, KS fid vs ins nx = some l → ∀ t ∈ l, Sub ins t.2.1) (hcall : ∀ fid vs ins nx l, call fid vs ins nx = some l → ∀ t ∈ l, Sub ins t.2.1)
    (fid : FuncId) (vs : List V) (ins : List (Nat × Ob)) (nx : Nat) (l : List Out) (h : ecall KO KV K KS call fid vs ins nx = some l) : ∀ t ∈ l, Sub ins t.2.1 := by
  unfold ecall at h
  split at h
  · split at h
    case isFalse => cases h
    injection h with h
    subst h
    intro t ht
    rw [List.mem_singleton.1 ht]
    exact Sub.refl _
  split at h
  · rename_i q hq
    injection h with h
    subst h
    exact hKS _ _ _ _ _ hq
  split at h
  · injection h with h
    subst h
    intro t ht
    rw [List.mem_singleton.1 ht]
    exact Sub.refl _
  split at h
  · rename_i u hu
    injection h with h
    subst h
    intro t ht
    rw [List.mem_singleton.1 ht]
    unfold viewO at hu
    repeat' split at hu
    all_goals first
      | (cases hu; done)
      | (injection hu with hu; subst hu; exact Sub.cons _ _)
  · exact hcall _ _ _ _ _ h
theorem cexec_sub {KO : FuncId → List V → Option (Nat × TypeId × List V × Option (List V))} {K : FuncId → List V → Option V} {KS : FuncId → List V → List (Nat × Ob) → Nat → Option (List Out)} {XV : Op → AS → Option V} {F : FuncId → Bool} (hKS : ∀ fid vs ins nx l, KS fid vs ins nx = some l → ∀ t ∈ l, Sub ins t.2.1) : ∀ (n m : Nat) (c : Code) (S : AS) (l : List (Exit × AS)), cexec P KO K F n KS XV m c S = some l → ∀ p ∈ l, Sub S.objs p.2.objs
  | 0, m, c, S, l, h => by cases h
  | n + 1, m, c, S, l, h => by
    have ih := cexec_sub (KO := KO) (K := K) (F := F) (XV := XV) hKS n
    have hst := fun (ops : List Oper) => estep_sub (P := P) (XV := XV) (ops := ops) (ecall_sub (KO := KO) (KV := K) (K := pureF F K (cfun P F (cexec P KO K F n nKS (nXV P)))) hKS (cfun_sub (P := P) (F := F) (ex := cexec P KO K F n KS XV) ih))
    have sing : ∀ {e : Exit}, l = [(e, S)] → ∀ p ∈ l, Sub S.objs p.2.objs := fun hl p hp => by subst hl; rw [List.mem_singleton.1 hp]; exact Sub.refl _
    cases c with
    | skip => simp only [cexec, Option.some.injEq] at h; exact sing h.symm
    | label k => simp only [cexec, Option.some.injEq] at h; exact sing h.symm
    | ret => simp only [cexec, Option.some.injEq] at h; exact sing h.symm
    | exit id => simp only [cexec, Option.some.injEq] at h; exact sing h.symm
    | seq x y =>
      simp only [cexec] at h
      split at h
      case h_2 => cases h
      rename_i q hq
      exact cthen_sub (ih m y) h (ih m x S q hq)
    | cond c x y =>
      simp only [cexec] at h
      split at h
      · exact ih m x S l h
      · exact ih m y S l h
      · cases h
    | block id x =>
      simp only [cexec] at h
      obtain ⟨q, hq, rfl⟩ := Option.map_eq_some_iff.1 h
      intro p hp
      obtain ⟨⟨e, T⟩, hT, rfl⟩ := List.mem_map.1 hp
      have := ih m x S q hq _ hT
      cases e with
      | exit id' => simp only [cblock]; split <;> exact this
      | _ => exact this
    | loop x =>
      simp only [cexec] at h
      exact cloop_sub (ih m x) h
    | scope x =>
      simp only [cexec] at h
      split at h
      case h_2 => cases h
      rename_i q hq
      split at h
      case isFalse => cases h
      injection h with h
      subst h
      exact ih m x S q hq
    | region id ops draw =>
      simp only [cexec] at h
      unfold creg at h
      obtain ⟨q, hq, rfl⟩ := Option.map_eq_some_iff.1 h
      intro p hp
      obtain ⟨U, hU, rfl⟩ := List.mem_map.1 hp
      obtain ⟨T, hT, rfl⟩ := List.mem_map.1 (jn_mem _ _ hU)
      rw [cutF_eq]
      show Sub S.objs T.objs
      split at hq
      · split at hq
        case isFalse => cases hq
        split at hq
        · rename_i q' hq'
          injection hq with hq
          subst hq
          exact cdrawP_sub hq' T hT
        split at hq
        · rename_i q' hq'
          injection hq with hq
          subst hq
          exact cdrawP_sub hq' T hT
        · split at hq
          · exact cany_sub (hst _) hq T hT
          · exact cdrawP_sub hq T hT
      · exact cops_sub (hst _) hq T hT
    | _ => cases h
theorem cexec_sound {KO : FuncId → List V → Option (Nat × TypeId × List V × Option (List V))} (hKO : KOok P KO) {K : FuncId → List V → Option V} {F : FuncId → Bool} (hK : ∀ f vs r, K f vs = some r → ACH H0 P f vs (fun x => x = r)) (hNG : ∀ (fid : FuncId) fn, P.funcs[fid]? = some fn → (fn.name == "runtime.NumGoroutine") = false) :
    ∀ (n : Nat) {H : Bs → Prop} (_ : Her H H0) {KS : FuncId → List V → List (Nat × Ob) → Nat → Option (List Out)} (_ : ∀ fid vs ins nx l, KS fid vs ins nx = some l → ACN H P fid vs ins nx l ∧ ∀ t ∈ l, Sub ins t.2.1) {XV : Op → AS → Option V} (_ : XVok P H XV)
      (m : Nat) (c : Code) (S : AS) (l : List (Exit × AS)), cexec P KO K F n KS XV m c S = some l → ∀ (w0 : Bs) (N0 : Nat → Prop) (Q : Exit → AS → Prop), H w0 → (∀ p ∈ l, Q p.1 p.2) → AW P w0 N0 c Q S
  | 0, _, _, _, _, _, _, m, c, S, l, h, _, _, _, _, _ => by cases h
  | n + 1, H, hHer, KS, hKS, XV, hXV, m, c, S, l, h, w0, N0, Q, hH, hQ => by
    have hnone : ∀ (fid : FuncId) (vs : List V) (ins : List (Nat × Ob)) (nx : Nat) (l : List Out), nKS fid vs ins nx = some l → ACN H0 P fid vs ins nx l ∧ ∀ t ∈ l, Sub ins t.2.1 := fun _ _ _ _ _ h => by cases h
    have ih := cexec_sound (F := F) hKO hK hNG n hHer hKS hXV
    have ih0 := cexec_sound (F := F) hKO hK hNG n hHer.low hnone nXV_ok
    have hc0 : ∀ fid vs ins nx l, cfun P F (cexec P KO K F n nKS (nXV P)) fid vs ins nx = some l → ACN H0 P fid vs ins nx l := fun fid vs ins nx l h => cfun_sound (P := P) (F := F) (ex := cexec P KO K F n nKS (nXV P)) (fun m c S l h => ih0 m c S l h) fid vs ins nx l h
    have hcall := ecall_sound hHer hKO hK (pureF_sound (F := F) hHer.low hK hc0) hKS (fun fid vs ins nx l h => And.intro (cfun_sound (P := P) (F := F) (ex := cexec P KO K F n KS XV) (fun m c S l h => ih m c S l h) fid vs ins nx l h) (cfun_sub (P := P) (F := F) (ex := cexec P KO K F n KS XV) (cexec_sub (KO := KO) (K := K) (F := F) (fun fid vs ins nx l h => (hKS fid vs ins nx l h).2) n) fid vs ins nx l h))
    have hcl : ∀ fid vs ins nx l, ecall KO K K nKS (cfun P F (cexec P KO K F n nKS (nXV P))) fid vs ins nx = some l → ACN H0 P fid vs ins nx l := (fun fid vs ins nx l h => (ecall_sound hHer.low hKO hK hK hnone (fun fid vs ins nx l h => And.intro (cfun_sound (P := P) (F := F) (ex := cexec P KO K F n nKS (nXV P)) (fun m c S l h => ih0 m c S l h) fid vs ins nx l h) (cfun_sub (P := P) (F := F) (ex := cexec P KO K F n nKS (nXV P)) (cexec_sub (KO := KO) (K := K) (F := F) (fun fid vs ins nx l h => by cases h) n) fid vs ins nx l h)) fid vs ins nx l h).1)
    have hpure := pureF_sound (F := F) hHer.low hK hcl
    have hKH : KOkH P H0 (KO, ecall KO K K nKS (cfun P F (cexec P KO K F n nKS (nXV P)))) := ⟨hKO, hcl, hHer.hand0⟩
    have hst := fun (ops : List Oper) (N0 : Nat → Prop) (Q : Exit → AS → Prop) => estep_sound (P := P) (w0 := w0) (N0 := N0) (Q := Q) (ops := ops) hHer hH hXV hNG hcall
    cases c with
    | skip => simp only [cexec, Option.some.injEq] at h; subst h; exact aw_skip (hQ (.normal, S) (by simp))
    | label k => simp only [cexec, Option.some.injEq] at h; subst h; exact aw_label (hQ (.normal, S) (by simp))
    | ret => simp only [cexec, Option.some.injEq] at h; subst h; exact aw_ret (hQ (.ret, S) (by simp))
    | exit id => simp only [cexec, Option.some.injEq] at h; subst h; exact aw_exit (hQ (.exit id, S) (by simp))
    | seq x y =>
      simp only [cexec] at h
      split at h
      case h_2 => cases h
      rename_i q hq
      exact aw_seq (ih m x S q hq w0 N0 _ hH (cthen_mem h (fun T r hr hp => ih m y T r hr w0 N0 Q hH hp) hQ))
    | cond c x y =>
      simp only [cexec] at h
      split at h
      · rename_i hc; exact aw_cond hc (fun _ => ih m x S l h w0 N0 Q hH hQ) (fun h => by cases h)
      · rename_i hc; exact aw_cond hc (fun h => by cases h) (fun _ => ih m y S l h w0 N0 Q hH hQ)
      · cases h
    | block id x =>
      simp only [cexec] at h
      obtain ⟨q, hq, rfl⟩ := Option.map_eq_some_iff.1 h
      refine aw_block (ih m x S q hq w0 N0 _ hH (fun p hp => ?_))
      have := hQ (cblock id p) (List.mem_map_of_mem hp)
      obtain ⟨e, T⟩ := p
      cases e with
      | exit id' =>
        simp only [cblock] at this
        simp only [einBlock]
        split
        · rename_i he; rw [if_pos he] at this; exact this
        · rename_i he; rw [if_neg he] at this; exact this
      | _ => exact this
    | loop x =>
      simp only [cexec] at h
      exact awin_loop (cloop_sound (fun S l Q h hp => ih m x S l h w0 N0 Q hH hp) h hQ)
    | scope x =>
      simp only [cexec] at h
      split at h
      case h_2 => cases h
      rename_i q hq
      split at h
      case isFalse => cases h
      rename_i hg
      injection h with h
      subst h
      exact aw_scope (ih m x S q hq w0 N0 _ hH (fun p hp => ⟨List.all_eq_true.1 hg p hp, hQ p hp⟩))
    | region id ops draw =>
      simp only [cexec] at h
      unfold creg at h
      obtain ⟨q, hq, rfl⟩ := Option.map_eq_some_iff.1 h
      have hQ' : ∀ T ∈ q, (fun e (T : AS) => ∃ R, T.le R ∧ Q e R) .normal T := fun T hT => by
        obtain ⟨R, hR, hle⟩ := jn_le _ _ (List.mem_map_of_mem (f := fun T : AS => T.cutF m fun T => T) hT)
        rw [cutF_eq] at hle
        exact ⟨R, AS.le_trans (le_cut T m) hle, hQ _ (List.mem_map_of_mem hR)⟩
      refine aw_leR ?_
      have harr : ops = ops.toList.toArray := by simp
      split at hq
      · rename_i hd
        subst hd
        split at hq
        case isFalse => cases hq
        rename_i hm
        rw [harr]
        split at hq
        · rename_i q' hq'
          injection hq with hq
          subst hq
          exact awk_drawX _ _ hm (cdrawP_sound (hHer.zero hH) hKH hpure hNG hq' hQ')
        split at hq
        · rename_i q' hq'
          injection hq with hq
          subst hq
          exact awk_drawX _ _ hm (cdrawP_sound (hHer.zero hH) hKH hpure hNG hq' hQ')
        · split at hq
          · exact aw_drawR hm (cany_sound (hst _ _ _) (by simp) hq hQ')
          · exact awk_drawX _ _ hm (cdrawP_sound (hHer.zero hH) hKH (pureK_sound hHer.low hK hcl) hNG hq hQ')
      · rename_i hd
        have hd : draw = false := by simpa using hd
        subst hd
        rw [harr]
        exact aw_region (cops_sound (hst _ _ _) (by simp) hq hQ')
    | _ => cases h
end
end Go.Eng
