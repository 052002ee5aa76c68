/- That the model computes the abstract value of an operation that leaves memory alone: struct literals, and all operations together. No condition. -/
import Derived.Test.YtepkalebaaidcaaEng5
namespace Go.Eng
open Go.RowKit

theorem take_set {α : Type} (x : α) : ∀ (l : List α) (i : Nat), i < l.length → (l.set i x).take (i + 1) = l.take i ++ [x]
  | [], i, h => by simp at h
  | y :: l, 0, _ => by simp
  | y :: l, i + 1, h => by
    simp only [List.set_cons_succ, List.take_succ_cons, List.cons_append]
    rw [take_set x l i (by simpa using h)]

theorem foldl_set {α : Type} (off : Nat) : ∀ (l : List α) (k : Nat) (cs : Array α), off + k + l.length ≤ cs.size →
    ((l.zipIdx k).foldl (fun cs p => cs.setIfInBounds (off + p.2) p.1) cs).toList = cs.toList.take (off + k) ++ l ++ cs.toList.drop (off + k + l.length)
  | [], k, cs, _ => by simp
  | x :: l, k, cs, h => by
    simp only [List.length_cons] at h
    simp only [List.zipIdx_cons, List.foldl_cons]
    rw [foldl_set off l (k + 1) (cs.setIfInBounds (off + k) x) (by simp; omega)]
    simp only [Array.toList_setIfInBounds, List.length_cons]
    rw [← Nat.add_assoc off k 1, take_set x cs.toList (off + k) (by simp; omega), List.drop_set_of_lt (by omega)]
    simp only [List.append_assoc, List.cons_append, List.nil_append]
    rw [show off + k + 1 + l.length = off + k + (l.length + 1) by omega]

section
variable {D : Nat → Prop} {w0 w : World} {N0 : Nat → Prop} {μ : Mu} {S : AS} {a : Act} {P : Program}

/-- Cells that stand for abstract cells, one by one. -/
def Row (w : World) (N : Nat → Prop) (μ : Mu) (xs : List Value) (cs : List V) : Prop := xs.length = cs.length ∧ ∀ (i : Nat) x c, xs[i]? = some x → cs[i]? = some c → Enc w N μ x c

theorem Row.append {N : Nat → Prop} {xs ys : List Value} {cs ds : List V} (h : Row w N μ xs cs) (k : Row w N μ ys ds) : Row w N μ (xs ++ ys) (cs ++ ds) := by
  refine ⟨by simp [h.1, k.1], fun i x c hx hc => ?_⟩
  by_cases hi : i < xs.length
  · rw [List.getElem?_append_left hi] at hx
    rw [List.getElem?_append_left (by rw [← h.1]; exact hi)] at hc
    exact h.2 i x c hx hc
  · rw [List.getElem?_append_right (by omega)] at hx
    rw [List.getElem?_append_right (by rw [← h.1]; omega), ← h.1] at hc
    exact k.2 _ x c hx hc
theorem Row.take {N : Nat → Prop} {xs : List Value} {cs : List V} (h : Row w N μ xs cs) (n : Nat) : Row w N μ (xs.take n) (cs.take n) := by
  refine ⟨by simp [h.1], fun i x c hx hc => ?_⟩
  have hi : i < n := by have := (List.getElem?_eq_some_iff.1 hx).1; simp at this; omega
  rw [List.getElem?_take_of_lt hi] at hx hc
  exact h.2 i x c hx hc
theorem Row.drop {N : Nat → Prop} {xs : List Value} {cs : List V} (h : Row w N μ xs cs) (n : Nat) : Row w N μ (xs.drop n) (cs.drop n) := by
  refine ⟨by simp [h.1], fun i x c hx hc => ?_⟩
  rw [List.getElem?_drop] at hx hc
  exact h.2 _ x c hx hc
theorem Enc.row {N : Nat → Prop} {x : Value} {v : V} (h : Enc w N μ x v) (hv : cellOk v = true) : Row w N μ x.cells.toList v.cells := by
  have hf : v.fits v.cells.length := ⟨rfl, fun c hc => by simpa using List.all_eq_true.1 hv c hc⟩
  obtain ⟨h1, h2⟩ := h.cells_at hf
  refine ⟨by simpa using h1, fun i y c hy hc => ?_⟩
  obtain ⟨z, hz, hez, _⟩ := h2 i c hc
  rw [Array.getElem?_toList, hz] at hy
  injection hy with hy
  subst hy
  exact hez

theorem fill_run {N : Nat → Prop} {place : Nat → Option (Nat × Nat)} {place' : Nat → Option (Nat × Nat)} (hpl : ∀ i r, place i = some r → place' i = some r) :
    ∀ (vs : List (Nat × V)) (ps : List (Nat × Value)) (zs : List V) (cells : Array Value) (r : List V), ps.length = vs.length →
    (∀ (j : Nat) p q, ps[j]? = some p → vs[j]? = some q → p.1 = q.1 ∧ Enc w N μ p.2 q.2) → (∀ p ∈ vs, cellOk p.2 = true) → (∀ c ∈ zs, c.isCell = true) → Row w N μ cells.toList zs → afill place zs vs = some r →
    ∃ out, Instr.fill place' cells ps = some out ∧ Row w N μ out.toList r ∧ (∀ c ∈ r, c.isCell = true)
  | [], [], zs, cells, r, _, _, _, hz, hr, h => by
    simp only [afill, Option.some.injEq] at h
    subst h
    exact ⟨cells, rfl, hr, hz⟩
  | [], _ :: _, _, _, _, h, _, _, _, _, _ => by simp at h
  | _ :: _, [], _, _, _, h, _, _, _, _, _ => by simp at h
  | (i, v) :: vs, (i', x) :: ps, zs, cells, r, hl, hp, hok, hz, hr, h => by
    obtain ⟨e, hx⟩ := hp 0 _ _ rfl rfl
    simp only at e hx
    subst e
    simp only [afill] at h
    split at h
    case h_1 => cases h
    rename_i off size hpi
    split at h
    case isFalse => cases h
    rename_i hsz
    obtain ⟨hsz, hle⟩ := hsz
    have hrow := hx.row (hok (i', v) (by simp))
    have hxs : x.cells.size = size := by have := hrow.1; simp at this; omega
    have hcs : cells.size = zs.length := by simpa using hr.1
    have hnew : Row w N μ (x.cells.zipIdx.foldl (fun cs p => cs.setIfInBounds (off + p.2) p.1) cells).toList (zs.take off ++ v.cells ++ zs.drop (off + size)) := by
      rw [← Array.foldl_toList, Array.toList_zipIdx, foldl_set off x.cells.toList 0 cells (by simp; omega)]
      simp only [Nat.add_zero, Array.length_toList, hxs]
      exact ((hr.take _).append hrow).append (hr.drop _)
    obtain ⟨out, h1, h2, h3⟩ := fill_run hpl vs ps _ _ r (by simpa using hl) (fun j p q h1 h2 => hp (j + 1) p q (by simpa using h1) (by simpa using h2)) (fun p hp => hok p (by simp [hp]))
      (fun c hc => by
        simp only [List.mem_append] at hc
        rcases hc with (hc | hc) | hc
        · exact hz c (List.mem_of_mem_take hc)
        · exact List.all_eq_true.1 (hok (i', v) (by simp)) c hc
        · exact hz c (List.mem_of_mem_drop hc)) hnew h
    refine ⟨out, ?_, h2, h3⟩
    simp only [Instr.fill, hpl _ _ hpi, hxs]
    rw [if_neg (by simp; omega)]
    exact h1

theorem mapM_places {fs : Array Field} (h : ∀ (i : Nat) f, fs[i]? = some f → ∃ n, tsz P f.type = some n) :
    (fs.mapM fun f => do pure (f.offset, ← sizeOf f.type) : Sem (Array (Nat × Nat))).run P w = .ok (fs.map fun f => (f.offset, (tsz P f.type).getD 0)) w := by
  rw [Array.mapM_eq_mapM_toList]
  have key : ∀ (l : List Field), (∀ f ∈ l, ∃ n, tsz P f.type = some n) → (l.mapM fun f => do pure (f.offset, ← sizeOf f.type) : Sem (List (Nat × Nat))).run P w = .ok (l.map fun f => (f.offset, (tsz P f.type).getD 0)) w := by
    intro l
    induction l with
    | nil => intro _; rfl
    | cons f l ih =>
      intro hl
      obtain ⟨n, hn⟩ := hl f (by simp)
      simp only [List.mapM_cons, Sem.run_bind, tsz_run hn, Result.andThen_ok, Sem.run_pure, ih (fun g hg => hl g (by simp [hg])), List.map_cons, hn, Option.getD_some]
  have hm : ∀ f ∈ fs.toList, ∃ n, tsz P f.type = some n := fun f hf => by
    obtain ⟨i, hi⟩ := List.getElem?_of_mem hf
    exact h i f (by simpa using hi)
  rw [Sem.run_map, key _ hm, Result.andThen_ok]
  congr 1
  apply Array.ext'
  simp

theorem tplace_spec {t i off n : Nat} (h : tplace P t i = some (off, n)) : ∃ fs fd, P.underlying t = some (.struct fs) ∧ fs[i]? = some fd ∧ fd.offset = off ∧ tsz P fd.type = some n := by
  unfold tplace at h
  obtain ⟨⟨o, n', g⟩, h1, h2⟩ := Option.map_eq_some_iff.1 h
  simp only [Prod.mk.injEq] at h2
  obtain ⟨rfl, rfl⟩ := h2
  obtain ⟨fs, fd, a1, a2, a3, a4, _⟩ := tfield_spec h1
  exact ⟨fs, fd, a1, a2, a3, a4⟩

theorem build_run {N : Nat → Prop} {t : TypeId} {z : List V} {vs : List (Nat × V)} {ps : List (Nat × Value)} {r : List V} (ht : tfields P t = true) (hz : tzero P t = some (.agg z)) (hl : ps.length = vs.length)
    (hp : ∀ (j : Nat) p q, ps[j]? = some p → vs[j]? = some q → p.1 = q.1 ∧ Enc w N μ p.2 q.2) (hok : ∀ p ∈ vs, cellOk p.2 = true) (hr : afill (tplace P t) z vs = some r) :
    ∃ x, (Instr.build t ps.toArray).run P w = .ok x w ∧ Enc w N μ x (.agg r) := by
  unfold tfields at ht
  split at ht
  case h_2 => cases ht
  rename_i fs hfs
  unfold tzero at hz
  obtain ⟨inf, hinf, hz⟩ := Option.bind_eq_some_iff.1 hz
  obtain ⟨zv, hzv, hz⟩ := Option.bind_eq_some_iff.1 hz
  have hpz := zeroOf_pur hz w N
  have hsz : ∀ (i : Nat) f, fs[i]? = some f → ∃ n, tsz P f.type = some n := fun i f hf => by
    have := Array.all_eq_true'.1 ht f (Array.mem_of_getElem? hf)
    exact Option.isSome_iff_exists.1 this
  have hpl : ∀ i q, tplace P t i = some q → (fs.map fun f => (f.offset, (tsz P f.type).getD 0))[i]? = some q := by
    rintro i ⟨off, n⟩ hq
    obtain ⟨fs', fd, h1, h2, h3, h4⟩ := tplace_spec hq
    rw [hfs] at h1
    injection h1 with h1
    injection h1 with h1
    subst h1
    simp [h2, h3, h4]
  cases hpz with
  | agg xs _ hlx hcx hhx =>
  obtain ⟨out, h1, h2, h3⟩ := fill_run (w := w) (N := N) (μ := μ) (place' := fun i => (fs.map fun f => (f.offset, (tsz P f.type).getD 0))[i]?) hpl vs ps z xs.toArray r hl hp hok hcx ⟨hlx, fun i x c h1 h2 => .pur (hhx i x c h1 h2)⟩ hr
  refine ⟨.agg out, ?_, ?_⟩
  · simp only [Instr.build, Sem.run_bind, zeroValue, typeInfo, run_program, hinf, Sem.run_pure, Result.andThen_ok, hzv, run_underlying hfs, mapM_places hsz, Value.cells, h1]
  · have : out = out.toList.toArray := by simp
    rw [this]
    exact .agg _ _ h2.1 h3 h2.2


theorem eval_map_parts (a : Act) (parts : Array (Nat × Operand)) : (parts.map fun (i, x) => (i, a.eval x)) = (parts.toList.map fun p => (p.1, a.eval p.2)).toArray := by
  apply Array.ext'
  simp

theorem aval_run (h : RelM D w0 N0 μ S a w) {c : Bool} (hc : c = true) {o : Oper} {v : V} (hv : aval P S c o.op = some v) :
    ∃ x, (execOp a.eval o).run P w = .ok (.value x) w ∧ Enc w (Own N0 μ S) μ x v := by
  unfold execOp
  cases hop : o.op <;> rw [hop] at hv <;> simp only [aval] at hv <;> (try (cases hv; done)) <;> dsimp only
  case move x => exact ⟨_, rfl, h.evc hv hc⟩
  case assign x => exact ⟨_, rfl, h.evc hv hc⟩
  case pick x y z =>
    split at hv
    case h_2 => cases hv
    rename_i g hg
    have hx := h.evc hg hc
    generalize a.eval x = xv at hx ⊢
    cases hx with
    | pur hx =>
    cases hx with
    | bool =>
    subst hc
    simp only [Sem.run_bind, asBool, Sem.run_pure, Result.andThen_ok]
    split at hv
    · rename_i p q hy hz
      injection hv with hv
      subst hv
      cases g
      · exact ⟨_, rfl, by simpa using h.evc hz rfl⟩
      · exact ⟨_, rfl, by simpa using h.evc hy rfl⟩
    · rename_i u v' hnb hy hz
      split at hv
      · injection hv with hv; subst hv; exact ⟨_, rfl, by simpa using h.evc hy rfl⟩
      · injection hv with hv; subst hv; exact ⟨_, rfl, by simpa using h.evc hz rfl⟩
    · cases hv
  case load t x =>
    split at hv
    case h_2 => cases hv
    rename_i p hp
    split at hv
    case h_2 => cases hv
    rename_i e off n g h1 h2 h3
    obtain ⟨y, hy, hey⟩ := aval_load h (h.evc hp hc) h1 h2 h3 hv
    exact ⟨y, by simp [hy], hey⟩
  case nilCheck x =>
    split at hv
    · rename_i e he
      injection hv with hv; subst hv
      have hx := h.evc he hc
      generalize a.eval x = xv at hx ⊢
      refine ⟨xv, ?_, hx⟩
      cases hx with
      | pur hx =>
      cases hx with
      | rp => rfl
    · rename_i d v' sz k off he
      injection hv with hv; subst hv
      have hx := h.evc he hc
      generalize a.eval x = xv at hx ⊢
      refine ⟨xv, ?_, hx⟩
      cases hx with
      | pur hx => cases hx
      | bp => rfl
    · cases hv
  case binOp op t x y yt =>
    split at hv
    case h_2 => cases hv
    rename_i u v' h1 h2
    obtain ⟨z, hz, hez⟩ := abin_run hv (h.evc h1 hc) (h.evc h2 hc) x y
    exact ⟨z, by rw [Sem.run_bind, hz]; rfl, .pur hez⟩
  case unOp op t x =>
    split at hv
    case h_2 => cases hv
    rename_i u h1
    obtain ⟨z, hz, hez⟩ := aun_run (P := P) hv (h.evc h1 hc)
    exact ⟨z, by rw [Sem.run_bind, hz]; rfl, .pur hez⟩
  case convert src dst x =>
    split at hv
    case h_2 => cases hv
    rename_i k0 n k h1 h2
    split at hv
    case isFalse => cases hv
    rename_i hs
    injection hv with hv
    subst hv
    have hx := h.evc h1 hc
    generalize a.eval x = xv at hx ⊢
    cases hx with
    | pur hx =>
    cases hx with
    | int =>
    have hu := tint_underlying h2
    obtain ⟨de, hde⟩ := Option.isSome_iff_exists.1 hs
    exact ⟨.int k (k.wrap n), by simp [convert, run_underlying hde, run_underlying hu, Conv.intToInt], .pur (.int _ _)⟩
  case fieldAddr t x f =>
    split at hv
    · rename_i e off n g h1 h2
      obtain ⟨r, hr, rfl⟩ := Option.map_eq_some_iff.1 hv
      obtain ⟨y, hy, hey⟩ := aval_fieldAddr_rp h (h.evc h1 hc) h2 hr
      exact ⟨y, by rw [Sem.run_bind, hy]; rfl, hey⟩
    · rename_i d v' sz k o' off n g h1 h2
      injection hv with hv
      subst hv
      obtain ⟨y, hy, hey⟩ := aval_fieldAddr_bp h (h.evc h1 hc) h2
      exact ⟨y, by rw [Sem.run_bind, hy]; rfl, hey⟩
    · cases hv
  case field t x f =>
    split at hv
    case h_2 => cases hv
    rename_i e off n g h1 h2
    split at hv
    case h_2 => cases hv
    rename_i cs
    obtain ⟨fs, fd, a1, a2, rfl, a4, a5, a6⟩ := tfield_spec h2
    obtain ⟨xs, y, hxs, hy, hey⟩ := run_part (P := P) a4 a5 (h.evc h1 hc) hv
    refine ⟨y, ?_, hey⟩
    rw [hxs]
    simp only [Sem.run_bind, Instr.field, run_underlying a1, Result.andThen_ok, a2, asAgg, Sem.run_pure, hy]
  case indexAddr t x i =>
    split at hv
    case h_2 => cases hv
    rename_i p k n te h1 h2 h3
    split at hv
    case h_2 => cases hv
    rename_i z hz
    split at hv
    · rename_i sz es
      split at hv
      case isFalse => cases hv
      rename_i hb
      split at hv
      case h_2 => cases hv
      rename_i e he
      rw [nth_eq] at he
      injection hv with hv
      subst hv
      obtain ⟨y, hy, hey⟩ := aval_indexAddr_ro (P := P) (h.evc h1 hc) (h.evc h2 hc) h3 hz hb.1 hb.2.1 hb.2.2 he
      exact ⟨y, by rw [Sem.run_bind, hy]; rfl, hey⟩
    · rename_i d v' sz len
      split at hv
      case isFalse => cases hv
      rename_i hb
      injection hv with hv
      subst hv
      obtain ⟨y, hy, hey⟩ := aval_indexAddr_sl (P := P) (h.evc h1 hc) (h.evc h2 hc) h3 hz hb.1 hb.2.1 hb.2.2
      exact ⟨y, by rw [Sem.run_bind, hy]; rfl, hey⟩
    · rename_i d v' sz off len
      split at hv
      case isFalse => cases hv
      rename_i hb
      injection hv with hv
      subst hv
      obtain ⟨y, hy, hey⟩ := aval_indexAddr_ss (P := P) (h.evc h1 hc) (h.evc h2 hc) h3 hz hb.1 hb.2.1 hb.2.2
      exact ⟨y, by rw [Sem.run_bind, hy]; rfl, hey⟩
    · cases hv
  case index t x i =>
    split at hv
    case h_2 => cases hv
    rename_i l k n h1 h2
    split at hv
    case isFalse => cases hv
    rename_i hb
    split at hv
    case h_2 => cases hv
    rename_i b hl
    rw [nth_eq] at hl
    injection hv with hv
    subst hv
    have hx := h.evc h1 hc
    have hi := h.evc h2 hc
    generalize a.eval x = xv at hx ⊢
    generalize a.eval i = iv at hi ⊢
    cases hx with
    | pur hx =>
    cases hx with
    | str =>
    cases hi with
    | pur hi =>
    cases hi with
    | int =>
    have hu := tstr_underlying hb.1
    have hlt : n.toNat < l.length := (List.getElem?_eq_some_iff.1 hl).1
    have hs : (ByteArray.mk l.toArray)[n.toNat]? = some b := by
      have := ByteArray.getElem?_lt' (ByteArray.mk l.toArray) n.toNat (by simpa [ByteArray.size] using hlt)
      rw [this]
      have h2 := (List.getElem?_eq_some_iff.1 hl).2
      simp only [Option.some.injEq]
      rw [← h2]
      rfl
    exact ⟨.int .u8 b.toNat, by simp [Instr.index, asIntOf, run_underlying hu, hb.2, hs], .pur (.int _ _)⟩
  case extract x i =>
    split at hv
    case h_2 => cases hv
    rename_i vs h1
    rw [nth_eq] at hv
    have hx := h.evc h1 hc
    generalize a.eval x = xv at hx ⊢
    cases hx with
    | pur hx =>
      cases hx with
      | tup xs _ hl hh =>
      have hlt : i < xs.length := by rw [hl]; exact (List.getElem?_eq_some_iff.1 hv).1
      exact ⟨xs[i], by simp [Instr.extract, hlt], .pur (hh i _ v (List.getElem?_eq_getElem hlt) hv)⟩
    | tup xs _ hl hh =>
      have hlt : i < xs.length := by rw [hl]; exact (List.getElem?_eq_some_iff.1 hv).1
      exact ⟨xs[i], by simp [Instr.extract, hlt], hh i _ v (List.getElem?_eq_getElem hlt) hv⟩
  case slice t x lo hi mx =>
    cases mx with
    | some m => simp only at hv; cases hv
    | none =>
    simp only at hv
    split at hv
    case h_2 => cases hv
    rename_i p lv hv' h1 h2 h3
    obtain ⟨b1, b2⟩ := h.evo h2 hc
    obtain ⟨b3, b4⟩ := h.evo h3 hc
    have hx := h.evc h1 hc
    simp only [Option.map_none]
    split at hv
    · split at hv
      case isFalse => cases hv
      rename_i ht
      split at hv
      case h_2 => cases hv
      rename_i p q hb
      injection hv with hv
      subst hv
      obtain ⟨y, hy, hey⟩ := aval_slice_str (P := P) hx ht hb b1 b2 b3 b4
      exact ⟨y, by rw [Sem.run_bind, hy]; rfl, hey⟩
    · split at hv
      case h_2 => cases hv
      rename_i te hte
      split at hv
      case h_2 => cases hv
      rename_i z p q hz hb
      split at hv
      case isFalse => cases hv
      rename_i hs
      injection hv with hv
      subst hv
      obtain ⟨y, hy, hey⟩ := aval_slice_ro (P := P) hx hte hz hs hb b1 b2 b3 b4
      exact ⟨y, by rw [Sem.run_bind, hy]; rfl, hey⟩
    · split at hv
      case h_2 => cases hv
      rename_i te hte
      split at hv
      case h_2 => cases hv
      rename_i z p q hz hb
      split at hv
      case isFalse => cases hv
      rename_i hs
      injection hv with hv
      subst hv
      obtain ⟨y, hy, hey⟩ := aval_slice_sl (P := P) hx hte hz hs hb b1 b2 b3 b4
      exact ⟨y, by rw [Sem.run_bind, hy]; rfl, hey⟩
    · split at hv
      case h_2 => cases hv
      rename_i te hte
      split at hv
      case h_2 => cases hv
      rename_i z p q hz hb
      split at hv
      case isFalse => cases hv
      rename_i hs
      injection hv with hv
      subst hv
      obtain ⟨y, hy, hey⟩ := aval_slice_ss (P := P) hx hte hz hs hb b1 b2 b3 b4
      exact ⟨y, by rw [Sem.run_bind, hy]; rfl, hey⟩
    · cases hv
  case build t parts =>
    split at hv
    case h_2 => cases hv
    rename_i z vs h1 h2
    split at hv
    case isFalse => cases hv
    rename_i hok
    obtain ⟨r, hr, rfl⟩ := Option.map_eq_some_iff.1 hv
    obtain ⟨h3, h4⟩ := h.evs hc h2
    obtain ⟨y, hy, hey⟩ := build_run (P := P) (w := w) (μ := μ) (N := Own N0 μ S) (ps := parts.toList.map fun p => (p.1, a.eval p.2)) hok.2 h1 (by simp [h3]) (fun j p q hp hq => by
      simp only [List.getElem?_map, Option.map_eq_some_iff] at hp
      obtain ⟨p', hp', rfl⟩ := hp
      exact h4 j p' q hp' hq) (fun p hp => List.all_eq_true.1 hok.1 p hp) hr
    exact ⟨y, by simp only [Sem.run_bind, eval_map_parts, hy, Result.andThen_ok, Sem.run_pure], hey⟩
  case lookup t x i ok =>
    split at hv
    case h_2 => cases hv
    rename_i b k m k' n q e h1 h2 h3
    split at hv
    case h_2 => cases hv
    rename_i z hz
    split at hv
    case isFalse => cases hv
    rename_i hk
    obtain ⟨rfl, rfl⟩ := hk
    injection hv with hv
    subst hv
    have hz' := hz
    unfold tzero at hz
    obtain ⟨inf, hi, hz⟩ := Option.bind_eq_some_iff.1 hz
    obtain ⟨zv, hzv, hz⟩ := Option.bind_eq_some_iff.1 hz
    have hrz : (zeroValue e).run P w = .ok zv w := by simp [zeroValue, typeInfo, hi, hzv]
    obtain ⟨r, hr, hre⟩ := lookup_run (ok := ok) (h.evc h1 hc) (h.evc h2 hc) h3 hrz (zeroOf_pur hz w _)
    exact ⟨r, by simp only [Sem.run_bind, hr, Result.andThen_ok, Sem.run_pure], hre⟩
  case call cl =>
    obtain ⟨callee, args, argTypes⟩ := cl
    cases callee with
    | value f => cases hv
    | invoke r m => cases hv
    | builtin b =>
    cases b <;> simp only at hv <;> try (cases hv; done)
    case min =>
      split at hv
      case h_2 => cases hv
      rename_i x y ha
      have ha' : args = #[x, y] := by apply Array.ext'; simpa using ha
      subst ha'
      split at hv
      case h_2 => cases hv
      rename_i k p k' q h1 h2
      split at hv
      case isFalse => cases hv
      rename_i hk
      subst hk
      injection hv with hv
      subst hv
      have hx := h.evc h1 hc
      have hy := h.evc h2 hc
      simp only [Sem.run_bind, resolve, Sem.run_pure, Result.andThen_ok, invoke, builtin, List.map_toArray, List.map_cons, List.map_nil]
      generalize a.eval x = xv at hx ⊢
      generalize a.eval y = yv at hy ⊢
      cases hx with
      | pur hx =>
      cases hx with
      | int =>
      cases hy with
      | pur hy =>
      cases hy with
      | int =>
      exact ⟨_, by rw [run_min_int2]; rfl, .pur (.int _ _)⟩
    split at hv
    case h_2 => cases hv
    rename_i x t ha ht
    have ha' : args = #[x] := by apply Array.ext'; simpa using ha
    have ht' : argTypes = #[t] := by apply Array.ext'; simpa using ht
    subst ha'
    subst ht'
    simp only [Sem.run_bind, resolve, Sem.run_pure, Result.andThen_ok, invoke, builtin, List.map_toArray, List.map_cons, List.map_nil]
    split at hv
    · rename_i l h1
      split at hv
      case isFalse => cases hv
      rename_i hs
      injection hv with hv
      subst hv
      have hx := h.evc h1 hc
      generalize a.eval x = xv at hx ⊢
      cases hx with
      | pur hx =>
      cases hx with
      | str =>
      have hsz : (ByteArray.mk l.toArray).size = l.length := by simp [ByteArray.size]
      exact ⟨.int .i64 l.length, by simp [Builtin.len_, run_underlying (tstr_underlying hs), goInt, hsz], .pur (.int _ _)⟩
    · rename_i sz es h1
      split at hv
      case isFalse => cases hv
      rename_i hs
      injection hv with hv
      subst hv
      obtain ⟨te, hte⟩ := Option.isSome_iff_exists.1 hs
      have hx := h.evc h1 hc
      generalize a.eval x = xv at hx ⊢
      cases hx with
      | pur hx =>
      cases hx with
      | ro A ad n cap _ _ g hn =>
      exact ⟨.int .i64 es.length, by simp [Builtin.len_, run_underlying (telem_underlying hte), goInt, hn], .pur (.int _ _)⟩
    · rename_i h1
      split at hv
      case isFalse => cases hv
      rename_i hs
      injection hv with hv
      subst hv
      obtain ⟨te, hte⟩ := Option.isSome_iff_exists.1 hs
      have hx := h.evc h1 hc
      generalize a.eval x = xv at hx ⊢
      cases hx with
      | pur hx =>
      cases hx with
      | nils A =>
      exact ⟨.int .i64 0, by simp [Builtin.len_, run_underlying (telem_underlying hte), goInt], .pur (.int _ _)⟩
    · rename_i d v' sz n h1
      split at hv
      case isFalse => cases hv
      rename_i hs
      injection hv with hv
      subst hv
      obtain ⟨te, hte⟩ := Option.isSome_iff_exists.1 hs
      have hx := h.evc h1 hc
      generalize a.eval x = xv at hx ⊢
      cases hx with
      | pur hx => cases hx
      | slr => exact ⟨.int .i64 n, by simp [Builtin.len_, run_underlying (telem_underlying hte), goInt], .pur (.int _ _)⟩
      | slv => exact ⟨.int .i64 0, by simp [Builtin.len_, run_underlying (telem_underlying hte), goInt], .pur (.int _ _)⟩
    · rename_i d v' sz off n h1
      split at hv
      case isFalse => cases hv
      rename_i hs
      injection hv with hv
      subst hv
      obtain ⟨te, hte⟩ := Option.isSome_iff_exists.1 hs
      have hx := h.evc h1 hc
      generalize a.eval x = xv at hx ⊢
      cases hx with
      | pur hx => cases hx
      | ss => exact ⟨.int .i64 n, by simp [Builtin.len_, run_underlying (telem_underlying hte), goInt], .pur (.int _ _)⟩
    · cases hv

end
end Go.Eng
