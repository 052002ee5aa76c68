import Derived.Test.YtnklkkagpkcmfaaGreatDoorE1
import Derived.Laws.CopyOwn
import Derived.Orders
import Derived.Still
import Derived.WalkKit
import Derived.ProofKit
import Derived.OpenShut
import Derived.ShutString
import Derived.ChangeOld
import Derived.Carry
set_option linter.all false
namespace Go.Eng
open Go.RowKit

theorem bs_setRow {B : Bs} {w : World} (h : B.Below w) {g : Nat} (hg : B.free g) (arr : Array Value) : B.Below (w.setRow g arr) :=
  ⟨h.os, h.tape, h.output, by simpa using h.size, fun k hk hx => by
    rw [setRow_other w g k _ (fun e => by subst e; rcases hg with h | h; omega; exact hx h)]
    exact h.block k hk hx⟩
section
variable {D : Nat → Prop} {w0 : Bs} {w : World} {N0 : Nat → Prop} {μ : Mu} {S : AS} {a : Act} {P : Program}

theorem tok_spec {t n : Nat} (h : tok P t = some n) : ∃ z, tzero P t = some z ∧ tsz P t = some n ∧ z.cells.length = n ∧ cellOk z = true ∧ 0 < n := by
  unfold tok at h
  split at h
  case h_2 => cases h
  rename_i z m h1 h2
  split at h
  case isFalse => cases h
  rename_i hb
  injection h with h
  subst h
  exact ⟨z, h1, h2, hb.1, hb.2.1, hb.2.2⟩

theorem eff_store (h : RelM D w0 N0 μ S a w) {t d v k off n : Nat} {x y : Value} {u e : V} {o : Ob} (hx : Enc w (Own N0 μ S) μ x (.bp d v o.sz k off)) (hy : Enc w (Own N0 μ S) μ y u) (hn : tsz P t = some n) (ho : get S.objs d = some o)
    (hov : o.v = v) (hu : u.cells.length = n) (huk : cellOk u = true) (hpos : 0 < n) (hk : o.es[k]? = some e) (hle : off + n ≤ e.cells.length) :
    ∃ w', (Instr.storeAt t x y).run P w = .ok () w' ∧ RelM D w0 N0 μ { S with objs := (d, { o with es := o.es.set k (e.setPart off u) }) :: S.objs } a w' := by
  subst hov
  subst hu
  cases hx with
  | pur hx => cases hx
  | bp _ _ _ _ _ g cap hm =>
  obtain ⟨l, hl', hob⟩ := h.objs d o ho
  rw [hm] at hl'
  injection hl' with hl'
  subst hl'
  obtain ⟨o1, o2, o3, o4, arr, o5, o6, o7⟩ := hob
  have hfe := o4 e (List.mem_of_getElem? hk)
  have hrowy := hy.row huk
  have hys : y.cells.toList.length = u.cells.length := hrowy.1
  have hsc := setPart_cells (u := u) hle hpos
  have hfe' : (e.setPart off u).fits o.sz := by
    refine ⟨by rw [hsc]; simp; have := hfe.1; omega, fun c hc => ?_⟩
    rw [hsc] at hc
    simp only [List.mem_append] at hc
    rcases hc with (hc | hc) | hc
    · exact hfe.2 c (List.mem_of_mem_take hc)
    · exact List.all_eq_true.1 huk c hc
    · exact hfe.2 c (List.mem_of_mem_drop hc)
  have hkl : k < o.es.length := (List.getElem?_eq_some_iff.1 hk).1
  have hbound : k * o.sz + off + u.cells.length ≤ o.es.length * o.sz := by
    have h1 : (k + 1) * o.sz ≤ o.es.length * o.sz := Nat.mul_le_mul_right _ hkl
    have h2 := hfe.1
    rw [Nat.add_mul] at h1
    omega
  have hcapb : o.es.length * o.sz ≤ arr.size := by rw [o6]; exact Nat.mul_le_mul_right _ o2
  have hone : ∀ v ∈ y.cells.toList, v.oneCell' = true := by
    intro v hv
    obtain ⟨j, hj⟩ := List.getElem?_of_mem hv
    have hjl : j < u.cells.length := by rw [← hys]; exact (List.getElem?_eq_some_iff.1 hj).1
    have hc := List.getElem?_eq_getElem hjl
    exact (hrowy.2 j v _ hj hc).cell_oneCell (List.all_eq_true.1 huk _ (List.getElem_mem hjl))
  have hst := run_storeCells_at (P := P) g (k * o.sz + off) o.ty y.cells.toList 0 arr w o5 (by rw [hys]; omega) hone
  simp only [Nat.add_zero, hys] at hst
  refine ⟨w.setRow g (arr.toList.take (k * o.sz + off) ++ y.cells.toList ++ arr.toList.drop (k * o.sz + off + u.cells.length)).toArray, ?_, ?_⟩
  · have hcs : y.cells.size = u.cells.length := by simpa using hys
    simp only [Instr.storeAt, Instr.sureAddr, Sem.run_bind, Sem.run_pure, Result.andThen_ok, storeVar, tsz_run hn, hcs, ne_eq, not_true_eq_false, if_false, hst]
  · have hkeep : Keeps w (Own N0 μ S) (w.setRow g (arr.toList.take (k * o.sz + off) ++ y.cells.toList ++ arr.toList.drop (k * o.sz + off + u.cells.length)).toArray) :=
      ⟨by simp, fun b hb hN => setRow_other w g b _ (fun e => hN (by subst e; exact .inr ⟨d, o, cap, ho, hm⟩))⟩
    refine (h.update (D' := D) (d := d) (o' := { o with es := o.es.set k (e.setPart off u) }) (l' := some (g, cap)) (μ' := μ) (fun _ _ _ hh => hh) h.fresh hm (bs_setRow h.below o1 _) hkeep
      (fun d1 o1' g1 c1 hne1 h1 h2 => setRow_other w g g1 _ (fun e => hne1 (by subst e; exact h.inj _ _ _ _ _ _ _ h1 ho h2 hm)))
      (fun g2 c2 e => by
        simp only [Option.some.injEq, Prod.mk.injEq] at e
        obtain ⟨rfl, rfl⟩ := e
        exact .inr ⟨o, cap, ho, hm⟩) (fun N' hN => ?_)).1
    have hfit : ∀ e1 ∈ o.es.set k (e.setPart off u), e1.fits o.sz := fun e1 he1 => by
      rcases List.mem_or_eq_of_mem_set he1 with h1 | h1
      · exact o4 e1 h1
      · subst h1; exact hfe'
    refine ⟨o1, by simpa using o2, o3, hfit, _, setRow_heap w g arr _ o.ty (0, 0) o5, ?_, ?_⟩
    · simp only [List.size_toArray, List.length_append, List.length_take, List.length_drop, Array.length_toList, hys]
      rw [← o6]
      omega
    · refine row_cells hfit ?_
      have hxs := cells_row (w := w) (N := Own N0 μ S) (μ := μ) o4 hcapb o7
      have hxs' : Row (w.setRow g (arr.toList.take (k * o.sz + off) ++ y.cells.toList ++ arr.toList.drop (k * o.sz + off + u.cells.length)).toArray) N' μ (arr.toList.take (o.es.length * o.sz)) (flat o.es) := ⟨hxs.1, fun j x c h1 h2 => (hxs.2 j x c h1 h2).keep hkeep hN (fun _ _ _ hh => hh)⟩
      have hry' : Row (w.setRow g (arr.toList.take (k * o.sz + off) ++ y.cells.toList ++ arr.toList.drop (k * o.sz + off + u.cells.length)).toArray) N' μ y.cells.toList u.cells := ⟨hrowy.1, fun j x c h1 h2 => (hrowy.2 j x c h1 h2).keep hkeep hN (fun _ _ _ hh => hh)⟩
      rw [flat_set o4 hk hle hsc]
      simp only [List.length_set]
      have e1 : (arr.toList.take (k * o.sz + off) ++ y.cells.toList ++ arr.toList.drop (k * o.sz + off + u.cells.length)).toArray.toList.take (o.es.length * o.sz) =
          (arr.toList.take (o.es.length * o.sz)).take (k * o.sz + off) ++ y.cells.toList ++ (arr.toList.take (o.es.length * o.sz)).drop (k * o.sz + off + u.cells.length) := by
        rw [List.take_take, Nat.min_eq_left (by omega), List.drop_take]
        simp only [List.append_assoc]
        rw [List.take_append, List.take_append]
        have hA : (arr.toList.take (k * o.sz + off)).length = k * o.sz + off := by simp; omega
        rw [hA, hys, List.take_of_length_le (by rw [hA]; omega), List.take_of_length_le (l := y.cells.toList) (by rw [hys]; omega)]
        congr 3
        omega
      rw [e1]
      exact ((hxs'.take _).append hry').append (hxs'.drop _)

theorem asets_fits {sz : Nat} : ∀ {vs : List (Nat × V)} {es r : List V}, (∀ e ∈ es, e.fits sz) → asets sz es vs = some r → (∀ e ∈ r, e.fits sz) ∧ r.length = es.length
  | [], es, r, h, hr => by simp only [asets, Option.some.injEq] at hr; subst hr; exact ⟨h, rfl⟩
  | (i, v) :: vs, es, r, h, hr => by
    simp only [asets] at hr
    split at hr
    case isFalse => cases hr
    rename_i hb
    obtain ⟨h1, h2⟩ := asets_fits (es := es.set i v) (fun e he => by
      rcases List.mem_or_eq_of_mem_set he with h1 | h1
      · exact h e h1
      · subst h1; rw [← hb.1]; exact cellOk_fits hb.2.2) hr
    exact ⟨h1, by simpa using h2⟩

/-- Elements put into a row of zeros. -/
theorem fills_run {N : Nat → Prop} {sz : Nat} (hsz : 0 < sz) : ∀ (vs : List (Nat × V)) (ps : List (Nat × Value)) (es : List V) (cells : Array Value) (r : List V), ps.length = vs.length →
    (∀ (j : Nat) p q, ps[j]? = some p → vs[j]? = some q → p.1 = q.1 ∧ Enc w N μ p.2 q.2) → (∀ e ∈ es, e.fits sz) → Row w N μ cells.toList (flat es) → asets sz es vs = some r →
    ∃ out, Instr.fill (fun i => some (i * sz, sz)) cells ps = some out ∧ Row w N μ out.toList (flat r)
  | [], [], es, cells, r, _, _, _, hr, h => by
    simp only [asets, Option.some.injEq] at h
    subst h
    exact ⟨cells, rfl, hr⟩
  | [], _ :: _, _, _, _, h, _, _, _, _ => by simp at h
  | _ :: _, [], _, _, _, h, _, _, _, _ => by simp at h
  | (i, v) :: vs, (i', x) :: ps, es, cells, r, hl, hp, hf, hr, h => by
    obtain ⟨e, hx⟩ := hp 0 _ _ rfl rfl
    simp only at e hx
    subst e
    simp only [asets] at h
    split at h
    case isFalse => cases h
    rename_i hb
    obtain ⟨hv1, hv2, hv3⟩ := hb
    have hrow := hx.row hv3
    have hxs : x.cells.size = sz := by have := hrow.1; simp at this; omega
    have hcs : cells.size = es.length * sz := by have := hr.1; rw [flat_length hf] at this; simpa using this
    have hk := List.getElem?_eq_getElem hv2
    have hfe := hf _ (List.getElem_mem hv2)
    have hfs := flat_set hf (k := i') (e := es[i']) (e' := v) (off := 0) (us := v.cells) hk (by have := hfe.1; omega) (by
      have := hfe.1
      rw [List.drop_of_length_le (by omega)]
      simp)
    have hm : (i' + 1) * sz ≤ es.length * sz := Nat.mul_le_mul_right _ hv2
    rw [Nat.add_mul, Nat.one_mul] at hm
    have hnew : Row w N μ (x.cells.zipIdx.foldl (fun cs p => cs.setIfInBounds (i' * sz + p.2) p.1) cells).toList (flat (es.set i' v)) := by
      rw [← Array.foldl_toList, Array.toList_zipIdx, foldl_set (i' * sz) x.cells.toList 0 cells (by simp; omega), hfs]
      simp only [Nat.add_zero, Array.length_toList, hxs, hv1]
      exact ((hr.take _).append hrow).append (hr.drop _)
    obtain ⟨out, h1, h2⟩ := fills_run hsz vs ps (es.set i' v) _ r (by simpa using hl) (fun j p q h1 h2 => hp (j + 1) p q (by simpa using h1) (by simpa using h2)) (fun e he => by
      rcases List.mem_or_eq_of_mem_set he with h1 | h1
      · exact hf e h1
      · subst h1; rw [← hv1]; exact cellOk_fits hv3) hnew h
    refine ⟨out, ?_, h2⟩
    simp only [Instr.fill, hxs]
    rw [if_neg (by simp; omega)]
    exact h1

theorem flat_replicate (z : V) (n : Nat) : flat (List.replicate n z) = (List.replicate n z.cells).flatten := by
  simp [flat, List.flatMap, List.map_replicate]

theorem zeros_row {N : Nat → Prop} {zc : Array Value} {z : V} {sz n : Nat} (hz : Row w N μ zc.toList z.cells) (hs : z.cells.length = sz) (hpos : 0 < sz) (hf : z.fits sz) :
    Row w N μ ((Array.range (n * sz)).map (zc[· % zc.size]!)).toList (flat (List.replicate n z)) := by
  have hfit : ∀ e ∈ List.replicate n z, e.fits sz := fun e he => by rw [List.eq_of_mem_replicate he]; exact hf
  have hzs : zc.size = sz := by have := hz.1; simp at this; omega
  refine ⟨by rw [flat_length hfit]; simp, fun i x c hx hc => ?_⟩
  have hi : i < n * sz := by have := (List.getElem?_eq_some_iff.1 hx).1; simpa using this
  have hk : i / sz < n := Nat.div_lt_of_lt_mul (by rw [Nat.mul_comm]; exact hi)
  have hmod : i % sz < sz := Nat.mod_lt _ hpos
  have hj : i % sz < z.cells.length := by omega
  have e1 : i / sz * sz + i % sz = i := by rw [Nat.mul_comm]; exact Nat.div_add_mod i sz
  have hfl := flat_get hfit (k := i / sz) (e := z) (by simp [hk]) (List.getElem?_eq_getElem hj)
  rw [e1, hc] at hfl
  injection hfl with hfl
  subst hfl
  have hzx : zc.toList[i % sz]? = some (zc[i % sz]'(by omega)) := by simp [hzs, hmod]
  have := hz.2 _ _ _ hzx (List.getElem?_eq_getElem hj)
  have hxx : x = zc[i % sz]'(by omega) := by
    simp only [Array.toList_map, Array.toList_range, List.getElem?_map, List.getElem?_range hi, Option.map_some, Option.some.injEq, hzs] at hx
    rw [← hx]
    simp [hzs, hmod]
  rw [hxx]
  exact this


theorem aeff_run (h : RelM D w0 N0 μ S a w) {i kd : Nat} (hi : ¬ D i) {o : Oper} {S' : AS} (hv : aeff P i S o.dst kd o.op = some S') :
    ∃ x w', Does P o a w x w' ∧ RelD (fun j => D j ∨ j = i) w0 N0 S' (a.put o.dst x) w' := by
  unfold aeff at hv
  split at hv
  case h_2 => cases hv
  rename_i O val hc0
  unfold Does execOp
  cases hop : o.op <;> rw [hop] at hc0 <;> simp only [acore] at hc0 <;> (try (cases hc0; done)) <;> dsimp only
  case alloc t =>
    split at hc0
    case h_2 => cases hc0
    rename_i d z n hd hz hk
    simp only [Option.some.injEq, Prod.mk.injEq] at hc0
    obtain ⟨rfl, rfl⟩ := hc0
    obtain ⟨z', hz', h2, h3, h4, h5⟩ := tok_spec hk
    rw [hz] at hz'
    injection hz' with hz'
    subst hz'
    subst h3
    obtain ⟨zv, hrun, hpz⟩ := tzero_run hz w (Own N0 μ S)
    rw [hd] at hv ⊢
    obtain ⟨μ', hr⟩ := eff_newVar h hi (t := t) (.pur hpz) h4 hv
    refine ⟨_, _, .inl ?_, ⟨μ', hr⟩⟩
    simp only [Sem.run_bind, Instr.alloc, hrun, Result.andThen_ok, newVar, newRow, run_newObj, World.alloc_eq, Sem.run_pure]
  case box t x =>
    split at hc0
    case h_2 => cases hc0
    rename_i d z hd hz
    split at hc0
    case isFalse => cases hc0
    rename_i hok
    simp only [Option.some.injEq, Prod.mk.injEq] at hc0
    obtain ⟨rfl, rfl⟩ := hc0
    rw [hd] at hv ⊢
    obtain ⟨μ', hr⟩ := eff_newVar h hi (t := t) (h.evc hz rfl) hok hv
    refine ⟨_, _, .inl ?_, ⟨μ', hr⟩⟩
    simp only [Sem.run_bind, Instr.box, newVar, newRow, run_newObj, World.alloc_eq, Result.andThen_ok, Sem.run_pure]
  case buildSlice t len parts =>
    split at hc0
    case h_2 => cases hc0
    rename_i d te vs hd hte hvs
    split at hc0
    case h_2 => cases hc0
    rename_i z n hz hk
    split at hc0
    case isFalse => cases hc0
    rename_i hle
    split at hc0
    case h_2 => cases hc0
    rename_i es hes
    simp only [Option.some.injEq, Prod.mk.injEq] at hc0
    obtain ⟨rfl, rfl⟩ := hc0
    obtain ⟨z', hz', h2, h3, h4, h5⟩ := tok_spec hk
    rw [hz] at hz'
    injection hz' with hz'
    subst hz'
    have hu := telem_underlying hte
    obtain ⟨zv, hrun, hpz⟩ := tzero_run hz w (Own N0 μ S)
    obtain ⟨e1, e2⟩ := h.evs rfl hvs
    have hfz : z.fits n := by rw [← h3]; exact cellOk_fits h4
    have hfr : ∀ e ∈ List.replicate len z, e.fits n := fun e he => by rw [List.eq_of_mem_replicate he]; exact hfz
    have hzrow : Row w (Own N0 μ S) μ zv.cells.toList z.cells := (Enc.pur (μ := μ) hpz).row h4
    have hzr := zeros_row (n := len) hzrow h3 h5 hfz
    obtain ⟨out, f1, f2⟩ := fills_run (w := w) (μ := μ) (N := Own N0 μ S) h5 vs (parts.toList.map fun p => (p.1, a.eval p.2)) (List.replicate len z) _ es (by simp [e1]) (fun j p q hp hq => by
      simp only [List.getElem?_map, Option.map_eq_some_iff] at hp
      obtain ⟨p', hp', rfl⟩ := hp
      exact e2 j p' q hp' hq) hfr hzr hes
    obtain ⟨g1, g2⟩ := asets_fits hfr hes
    have hlen : es.length = len := by simpa using g2
    have hos : out.size = len * n := by have := f2.1; rw [flat_length g1, hlen] at this; simpa using this
    have hmax : len ≤ maxLen := by
      have : len ≤ len * n := Nat.le_mul_of_pos_right _ h5
      simp only [maxLen]; omega
    rw [hd] at hv ⊢
    have hr := h.alloc hi kd out te n len es hos (by omega) hmax g1 (row_cells g1 (by rw [hlen, List.take_of_length_le (by simp [hos])]; exact f2))
    refine ⟨_, _, .inl ?_, ⟨_, hr.putv hv (.slr kd (S.nx + i) n len w.heap.size len (muSet_same _ _ _ _) (Nat.le_refl _) hmax)⟩⟩
    have hnot : ¬ (len * n > 2 ^ 24) := by omega
    by_cases h0 : len * n = 0
    · have hf1 : Instr.fill (fun i => some (i * n, n)) ((Array.range (len * n)).map fun x => (#[] : Array Value)[x % (#[] : Array Value).size]!) (parts.toList.map fun p => (p.1, a.eval p.2)) = some out := by
        rw [← f1, h0, Array.range_zero', Array.map_empty, Array.map_empty]
      simp only [Sem.run_bind, Instr.buildSlice, run_underlying hu, Result.andThen_ok, tsz_run h2, if_neg hnot, if_pos h0, Sem.run_pure, eval_map_parts, hf1, newRow, run_newObj, World.alloc_eq]
    · simp only [Sem.run_bind, Instr.buildSlice, run_underlying hu, Result.andThen_ok, tsz_run h2, if_neg hnot, if_neg h0, hrun, Sem.run_pure, eval_map_parts, f1, newRow, run_newObj, World.alloc_eq]
  case makeSlice t l c =>
    split at hc0
    case h_2 => cases hc0
    rename_i d te k1 lv k2 cv hd hte hl hc
    split at hc0
    case h_2 => cases hc0
    rename_i z n b hz hk hb
    split at hc0
    case isFalse => cases hc0
    rename_i hcond
    simp only [Option.some.injEq, Prod.mk.injEq] at hc0
    obtain ⟨rfl, rfl⟩ := hc0
    obtain ⟨c1, c2, c3, c4⟩ := hcond
    obtain ⟨z', hz', h2, h3, h4, h5⟩ := tok_spec hk
    rw [hz] at hz'
    injection hz' with hz'
    subst hz'
    have hu := telem_underlying hte
    obtain ⟨zv, hrun, hpz⟩ := tzero_run hz w (Own N0 μ S)
    have hfz : z.fits n := by rw [← h3]; exact cellOk_fits h4
    have hzrow : Row w (Own N0 μ S) μ zv.cells.toList z.cells := (Enc.pur (μ := μ) hpz).row h4
    have hzr := zeros_row (n := cv.toNat) hzrow h3 h5 hfz
    have hfr : ∀ m, ∀ e ∈ List.replicate m z, e.fits n := fun m e he => by rw [List.eq_of_mem_replicate he]; exact hfz
    have hlv := h.evc hl rfl
    have hcv := h.evc hc rfl
    generalize a.eval l = lx at hlv ⊢
    generalize a.eval c = cx at hcv ⊢
    cases hlv with
    | pur hlv =>
    cases hlv with
    | int =>
    cases hcv with
    | pur hcv =>
    cases hcv with
    | int =>
    unfold tbytes at hb
    obtain ⟨inf, hinf, rfl⟩ := Option.map_eq_some_iff.1 hb
    have hmax : cv.toNat ≤ maxLen := by simp only [maxLen]; omega
    have hsame : (List.replicate lv.toNat z) = (List.replicate cv.toNat z).take lv.toNat := by
      rw [List.take_replicate, Nat.min_eq_left (by omega)]
    rw [hd] at hv ⊢
    have hr := h.alloc hi kd ((Array.range (cv.toNat * n)).map (zv.cells[· % zv.cells.size]!)) te n cv.toNat (List.replicate lv.toNat z) (by simp) (by simp; omega) hmax (hfr _) (fun k e j c hk hj => by
      have hk' : (List.replicate cv.toNat z)[k]? = some e := by
        rw [hsame] at hk
        have hkl : k < lv.toNat := by have := (List.getElem?_eq_some_iff.1 hk).1; simp at this; omega
        rwa [List.getElem?_take_of_lt hkl] at hk
      exact row_cells (hfr _) (by rw [List.take_of_length_le (by simp)]; exact hzr) k e j c hk' hj)
    refine ⟨_, _, .inl ?_, ⟨_, hr.putv hv (.slr kd (S.nx + i) n lv.toNat w.heap.size cv.toNat (muSet_same _ _ _ _) (by omega) hmax)⟩⟩
    have hmk := run_make (P := P) w t te inf zv hu hinf (by
      unfold tzero at hz
      obtain ⟨inf', hinf', hz⟩ := Option.bind_eq_some_iff.1 hz
      rw [hinf] at hinf'
      injection hinf' with hinf'
      subst hinf'
      obtain ⟨zv', hzv', hz⟩ := Option.bind_eq_some_iff.1 hz
      simp only [zeroValue, typeInfo, Sem.run_bind, run_program, hinf, Result.andThen_ok, hzv', Sem.run_pure, Result.ok.injEq] at hrun
      rw [← hrun.1]; exact hzv') k1 k2 lv cv (by omega) (by omega) c4 (by omega)
    have hns : inf.size = n := by
      unfold tsz at h2
      rw [hinf] at h2
      simpa using h2
    rw [Sem.run_bind, hmk, Result.andThen_ok, hns]
    rfl
  case store t x y =>
    split at hc0
    case h_2 => cases hc0
    rename_i d v sz k off u n hx hy hn
    split at hc0
    case h_2 => cases hc0
    rename_i ob hob
    split at hc0
    case isFalse => cases hc0
    rename_i hb
    obtain ⟨b1, b2, b3, b4, b5⟩ := hb
    split at hc0
    case h_2 => cases hc0
    rename_i e he
    rw [nth_eq] at he
    split at hc0
    case isFalse => cases hc0
    rename_i hle
    simp only [Option.some.injEq, Prod.mk.injEq] at hc0
    obtain ⟨rfl, rfl⟩ := hc0
    subst b2
    obtain ⟨w', hrun, hr⟩ := eff_store (P := P) h (h.evc hx rfl) (h.evc hy rfl) hn hob b1 b3 b4 b5 he hle
    refine ⟨undef, w', .inr ⟨?_, rfl⟩, ⟨μ, (hr.putv hv (.whn _ _ _ (fun hf => (by cases hf)) (fun _ => rfl))).more (fun j hj => .inl hj)⟩⟩
    simp only [Sem.run_bind, hrun, Result.andThen_ok, Sem.run_pure]
  case call cl =>
    obtain ⟨callee, args, argTypes⟩ := cl
    cases callee with
    | value f => cases hc0
    | invoke r m => cases hc0
    | builtin b =>
    cases b <;> simp only at hc0 <;> try (cases hc0; done)
    split at hc0
    case h_2 => cases hc0
    rename_i s x t t' dd ha ht hdd
    have ha' : args = #[s, x] := by apply Array.ext'; simpa using ha
    have ht' : argTypes = #[t, t'] := by apply Array.ext'; simpa using ht
    subst ha'
    subst ht'
    simp only [Sem.run_bind, resolve, Sem.run_pure, Result.andThen_ok, invoke, builtin, List.map_toArray, List.map_cons, List.map_nil]
    rw [hdd] at hv ⊢
    split at hc0
    · rename_i htt
      subst htt
      split at hc0
      case h_2 => cases hc0
      rename_i sv xv te h1 h2 h3
      split at hc0
      case h_2 => cases hc0
      rename_i sz' news n b h4 h5 h6
      obtain ⟨z, k1, k2, k3, k4, k5⟩ := tok_spec h5
      split at hc0
      · rename_i d v sz len
        split at hc0
        case h_2 => cases hc0
        rename_i ob hob
        split at hc0
        case isFalse => cases hc0
        rename_i hb
        obtain ⟨b1, b2, b3, b4, b5, b6, b7, b8⟩ := hb
        simp only [Option.some.injEq, Prod.mk.injEq] at hc0
        obtain ⟨rfl, rfl⟩ := hc0
        subst b2
        obtain ⟨y, w', hrun, hr⟩ := eff_append (P := P) (ty := o.type) h hi h3 k2 h6 (h.evc h1 rfl) hob b1 b3 b4 b5 k5 (h.evc h2 rfl) h4 b6 ⟨z, k1, k3, k4⟩ b7 b8 hv
        exact ⟨y, w', .inl (by rw [hrun]; rfl), hr⟩
      · split at hc0
        case isFalse => cases hc0
        rename_i hb
        obtain ⟨b6, b7, b8⟩ := hb
        simp only [Option.some.injEq, Prod.mk.injEq] at hc0
        obtain ⟨rfl, rfl⟩ := hc0
        have hsv := h.evc h1 rfl
        generalize a.eval s = sx at hsv ⊢
        cases hsv with
        | pur hsv =>
        cases hsv with
        | nils B =>
        obtain ⟨y, w', hrun, hr⟩ := eff_append0 (P := P) (ty := o.type) (B := B) h hi h3 k2 h6 (h.evc h2 rfl) h4 b6 ⟨z, k1, k3, k4⟩ b7 b8 hv
        exact ⟨y, w', .inl (by rw [hrun]; rfl), hr⟩
      · cases hc0
    · split at hc0
      case isFalse => cases hc0
      rename_i hsb
      obtain ⟨hs1, hs2⟩ := hsb
      split at hc0
      case h_2 => cases hc0
      rename_i sv l te h1 h2 h3
      split at hc0
      case h_2 => cases hc0
      rename_i h5
      have hxv := h.evc h2 rfl
      have hxe : a.eval x = .string ⟨l.toArray⟩ := by
        generalize a.eval x = y at hxv
        cases hxv with
        | pur hxv => cases hxv; rfl
      rw [hxe]
      have hz := tz8_spec h5
      split at hc0
      · rename_i d v sz len
        split at hc0
        case h_2 => cases hc0
        rename_i ob hob
        split at hc0
        case isFalse => cases hc0
        rename_i hb
        obtain ⟨b1, b2, b3, b4, b5, b6, b7⟩ := hb
        simp only [Option.some.injEq, Prod.mk.injEq] at hc0
        obtain ⟨rfl, rfl⟩ := hc0
        subst b2
        obtain ⟨y, w', hrun, hr⟩ := eff_appendS (P := P) (ty := o.type) h hi h3 hs1 hz (h.evc h1 rfl) hob b1 b3 b4 b5 b6 b7 hv
        exact ⟨y, w', .inl (by rw [hrun]; rfl), hr⟩
      · split at hc0
        case isFalse => cases hc0
        rename_i hb
        obtain ⟨b7, b8⟩ := hb
        simp only [Option.some.injEq, Prod.mk.injEq] at hc0
        obtain ⟨rfl, rfl⟩ := hc0
        have hsv := h.evc h1 rfl
        generalize a.eval s = sx at hsv ⊢
        cases hsv with
        | pur hsv =>
        cases hsv with
        | nils B =>
        obtain ⟨y, w', hrun, hr⟩ := eff_appendS0 (P := P) (ty := o.type) (B := B) h hi h3 hs1 hz b7 b8 hv
        exact ⟨y, w', .inl (by rw [hrun]; rfl), hr⟩
      · cases hc0

end
end Go.Eng

namespace Go.Eng
open Go.RowKit

/-- A cell that holds no reference to an object of the call's own. -/
def V.pureC : V → Bool
  | .sl .. | .ss .. | .bp .. | .whn .. | .agg _ | .tup _ | .mp .. | .clo .. | .rm .. | .mr .. => false
  | .ifc _ v => v.flat2
  | .fc _ us vs => us.all V.still && vs.all V.still
  | _ => true
/-- A value (a cell or a struct) that holds none. -/
def V.pureE (v : V) : Bool := v.cells.all V.pureC

theorem pureC_cell {v : V} (h : v.pureC = true) : v.isCell = true := by cases v <;> first | rfl | exact h | simp [V.pureC] at h

section
variable {D : Nat → Prop} {w0 : Bs} {w : World} {N0 : Nat → Prop} {μ : Mu} {S : AS} {a : Act} {P : Program}

theorem Enc.flat2 {N : Nat → Prop} {x : Value} {v : V} (h : Enc w N μ x v) (hc : v.isCell = true) (hp : v.flat2 = true) : Pur w N x v := by
  cases h with
  | pur h => exact h
  | agg => simp [V.isCell] at hc
  | _ => simp [V.flat2, V.flat1] at hp
theorem Enc.flatP {N : Nat → Prop} {x : Value} {v : V} (h : Enc w N μ x v) (hp : v.flat = true) : Pur w N x v := by
  cases h with
  | pur h => exact h
  | ifc t x v hc h => exact .ifc t x v hp (h.flat2 hc hp)
  | _ => simp [V.flat] at hp
theorem Enc.pureC {N : Nat → Prop} {x : Value} {v : V} (h : Enc w N μ x v) (hp : v.pureC = true) : Pur w N x v := by
  cases h with
  | pur h => exact h
  | ifc t x v hc h => exact .ifc t x v hp (h.flat2 hc hp)
  | _ => simp [V.pureC] at hp

theorem Enc.pureE {N : Nat → Prop} {x : Value} {v : V} (h : Enc w N μ x v) (hp : v.pureE = true) : Pur w N x v := by
  cases h with
  | pur h => exact h
  | agg xs cs hl hc hh => exact .agg xs cs hl hc (fun i x c h1 h2 => (hh i x c h1 h2).pureC (List.all_eq_true.1 hp c (List.mem_of_getElem? h2)))
  | ifc t x v hc h => exact (Enc.ifc t x v hc h).pureC (by simpa [V.pureE, V.cells] using hp)
  | _ => simp [V.pureE, V.cells, V.pureC] at hp

/-- A cell with slices of the call's own read as lists. -/
def AS.viewC (S : AS) (v : V) : Option V :=
  match v with
  | .sl .. | .ss .. => match S.elems v with
    | some (sz, es) => if es.all V.pureE = true then some (.ro sz es) else none
    | none => none
  | _ => if v.pureC = true then some v else none

def AS.viewL (S : AS) : List V → Option (List V)
  | [] => some []
  | v :: r => match S.viewC v, S.viewL r with
    | some u, some us => some (u :: us)
    | _, _ => none

/-- A value with slices of the call's own read as lists. -/
def AS.view (S : AS) (v : V) : Option V :=
  match v with
  | .agg cs => match S.viewL cs with
    | some us => some (.agg us)
    | none => none
  | .tup _ => none
  | v => S.viewC v

/-- The blocks that are known to stay away from what is viewed: those of N0. -/
theorem RelM.viewC (h : RelM D w0 N0 μ S a w) {x : Value} {v u : V} (hx : Enc w (Own N0 μ S) μ x v) (hv : S.viewC v = some u) : Pur w N0 x u ∧ u.isCell = true := by
  have hsub : ∀ b, b < w.heap.size → N0 b → Own N0 μ S b := fun b _ hb => .inl hb
  have key : ∀ (v u : V), Enc w (Own N0 μ S) μ x v → (match S.elems v with | some (sz, es) => if es.all V.pureE = true then some (V.ro sz es) else none | none => none) = some u → (∀ d v' sz len, v = .sl d v' sz len → True) → (∃ d v' sz off len, v = .ss d v' sz off len ∨ v = .sl d v' sz len) → Pur w N0 x u ∧ u.isCell = true := by
    intro v u hx hv _ hform
    split at hv
    case h_2 => cases hv
    rename_i sz es hes
    split at hv
    case isFalse => cases hv
    rename_i hp
    injection hv with hv
    subst hv
    refine ⟨?_, rfl⟩
    obtain ⟨A, c, rfl, hlc, hrest⟩ := h.elems hx hes
    by_cases hne : es = []
    · subst hne
      have hc : c ≤ maxLen := by
        obtain ⟨d, v', sz', off, len, rfl | rfl⟩ := hform
        · cases hx with
          | pur hx => cases hx
          | ss _ _ _ _ _ g c' cap A' h1 h2 h3 => exact h2
        · cases hx with
          | pur hx => cases hx
          | slr _ _ _ _ g cap h1 h2 h3 => exact h3
          | slv => simp [maxLen]
      exact .ro A ⟨0, 0, none⟩ 0 c sz [] (fun _ _ => undef) rfl hlc hc (fun h0 => absurd h0 (by simp)) (by simp) (by simp) (by simp)
    · obtain ⟨hf, ad, vs, rfl, hvl, hvc, hrow⟩ := hrest hne
      -- the row lies in a block of the call's own
      have hblk : ad.block < w.heap.size ∧ ¬ N0 ad.block ∧ c ≤ maxLen := by
        have hpos := List.length_pos_iff.2 hne
        obtain ⟨d, v', sz', off, len, rfl | rfl⟩ := hform
        · simp only [AS.elems] at hes
          split at hes
          case h_2 => cases hes
          rename_i o ho
          split at hes
          case isFalse => cases hes
          rename_i hb
          obtain ⟨rfl, rfl, hb3⟩ := hb
          simp only [Option.some.injEq, Prod.mk.injEq] at hes
          obtain ⟨rfl, rfl⟩ := hes
          have hl' : ((o.es.drop off).take len).length = len := by simp; omega
          rw [hl'] at hpos hx
          cases hx with
          | pur hx => cases hx
          | ss _ _ _ _ _ g c' cap A' h1 h2 h3 =>
            obtain ⟨hm, hA⟩ := h3 hpos
            injection hA with hA
            subst hA
            refine ⟨h.block_lt ho hm, fun hn => ?_, h2⟩
            have := h.n0.1 _ hn
            obtain ⟨l, hl, hob⟩ := h.objs d o ho
            rw [hm] at hl
            injection hl with hl
            subst hl
            exact absurd hob.1 (fun hf => hf.elim (fun h => by have := this.1; simp only at *; omega) this.2)
        · simp only [AS.elems] at hes
          split at hes
          case h_2 => cases hes
          rename_i o ho
          split at hes
          case isFalse => cases hes
          rename_i hb
          obtain ⟨rfl, rfl, hb3⟩ := hb
          simp only [Option.some.injEq, Prod.mk.injEq] at hes
          obtain ⟨rfl, rfl⟩ := hes
          rw [hb3] at hpos hx
          cases hx with
          | pur hx => cases hx
          | slr _ _ _ _ g cap hm h2 h3 =>
            refine ⟨h.block_lt ho hm, fun hn => ?_, h3⟩
            have := h.n0.1 _ hn
            obtain ⟨l, hl, hob⟩ := h.objs d o ho
            rw [hm] at hl
            injection hl with hl
            subst hl
            exact absurd hob.1 (fun hf => hf.elim (fun h => by have := this.1; simp only at *; omega) this.2)
          | slv => exact absurd hpos (by simp)
      have hat : ∀ (k : Nat) e (j : Nat) c, es[k]? = some e → e.cells[j]? = some c → ∃ y, vs[k * sz + j]? = some y ∧ Enc w (Own N0 μ S) μ y c := by
        intro k e j c hk hj
        have hfl := flat_get hf hk hj
        have hlt : k * sz + j < vs.length := by rw [hrow.1]; exact (List.getElem?_eq_some_iff.1 hfl).1
        exact ⟨_, List.getElem?_eq_getElem hlt, hrow.2 _ _ c (List.getElem?_eq_getElem hlt) hfl⟩
      refine .ro _ ad es.length c sz es (fun k j => (vs[k * sz + j]?).getD undef) rfl hlc hblk.2.2 (fun _ => ⟨rfl, hblk.1, hblk.2.1⟩) hf (fun k e j c hk hj => ?_) (fun k e j c hk hj => ?_)
      · obtain ⟨y, hy, _⟩ := hat k e j c hk hj
        simp only [hy, Option.getD_some]
        exact hvc _ _ hy
      · obtain ⟨y, hy, hey⟩ := hat k e j c hk hj
        simp only [hy, Option.getD_some]
        have hpc : c.pureC = true := List.all_eq_true.1 (List.all_eq_true.1 hp e (List.mem_of_getElem? hk)) c (List.mem_of_getElem? hj)
        exact (hey.pureC hpc).keep (Keeps.refl _ _) hsub
  unfold AS.viewC at hv
  split at hv
  · exact key _ u hx hv (fun _ _ _ _ _ => trivial) ⟨_, _, _, 0, _, .inr rfl⟩
  · exact key _ u hx hv (fun _ _ _ _ _ => trivial) ⟨_, _, _, _, _, .inl rfl⟩
  · split at hv
    case isFalse => cases hv
    rename_i hp
    injection hv with hv
    subst hv
    exact ⟨(hx.pureC hp).keep (Keeps.refl _ _) hsub, pureC_cell hp⟩

theorem viewL_spec : ∀ {cs us : List V}, S.viewL cs = some us → us.length = cs.length ∧ ∀ (i : Nat) c u, cs[i]? = some c → us[i]? = some u → S.viewC c = some u
  | [], us, h => by simp only [AS.viewL, Option.some.injEq] at h; subst h; simp
  | c :: cs, us, h => by
    simp only [AS.viewL] at h
    split at h
    case h_2 => cases h
    rename_i u us' h1 h2
    injection h with h
    subst h
    obtain ⟨h3, h4⟩ := viewL_spec h2
    refine ⟨by simp [h3], fun i c' u' hc hu => ?_⟩
    rcases i with _ | i
    · simp at hc hu; subst hc; subst hu; exact h1
    · simp at hc hu; exact h4 i c' u' hc hu

theorem RelM.view (h : RelM D w0 N0 μ S a w) {x : Value} {v u : V} (hx : Enc w (Own N0 μ S) μ x v) (hv : S.view v = some u) : Pur w N0 x u := by
  have hsub : ∀ b, b < w.heap.size → N0 b → Own N0 μ S b := fun b _ hb => .inl hb
  unfold AS.view at hv
  split at hv
  · rename_i cs
    split at hv
    case h_2 => cases hv
    rename_i us hus
    injection hv with hv
    subst hv
    obtain ⟨h1, h2⟩ := viewL_spec hus
    have key : ∀ xs : List Value, xs.length = cs.length → (∀ (i : Nat) x c, xs[i]? = some x → cs[i]? = some c → Enc w (Own N0 μ S) μ x c) → Pur w N0 (.agg xs.toArray) (.agg us) := by
      intro xs hl hh
      refine .agg xs us (by omega) (fun c hc => ?_) (fun i x c hx hc => ?_)
      · obtain ⟨i, hi⟩ := List.getElem?_of_mem hc
        have hlt : i < us.length := (List.getElem?_eq_some_iff.1 hi).1
        exact (h.viewC (hh i xs[i] cs[i] (List.getElem?_eq_getElem (by omega)) (List.getElem?_eq_getElem (by omega))) (h2 i cs[i] c (List.getElem?_eq_getElem (by omega)) hi)).2
      · have hlt : i < us.length := (List.getElem?_eq_some_iff.1 hc).1
        exact (h.viewC (hh i x cs[i] hx (List.getElem?_eq_getElem (by omega))) (h2 i cs[i] c (List.getElem?_eq_getElem (by omega)) hc)).1
    cases hx with
    | pur hx =>
      cases hx with
      | agg xs _ hl hc hh => exact key xs hl (fun i x c h1 h2 => .pur (hh i x c h1 h2))
    | agg xs _ hl hc hh => exact key xs hl hh
  · cases hv
  · exact (h.viewC hx hv).1

end
end Go.Eng

namespace Go.Eng
open Go.RowKit

/-- The contract: called on values that read as args, f returns a value that reads as some r of R; nothing that was there changes. -/
def AC (P : Program) (f : FuncId) (args : List V) (R : V → Prop) : Prop :=
  ∀ (w : World) (N : Nat → Prop) (xs : List Value), (∀ b, N b → b < w.heap.size) → xs.length = args.length → (∀ (i : Nat) x v, xs[i]? = some x → args[i]? = some v → Pur w N x v) →
    Calls P f xs.toArray w (fun e w' => ∃ x r, e = .returned x ∧ R r ∧ Pur w' N x r ∧ Below w.heap.size w w')

theorem AC.mono {P : Program} {f : FuncId} {args : List V} {R R' : V → Prop} (h : AC P f args R) (hr : ∀ r, R r → R' r) : AC P f args R' :=
  fun w N xs h1 h2 h3 => (h w N xs h1 h2 h3).mono fun _ _ ⟨x, r, he, hR, hp, hb⟩ => ⟨x, r, he, hr r hR, hp, hb⟩

def post (w0 : Bs) (N0 : Nat → Prop) (Q : Exit → AS → Prop) (e : Exit) (a : Act) (w : World) : Prop := ∃ S, Q e S ∧ Rel w0 N0 S a w

def AW (P : Program) (w0 : Bs) (N0 : Nat → Prop) (c : Code) (Q : Exit → AS → Prop) (S : AS) : Prop := ∀ a w, Rel w0 N0 S a w → c.wp P (post w0 N0 Q) a w

/-- A region's operations from number i on, in the order of the text. -/
def AWL (P : Program) (w0 : Bs) (N0 : Nat → Prop) (ops : List Oper) (Q : Exit → AS → Prop) (i : Nat) (l : List Oper) (S : AS) : Prop :=
  ∀ D a w, (∀ j, D j → j < i) → RelD D w0 N0 S a w → wpList P ops.toArray (post w0 N0 Q) l a w

section
variable {P : Program} {w0 : Bs} {N0 : Nat → Prop} {Q : Exit → AS → Prop} {S : AS}

theorem AW.mono {c : Code} {Q' : Exit → AS → Prop} (h : AW P w0 N0 c Q S) (hq : ∀ e S, Q e S → Q' e S) : AW P w0 N0 c Q' S :=
  fun a w hr => wp_mono (h a w hr) fun _ _ _ ⟨S', hQ, hR⟩ => ⟨S', hq _ _ hQ, hR⟩

theorem aw_le {c : Code} {S' : AS} (hle : S.le S') (h : AW P w0 N0 c Q S') : AW P w0 N0 c Q S := fun a w hr => h a w (hle _ _ _ _ hr)

@[reducible] def ethen (K : AS → Prop) (Q : Exit → AS → Prop) : Exit → AS → Prop
  | .normal, S => K S
  | e, S => Q e S
@[reducible] def einBlock (id : Nat) (Q : Exit → AS → Prop) : Exit → AS → Prop
  | .exit id', S => if id' = id then Q .normal S else Q (.exit id') S
  | e, S => Q e S

theorem aw_skip (h : Q .normal S) : AW P w0 N0 .skip Q S := fun _ _ hr => wp_skip ⟨S, h, hr⟩
theorem aw_label {l : Nat} (h : Q .normal S) : AW P w0 N0 (.label l) Q S := fun _ _ hr => wp_label ⟨S, h, hr⟩
theorem aw_exit {id : Nat} (h : Q (.exit id) S) : AW P w0 N0 (.exit id) Q S := fun _ _ hr => wp_exit ⟨S, h, hr⟩
theorem aw_ret (h : Q .ret S) : AW P w0 N0 .ret Q S := fun _ _ hr => wp_ret ⟨S, h, hr⟩
theorem aw_seq {x y : Code} (h : AW P w0 N0 x (ethen (AW P w0 N0 y Q) Q) S) : AW P w0 N0 (.seq x y) Q S := by
  intro a w hr
  refine wp_seq (wp_mono (h a w hr) ?_)
  rintro e a' w' ⟨S', hQ, hR⟩
  cases e with
  | normal => exact hQ a' w' hR
  | _ => exact ⟨S', hQ, hR⟩
theorem aw_block {id : Nat} {c : Code} (h : AW P w0 N0 c (einBlock id Q) S) : AW P w0 N0 (.block id c) Q S := by
  intro a w hr
  refine wp_block (wp_mono (h a w hr) ?_)
  rintro e a' w' ⟨S', hQ, hR⟩
  cases e with
  | exit id' =>
    simp only [einBlock] at hQ
    simp only [Exit.inBlock]
    split
    · rename_i he; rw [if_pos he] at hQ; exact ⟨S', hQ, hR⟩
    · rename_i he; rw [if_neg he] at hQ; exact ⟨S', hQ, hR⟩
  | _ => exact ⟨S', hQ, hR⟩
theorem aw_cond {c : Operand} {x y : Code} {t : Bool} (hc : S.evc true c = some (.bool t)) (ht : t = true → AW P w0 N0 x Q S) (hf : t = false → AW P w0 N0 y Q S) : AW P w0 N0 (.cond c x y) Q S := by
  intro a w hr
  obtain ⟨μ, hm⟩ := hr
  have hx := hm.evc hc rfl
  have he : a.eval c = .bool t := by
    generalize a.eval c = v at hx
    cases hx with
    | pur hx => cases hx with
      | bool => rfl
  exact wp_cond_split he (fun h => ht h a w ⟨μ, hm⟩) (fun h => hf h a w ⟨μ, hm⟩)
theorem aw_loop {α : Type} {c : Code} (st : α → AS) (Inv : α → Prop) (m : α → Nat) (x0 : α) (h0 : Inv x0) (hS : S.le (st x0))
    (round : ∀ x, Inv x → AW P w0 N0 c (ethen (fun S' => ∃ x', Inv x' ∧ m x' < m x ∧ S'.le (st x')) Q) (st x)) : AW P w0 N0 (.loop c) Q S := by
  intro a w hr
  -- the invariant names the ghost by its measure
  have key : ∀ n x, m x = n → Inv x → ∀ a w, Rel w0 N0 (st x) a w → (Code.loop c).wp P (post w0 N0 Q) a w := by
    intro n x hn hx a w hr b k cs
    have main : ∀ n x, m x = n → Inv x → ∀ a w, Rel w0 N0 (st x) a w → ∃ e a' w', post w0 N0 Q e a' w' ∧ Arrives P (lone (b.at a (.code c :: .inLoop c :: k)) cs w) b k cs e a' w' := by
      intro n
      induction n using Nat.strongRecOn with
      | _ n ih =>
        intro x hn hx a w hr
        obtain ⟨e, a1, w1, ⟨S', hQ, hR⟩, harr⟩ := round x hx a w hr b (.inLoop c :: k) cs
        cases e with
        | normal =>
          obtain ⟨x', hx', hlt, hle⟩ := hQ
          obtain ⟨e2, a2, w2, hq2, harr2⟩ := ih (m x') (hn ▸ hlt) x' rfl hx' a1 w1 (hle _ _ _ _ hR)
          exact ⟨e2, a2, w2, hq2, .of_steps (Steps.trans harr (.one step_inLoop)) harr2⟩
        | exit id => exact ⟨_, a1, w1, ⟨S', hQ, hR⟩, .pass (x := .inLoop c) rfl (fun _ _ => .inl (by simp)) harr⟩
        | goto l => exact ⟨_, a1, w1, ⟨S', hQ, hR⟩, .pass (x := .inLoop c) rfl (fun _ _ => .inl (by simp)) harr⟩
        | ret => exact ⟨_, a1, w1, ⟨S', hQ, hR⟩, .pass (x := .inLoop c) rfl (fun _ _ => .inl (by simp)) harr⟩
        | panic ch => exact ⟨_, a1, w1, ⟨S', hQ, hR⟩, .pass (x := .inLoop c) rfl (fun _ _ => .inl (by simp)) harr⟩
        | outgrown => exact ⟨_, a1, w1, ⟨S', hQ, hR⟩, .pass (x := .inLoop c) rfl (fun _ _ => .inl (by simp)) harr⟩
    obtain ⟨e, a', w', hq, harr⟩ := main n x hn hx a w hr
    exact ⟨e, a', w', hq, .of_steps (.one step_loop) harr⟩
  exact key _ x0 rfl h0 a w (hS _ _ _ _ hr)

/-- The guard of an operation: whether it runs. -/
def AS.gd (S : AS) (ops : List Oper) (j : Nat) (want : Bool) : Option Bool :=
  match ops[j]? with
  | some o => match o.dst with
    | some d => match get S.env d with
      | some (.bool g) => some (g == want)
      | some (.whn b (.bool g)) => some (b && (g == want))
      | _ => none
    | none => none
  | none => none

/-- An operation that may be passed over where its guard is false: no load through a pointer. -/
def AS.fb (S : AS) (c : Bool) : Op → Bool
  | .load _ x => match S.evc c x with
    | some (.bp ..) => false
    | some (.rp _) => false
    | _ => true
  | _ => true

/-- An operation's step; new objects are named from kb on. -/
def astepK (P : Program) (kb : Nat) (ops : List Oper) (i : Nat) (o : Oper) (S : AS) : Option AS :=
  match o.guard with
  | none => match aval P S true o.op with
    | some v => S.putv o.dst v
    | none => aeff P i S o.dst (kb + o.dst.getD 0) o.op
  | some (j, want) => match S.gd ops j want with
    | some c => match aval P S c o.op with
      | some v => S.putv o.dst (.whn c v)
      | none => if c = false ∧ S.fb c o.op = true then S.putv o.dst (.whn false (.bool true)) else none
    | none => none

def astep (P : Program) (ops : List Oper) (i : Nat) (o : Oper) (S : AS) : Option AS := astepK P 0 ops i o S

theorem gd_spec {D : Nat → Prop} {μ : Mu} {a : Act} {w : World} (h : RelM D w0 N0 μ S a w) {ops : List Oper} {o : Oper} {j : Nat} {want c : Bool} (hg : o.guard = some (j, want)) (hc : S.gd ops j want = some c) :
    Region.wanted o (yielded ops.toArray a.tmps) = c := by
  unfold AS.gd at hc
  split at hc
  case h_2 => cases hc
  rename_i oj hoj
  split at hc
  case h_2 => cases hc
  rename_i d hd
  have hy : ∀ (x : Value) (t : Bool), a.tmps.getD d undef = x → d < S.nt → (yielded ops.toArray a.tmps j = match x with | .bool b => some b | _ => none) := by
    intro x t hx hd'
    have hsz : d < a.tmps.size := by rw [h.size]; exact hd'
    unfold yielded
    simp only [List.getElem?_toArray, hoj, Option.bind_some, hd, Array.getElem?_eq_getElem hsz]
    rw [Array.getD_eq_getD_getElem?, Array.getElem?_eq_getElem hsz] at hx
    simp only [Option.getD_some] at hx
    rw [hx]
    split <;> simp_all
  unfold Region.wanted
  rw [hg]
  simp only
  split at hc
  · rename_i g hget
    injection hc with hc
    obtain ⟨hd', hen⟩ := h.env d _ hget
    generalize hxx : a.tmps.getD d undef = x at hen
    have h1 := hy x true hxx hd'
    cases hen with
    | pur hen =>
    cases hen with
    | bool =>
    rw [h1, ← hc]
    cases g <;> cases want <;> rfl
  · rename_i b g hget
    injection hc with hc
    obtain ⟨hd', hen⟩ := h.env d _ hget
    generalize hxx : a.tmps.getD d undef = x at hen
    have h1 := hy x true hxx hd'
    cases hen with
    | pur hen => cases hen
    | whn _ _ _ hh hu =>
    cases b with
    | false =>
      rw [h1, hu rfl, ← hc]
      cases want <;> rfl
    | true =>
      have hb := hh rfl
      cases hb with
      | pur hb =>
      cases hb with
      | bool =>
      rw [h1, ← hc]
      cases g <;> cases want <;> rfl
  · cases hc

theorem awl_nil {ops : List Oper} {i : Nat} (h : Q .normal { S with nx := S.nx + i }) : AWL P w0 N0 ops Q i [] S := by
  rintro D a w hD ⟨μ, hr⟩
  refine wpList_nil ⟨_, h, μ, ⟨hr.defers, hr.size, hr.below, hr.n0, fun d v hv => ?_, hr.objs, hr.inj, hr.env⟩⟩
  rcases hr.fresh d v hv with h1 | ⟨j, hj, e⟩
  · exact .inl (by simp only; omega)
  · have := hD j hj
    exact .inl (by simp only; omega)

theorem awl_stepK {kb : Nat} {ops : List Oper} {i : Nat} {o : Oper} {rest : List Oper} {S' : AS} (hs : astepK P kb ops i o S = some S') (h : AWL P w0 N0 ops Q (i + 1) rest S') : AWL P w0 N0 ops Q i (o :: rest) S := by
  rintro D a w hD ⟨μ, hr⟩
  have hi : ¬ D i := fun hd => absurd (hD i hd) (by omega)
  have hD' : ∀ j, (D j ∨ j = i) → j < i + 1 := fun j hj => by
    rcases hj with hj | hj
    · have := hD j hj; omega
    · omega
  have hD1 : ∀ j, D j → j < i + 1 := fun j hj => hD' j (.inl hj)
  refine wpList_step fun K hK => ?_
  unfold astepK at hs
  split at hs
  · rename_i hg
    have hw : Region.wanted o (yielded ops.toArray a.tmps) = true := by simp [Region.wanted, hg]
    rw [if_pos hw]
    split at hs
    · rename_i v hv
      obtain ⟨x, hx, hex⟩ := aval_run hr rfl hv
      unfold Oper.wp
      rw [hx]
      exact hK _ _ (h D _ w hD1 ⟨μ, hr.putv hs hex⟩)
    · obtain ⟨x, w', hdo, hrel⟩ := aeff_run hr hi hs
      unfold Oper.wp
      rcases hdo with hx | ⟨hx, rfl⟩
      · rw [hx]; exact hK _ _ (h _ _ w' hD' hrel)
      · rw [hx]; exact hK _ _ (h _ _ w' hD' hrel)
  · rename_i j want hg
    split at hs
    case h_2 => cases hs
    rename_i c hc
    have hwc := gd_spec hr hg hc
    rw [hwc]
    split at hs
    · rename_i v hv
      cases c with
      | true =>
        rw [if_pos rfl]
        obtain ⟨x, hx, hex⟩ := aval_run hr rfl hv
        unfold Oper.wp
        rw [hx]
        exact hK _ _ (h D _ w hD1 ⟨μ, hr.putv hs (.whn _ _ _ (fun _ => hex) (fun hf => (by cases hf)))⟩)
      | false =>
        rw [if_neg (by simp)]
        exact hK _ _ (h D _ w hD1 ⟨μ, hr.putv hs (.whn _ _ _ (fun hf => (by cases hf)) (fun _ => rfl))⟩)
    · split at hs
      case isFalse => cases hs
      rename_i hcf
      obtain ⟨rfl, _⟩ := hcf
      rw [if_neg (by simp)]
      exact hK _ _ (h D _ w hD1 ⟨μ, hr.putv hs (.whn _ _ _ (fun hf => (by cases hf)) (fun _ => rfl))⟩)

theorem awl_step {ops : List Oper} {i : Nat} {o : Oper} {rest : List Oper} {S' : AS} (hs : astep P ops i o S = some S') (h : AWL P w0 N0 ops Q (i + 1) rest S') : AWL P w0 N0 ops Q i (o :: rest) S := awl_stepK hs h

/-- All operations of a region that holds no call. -/
def runOpsK (P : Program) (kb : Nat) (ops : List Oper) : Nat → List Oper → AS → Option AS
  | _, [], S => some S
  | i, o :: rest, S => match astepK P kb ops i o S with
    | some S' => runOpsK P kb ops (i + 1) rest S'
    | none => none
def runOps (P : Program) (ops : List Oper) (i : Nat) (l : List Oper) (S : AS) : Option AS := runOpsK P 0 ops i l S

theorem awl_runK {kb : Nat} {ops : List Oper} : ∀ {l : List Oper} {i : Nat} {S S' : AS}, runOpsK P kb ops i l S = some S' → Q .normal { S' with nx := S'.nx + (i + l.length) } → AWL P w0 N0 ops Q i l S
  | [], i, S, S', hs, h => by
    simp only [runOpsK, Option.some.injEq] at hs
    subst hs
    exact awl_nil h
  | o :: rest, i, S, S', hs, h => by
    simp only [runOpsK] at hs
    split at hs
    case h_2 => cases hs
    rename_i S1 h1
    refine awl_stepK h1 (awl_runK hs ?_)
    rw [show i + 1 + rest.length = i + (o :: rest).length by simp; omega]
    exact h

theorem awl_run {ops : List Oper} {l : List Oper} {i : Nat} {S S' : AS} (hs : runOps P ops i l S = some S') (h : Q .normal { S' with nx := S'.nx + (i + l.length) }) : AWL P w0 N0 ops Q i l S := awl_runK hs h

theorem aw_region {id : Nat} {l : List Oper} (h : AWL P w0 N0 l Q 0 l S) : AW P w0 N0 (.region id l.toArray false) Q S :=
  fun a w hr => wp_region_lit (h (fun _ => False) a w (fun _ hj => hj.elim) hr)

/-- A region without a call: run, then keep what is wanted. -/
theorem aw_run {id : Nat} {l : List Oper} {S' : AS} (hs : runOps P l 0 l S = some S') (h : Q .normal { S' with nx := S'.nx + l.length }) : AW P w0 N0 (.region id l.toArray false) Q S :=
  aw_region (awl_run hs (by rw [Nat.zero_add]; exact h))

end
end Go.Eng

namespace Go.Eng
open Go.RowKit

section
variable {P : Program} {w0 : Bs} {N0 : Nat → Prop} {Q : Exit → AS → Prop} {S : AS}

def V.pureV : V → Bool
  | .tup vs => vs.all V.pureE
  | .mp .. | .rm .. | .fc .. => true
  | v => v.pureE

theorem Enc.pureV {w : World} {N : Nat → Prop} {μ : Mu} {x : Value} {v : V} (h : Enc w N μ x v) (hp : v.pureV = true) : Pur w N x v := by
  cases v with
  | tup vs => cases h with
    | pur h => exact h
    | tup xs _ hl hh => exact .tup xs _ hl (fun i x c hx hc => (hh i x c hx hc).pureE (List.all_eq_true.1 hp c (List.mem_of_getElem? hc)))
  | mp | rm | fc => cases h with
    | pur h => exact h
  | _ => exact h.pureE hp

theorem RelM.own_lt {D : Nat → Prop} {μ : Mu} {a : Act} {w : World} (h : RelM D w0 N0 μ S a w) (b : Nat) (hb : Own N0 μ S b) : b < w.heap.size := by
  rcases hb with hb | ⟨d, o, c, h1, h2⟩
  · exact Nat.lt_of_lt_of_le (h.n0.1 b hb).1 h.below.size
  · exact h.block_lt h1 h2

/-- A world in which nothing that was there has changed. -/
theorem RelM.later {D : Nat → Prop} {μ : Mu} {a : Act} {w w' : World} (h : RelM D w0 N0 μ S a w) (hb : Below w.heap.size w w') : RelM D w0 N0 μ S a w' := by
  have hk : Keeps w (Own N0 μ S) w' := Keeps.of_below hb _
  refine ⟨h.defers, h.size, h.below.trans (hb.mono h.below.size), h.n0, h.fresh, fun d o hd => ?_, h.inj, fun t u hu => ⟨(h.env t u hu).1, (h.env t u hu).2.keep hk (fun _ _ hh => hh) (fun _ _ _ hh => hh)⟩⟩
  obtain ⟨l, hl, hob⟩ := h.objs d o hd
  exact ⟨l, hl, hob.keep hk (fun _ _ hh => hh) (fun _ _ _ hh => hh) (fun g c e => hb.block g (h.block_lt hd (by rw [hl, e])))⟩

/-- What the function value of a call is. -/
theorem run_call_fn {ρ : Operand → Value} {o : Oper} {f : Operand} {fid : FuncId} {fn : Func} {args : Array Operand} {ats : Array TypeId} {w : World} (ho : o.op = .call { callee := .value f, args := args, argTypes := ats }) (hf : ρ f = .func (.func fid) #[] #[])
    (hfn : P.funcs[fid]? = some fn) (hb : fn.body.isSome = true) (hn : (fn.name == "runtime.NumGoroutine") = false) : (execOp ρ o).run P w = .ok (.enter fid (args.map ρ)) w := by
  unfold execOp
  rw [ho]
  obtain ⟨c, hc⟩ := Option.isSome_iff_exists.1 hb
  have hn' : ¬ fn.name = "runtime.NumGoroutine" := by simpa using hn
  simp [resolve, hf, Deferred.ofValue, invoke, callFunc, hfn, hn', hc]

/-- A call on pure values. -/
theorem awl_call {ops : List Oper} {i : Nat} {o : Oper} {rest : List Oper} {f : Operand} {fid : FuncId} {fn : Func} {args : Array Operand} {ats : Array TypeId} {vs : List V} {R : V → Prop}
    (hg : o.guard = none) (ho : o.op = .call { callee := .value f, args := args, argTypes := ats }) (hf : S.evc true f = some (.fn fid)) (hfn : P.funcs[fid]? = some fn) (hb : fn.body.isSome = true) (hn : (fn.name == "runtime.NumGoroutine") = false)
    (ha : S.args true args.toList = some vs) (hp : vs.all V.pureV = true) (hc : AC P fid vs R) (h : ∀ r, R r → ∃ S', S.putv o.dst r = some S' ∧ AWL P w0 N0 ops Q (i + 1) rest S') : AWL P w0 N0 ops Q i (o :: rest) S := by
  rintro D a w hD ⟨μ, hr⟩
  refine wpList_plain hg fun K hK => ?_
  have hfv := hr.evc hf rfl
  have hfe : a.eval f = .func (.func fid) #[] #[] := by
    generalize a.eval f = y at hfv
    cases hfv with
    | pur hfv => cases hfv with
      | fn => rfl
  obtain ⟨h1, h2⟩ := args_spec hr rfl ha
  unfold Oper.wp
  rw [run_call_fn ho hfe hfn hb hn]
  have hcall := hc w (Own N0 μ S) (args.toList.map a.eval) hr.own_lt (by simp [h1]) (fun j x v hx hv => by
    simp only [List.getElem?_map, Option.map_eq_some_iff] at hx
    obtain ⟨y, hy, rfl⟩ := hx
    exact (h2 j y v hy hv).pureV (List.all_eq_true.1 hp v (List.mem_of_getElem? hv)))
  have harr : (args.toList.map a.eval).toArray = args.map a.eval := by apply Array.ext'; simp
  rw [harr] at hcall
  refine hcall.mono ?_
  rintro e w' ⟨x, r, rfl, hR, hpx, hbw⟩
  obtain ⟨S', hs, hrest⟩ := h r hR
  exact hK _ _ (hrest D _ w' (fun j hj => Nat.lt_succ_of_lt (hD j hj)) ⟨μ, (hr.later hbw).putv hs (.pur hpx)⟩)

/-- Values that hold no memory at all. -/
def V.light : V → Bool
  | .agg cs => cs.all V.flat
  | .tup vs => vs.all fun v => match v with | .agg cs => cs.all V.flat | v => v.flat
  | v => v.flat

theorem Pur.of_light {w w' : World} {N N' : Nat → Prop} {x : Value} {v : V} (h : Pur w N x v) (hl : v.light = true) : Pur w' N' x v := by
  have ha : ∀ (xs : List Value) (cs : List V), cs.all V.flat = true → xs.length = cs.length → (∀ c ∈ cs, c.isCell = true) → (∀ (i : Nat) x c, xs[i]? = some x → cs[i]? = some c → Pur w N x c) → Pur w' N' (.agg xs.toArray) (.agg cs) :=
    fun xs cs h1 h2 h3 h4 => .agg xs cs h2 h3 (fun i x c hx hc => (h4 i x c hx hc).of_flat (List.all_eq_true.1 h1 c (List.mem_of_getElem? hc)))
  cases h with
  | agg xs cs h1 h2 h3 => exact ha xs cs hl h1 h2 h3
  | tup xs cs h1 h2 =>
    refine .tup xs cs h1 (fun i x c hx hc => ?_)
    have hc' := List.all_eq_true.1 hl c (List.mem_of_getElem? hc)
    have hp := h2 i x c hx hc
    cases hp with
    | agg ys ds g1 g2 g3 => exact ha ys ds hc' g1 g2 g3
    | bool b => exact .bool b
    | int k n => exact .int k n
    | str l => exact .str l
    | nils A => exact .nils A
    | fn f => exact .fn f
    | nilp => exact .nilp
    | nili => exact .nili
    | nilf => exact .nilf
    | ifc t x v h1 h2 => exact .ifc t x v h1 (h2.of_flat2 h1)
    | tup | ro | rp | mp | fc | dm | rm => simp [V.flat] at hc'
  | bool b => exact .bool b
  | int k n => exact .int k n
  | str l => exact .str l
  | nils A => exact .nils A
  | fn f => exact .fn f
  | nilp => exact .nilp
  | nili => exact .nili
  | nilf => exact .nilf
  | ifc t x v h1 h2 => exact .ifc t x v h1 (h2.of_flat2 h1)
  | ro | rp | mp | fc | dm | rm => simp [V.light, V.flat] at hl

def AS.views (S : AS) : List V → Option (List V)
  | [] => some []
  | v :: r => match S.view v, S.views r with
    | some u, some us => some (u :: us)
    | _, _ => none

theorem views_spec : ∀ {vs us : List V}, S.views vs = some us → us.length = vs.length ∧ ∀ (i : Nat) v u, vs[i]? = some v → us[i]? = some u → S.view v = some u
  | [], us, h => by simp only [AS.views, Option.some.injEq] at h; subst h; simp
  | c :: cs, us, h => by
    simp only [AS.views] at h
    split at h
    case h_2 => cases h
    rename_i u us' h1 h2
    injection h with h
    subst h
    obtain ⟨h3, h4⟩ := views_spec h2
    refine ⟨by simp [h3], fun i c' u' hc hu => ?_⟩
    rcases i with _ | i
    · simp at hc hu; subst hc; subst hu; exact h1
    · simp at hc hu; exact h4 i c' u' hc hu

/-- A call that reads slices of the call's own and hands back a value without memory. -/
theorem awl_call_view {ops : List Oper} {i : Nat} {o : Oper} {rest : List Oper} {f : Operand} {fid : FuncId} {fn : Func} {args : Array Operand} {ats : Array TypeId} {vs us : List V} {R : V → Prop}
    (hg : o.guard = none) (ho : o.op = .call { callee := .value f, args := args, argTypes := ats }) (hf : S.evc true f = some (.fn fid)) (hfn : P.funcs[fid]? = some fn) (hb : fn.body.isSome = true) (hn : (fn.name == "runtime.NumGoroutine") = false)
    (ha : S.args true args.toList = some vs) (hp : S.views vs = some us) (hc : AC P fid us R) (h : ∀ r, R r → r.light = true ∧ ∃ S', S.putv o.dst r = some S' ∧ AWL P w0 N0 ops Q (i + 1) rest S') : AWL P w0 N0 ops Q i (o :: rest) S := by
  rintro D a w hD ⟨μ, hr⟩
  refine wpList_plain hg fun K hK => ?_
  have hfv := hr.evc hf rfl
  have hfe : a.eval f = .func (.func fid) #[] #[] := by
    generalize a.eval f = y at hfv
    cases hfv with
    | pur hfv => cases hfv with
      | fn => rfl
  obtain ⟨h1, h2⟩ := args_spec hr rfl ha
  obtain ⟨h3, h4⟩ := views_spec hp
  unfold Oper.wp
  rw [run_call_fn ho hfe hfn hb hn]
  have hcall := hc w N0 (args.toList.map a.eval) (fun b hb => Nat.lt_of_lt_of_le (hr.n0.1 b hb).1 hr.below.size) (by simp [h1, h3]) (fun j x v hx hv => by
    simp only [List.getElem?_map, Option.map_eq_some_iff] at hx
    obtain ⟨y, hy, rfl⟩ := hx
    have hj : j < vs.length := by rw [← h3]; exact (List.getElem?_eq_some_iff.1 hv).1
    exact hr.view (h2 j y vs[j] hy (List.getElem?_eq_getElem hj)) (h4 j vs[j] v (List.getElem?_eq_getElem hj) hv))
  have harr : (args.toList.map a.eval).toArray = args.map a.eval := by apply Array.ext'; simp
  rw [harr] at hcall
  refine hcall.mono ?_
  rintro e w' ⟨x, r, rfl, hR, hpx, hbw⟩
  obtain ⟨hlt, S', hs, hrest⟩ := h r hR
  exact hK _ _ (hrest D _ w' (fun j hj => Nat.lt_succ_of_lt (hD j hj)) ⟨μ, (hr.later hbw).putv hs (.pur (hpx.of_light hlt))⟩)


/-- What the results of a function are in a state. -/
def aresult (P : Program) (S : AS) : ResultVar → Option V
  | .tmp t => S.evc true (.tmp t)
  | .cell t ty => match S.evc true (.tmp t) with
    | some p => match S.place p, tsz P ty, tagg P ty with
      | some (e, off), some n, some g => e.part off n g
      | _, _, _ => none
    | none => none
def aresultsL (P : Program) (S : AS) : List ResultVar → Option (List V)
  | [] => some []
  | r :: rs => match aresult P S r, aresultsL P S rs with
    | some v, some vs => match S.view v with
      | some u => some (u :: vs)
      | none => none
    | _, _ => none
def aresults (P : Program) (S : AS) (rs : List ResultVar) : Option V :=
  match aresultsL P S rs with
  | some [v] => some v
  | some vs => some (.tup vs)
  | none => none

/-- What must hold where a body ends. -/
def Ends (P : Program) (fn : Func) (R : V → Prop) (e : Exit) (S : AS) : Prop :=
  match e with
  | .ret | .normal => match aresults P S fn.results.toList with | some r => R r | none => False
  | _ => False

/-- A result of a function as the model reads it. -/
def resSem (tmps : Array Value) : ResultVar → Sem Value
  | .tmp t => pure (tmps.getD t undef)
  | .cell b t => do loadVar t (← asAddr (tmps.getD b undef))
theorem results_eq (fn : Func) (tmps : Array Value) : results fn tmps = (do let vs ← fn.results.mapM (resSem tmps); pure (if h : vs.size = 1 then vs[0] else .tuple vs)) := rfl

theorem aresult_run {D : Nat → Prop} {μ : Mu} {a : Act} {w : World} (h : RelM D w0 N0 μ S a w) {r : ResultVar} {v : V} (hv : aresult P S r = some v) :
    ∃ x, (resSem a.tmps r).run P w = .ok x w ∧ Enc w (Own N0 μ S) μ x v := by
  cases r with
  | tmp t => exact ⟨_, rfl, h.evc hv rfl⟩
  | cell t ty =>
    simp only [aresult] at hv
    split at hv
    case h_2 => cases hv
    rename_i p hp
    split at hv
    case h_2 => cases hv
    rename_i e off n g h1 h2 h3
    obtain ⟨ad, sz, hx, hf, hc⟩ := h.place h1 (h.evc hp rfl)
    obtain ⟨y, hy, hey⟩ := run_loadVar (P := P) h2 h3 hf hc hv
    have hx' : a.tmps.getD t undef = .pointer (some (ad.add off)) := hx
    exact ⟨y, by simp only [resSem, hx', Sem.run_bind, asAddr, Sem.run_pure, Result.andThen_ok, hy], hey⟩

theorem aresults_run {D : Nat → Prop} {μ : Mu} {a : Act} {w : World} (h : RelM D w0 N0 μ S a w) {fn : Func} {r : V} (hv : aresults P S fn.results.toList = some r) : ∃ x, (results fn a.tmps).run P w = .ok x w ∧ Pur w N0 x r := by
  have key : ∀ (l : List ResultVar) (vs : List V), aresultsL P S l = some vs → ∃ xs : List Value, (l.mapM (resSem a.tmps)).run P w = .ok xs w ∧
      xs.length = vs.length ∧ ∀ (i : Nat) x v, xs[i]? = some x → vs[i]? = some v → Pur w N0 x v := by
    intro l
    induction l with
    | nil => intro vs hvs; simp only [aresultsL, Option.some.injEq] at hvs; subst hvs; exact ⟨[], rfl, rfl, by simp⟩
    | cons q l ih =>
      intro vs hvs
      simp only [aresultsL] at hvs
      split at hvs
      case h_2 => cases hvs
      rename_i v vs' h1 h2
      split at hvs
      case h_2 => cases hvs
      rename_i u hu
      injection hvs with hvs
      subst hvs
      obtain ⟨x, hx, hex⟩ := aresult_run h h1
      obtain ⟨xs, hxs, hl, hh⟩ := ih vs' h2
      refine ⟨x :: xs, ?_, by simp [hl], fun i y v hy hv => ?_⟩
      · rw [List.mapM_cons, Sem.run_bind, hx, Result.andThen_ok, Sem.run_bind, hxs, Result.andThen_ok]
        rfl
      · rcases i with _ | i
        · simp at hy hv; subst hy; subst hv; exact h.view hex hu
        · simp at hy hv; exact hh i y v hy hv
  unfold aresults at hv
  have hmap : ∀ xs : List Value, (fn.results.toList.mapM (resSem a.tmps)).run P w = .ok xs w →
      (results fn a.tmps).run P w = .ok (if h : xs.toArray.size = 1 then xs.toArray[0] else .tuple xs.toArray) w := by
    intro xs hxs
    rw [results_eq, Sem.run_bind, Array.mapM_eq_mapM_toList, Sem.run_map, hxs]
    rfl
  split at hv
  · rename_i v hvs
    injection hv with hv
    subst hv
    obtain ⟨xs, h1, h2, h3⟩ := key _ _ hvs
    match xs, h2 with
    | [x], _ => exact ⟨x, hmap [x] h1, h3 0 x _ rfl rfl⟩
  · rename_i vs hne hvs
    injection hv with hv
    subst hv
    obtain ⟨xs, h1, h2, h3⟩ := key _ _ hvs
    refine ⟨.tuple xs.toArray, ?_, .tup xs vs h2 h3⟩
    rw [hmap xs h1]
    have : ¬ xs.toArray.size = 1 := by
      intro h0
      have hl : vs.length = 1 := by simp at h0; omega
      match vs, hl with
      | [v], _ => exact hne v rfl
    rw [dif_neg this]
  · cases hv

def env0 : Nat → List V → List (Nat × V)
  | _, [] => []
  | i, v :: vs => (i, v) :: env0 (i + 1) vs

theorem get_env0 : ∀ {vs : List V} {i t : Nat} {v : V}, get (env0 i vs) t = some v → i ≤ t ∧ vs[t - i]? = some v
  | [], i, t, v, h => by simp [env0, get] at h
  | u :: vs, i, t, v, h => by
    simp only [env0, get_cons] at h
    split at h
    · rename_i he
      injection h with h
      subst h; subst he
      exact ⟨Nat.le_refl _, by simp⟩
    · rename_i he
      obtain ⟨h1, h2⟩ := get_env0 h
      refine ⟨by omega, ?_⟩
      rw [show t - i = (t - (i + 1)) + 1 by omega]
      simpa using h2

/-- A contract from the body. -/
theorem ac_intro {f : FuncId} {fn : Func} {c : Code} {args : List V} {R : V → Prop} (hf : P.funcs[f]? = some fn) (hb : fn.body = some c) (hl : args.length ≤ fn.ntmps)
    (h : ∀ w0 N0, AW P w0 N0 c (Ends P fn R) ⟨env0 0 args, [], 0, fn.ntmps⟩) : AC P f args R := by
  intro w N xs hN hlen hp
  refine calls_of_wp hf hb (wp_mono (h ⟨w, fun _ => False, fun _ _ => none, []⟩ N _ w ⟨fun _ _ => none, ⟨rfl, ?_, Bs.Below.refl _, ⟨fun b hb => ⟨hN b hb, fun h => h⟩, fun _ _ _ h => by cases h⟩, fun d v hv => absurd rfl hv, fun d o hd => ?_, fun d o _ _ _ _ _ hd => ?_, fun t v hv => ?_⟩⟩) ?_)
  · simp only [Array.size_append, List.size_toArray, Array.size_replicate]; omega
  · simp [get] at hd
  · simp [get] at hd
  · obtain ⟨_, h2⟩ := get_env0 hv
    simp only [Nat.sub_zero] at h2
    have ht : t < args.length := (List.getElem?_eq_some_iff.1 h2).1
    refine ⟨by simp only; omega, .pur ?_⟩
    have hx : xs[t]? = some xs[t] := List.getElem?_eq_getElem (by omega)
    have := hp t xs[t] v hx h2
    have hget : (xs.toArray ++ Array.replicate (fn.ntmps - xs.toArray.size) undef).getD t undef = xs[t] := by
      rw [Array.getD_eq_getD_getElem?, Array.getElem?_append_left (by simp; omega)]
      simp [hx]
    rw [hget]
    exact this.keep (Keeps.refl _ _) (fun b hb ho => by
      rcases ho with h0 | ⟨d, o, c, h1, _⟩
      · exact h0
      · simp [get] at h1)
  · rintro e a' w' ⟨S', hE, ⟨μ, hr⟩⟩
    have key : (match aresults P S' fn.results.toList with | some r => R r | none => False) → ∃ v, (results fn a'.tmps).run P w' = .ok v w' ∧ ∃ x r, Ending.returned v = .returned x ∧ R r ∧ Pur w' N x r ∧ Below w.heap.size w w' := by
      intro hk
      split at hk
      · rename_i r hres
        obtain ⟨x, hx, hpx⟩ := aresults_run hr hres
        exact ⟨x, hx, x, r, rfl, hk, hpx, hr.below.plain⟩
      · exact hk.elim
    cases e with
    | ret => exact ⟨hr.defers, key hE⟩
    | normal => exact ⟨hr.defers, key hE⟩
    | _ => exact hE.elim

/-- Keeps the named slots and objects. -/
def keepL {α : Type} (l : List (Nat × α)) : List Nat → List (Nat × α)
  | [] => []
  | t :: r => match get l t with
    | some v => (t, v) :: keepL l r
    | none => keepL l r

theorem get_keepL {α : Type} {l : List (Nat × α)} : ∀ {L : List Nat} {t : Nat} {v : α}, get (keepL l L) t = some v → get l t = some v
  | [], t, v, h => by simp [keepL, get] at h
  | k :: L, t, v, h => by
    simp only [keepL] at h
    split at h
    · rename_i u hu
      rw [get_cons] at h
      split at h
      · rename_i e
        subst e
        rw [hu]; exact h
      · exact get_keepL h
    · exact get_keepL h

def AS.keep (S : AS) (L M : List Nat) : AS := { S with env := keepL S.env L, objs := keepL S.objs M }

theorem le_of_get {S S' : AS} (hnt : S'.nt = S.nt) (hnx : S.nx ≤ S'.nx) (he : ∀ t v, get S'.env t = some v → get S.env t = some v) (ho : ∀ d o, get S'.objs d = some o → get S.objs d = some o) : S.le S' := by
  rintro w0 N0 a w ⟨μ, hr⟩
  have hsub : ∀ b, b < w.heap.size → Own N0 μ S' b → Own N0 μ S b := by
    rintro b _ (h0 | ⟨d, o, c, h1, h2⟩)
    · exact .inl h0
    · exact .inr ⟨d, o, c, ho d o h1, h2⟩
  have hk := Keeps.refl w (Own N0 μ S)
  refine ⟨μ, ⟨hr.defers, by rw [hnt]; exact hr.size, hr.below, hr.n0, fun d v hv => ?_, fun d o hd => ?_, fun d o d' o' g c c' h1 h2 => hr.inj d o d' o' g c c' (ho _ _ h1) (ho _ _ h2), fun t v hv => ?_⟩⟩
  · rcases hr.fresh d v hv with h1 | ⟨j, hj, _⟩
    · exact .inl (by omega)
    · exact hj.elim
  · obtain ⟨l, hl, hob⟩ := hr.objs d o (ho _ _ hd)
    exact ⟨l, hl, hob.keep hk hsub (fun _ _ _ hh => hh) (fun _ _ _ => rfl)⟩
  · obtain ⟨h1, h2⟩ := hr.env t v (he _ _ hv)
    exact ⟨by rw [hnt]; exact h1, h2.keep hk hsub (fun _ _ _ hh => hh)⟩

theorem le_keep (S : AS) (L M : List Nat) : S.le (S.keep L M) := le_of_get rfl (Nat.le_refl _) (fun _ _ h => get_keepL h) (fun _ _ h => get_keepL h)
theorem AS.le_refl (S : AS) : S.le S := fun _ _ _ _ h => h
theorem AS.le_trans {S S1 S2 : AS} (h : S.le S1) (k : S1.le S2) : S.le S2 := fun _ _ _ _ hr => k _ _ _ _ (h _ _ _ _ hr)

end
end Go.Eng

namespace Go.Eng

attribute [simp] bytesV assertV V.flat1 V.flat2 runOpsK astepK eqC eqL AS.fb nth runOps astep aval aeff acore AS.evc AS.ev get constV AS.place V.part V.cells AS.putv abin aint isShift ashift astr aun AS.gd AS.evs AS.evo abounds afill tplace cellOk asets AS.elems V.setPart
attribute [simp] V.still V.pl V.plA V.pcell pcells dmV AS.viewC AS.viewL AS.view AS.views AS.args V.pureV V.pureE V.pureC V.isCell keepL AS.keep aresult aresultsL aresults env0 V.light V.flat

def AS.bump (S : AS) (n : Nat) : AS := { S with nx := S.nx + n }
attribute [simp] AS.bump

/-- A region without a call, and what is kept behind it. -/
def runRK (P : Program) (kb : Nat) (l : List Oper) (L M : List Nat) (S : AS) : Option AS :=
  match runOpsK P kb l 0 l S with
  | some S' => some ((S'.bump l.length).keep L M)
  | none => none
def runR (P : Program) (l : List Oper) (L M : List Nat) (S : AS) : Option AS := runRK P 0 l L M S
attribute [simp] runR runRK

section
variable {P : Program} {w0 : Bs} {N0 : Nat → Prop} {Q : Exit → AS → Prop} {S : AS}

theorem awk_one {id : Nat} {l : List Oper} {S' : AS} (kb : Nat) (L M : List Nat) (hs : runRK P kb l L M S = some S') (h : Q .normal S') : AW P w0 N0 (.region id l.toArray false) Q S := by
  unfold runRK at hs
  split at hs
  case h_2 => cases hs
  rename_i S1 h1
  injection hs with hs
  subst hs
  intro a w hr
  refine wp_mono (aw_region (Q := fun e T => e = .normal ∧ T = S1.bump l.length) (id := id) (awl_runK h1 ⟨rfl, by simp [AS.bump]⟩) a w hr) ?_
  rintro e a' w' ⟨T, ⟨rfl, rfl⟩, hR⟩
  exact ⟨_, h, le_keep _ L M _ _ _ _ hR⟩

theorem aw_one {id : Nat} {l : List Oper} {S' : AS} (L M : List Nat) (hs : runR P l L M S = some S') (h : Q .normal S') : AW P w0 N0 (.region id l.toArray false) Q S := awk_one 0 L M hs h
theorem awk_step {id : Nat} {l : List Oper} {rest : Code} {S' : AS} (kb : Nat) (L M : List Nat) (hs : runRK P kb l L M S = some S') (h : AW P w0 N0 rest Q S') : AW P w0 N0 (.seq (.region id l.toArray false) rest) Q S :=
  aw_seq (awk_one kb L M hs h)
theorem aw_step {id : Nat} {l : List Oper} {rest : Code} {S' : AS} (L M : List Nat) (hs : runR P l L M S = some S') (h : AW P w0 N0 rest Q S') : AW P w0 N0 (.seq (.region id l.toArray false) rest) Q S :=
  aw_seq (aw_one L M hs h)

/-- if, with something behind it. -/
theorem aw_if {c : Operand} {x y rest : Code} {t : Bool} (hc : S.evc true c = some (.bool t)) (ht : t = true → AW P w0 N0 x (ethen (AW P w0 N0 rest Q) Q) S) (hf : t = false → AW P w0 N0 y (ethen (AW P w0 N0 rest Q) Q) S) : AW P w0 N0 (.seq (.cond c x y) rest) Q S :=
  aw_seq (aw_cond hc ht hf)

/-- if without else. -/
theorem aw_if1 {c : Operand} {x rest : Code} {t : Bool} (hc : S.evc true c = some (.bool t)) (ht : t = true → AW P w0 N0 x (ethen (AW P w0 N0 rest Q) Q) S) (hf : t = false → AW P w0 N0 rest Q S) : AW P w0 N0 (.seq (.cond c x .skip) rest) Q S :=
  aw_seq (aw_cond hc ht (fun h => aw_skip (hf h)))

theorem aw_keep {c : Code} (L M : List Nat) {S' : AS} (hS : S.keep L M = S') (h : AW P w0 N0 c Q S') : AW P w0 N0 c Q S := by
  subst hS
  exact aw_le (le_keep S L M) h


theorem ends_ret {fn : Func} {R : V → Prop} {r : V} (hr : aresults P S fn.results.toList = some r) (h : R r) : Ends P fn R .ret S := by
  unfold Ends
  simp only [hr]
  exact h
theorem ends_normal {fn : Func} {R : V → Prop} {r : V} (hr : aresults P S fn.results.toList = some r) (h : R r) : Ends P fn R .normal S := by
  unfold Ends
  simp only [hr]
  exact h

/-- Continues with the first operation of a region (one that is no call). -/
theorem awl_run1 {ops : List Oper} {i : Nat} {o : Oper} {rest : List Oper} {S' : AS} (hs : astep P ops i o S = some S') (h : AWL P w0 N0 ops Q (i + 1) rest S') : AWL P w0 N0 ops Q i (o :: rest) S := awl_step hs h

theorem awl_nil_le {ops : List Oper} {i : Nat} {S' : AS} (hle : (S.bump i).le S') (h : Q .normal S') : AWL P w0 N0 ops Q i [] S := by
  intro D a w hD hr
  obtain ⟨T, ⟨_, rfl⟩, hT⟩ := awl_nil (P := P) (w0 := w0) (N0 := N0) (ops := ops) (i := i) (S := S) (Q := fun e T => e = .normal ∧ T = S.bump i) ⟨rfl, rfl⟩ D a w hD hr
  exact wpList_nil ⟨S', h, hle _ _ _ _ hT⟩

theorem awl_run_le {kb : Nat} {ops : List Oper} : ∀ {l : List Oper} {i : Nat} {S S1 S' : AS}, runOpsK P kb ops i l S = some S1 → (S1.bump (i + l.length)).le S' → Q .normal S' → AWL P w0 N0 ops Q i l S
  | [], i, S, S1, S', hs, hle, h => by
    simp only [runOpsK, Option.some.injEq] at hs
    subst hs
    exact awl_nil_le hle h
  | o :: rest, i, S, S1, S', hs, hle, h => by
    simp only [runOpsK] at hs
    split at hs
    case h_2 => cases hs
    rename_i S2 h1
    refine awl_stepK h1 (awl_run_le hs ?_ h)
    rw [show i + 1 + rest.length = i + (o :: rest).length by simp; omega]
    exact hle

/-- The rest of a region without a call. -/
theorem awlk_end {ops l : List Oper} {i : Nat} {S' : AS} (kb : Nat) (L M : List Nat) (hs : (match runOpsK P kb ops i l S with | some S1 => some ((S1.bump (i + l.length)).keep L M) | none => none) = some S') (h : Q .normal S') : AWL P w0 N0 ops Q i l S := by
  split at hs
  case h_2 => cases hs
  rename_i S1 h1
  injection hs with hs
  subst hs
  exact awl_run_le h1 (le_keep _ L M) h

theorem awl_end {ops l : List Oper} {i : Nat} {S' : AS} (L M : List Nat) (hs : (match runOps P ops i l S with | some S1 => some ((S1.bump (i + l.length)).keep L M) | none => none) = some S') (h : Q .normal S') : AWL P w0 N0 ops Q i l S := awlk_end 0 L M hs h

theorem awl_app {kb : Nat} {ops : List Oper} : ∀ {l1 l2 : List Oper} {i : Nat} {S S1 : AS}, runOpsK P kb ops i l1 S = some S1 → AWL P w0 N0 ops Q (i + l1.length) l2 S1 → AWL P w0 N0 ops Q i (l1 ++ l2) S
  | [], l2, i, S, S1, hs, h => by
    simp only [runOpsK, Option.some.injEq] at hs
    subst hs
    exact h
  | o :: rest, l2, i, S, S1, hs, h => by
    simp only [runOpsK] at hs
    split at hs
    case h_2 => cases hs
    rename_i S2 h1
    refine awl_stepK h1 (awl_app hs ?_)
    rw [show i + 1 + rest.length = i + (o :: rest).length by simp; omega]
    exact h

/-- The first n operations of a region, none of them a call. -/
theorem awlk_go {ops l : List Oper} {i : Nat} {S1 : AS} (kb n : Nat) (hs : runOpsK P kb ops i (l.take n) S = some S1) (h : AWL P w0 N0 ops Q (i + (l.take n).length) (l.drop n) S1) : AWL P w0 N0 ops Q i l S := by
  have := awl_app (l2 := l.drop n) hs h
  rwa [List.take_append_drop] at this

theorem awl_go {ops l : List Oper} {i : Nat} {S1 : AS} (n : Nat) (hs : runOps P ops i (l.take n) S = some S1) (h : AWL P w0 N0 ops Q (i + (l.take n).length) (l.drop n) S1) : AWL P w0 N0 ops Q i l S := awlk_go 0 n hs h

/-- A call whose result is known. -/
theorem awl_call1 {ops : List Oper} {i : Nat} {o : Oper} {rest : List Oper} {f : Operand} {fid : FuncId} {fn : Func} {args : Array Operand} {ats : Array TypeId} {vs : List V} {res : V} {S' : AS}
    (hc : AC P fid vs (fun r => r = res)) (hfn : P.funcs[fid]? = some fn) (hb : fn.body.isSome = true) (hn : (fn.name == "runtime.NumGoroutine") = false)
    (hg : o.guard = none) (ho : o.op = .call { callee := .value f, args := args, argTypes := ats }) (hf : S.evc true f = some (.fn fid))
    (ha : S.args true args.toList = some vs) (hp : vs.all V.pureV = true) (hs : S.putv o.dst res = some S') (h : AWL P w0 N0 ops Q (i + 1) rest S') : AWL P w0 N0 ops Q i (o :: rest) S :=
  awl_call hg ho hf hfn hb hn ha hp hc (fun r hr => by subst hr; exact ⟨S', hs, h⟩)

/-- A call whose result is known, which reads slices of the call's own. -/
theorem awl_call1v {ops : List Oper} {i : Nat} {o : Oper} {rest : List Oper} {f : Operand} {fid : FuncId} {fn : Func} {args : Array Operand} {ats : Array TypeId} {vs us : List V} {res : V} {S' : AS}
    (hc : AC P fid us (fun r => r = res)) (hfn : P.funcs[fid]? = some fn) (hb : fn.body.isSome = true) (hn : (fn.name == "runtime.NumGoroutine") = false)
    (hg : o.guard = none) (ho : o.op = .call { callee := .value f, args := args, argTypes := ats }) (hf : S.evc true f = some (.fn fid))
    (ha : S.args true args.toList = some vs) (hp : S.views vs = some us) (hl : res.light = true) (hs : S.putv o.dst res = some S') (h : AWL P w0 N0 ops Q (i + 1) rest S') : AWL P w0 N0 ops Q i (o :: rest) S :=
  awl_call_view hg ho hf hfn hb hn ha hp hc (fun r hr => by subst hr; exact ⟨hl, S', hs, h⟩)
end
end Go.Eng

namespace Go.Eng
open Go.RowKit

/-- An operation that makes or writes memory. -/
def acts : Op → Bool
  | .alloc _ | .box .. | .buildSlice .. | .makeSlice .. | .store .. | .mapUpdate .. => true
  | .call { callee := .builtin .append, .. } => true
  | _ => false
/-- An operation that makes an object under its own slot's name. -/
def makes : Op → Bool
  | .alloc _ | .box .. | .buildSlice .. | .makeSlice .. => true
  | _ => false
/-- A write to a map. -/
def mapUp : Op → Bool
  | .mapUpdate .. => true
  | _ => false
def loads : Op → Bool
  | .load .. => true
  | _ => false

def AS.gv (S : AS) (ops : List Oper) (o : Oper) : Option Bool := match o.guard with | none => some true | some (j, want) => S.gd ops j want
def wrapG (o : Oper) (c : Bool) (v : V) : V := match o.guard with | none => v | some _ => .whn c v

/-- A contract in the worlds that come behind the call's own. -/
def ACB (w0 : Bs) (P : Program) (f : FuncId) (args : List V) (R : V → Prop) : Prop :=
  ∀ (w : World) (N : Nat → Prop) (xs : List Value), w0.Below w → (∀ b, N b → b < w.heap.size) → xs.length = args.length → (∀ (i : Nat) x v, xs[i]? = some x → args[i]? = some v → Pur w N x v) →
    Calls P f xs.toArray w (fun e w' => ∃ x r, e = .returned x ∧ R r ∧ Pur w' N x r ∧ Below w.heap.size w w')
theorem AC.b {w0 : Bs} {P : Program} {f : FuncId} {args : List V} {R : V → Prop} (h : AC P f args R) : ACB w0 P f args R := fun w N xs _ h1 h2 h3 => h w N xs h1 h2 h3
/-- A call by its contract, under a guard or not. -/
def CallStep (P : Program) (w0 : Bs) (ops : List Oper) (o : Oper) (S S' : AS) : Prop :=
  ∃ c f args ats fid fn vs res, S.gv ops o = some c ∧ o.op = .call { callee := .value f, args := args, argTypes := ats } ∧ S.evc c f = some (.fn fid) ∧ P.funcs[fid]? = some fn ∧ fn.body.isSome = true ∧ (fn.name == "runtime.NumGoroutine") = false ∧
    S.args c args.toList = some vs ∧ vs.all V.pureV = true ∧ (c = true → ACB w0 P fid vs (fun r => r = res)) ∧ S.putv o.dst (wrapG o c res) = some S'

def mapK {α β : Type} (f : α → β) : List (Nat × α) → List (Nat × β)
  | [] => []
  | (k, x) :: r => (k, f x) :: mapK f r
theorem get_mapK' {α β : Type} (f : α → β) (t : Nat) : ∀ (l : List (Nat × α)), get (mapK f l) t = (get l t).map f
  | [] => rfl
  | (k, x) :: r => by
    unfold mapK
    rw [get_cons, get_cons, get_mapK' f t r]
    split <;> rfl
/-- The map of block b holds m from now on. -/
def V.mset (b : Nat) (k : IntKind) (m : List (Int × V)) : V → V
  | .mp b' k' m' => if b' = b then .mp b' k m else .mp b' k' m'
  | .rm b' k' m' => if b' = b then .rm b' k m else .rm b' k' m'
  | u => u
def V.okM1 : V → Bool
  | .mp .. | .tup _ | .whn _ _ | .rm .. => false
  | .fc _ us vs => us.all V.still && vs.all V.still
  | _ => true
/-- Maps lie in slots of their own alone. -/
def V.okM : V → Bool
  | .tup vs => vs.all V.okM1
  | .whn _ (.tup vs) => vs.all V.okM1
  | .whn _ v => v.okM1
  | .mp .. | .rm .. => true
  | v => v.okM1
def okMs : List (Nat × V) → Bool
  | [] => true
  | (_, v) :: r => v.okM && okMs r
/-- A write to a map of the call's own. -/
def MapStep (P : Program) (w0 : Bs) (o : Oper) (S S' : AS) : Prop :=
  ∃ t m x v b k es a u e, o.guard = none ∧ o.dst = none ∧ o.op = .mapUpdate t m x v ∧ S.evc true m = some (.mp b k es) ∧ S.evc true x = some (.int k a) ∧ S.evc true v = some u ∧ u.flat0 = true ∧ tmap P t = some (k, e) ∧ w0.free b ∧
    (∀ t v, get S.env t = some v → v.okM = true) ∧ S' = { S with env := mapK (V.mset b k ((a, u) :: es)) S.env }
def Step (P : Program) (kb : Nat) (w0 : Bs) (ops : List Oper) (i : Nat) (o : Oper) (S S' : AS) : Prop := astepK P kb ops i o S = some S' ∨ CallStep P w0 ops o S S' ∨ MapStep P w0 o S S'

section
variable {P : Program} {kb : Nat} {w0 : Bs} {N0 : Nat → Prop} {Q : Exit → AS → Prop}

theorem okM1_cell {v : V} (h : v.isCell = true) : v.okM1 = true := by cases v <;> first | rfl | exact h | simp [V.isCell] at h
theorem okM1_still {v : V} (h : v.still = true) : v.okM1 = true := by cases v <;> first | rfl | simp [V.still] at h

/-- A world in which one map has turned. -/
structure MapTurn (w w' : World) (b : Nat) : Prop where
  was : ∃ es clock, w.heap[b]? = some (.map es clock)
  size : w'.heap.size = w.heap.size
  other : ∀ k, k ≠ b → w'.heap[k]? = w.heap[k]?

theorem MapTurn.cell {w w' : World} {b : Nat} (h : MapTurn w w' b) {ad : Addr} {x : Value} (hx : w.cell? ad = some x) : w'.cell? ad = some x ∧ ad.block ≠ b := by
  have hne : ad.block ≠ b := by
    rintro rfl
    obtain ⟨es, clock, hb⟩ := h.was
    simp [World.cell?, hb] at hx
  exact ⟨by rw [World.cell?_of_block (w := w) (h.other _ hne)]; exact hx, hne⟩

theorem Pur.mapTurn {w w' : World} {b : Nat} (h : MapTurn w w' b) {N : Nat → Prop} {x : Value} {v : V} (hx : Pur w N x v) : v.okM1 = true → Pur w' N x v := by
  induction hx with
  | bool b => intro _; exact .bool b
  | int k n => intro _; exact .int k n
  | str l => intro _; exact .str l
  | agg xs cs hl hc _ ih => intro _; exact .agg xs cs hl hc (fun i x c h1 h2 => ih i x c h1 h2 (okM1_cell (hc c (List.mem_of_getElem? h2))))
  | tup => intro hk; simp [V.okM1] at hk
  | ro A ad n cap sz es g hn hcap hmax hA hf hc _ ih =>
    intro _
    refine .ro A ad n cap sz es g hn hcap hmax (fun h0 => ?_) hf (fun k e j c he hj => (h.cell (hc k e j c he hj)).1) (fun k e j c he hj => ih k e j c he hj (okM1_cell ((hf e (List.mem_of_getElem? he)).2 c (List.mem_of_getElem? hj))))
    obtain ⟨h1, h2, h3⟩ := hA h0
    exact ⟨h1, by rw [h.size]; exact h2, h3⟩
  | nils A => intro _; exact .nils A
  | rp ad sz e g hb hN' hf hc _ ih =>
    intro _
    exact .rp ad sz e g (by rw [h.size]; exact hb) hN' hf (fun j c hj => (h.cell (hc j c hj)).1) (fun j c hj => ih j c hj (okM1_cell (hf.2 c (List.mem_of_getElem? hj))))
  | fn f => intro _; exact .fn f
  | nilp => intro _; exact .nilp
  | nili => intro _; exact .nili
  | nilf => intro _; exact .nilf
  | ifc t x v hf hx _ => intro _; exact .ifc t x v hf (hx.of_flat2 hf)
  | mp => intro hk; simp [V.okM1] at hk
  | fc f xs ys us vs hl hm _ _ ih ik =>
    intro hk
    have hk' := Bool.and_eq_true_iff.1 hk
    exact .fc f xs ys us vs hl hm (fun i x c h1 h2 => ih i x c h1 h2 (okM1_still (List.all_eq_true.1 hk'.1 c (List.mem_of_getElem? h2)))) (fun i x c h1 h2 => ik i x c h1 h2 (okM1_still (List.all_eq_true.1 hk'.2 c (List.mem_of_getElem? h2))))
  | dm t xs cs hl hc _ ih => intro _; exact .dm t xs cs hl hc (fun i x c h1 h2 => ih i x c h1 h2 (okM1_cell (hc c (List.mem_of_getElem? h2))))
  | rm => intro hk; simp [V.okM1] at hk

theorem Enc.mapTurn {w w' : World} {b : Nat} (h : MapTurn w w' b) {N : Nat → Prop} {μ : Mu} {x : Value} {v : V} (hx : Enc w N μ x v) : v.okM1 = true → Enc w' N μ x v := by
  induction hx with
  | pur hp => intro hk; exact .pur (hp.mapTurn h hk)
  | slr d v sz len g cap h1 h2 h3 => intro _; exact .slr d v sz len g cap h1 h2 h3
  | slv d v sz A h1 => intro _; exact .slv d v sz A h1
  | ss d v sz off len g c cap A h2 h3 h4 => intro _; exact .ss d v sz off len g c cap A h2 h3 h4
  | bp d v sz k off g cap h1 => intro _; exact .bp d v sz k off g cap h1
  | agg xs cs hl hc _ ih => intro _; exact .agg xs cs hl hc (fun i x c h1 h2 => ih i x c h1 h2 (okM1_cell (hc c (List.mem_of_getElem? h2))))
  | tup => intro hk; simp [V.okM1] at hk
  | ifc t x v hc _ ih => intro _; exact .ifc t x v hc (ih (okM1_cell hc))
  | clo f xs ys cs ds hl hm hc _ _ ih ik => intro _; exact .clo f xs ys cs ds hl hm hc (fun i x c h1 h2 => ih i x c h1 h2 (okM1_cell (hc c (.inl (List.mem_of_getElem? h2))))) (fun i x c h1 h2 => ik i x c h1 h2 (okM1_cell (hc c (.inr (List.mem_of_getElem? h2)))))
  | whn => intro hk; simp [V.okM1] at hk
  | mr d v g cap h1 => intro _; exact .mr d v g cap h1

theorem findA_modify {a c : Int} {u : Value} {k : IntKind} : ∀ {es : List MapEntry} {n : Nat} {p : Nat × Value}, findIx a es n = some p → findA c (es.modify (p.1 - n) (fun e => { e with key := .int k a, val := u })) = if c = a then some u else findA c es
  | [], n, p, h => by simp [findIx] at h
  | e :: r, n, p, h => by
    unfold findIx at h
    split at h
    · rename_i hk
      injection h with h
      subst h
      simp only [Nat.sub_self, List.modify_zero_cons, findA]
      have : keyI { e with key := .int k a, val := u } = a := rfl
      rw [this]
      by_cases hc : c = a
      · subst hc; simp
      · rw [if_neg (fun h => hc h.symm), if_neg hc, hk, if_neg (fun h => hc h.symm)]
    · rename_i hk
      have hle := (findIx_some h).2.1
      have ih := findA_modify (c := c) (u := u) (k := k) h
      rw [show p.1 - n = (p.1 - (n + 1)) + 1 by omega]
      simp only [List.modify_succ_cons, findA]
      rw [ih]
      by_cases hc : c = a
      · subst hc; simp [hk]
      · simp [hc]
theorem findA_push {a c : Int} {e : MapEntry} (he : keyI e = a) : ∀ {es : List MapEntry}, findA a es = none → findA c (es ++ [e]) = if c = a then some e.val else findA c es
  | [], _ => by
    simp only [List.nil_append, findA, he]
    by_cases hc : c = a
    · subst hc; simp
    · rw [if_neg (fun h => hc h.symm), if_neg hc]
  | x :: r, h => by
    unfold findA at h
    split at h
    · cases h
    · rename_i hx
      have ih := findA_push (c := c) he h
      simp only [List.cons_append, findA, ih]
      by_cases hc : c = a
      · subst hc; simp [hx]
      · simp [hc]

theorem findA_none_key {a : Int} : ∀ {es : List MapEntry}, findA a es = none → ∀ e ∈ es, keyI e ≠ a
  | [], _, e, he => by cases he
  | x :: r, h, e, he => by
    unfold findA at h
    split at h
    · cases h
    · rename_i hx
      rcases List.mem_cons.1 he with rfl | he
      · exact hx
      · exact findA_none_key h e he
theorem sameBits_int (k : IntKind) (a : Int) (n : Nat) : Instr.sameBits n (.int k a) (.int k a) = true := by
  cases n <;> simp [Instr.sameBits]

theorem mapUpdate_run {P : Program} {w : World} {N : Nat → Prop} {μ : Mu} {t e b : Nat} {k : IntKind} {m : List (Int × V)} {a : Int} {x y : Value} {uv : Value} {u : V} (hx : Enc w N μ x (.mp b k m)) (hy : Enc w N μ y (.int k a)) (hu : Enc w N μ uv u) (hf : u.flat0 = true) (ht : tmap P t = some (k, e)) :
    ∃ w', (Instr.mapUpdate t x y uv).run P w = .ok () w' ∧ MapTurn w w' b ∧ x = .map (some b) ∧ (∀ N', ¬ N' b → Pur w' N' x (.mp b k ((a, u) :: m))) ∧ w'.os = w.os ∧ w'.tape = w.tape ∧ w'.output = w.output := by
  obtain ⟨kt, hut, hk⟩ := tmap_spec ht
  have huv : ∀ w2 N2, Pur w2 N2 uv u := by
    intro w2 N2
    cases hu with
    | pur hu => exact hu.of_flat0 hf
    | _ => simp [V.flat0] at hf
  cases hy with
  | pur hy =>
  cases hy with
  | int =>
  cases hx with
  | pur hx =>
  cases hx with
  | mp _ _ _ es clock g hN hb hks hs hn hw hh =>
  have hfn := findNow_int (q := k) (a := a) es.toList 0 hks
  have turn : ∀ es' clock', MapTurn w { w with heap := w.heap.setIfInBounds b (.map es' clock') } b := fun es' clock' =>
    ⟨⟨es, clock, hb⟩, by simp, fun j hj => by simp [Array.getElem?_setIfInBounds]; intro h; exact absurd h.symm hj⟩
  have hblk : ∀ es' clock', ({ w with heap := w.heap.setIfInBounds b (.map es' clock') } : World).heap[b]? = some (.map es' clock') := fun es' clock' => by
    have hlt := (Array.getElem?_eq_some_iff.1 hb).1
    simp [Array.getElem?_setIfInBounds, hlt]
  have pur : ∀ (es' : Array MapEntry) clock' N', ¬ N' b → (∀ e ∈ es'.toList, ∃ a, e.key = .int k a) → (∀ c, findA c es'.toList = if c = a then some uv else findA c es.toList) → ((es'.toList.map (·.born)).Nodup ∧ (∀ e ∈ es'.toList, e.born < clock') ∧ (es'.toList.map keyI).Nodup) →
      Pur { w with heap := w.heap.setIfInBounds b (.map es' clock') } N' (.map (some b)) (.mp b k ((a, u) :: m)) := by
    intro es' clock' N' hN' hk' hfa hw'
    refine .mp b k _ es' clock' (fun c => if c = a then uv else g c) hN' (hblk es' clock') hk' (fun c v hc => ?_) (fun c hc => ?_) hw' (fun c v hc => ?_)
    · unfold assoc at hc
      rw [hfa]
      by_cases e : a = c
      · subst e
        simp only [if_true, Option.some.injEq] at hc
        subst hc
        simp [hf]
      · rw [if_neg e] at hc
        have := hs c v hc
        simp only [show ¬ c = a from fun h => e h.symm, if_false]
        exact this
    · unfold assoc at hc
      rw [hfa]
      by_cases e : a = c
      · subst e; simp at hc
      · rw [if_neg e] at hc
        rw [if_neg (fun h => e h.symm)]
        exact hn c hc
    · unfold assoc at hc
      by_cases e : a = c
      · subst e
        simp only [if_true, Option.some.injEq] at hc
        subst hc
        simp only [if_true]
        exact huv _ _
      · rw [if_neg e] at hc
        simp only [show ¬ c = a from fun h => e h.symm, if_false]
        exact (hh c v hc).of_flat0 (hs c v hc).2
  cases hp : findIx a es.toList 0 with
  | none =>
    rw [hp] at hfn
    have hf2 := MapKept.run_findKey (w := w) hk hfn
    have hA := findIx_none.1 hp
    refine ⟨_, ?_, turn (es.push { key := .int k a, val := uv, born := clock }) (clock + 1), rfl, fun N' hN' => pur _ _ N' hN' ?_ ?_ ?_, rfl, rfl, rfl⟩
    · unfold Instr.mapUpdate
      simp only [Sem.run_bind, run_underlying hut, Result.andThen_ok, MapKept.run_getObj_map hb, MapKept.run_checkKey hk (k := .int k a) (by simp [MapKept.IsKey]), hf2]
      exact MapKept.run_setObj_map _ hb
    · intro e he
      simp only [Array.toList_push, List.mem_append, List.mem_singleton] at he
      rcases he with he | rfl
      · exact hks e he
      · exact ⟨a, rfl⟩
    · intro c
      rw [Array.toList_push]
      exact findA_push rfl hA
    · rw [Array.toList_push]
      refine ⟨?_, fun e he => ?_, ?_⟩
      · rw [List.map_append, List.nodup_append]
        refine ⟨hw.1, by simp, fun x hx y hy => ?_⟩
        simp only [List.map_cons, List.map_nil, List.mem_singleton] at hy
        obtain ⟨e, he, rfl⟩ := List.mem_map.1 hx
        have := hw.2.1 e he
        omega
      · simp only [List.mem_append, List.mem_singleton] at he
        rcases he with he | rfl
        · exact Nat.lt_succ_of_lt (hw.2.1 e he)
        · exact Nat.lt_succ_self _
      · rw [List.map_append, List.nodup_append]
        refine ⟨hw.2.2, by simp, fun x hx y hy => ?_⟩
        simp only [List.map_cons, List.map_nil, List.mem_singleton] at hy
        obtain ⟨e, he, rfl⟩ := List.mem_map.1 hx
        intro hxy
        exact findA_none_key hA e he (hxy.trans hy)
  | some p =>
    rw [hp] at hfn
    have hf2 := MapKept.run_findKey (w := w) hk hfn
    obtain ⟨hA, _, e0, he0, hv0, hk0⟩ := findIx_some hp
    simp only [Nat.sub_zero] at he0
    obtain ⟨a0, ha0⟩ := hks e0 (List.mem_of_getElem? he0)
    have ha : a0 = a := by simpa [keyI, ha0] using hk0
    subst ha
    have hge : (es[p.1]?.map (·.key)).getD (.int k a0) = .int k a0 := by
      have : es[p.1]? = some e0 := by simpa using he0
      simp [this, ha0]
    have hstay : (Instr.keyThatStays (.int k a0) (.int k a0)).run P w = .ok (.int k a0) w := by
      unfold Instr.keyThatStays
      rw [sameBits_int]
      rfl
    refine ⟨_, ?_, turn (es.modify p.1 fun e => { e with key := .int k a0, val := uv }) clock, rfl, fun N' hN' => pur _ _ N' hN' ?_ ?_ ?_, rfl, rfl, rfl⟩
    · unfold Instr.mapUpdate
      simp only [Sem.run_bind, run_underlying hut, Result.andThen_ok, MapKept.run_getObj_map hb, MapKept.run_checkKey hk (k := .int k a0) (by simp [MapKept.IsKey]), hf2, hge, hstay]
      exact MapKept.run_setObj_map _ hb
    · intro e he
      rw [Array.toList_modify] at he
      obtain ⟨j, hj⟩ := List.getElem?_of_mem he
      rw [List.getElem?_modify] at hj
      cases hgj : es.toList[j]? with
      | none => rw [hgj] at hj; simp at hj
      | some e1 =>
        rw [hgj] at hj
        simp only [Option.map_eq_map, Option.map_some, Option.some.injEq] at hj
        split at hj
        · subst hj; exact ⟨a0, rfl⟩
        · subst hj; exact hks _ (List.mem_of_getElem? hgj)
    · intro c
      rw [Array.toList_modify]
      have := findA_modify (c := c) (u := uv) (k := k) hp
      simpa using this
    · rw [Array.toList_modify]
      have hm : (es.toList.modify p.1 fun e => { e with key := Value.int k a0, val := uv }).map (·.born) = es.toList.map (·.born) := by
        apply List.ext_getElem?
        intro i
        rw [List.getElem?_map, List.getElem?_map, List.getElem?_modify]
        cases es.toList[i]? with
        | none => rfl
        | some e => simp only [Option.map_eq_map, Option.map_some]; split <;> rfl
      have hm2 : (es.toList.modify p.1 fun e => { e with key := Value.int k a0, val := uv }).map keyI = es.toList.map keyI := by
        have he0' : es.toList[p.1]? = some e0 := by simpa using he0
        apply List.ext_getElem?
        intro i
        rw [List.getElem?_map, List.getElem?_map, List.getElem?_modify]
        cases hei : es.toList[i]? with
        | none => rfl
        | some e =>
          simp only [Option.map_eq_map, Option.map_some]
          split
          · rename_i hpi
            subst hpi
            rw [he0'] at hei
            injection hei with hei
            subst hei
            simp [keyI, ha0]
          · rfl
      refine ⟨by rw [hm]; exact hw.1, fun e he => ?_, by rw [hm2]; exact hw.2.2⟩
      have h1 : e.born ∈ es.toList.map (·.born) := by rw [← hm]; exact List.mem_map.2 ⟨e, he, rfl⟩
      obtain ⟨e', he', hee⟩ := List.mem_map.1 h1
      rw [← hee]
      exact hw.2.1 e' he'

theorem step_sound {S S' : AS} {D : Nat → Prop} {a : Act} {w : World} {ops : List Oper} {i : Nat} {o : Oper} (hr : RelD D w0 N0 S a w) (hi : ¬ D i) (hs : Step P kb w0 ops i o S S') {K : Act → World → Prop} {Q' : Exit → Act → World → Prop}
    (hK : ∀ a' w', RelD (fun j => D j ∨ j = i) w0 N0 S' a' w' → K a' w') :
    if Region.wanted o (yielded ops.toArray a.tmps) = true then o.wp P a w K Q' else K (a.put o.dst undef) w := by
  obtain ⟨μ, hr⟩ := hr
  have hmore : ∀ {a' w'}, RelM D w0 N0 μ S' a' w' → RelD (fun j => D j ∨ j = i) w0 N0 S' a' w' := fun h => ⟨μ, h.more (fun j hj => .inl hj)⟩
  rcases hs with hs | ⟨c, f, args, ats, fid, fn, vs, res, hgv, ho, hf, hfn, hb, hn, ha, hp, hc, hs⟩ | ⟨t, m, x, v, b, k, es, q, u, e, hg, hd, ho, hm, hx, hv, hu, ht, hb0, hok, rfl⟩
  · unfold astepK at hs
    split at hs
    · rename_i hg
      have hw : Region.wanted o (yielded ops.toArray a.tmps) = true := by simp [Region.wanted, hg]
      rw [if_pos hw]
      split at hs
      · rename_i v hv
        obtain ⟨x, hx, hex⟩ := aval_run hr rfl hv
        unfold Oper.wp
        rw [hx]
        exact hK _ _ (hmore (hr.putv hs hex))
      · obtain ⟨x, w', hdo, hrel⟩ := aeff_run hr hi hs
        unfold Oper.wp
        rcases hdo with hx | ⟨hx, rfl⟩
        · rw [hx]; exact hK _ _ hrel
        · rw [hx]; exact hK _ _ hrel
    · rename_i j want hg
      split at hs
      case h_2 => cases hs
      rename_i c hc
      have hwc := gd_spec hr hg hc
      rw [hwc]
      split at hs
      · rename_i v hv
        cases c with
        | true =>
          rw [if_pos rfl]
          obtain ⟨x, hx, hex⟩ := aval_run hr rfl hv
          unfold Oper.wp
          rw [hx]
          exact hK _ _ (hmore (hr.putv hs (.whn _ _ _ (fun _ => hex) (fun hf => (by cases hf)))))
        | false =>
          rw [if_neg (by simp)]
          exact hK _ _ (hmore (hr.putv hs (.whn _ _ _ (fun hf => (by cases hf)) (fun _ => rfl))))
      · split at hs
        case isFalse => cases hs
        rename_i hcf
        obtain ⟨rfl, _⟩ := hcf
        rw [if_neg (by simp)]
        exact hK _ _ (hmore (hr.putv hs (.whn _ _ _ (fun hf => (by cases hf)) (fun _ => rfl))))
  · have hwc : Region.wanted o (yielded ops.toArray a.tmps) = c := by
      unfold AS.gv at hgv
      split at hgv
      · rename_i hg
        injection hgv with hgv
        subst hgv
        simp [Region.wanted, hg]
      · rename_i j want hg
        exact gd_spec hr hg hgv
    rw [hwc]
    cases c with
    | false =>
      rw [if_neg (by simp)]
      refine hK _ _ (hmore (hr.putv hs ?_))
      unfold wrapG
      split
      · rename_i hg
        simp [AS.gv, hg] at hgv
      · exact .whn _ _ _ (fun hf => (by cases hf)) (fun _ => rfl)
    | true =>
      rw [if_pos rfl]
      have hfv := hr.evc hf rfl
      have hfe : a.eval f = .func (.func fid) #[] #[] := by
        generalize a.eval f = y at hfv
        cases hfv with
        | pur hfv => cases hfv with
          | fn => rfl
      obtain ⟨h1, h2⟩ := args_spec hr rfl ha
      unfold Oper.wp
      rw [run_call_fn ho hfe hfn hb hn]
      have hcall := hc rfl w (Own N0 μ S) (args.toList.map a.eval) hr.below hr.own_lt (by simp [h1]) (fun j x v hx hv => by
        simp only [List.getElem?_map, Option.map_eq_some_iff] at hx
        obtain ⟨y, hy, rfl⟩ := hx
        exact (h2 j y v hy hv).pureV (List.all_eq_true.1 hp v (List.mem_of_getElem? hv)))
      have harr : (args.toList.map a.eval).toArray = args.map a.eval := by apply Array.ext'; simp
      rw [harr] at hcall
      refine hcall.mono ?_
      rintro e w' ⟨x, r, rfl, rfl, hpx, hbw⟩
      refine hK _ _ (hmore ((hr.later hbw).putv hs ?_))
      unfold wrapG
      split
      · exact .pur hpx
      · exact .whn _ _ _ (fun _ => .pur hpx) (fun hf => (by cases hf))

  · have hw : Region.wanted o (yielded ops.toArray a.tmps) = true := by simp [Region.wanted, hg]
    rw [if_pos hw]
    obtain ⟨w', hrun, hturn, hxe, hpur, ho1, ho2, ho3⟩ := mapUpdate_run (hr.evc hm rfl) (hr.evc hx rfl) (hr.evc hv rfl) hu ht
    have hNb : ¬ Own N0 μ S b := by
      have := hr.evc hm rfl
      rw [hxe] at this
      cases this with
      | pur hp => cases hp with
        | mp _ _ _ _ _ _ hN => exact hN
    unfold Oper.wp
    have hex : (execOp a.eval o).run P w = .ok .skip w' := by
      unfold execOp
      rw [ho]
      simp only [Sem.run_bind, hrun, Result.andThen_ok, Sem.run_pure]
    rw [hex]
    refine hK _ _ ⟨μ, ?_⟩
    have hput : a.put o.dst undef = a := by rw [hd]; rfl
    rw [hput]
    have hown : ∀ g, Own N0 μ { S with env := mapK (V.mset b k ((q, u) :: es)) S.env } g ↔ Own N0 μ S g := fun g => Iff.rfl
    refine ⟨hr.defers, hr.size, ⟨ho1.trans hr.below.os, ho2.trans hr.below.tape, ho3.trans hr.below.output, by rw [hturn.size]; exact hr.below.size, fun j hj hx => (hturn.other j (fun e => by subst e; rcases hb0 with h | h; omega; exact hx h)).trans (hr.below.block j hj hx)⟩, hr.n0, fun d v hv => (hr.fresh d v hv).imp id (fun ⟨j, hj, e⟩ => ⟨j, .inl hj, e⟩), fun d1 o1 h1 => ?_, hr.inj, fun t1 v1 h1 => ?_⟩
    · obtain ⟨l, hl, hobl⟩ := hr.objs d1 o1 h1
      refine ⟨l, hl, ?_⟩
      cases l with
      | none => exact hobl
      | some gc =>
        obtain ⟨b1, b2, b3, b4, arr, b5, b6, b7⟩ := hobl
        have hne : gc.1 ≠ b := by
          rintro rfl
          obtain ⟨es1, c1, hb1⟩ := hturn.was
          rw [b5] at hb1
          cases hb1
        refine ⟨b1, b2, b3, b4, arr, (hturn.other _ hne).trans b5, b6, fun k e j c he hj => ?_⟩
        obtain ⟨y, hy, hey⟩ := b7 k e j c he hj
        exact ⟨y, hy, hey.mapTurn hturn (okM1_cell ((b4 e (List.mem_of_getElem? he)).2 c (List.mem_of_getElem? hj)))⟩
    · simp only [get_mapK', Option.map_eq_some_iff] at h1
      obtain ⟨v0, h1, rfl⟩ := h1
      obtain ⟨h2, h3⟩ := hr.env t1 v0 h1
      refine ⟨h2, ?_⟩
      have hokv : v0.okM = true := hok t1 v0 h1
      generalize a.tmps.getD t1 undef = tv at h3
      cases v0 with
      | mp b' k' m' =>
        simp only [V.mset]
        cases h3 with
        | pur h3 =>
          cases h3 with
          | mp _ _ _ es2 cl2 g2 hN2 hb2 hk2 hs2 hn2 hw2 hh2 =>
            by_cases hbb : b' = b
            · subst hbb
              simp only [if_true]
              rw [← hxe]
              exact .pur (hpur _ hNb)
            · simp only [hbb, if_false]
              exact .pur (.mp b' k' m' es2 cl2 g2 hN2 ((hturn.other _ hbb).trans hb2) hk2 hs2 hn2 hw2 (fun c v hc => (hh2 c v hc).of_flat0 (hs2 c v hc).2))
      | rm b' k' m' =>
        simp only [V.mset]
        cases h3 with
        | pur h3 =>
          cases h3 with
          | rm ad _ _ _ hb3 hN3 hc3 h4 =>
          obtain ⟨hc4, _⟩ := hturn.cell hc3
          cases h4 with
          | mp _ _ _ es2 cl2 g2 hN2 hb2 hk2 hs2 hn2 hw2 hh2 =>
            by_cases hbb : b' = b
            · subst hbb
              simp only [if_true]
              refine .pur (.rm ad b' k _ (by rw [hturn.size]; exact hb3) hN3 hc4 ?_)
              have h5 := hpur _ hNb
              rw [hxe] at h5
              exact h5
            · simp only [hbb, if_false]
              exact .pur (.rm ad b' k' m' (by rw [hturn.size]; exact hb3) hN3 hc4 (.mp b' k' m' es2 cl2 g2 hN2 ((hturn.other _ hbb).trans hb2) hk2 hs2 hn2 hw2 (fun c v hc => (hh2 c v hc).of_flat0 (hs2 c v hc).2)))
      | tup vs =>
        simp only [V.mset]
        have key : ∀ xs : List Value, xs.length = vs.length → (∀ (i : Nat) x c, xs[i]? = some x → vs[i]? = some c → Enc w (Own N0 μ S) μ x c) → Enc w' (Own N0 μ S) μ (.tuple xs.toArray) (.tup vs) := fun xs hl hh =>
          .tup xs vs hl (fun i x c h1 h2 => (hh i x c h1 h2).mapTurn hturn (List.all_eq_true.1 hokv c (List.mem_of_getElem? h2)))
        cases h3 with
        | pur h3 => cases h3 with
          | tup xs _ hl hh => exact key xs hl (fun i x c a b => .pur (hh i x c a b))
        | tup xs _ hl hh => exact key xs hl hh
      | whn c0 v1 =>
        simp only [V.mset]
        cases h3 with
        | pur h3 => cases h3
        | whn _ _ _ hh hun =>
          refine .whn _ _ _ (fun hc0 => ?_) hun
          have h4 := hh hc0
          cases v1 with
          | tup vs =>
            have key : ∀ xs : List Value, xs.length = vs.length → (∀ (i : Nat) x c, xs[i]? = some x → vs[i]? = some c → Enc w (Own N0 μ S) μ x c) → Enc w' (Own N0 μ S) μ (.tuple xs.toArray) (.tup vs) := fun xs hl hh =>
              .tup xs vs hl (fun i x c h1 h2 => (hh i x c h1 h2).mapTurn hturn (List.all_eq_true.1 hokv c (List.mem_of_getElem? h2)))
            cases h4 with
            | pur h4 => cases h4 with
              | tup xs _ hl hh => exact key xs hl (fun i x c a b => .pur (hh i x c a b))
            | tup xs _ hl hh => exact key xs hl hh
          | _ => exact h4.mapTurn hturn (by first | rfl | exact hokv)
      | _ => exact h3.mapTurn hturn (by first | rfl | exact hokv)

/-- A step of a plain region, a guarded call among them. -/
theorem awl_st {S S' : AS} {ops : List Oper} {i : Nat} {o : Oper} {rest : List Oper} (hs : Step P kb w0 ops i o S S') (h : AWL P w0 N0 ops Q (i + 1) rest S') : AWL P w0 N0 ops Q i (o :: rest) S := by
  intro D a w hD hr
  have hi : ¬ D i := fun hd => absurd (hD i hd) (by omega)
  refine wpList_step fun K hK => step_sound hr hi hs (fun a' w' hr' => hK _ _ (h _ a' w' (fun j hj => ?_) hr'))
  rcases hj with hj | hj
  · have := hD j hj; omega
  · omega

/-- What an operation does to a state. -/
def AS.ap (S : AS) (dst : Option Nat) (u : V) (O : List (Nat × Ob)) : AS := { S with env := (match dst with | some d => (d, u) :: S.env | none => S.env), objs := O ++ S.objs }

theorem putv_ap {S S' : AS} {dst : Option Nat} {u : V} (h : S.putv dst u = some S') : S' = S.ap dst u [] ∧ ∀ d, dst = some d → d < S.nt := by
  unfold AS.putv at h
  split at h
  · split at h
    · rename_i hd
      injection h with h
      subst h
      exact ⟨rfl, fun d' hd' => by injection hd' with hd'; subst hd'; exact hd⟩
    · cases h
  · injection h with h
    subst h
    exact ⟨rfl, fun d hd => by cases hd⟩
theorem ap_putv {S : AS} {dst : Option Nat} (u : V) (h : ∀ d, dst = some d → d < S.nt) : S.putv dst u = some (S.ap dst u []) := by
  unfold AS.putv
  cases dst with
  | none => rfl
  | some d => simp only [h d rfl, if_true]; rfl

/-- Two states that look alike to an operation. -/
def Alike (ops : List Oper) (o : Oper) (S T : AS) : Prop := (∀ t ∈ o.looksAt ops.toArray, get S.env t = get T.env t) ∧ S.nt = T.nt ∧ S.nx = T.nx

theorem Alike.ev {ops : List Oper} {o : Oper} {S T : AS} (h : Alike ops o S T) {x : Operand} (hx : x ∈ o.op.operands) : S.ev x = T.ev x := by
  cases x with
  | tmp t =>
    refine h.1 t ?_
    unfold Oper.looksAt
    refine List.mem_append_left _ (List.mem_filterMap.2 ⟨.tmp t, by simpa using hx, rfl⟩)
  | _ => rfl
theorem Alike.evc {ops : List Oper} {o : Oper} {S T : AS} (h : Alike ops o S T) {x : Operand} (hx : x ∈ o.op.operands) (c : Bool) : S.evc c x = T.evc c x := by
  unfold AS.evc
  rw [h.ev hx]
theorem Alike.gv {ops : List Oper} {o : Oper} {S T : AS} (h : Alike ops o S T) : S.gv ops o = T.gv ops o := by
  unfold AS.gv
  split
  · rfl
  · rename_i j want hg
    unfold AS.gd
    cases ho : ops[j]? with
    | none => rfl
    | some oj =>
      simp only
      cases hd : oj.dst with
      | none => rfl
      | some d =>
        simp only
        have := h.1 d (by
          unfold Oper.looksAt
          refine List.mem_append_right _ ?_
          rw [hg]
          simp [ho, hd])
        rw [this]


theorem evs_congr {S T : AS} {c : Bool} : ∀ {l : List (Nat × Operand)}, (∀ p ∈ l, S.evc c p.2 = T.evc c p.2) → S.evs c l = T.evs c l
  | [], _ => rfl
  | (i, x) :: r, h => by
    simp only [AS.evs]
    rw [h (i, x) (by simp), evs_congr (fun p hp => h p (by simp [hp]))]
theorem args_congr {S T : AS} {c : Bool} : ∀ {l : List Operand}, (∀ x ∈ l, S.evc c x = T.evc c x) → S.args c l = T.args c l
  | [], _ => rfl
  | x :: r, h => by
    simp only [AS.args]
    rw [h x (by simp), args_congr (fun p hp => h p (by simp [hp]))]
theorem evo_congr {S T : AS} {c : Bool} {x : Option Operand} (h : ∀ y, x = some y → S.evc c y = T.evc c y) : S.evo c x = T.evo c x := by
  cases x with
  | none => rfl
  | some y => simp only [AS.evo]; rw [h y rfl]

theorem aval_congr {ops : List Oper} {o : Oper} {S T : AS} (h : Alike ops o S T) {c : Bool} {v : V} (hpl : loads o.op = true → ∀ p r, S.place p = some r → T.place p = some r) (hv : aval P S c o.op = some v) : aval P T c o.op = some v := by
  have he := fun x (hx : x ∈ o.op.operands) (c : Bool) => h.evc hx c
  clear h
  generalize o.op = op at *
  cases op <;> simp only [aval] at hv ⊢ <;> (try (cases hv; done))
  case move x => rw [← he x (by simp [Op.operands])]; exact hv
  case assign x => rw [← he x (by simp [Op.operands])]; exact hv
  case pick x y z => simp only [← he x (by simp [Op.operands]), ← he y (by simp [Op.operands]), ← he z (by simp [Op.operands])]; exact hv
  case load t x =>
    rw [← he x (by simp [Op.operands])]
    split at hv
    · exact hv
    · rename_i p hnr hp
      split at hv
      case h_2 => cases hv
      rename_i e off n g h1 h2 h3
      simp only [hpl rfl _ _ h1, h2, h3]
      exact hv
    · cases hv
  case nilCheck x => rw [← he x (by simp [Op.operands])]; exact hv
  case binOp op t x y yt => rw [← he x (by simp [Op.operands]), ← he y (by simp [Op.operands])]; exact hv
  case unOp op t x => rw [← he x (by simp [Op.operands])]; exact hv
  case convert src dst x => rw [← he x (by simp [Op.operands])]; exact hv
  case fieldAddr t x f => rw [← he x (by simp [Op.operands])]; exact hv
  case field t x f => rw [← he x (by simp [Op.operands])]; exact hv
  case indexAddr t x i => rw [← he x (by simp [Op.operands]), ← he i (by simp [Op.operands])]; exact hv
  case index t x i => rw [← he x (by simp [Op.operands]), ← he i (by simp [Op.operands])]; exact hv
  case extract x i => rw [← he x (by simp [Op.operands])]; exact hv
  case makeInterface t x => rw [← he x (by simp [Op.operands])]; exact hv
  case typeAssert x xt at_ ok => rw [← he x (by simp [Op.operands])]; exact hv
  case makeFunc fv first caps =>
    cases fv with
    | func f =>
      simp only at hv ⊢
      rw [← args_congr (S := S) (T := T) (c := c) (l := first.toList) (fun x hx => he x (by simp [Op.operands]; left; simpa using hx) c), ← args_congr (S := S) (T := T) (c := c) (l := caps.toList) (fun x hx => he x (by simp [Op.operands]; right; simpa using hx) c)]
      exact hv
    | _ => simp only at hv; cases hv
  case lookup t x i ok => rw [← he x (by simp [Op.operands]), ← he i (by simp [Op.operands])]; exact hv
  case slice t x lo hi mx =>
    cases mx with
    | some m => simp only at hv; cases hv
    | none =>
      simp only at hv ⊢
      rw [← he x (by simp [Op.operands]), ← evo_congr (S := S) (T := T) (c := c) (x := lo) (fun y hy => he y (by simp [Op.operands, hy]) c), ← evo_congr (S := S) (T := T) (c := c) (x := hi) (fun y hy => he y (by simp [Op.operands, hy]) c)]
      exact hv
  case build t parts =>
    rw [← evs_congr (S := S) (T := T) (c := c) (l := parts.toList) (fun p hp => he p.2 (by simp [Op.operands]; exact ⟨p.1, by simpa using hp⟩) c)]
    exact hv
  case call cl =>
    obtain ⟨callee, args, argTypes⟩ := cl
    cases callee with
    | value f => cases hv
    | invoke r m => cases hv
    | builtin b =>
    cases b <;> simp only at hv ⊢ <;> try (cases hv; done)
    case min =>
      split at hv
      case h_2 => cases hv
      rename_i x y ha
      rw [← he x (by simp [Op.operands, Call.operands]; rw [← Array.mem_toList_iff, ha]; simp), ← he y (by simp [Op.operands, Call.operands]; rw [← Array.mem_toList_iff, ha]; simp)]
      exact hv
    case max =>
      split at hv
      case h_2 => cases hv
      rename_i x y ha
      rw [← he x (by simp [Op.operands, Call.operands]; rw [← Array.mem_toList_iff, ha]; simp), ← he y (by simp [Op.operands, Call.operands]; rw [← Array.mem_toList_iff, ha]; simp)]
      exact hv
    split at hv
    case h_2 => cases hv
    rename_i x t ha ht
    rw [← he x (by simp [Op.operands, Call.operands]; rw [← Array.mem_toList_iff, ha]; simp)]
    exact hv

theorem Alike.symm {ops : List Oper} {o : Oper} {S T : AS} (h : Alike ops o S T) : Alike ops o T S := ⟨fun t ht => (h.1 t ht).symm, h.2.1.symm, h.2.2.symm⟩

theorem aval_none {ops : List Oper} {o : Oper} {S T : AS} (h : Alike ops o S T) {c : Bool} (hfb : S.fb c o.op = true) (hv : aval P S c o.op = none) : aval P T c o.op = none ∧ T.fb c o.op = true := by
  cases hl : loads o.op with
  | false =>
    refine ⟨?_, ?_⟩
    · cases hT : aval P T c o.op with
      | none => rfl
      | some v =>
        have := aval_congr h.symm (fun h0 => by rw [hl] at h0; cases h0) hT
        rw [hv] at this
        cases this
    · generalize o.op = op at *
      cases op <;> first | rfl | simp [loads] at hl
  | true =>
    have he := fun x (hx : x ∈ o.op.operands) (c : Bool) => h.evc hx c
    generalize o.op = op at *
    cases op <;> first | (simp [loads] at hl; done) | skip
    case load t x =>
    have hx := he x (by simp [Op.operands]) c
    simp only [AS.fb] at hfb ⊢
    simp only [aval]
    rw [← hx]
    refine ⟨?_, hfb⟩
    split
    · rename_i b k m hp
      simp only [aval, hp] at hv
      exact hv
    · rename_i p hnr hp
      rw [hp] at hfb
      cases p <;> first | (simp at hfb; done) | rfl | exact absurd rfl (hnr _ _ _)
    · rfl

theorem elems_congr {S T : AS} (h : ∀ d, get S.objs d = get T.objs d) (p : V) : S.elems p = T.elems p := by
  cases p <;> simp only [AS.elems] <;> rw [h]
theorem place_congr {S T : AS} (h : ∀ d, get S.objs d = get T.objs d) (p : V) : S.place p = T.place p := by
  cases p <;> simp only [AS.place] <;> rw [h]

theorem acore_congr {ops : List Oper} {o : Oper} {S T : AS} (h : Alike ops o S T) (hob : ∀ d, get S.objs d = get T.objs d) {i kd : Nat} {O : List (Nat × Ob)} {v : V} (hv : acore P i S o.dst kd o.op = some (O, v)) :
    ∃ d ob, O = (d, ob) :: S.objs ∧ acore P i T o.dst kd o.op = some ((d, ob) :: T.objs, v) ∧ (makes o.op = true → o.dst.isSome = true ∧ d = kd) := by
  have he := fun x (hx : x ∈ o.op.operands) (c : Bool) => h.evc hx c
  have hnx := h.2.2
  clear h
  generalize o.op = op at *
  generalize o.dst = dst at *
  cases op <;> simp only [acore] at hv ⊢ <;> (try (cases hv; done))
  case alloc t =>
    split at hv
    case h_2 => cases hv
    rename_i d z n h1 h2
    simp only [Option.some.injEq, Prod.mk.injEq] at hv
    obtain ⟨rfl, rfl⟩ := hv
    exact ⟨kd, _, rfl, by simp only [h1, h2, hnx], fun _ => ⟨rfl, rfl⟩⟩
  case box t x =>
    split at hv
    case h_2 => cases hv
    rename_i d z h2
    split at hv
    case isFalse => cases hv
    rename_i hok
    simp only [Option.some.injEq, Prod.mk.injEq] at hv
    obtain ⟨rfl, rfl⟩ := hv
    rw [he x (by simp [Op.operands])] at h2
    exact ⟨kd, _, rfl, by simp only [h2, hok, if_true, hnx], fun _ => ⟨rfl, rfl⟩⟩
  case buildSlice t len parts =>
    split at hv
    case h_2 => cases hv
    rename_i d te vs h2 h3
    split at hv
    case h_2 => cases hv
    rename_i z n h4 h5
    split at hv
    case isFalse => cases hv
    rename_i h6
    split at hv
    case h_2 => cases hv
    rename_i es h7
    simp only [Option.some.injEq, Prod.mk.injEq] at hv
    obtain ⟨rfl, rfl⟩ := hv
    rw [evs_congr (S := S) (T := T) (c := true) (l := parts.toList) (fun p hp => he p.2 (by simp [Op.operands]; exact ⟨p.1, by simpa using hp⟩) true)] at h3
    exact ⟨kd, _, rfl, by simp only [h2, h3, h4, h5, if_pos h6, h7, hnx], fun _ => ⟨rfl, rfl⟩⟩
  case makeSlice t l c =>
    split at hv
    case h_2 => cases hv
    rename_i d te k1 lv k2 cv h2 h3 h4
    split at hv
    case h_2 => cases hv
    rename_i z n b h5 h6 h7
    split at hv
    case isFalse => cases hv
    rename_i h8
    simp only [Option.some.injEq, Prod.mk.injEq] at hv
    obtain ⟨rfl, rfl⟩ := hv
    rw [he l (by simp [Op.operands])] at h3
    rw [he c (by simp [Op.operands])] at h4
    exact ⟨kd, _, rfl, by simp only [h2, h3, h4, h5, h6, h7, if_pos h8, hnx], fun _ => ⟨rfl, rfl⟩⟩
  case store t x y =>
    split at hv
    case h_2 => cases hv
    rename_i d v' sz k off u n h1 h2 h3
    split at hv
    case h_2 => cases hv
    rename_i ob hob'
    split at hv
    case isFalse => cases hv
    rename_i h4
    split at hv
    case h_2 => cases hv
    rename_i e h5
    split at hv
    case isFalse => cases hv
    rename_i h6
    simp only [Option.some.injEq, Prod.mk.injEq] at hv
    obtain ⟨rfl, rfl⟩ := hv
    rw [he x (by simp [Op.operands])] at h1
    rw [he y (by simp [Op.operands])] at h2
    rw [hob] at hob'
    exact ⟨d, _, rfl, by simp only [h1, h2, h3, hob', if_pos h4, h5, if_pos h6], fun hm => by simp [makes] at hm⟩
  case call cl =>
    obtain ⟨callee, args, argTypes⟩ := cl
    cases callee with
    | value f => cases hv
    | invoke r m => cases hv
    | builtin b =>
    cases b <;> simp only at hv ⊢ <;> try (cases hv; done)
    split at hv
    case h_2 => cases hv
    rename_i s x t t' dd ha ht
    have hes := he s (by simp [Op.operands, Call.operands]; rw [← Array.mem_toList_iff, ha]; simp) true
    have hex := he x (by simp [Op.operands, Call.operands]; rw [← Array.mem_toList_iff, ha]; simp) true
    split at hv
    · rename_i htt
      split at hv
      case h_2 => cases hv
      rename_i sv xv te h1 h2 h3
      split at hv
      case h_2 => cases hv
      rename_i sz' news n b h4 h5 h6
      rw [hes] at h1
      rw [hex] at h2
      rw [elems_congr hob] at h4
      split at hv
      · rename_i d v' sz len
        split at hv
        case h_2 => cases hv
        rename_i ob hob'
        split at hv
        case isFalse => cases hv
        rename_i hb
        simp only [Option.some.injEq, Prod.mk.injEq] at hv
        obtain ⟨rfl, rfl⟩ := hv
        rw [hob] at hob'
        exact ⟨d, _, rfl, by simp only [ha, ht, if_pos htt, h1, h2, h3, h4, h5, h6, hob', if_pos hb, hnx], fun hm => by simp [makes] at hm⟩
      · split at hv
        case isFalse => cases hv
        rename_i hb
        simp only [Option.some.injEq, Prod.mk.injEq] at hv
        obtain ⟨rfl, rfl⟩ := hv
        exact ⟨kd, _, rfl, by simp only [ha, ht, if_pos htt, h1, h2, h3, h4, h5, h6, if_pos hb, hnx], fun hm => by simp [makes] at hm⟩
      · cases hv
    · rename_i htt
      split at hv
      case isFalse => cases hv
      rename_i hsb
      split at hv
      case h_2 => cases hv
      rename_i sv l te h1 h2 h3
      split at hv
      case h_2 => cases hv
      rename_i h5
      rw [hes] at h1
      rw [hex] at h2
      split at hv
      · rename_i d v' sz len
        split at hv
        case h_2 => cases hv
        rename_i ob hob'
        split at hv
        case isFalse => cases hv
        rename_i hb
        simp only [Option.some.injEq, Prod.mk.injEq] at hv
        obtain ⟨rfl, rfl⟩ := hv
        rw [hob] at hob'
        exact ⟨d, _, rfl, by simp only [ha, ht, if_neg htt, if_pos hsb, h1, h2, h3, h5, hob', if_pos hb, hnx], fun hm => by simp [makes] at hm⟩
      · split at hv
        case isFalse => cases hv
        rename_i hb
        simp only [Option.some.injEq, Prod.mk.injEq] at hv
        obtain ⟨rfl, rfl⟩ := hv
        exact ⟨kd, _, rfl, by simp only [ha, ht, if_neg htt, if_pos hsb, h1, h2, h3, h5, if_pos hb, hnx], fun hm => by simp [makes] at hm⟩
      · cases hv

theorem acts_core {op : Op} (h : acts op = false) (i : Nat) (S : AS) (dst : Option Nat) (kd : Nat) : acore P i S dst kd op = none := by
  cases op <;> first | rfl | (simp [acts] at h; done) | skip
  case call cl =>
    obtain ⟨callee, args, argTypes⟩ := cl
    cases callee with
    | value f => rfl
    | invoke r m => rfl
    | builtin b => cases b <;> first | rfl | simp [acts] at h
theorem acts_val {op : Op} (h : acts op = true) (S : AS) (c : Bool) : aval P S c op = none := by
  cases op <;> first | rfl | (simp [acts] at h; done) | skip
  case call cl =>
    obtain ⟨callee, args, argTypes⟩ := cl
    cases callee with
    | value f => rfl
    | invoke r m => rfl
    | builtin b => cases b <;> first | rfl | simp [acts] at h

/-- What a step does, and that it does so in every state that looks alike. -/
theorem step_spec {ops : List Oper} {i : Nat} {o : Oper} {S S' : AS} (hs : Step P kb w0 ops i o S S') (hmu : mapUp o.op = false ∨ o.guard ≠ none) :
    ∃ u O, S' = S.ap o.dst u O ∧ (acts o.op = false → O = []) ∧ (makes o.op = true → ∀ d ob, (d, ob) ∈ O → ∃ e, o.dst = some e ∧ d = kb + e) ∧
      ∀ T, Alike ops o S T → (acts o.op = true → ∀ d, get S.objs d = get T.objs d) → (loads o.op = true → ∀ p r, S.place p = some r → T.place p = some r) → Step P kb w0 ops i o T (T.ap o.dst u O) := by
  rcases hs with hs | ⟨c, f, args, ats, fid, fn, vs, res, hgv, ho, hf, hfn, hb, hn, ha, hp, hc, hs⟩ | ⟨t, m, x, v, b, k, es, q, u, e, hg, hd, ho, _⟩
  · have hs0 := hs
    unfold astepK at hs
    split at hs
    · rename_i hg
      split at hs
      · rename_i v hv
        obtain ⟨h1, h2⟩ := putv_ap hs
        refine ⟨v, [], h1, fun _ => rfl, fun _ d ob hm => (by simp at hm), fun T hT _ hpl => .inl ?_⟩
        unfold astepK
        rw [hg]
        simp only [aval_congr hT hpl hv]
        exact ap_putv v (fun d hd => by rw [← hT.2.1]; exact h2 d hd)
      · rename_i hv
        have hact : acts o.op = true := by
          cases h0 : acts o.op with
          | true => rfl
          | false =>
            unfold aeff at hs
            rw [acts_core h0] at hs
            cases hs
        unfold aeff at hs
        split at hs
        case h_2 => cases hs
        rename_i O v hcore
        obtain ⟨h1, h2⟩ := putv_ap hs
        obtain ⟨d, ob, rfl, _, hmk⟩ := acore_congr (ops := ops) (T := S) ⟨fun _ _ => rfl, rfl, rfl⟩ (fun _ => rfl) hcore
        refine ⟨v, [(d, ob)], by rw [h1]; rfl, fun h0 => (by rw [hact] at h0; cases h0), fun hm d' ob' hmem => ?_, fun T hT hob _ => .inl ?_⟩
        · simp at hmem
          obtain ⟨m1, m2⟩ := hmk hm
          obtain ⟨e, he⟩ := Option.isSome_iff_exists.1 m1
          exact ⟨e, he, by rw [hmem.1, m2, he]; rfl⟩
        · unfold astepK
          rw [hg]
          simp only [acts_val hact]
          obtain ⟨d', ob', he, hcT, _⟩ := acore_congr hT (hob hact) hcore
          injection he with he _
          injection he with he1 he2
          subst he1; subst he2
          unfold aeff
          simp only [hcT]
          have hlt : ∀ d1, o.dst = some d1 → d1 < ({ T with objs := (d, ob) :: T.objs } : AS).nt := fun d1 hd1 => by
            have := h2 d1 hd1
            simp only at this ⊢
            rw [← hT.2.1]; exact this
          have := ap_putv (S := { T with objs := (d, ob) :: T.objs }) v hlt
          rw [this]
          rfl
    · rename_i j want hg
      split at hs
      case h_2 => cases hs
      rename_i c hc
      have hgvS : S.gv ops o = some c := by simp only [AS.gv, hg]; exact hc
      split at hs
      · rename_i v hv
        obtain ⟨h1, h2⟩ := putv_ap hs
        refine ⟨.whn c v, [], h1, fun _ => rfl, fun _ d ob hm => (by simp at hm), fun T hT _ hpl => .inl ?_⟩
        have hgT : T.gd ops j want = some c := by have := hT.gv; rw [hgvS] at this; simp only [AS.gv, hg] at this; exact this.symm
        unfold astepK
        rw [hg]
        simp only [hgT, aval_congr hT hpl hv]
        exact ap_putv _ (fun d hd => by rw [← hT.2.1]; exact h2 d hd)
      · rename_i hv
        split at hs
        case isFalse => cases hs
        rename_i hcf
        obtain ⟨rfl, hfb⟩ := hcf
        obtain ⟨h1, h2⟩ := putv_ap hs
        refine ⟨.whn false (.bool true), [], h1, fun _ => rfl, fun _ d ob hm => (by simp at hm), fun T hT _ hpl => ?_⟩
        have hgT : T.gd ops j want = some false := by have := hT.gv; rw [hgvS] at this; simp only [AS.gv, hg] at this; exact this.symm
        obtain ⟨hvT, hfT⟩ := aval_none hT hfb hv
        refine .inl ?_
        unfold astepK
        rw [hg]
        simp only [hgT, hvT, hfT, and_self, if_true]
        exact ap_putv _ (fun d hd => by rw [← hT.2.1]; exact h2 d hd)
  · obtain ⟨h1, h2⟩ := putv_ap hs
    refine ⟨wrapG o c res, [], h1, fun _ => rfl, fun _ d ob hm => (by simp at hm), fun T hT _ _ => .inr (.inl ?_)⟩
    have hops : ∀ x ∈ args.toList, x ∈ o.op.operands := fun x hx => by
      rw [ho]
      simp [Op.operands, Call.operands]
      right; simpa using hx
    refine ⟨c, f, args, ats, fid, fn, vs, res, by rw [← hT.gv]; exact hgv, ho, ?_, hfn, hb, hn, ?_, hp, hc, ap_putv _ (fun d hd => by rw [← hT.2.1]; exact h2 d hd)⟩
    · rw [← hT.evc (by rw [ho]; simp [Op.operands, Call.operands])]; exact hf
    · rw [← args_congr (S := S) (T := T) (fun x hx => hT.evc (hops x hx) c)]; exact ha
  · rcases hmu with hmu | hmu
    · rw [ho] at hmu; cases hmu
    · exact absurd hg hmu
end
end Go.Eng

namespace Go.Eng
open Go.RowKit

/-- Two states that hold the same. -/
def AS.eqv (S T : AS) : Prop := (∀ t, get S.env t = get T.env t) ∧ (∀ d, get S.objs d = get T.objs d) ∧ S.nx = T.nx ∧ S.nt = T.nt

theorem AS.eqv.le {S T : AS} (h : S.eqv T) : S.le T := le_of_get h.2.2.2.symm (by rw [h.2.2.1]; exact Nat.le_refl _) (fun t v hv => by rw [h.1]; exact hv) (fun d o ho => by rw [h.2.1]; exact ho)
theorem AS.eqv.symm {S T : AS} (h : S.eqv T) : T.eqv S := ⟨fun t => (h.1 t).symm, fun d => (h.2.1 d).symm, h.2.2.1.symm, h.2.2.2.symm⟩

theorem get_append {α : Type} {l r : List (Nat × α)} (h : ∀ t, get l t = get r t) : ∀ (O : List (Nat × α)) (t : Nat), get (O ++ l) t = get (O ++ r) t
  | [], t => h t
  | (k, x) :: O, t => by
    simp only [List.cons_append, get_cons]
    rw [get_append h O t]

theorem ap_eqv {S T : AS} (h : S.eqv T) (dst : Option Nat) (u : V) (O : List (Nat × Ob)) : (S.ap dst u O).eqv (T.ap dst u O) := by
  refine ⟨fun t => ?_, fun d => get_append h.2.1 O d, h.2.2.1, h.2.2.2⟩
  cases dst with
  | none => exact h.1 t
  | some d => simp only [AS.ap, get_cons]; rw [h.1 t]

section
variable {P : Program} {kb : Nat} {w0 : Bs} {N0 : Nat → Prop} {Q : Exit → AS → Prop}

theorem mapUp_acts {op : Op} (h : acts op = false) : mapUp op = false := by cases op <;> first | rfl | simp [acts] at h
theorem okMs_iff : ∀ {l : List (Nat × V)}, okMs l = true → ∀ t v, get l t = some v → v.okM = true
  | [], _, t, v, h => by simp [get] at h
  | (k, x) :: l, h4, t, v, h5 => by
    simp only [okMs, Bool.and_eq_true] at h4
    rw [get_cons] at h5
    split at h5
    · injection h5 with h5; subst h5; exact h4.1
    · exact okMs_iff h4.2 t v h5
theorem step_eqv {ops : List Oper} {i : Nat} {o : Oper} {S S' T : AS} (hs : Step P kb w0 ops i o S S') (h : S.eqv T) : ∃ T', Step P kb w0 ops i o T T' ∧ S'.eqv T' := by
  by_cases hm : mapUp o.op = false ∨ o.guard ≠ none
  · obtain ⟨u, O, rfl, _, _, hall⟩ := step_spec hs hm
    exact ⟨_, hall T ⟨fun t _ => h.1 t, h.2.2.2, h.2.2.1⟩ (fun _ => h.2.1) (fun _ p r hp => by rw [← place_congr (S := S) (T := T) h.2.1]; exact hp), ap_eqv h _ _ _⟩
  · have hev : ∀ x, S.evc true x = T.evc true x := fun x => by
      have : S.ev x = T.ev x := by
        cases x with
        | tmp t => exact h.1 t
        | _ => rfl
      unfold AS.evc
      rw [this]
    rcases hs with hs | ⟨c, f, args, ats, _, _, _, _, _, ho, _⟩ | ⟨t, m, x, v, b, k, es, q, u, e, hg, hd, ho, hm1, hx, hv, hu, ht, hb0, hok, rfl⟩
    · exfalso
      have hgn : o.guard = none := by
        cases hg : o.guard with
        | none => rfl
        | some p => exact absurd (.inr (by rw [hg]; simp)) hm
      have hmu : ¬ mapUp o.op = false := fun h => hm (.inl h)
      cases hop : o.op <;> rw [hop] at hmu <;> first | (exact hmu rfl) | skip
      unfold astepK at hs
      rw [hgn] at hs
      simp only [hop, aval, aeff, acore] at hs
      cases hs
    · exact absurd (.inl (by rw [ho]; rfl)) hm
    · refine ⟨{ T with env := mapK (V.mset b k ((q, u) :: es)) T.env }, .inr (.inr ⟨t, m, x, v, b, k, es, q, u, e, hg, hd, ho, by rw [← hev]; exact hm1, by rw [← hev]; exact hx, by rw [← hev]; exact hv, hu, ht, hb0, fun t v hv => hok t v (by rw [h.1]; exact hv), rfl⟩), fun t => ?_, h.2.1, h.2.2.1, h.2.2.2⟩
      rw [get_mapK', get_mapK', h.1]

/-- Whatever order is picked. -/
def awAny (P : Program) (kb : Nat) (w0 : Bs) (ops : List Oper) (K : AS → Prop) : Nat → Array Bool → AS → Prop
  | 0, listed, S => Region.ready .any ops.toArray listed = [] ∧ K S
  | n + 1, listed, S => (Region.ready .any ops.toArray listed = [] → K S) ∧ ∀ i ∈ Region.ready .any ops.toArray listed, ∃ o S', ops[i]? = some o ∧ Step P kb w0 ops i o S S' ∧ awAny P kb w0 ops K n (listed.setIfInBounds i true) S'

theorem any_eqv {ops : List Oper} {K : AS → Prop} (hK : ∀ S T, S.eqv T → K S → K T) : ∀ (n : Nat) (listed : Array Bool) (S T : AS), S.eqv T → awAny P kb w0 ops K n listed S → awAny P kb w0 ops K n listed T
  | 0, _, _, _, h, ha => ⟨ha.1, hK _ _ h ha.2⟩
  | n + 1, listed, S, T, h, ha => ⟨fun h0 => hK _ _ h (ha.1 h0), fun i hi => by
    obtain ⟨o, S', ho, hs, hrest⟩ := ha.2 i hi
    obtain ⟨T', hT, he⟩ := step_eqv hs h
    exact ⟨o, T', ho, hT, any_eqv hK n _ S' T' he hrest⟩⟩

/-- The model follows whatever order is picked. -/
theorem any_sound {ops : List Oper} {K : AS → Prop} (hK : ∀ S a w, K S → RelD (fun j => j < ops.length) w0 N0 S a w → post w0 N0 Q .normal a w) : ∀ (n : Nat) (listed : Array Bool) (S : AS) (a : Act) (w : World), listed.size = ops.length →
    RelD (fun j => listed.getD j false = true) w0 N0 S a w → awAny P kb w0 ops K n listed S → wpAny P .any ops.toArray (post w0 N0 Q) n listed a w
  | 0, listed, S, a, w, hsz, hr, ha => by
    obtain ⟨μ, hr⟩ := hr
    refine ⟨ha.1, hK S a w ha.2 ⟨μ, hr.more (fun j hj => ?_)⟩⟩
    rcases Nat.lt_or_ge j listed.size with h | h
    · omega
    · simp [Array.getElem?_eq_none h] at hj
  | n + 1, listed, S, a, w, hsz, hr, ha => by
    refine ⟨fun h0 => ?_, fun i hi => ?_⟩
    · obtain ⟨μ, hr⟩ := hr
      refine hK S a w (ha.1 h0) ⟨μ, hr.more (fun j hj => ?_)⟩
      rcases Nat.lt_or_ge j listed.size with h | h
      · omega
      · simp [Array.getElem?_eq_none h] at hj
    · obtain ⟨o, S', ho, hs, hrest⟩ := ha.2 i hi
      have hun := (mem_ready.1 hi).1
      have hil : i < listed.size := by
        rcases Nat.lt_or_ge i listed.size with h | h
        · exact h
        · simp [Array.getElem?_eq_none h] at hun
      have hni : ¬ (listed.getD i false = true) := by
        intro h1
        simp [hil] at hun h1
        rw [hun] at h1
        cases h1
      unfold wpOp
      have ho' : ops.toArray[i]? = some o := by simpa using ho
      simp only [ho']
      have := step_sound (P := P) hr hni hs (K := wpAny P .any ops.toArray (post w0 N0 Q) n (listed.setIfInBounds i true)) (Q' := post w0 N0 Q) (fun a' w' hr' => by
        obtain ⟨μ', hr'⟩ := hr'
        refine any_sound hK n _ S' a' w' (by simpa using hsz) ⟨μ', hr'.more (fun j hj => ?_)⟩ hrest
        rcases hj with hj | hj
        · by_cases hij : i = j
          · subst hij; simp [hil]
          · rw [getD_set_ne false hij]; exact hj
        · subst hj; simp [hil])
      split
      · rename_i hw; rw [if_pos hw] at this; exact .inl this
      · rename_i hw; rw [if_neg hw] at this; exact this

/-- The operations that come behind operation i in every order. -/
def blk (ops : List Oper) (listed : Array Bool) (i : Nat) : List Nat :=
  (List.range ops.length).foldl (fun B j => if listed.getD j true then B else (match ops[j]? with
    | some oj => if oj.after.any (fun e => Region.binds .any e && (e.on == i || B.contains e.on)) then j :: B else B
    | none => B)) []
def blkOk (ops : List Oper) (listed : Array Bool) (i : Nat) (B : List Nat) : Bool :=
  B.all fun j => !listed.getD j true && (match ops[j]? with
    | some oj => oj.after.any (fun e => Region.binds .any e && (e.on == i || B.contains e.on))
    | none => false)
/-- What is asked of an operation that is taken first. -/
def firstOk (ops : List Oper) (listed : Array Bool) (i : Nat) (oi : Oper) : Bool :=
  blkOk ops listed i (blk ops listed i) && (List.range ops.length).all fun j => j == i || listed.getD j true || (match ops[j]? with
    | some oj => (blk ops listed i).contains j || (oi.apart ops.toArray oj && !mapUp oj.op && (!loads oi.op || !acts oj.op || makes oj.op))
    | none => true)
/-- Each operation of B waits for i or for another one of B. -/
def Waits (ops : List Oper) (listed : Array Bool) (i : Nat) (B : List Nat) : Prop :=
  ∀ j ∈ B, listed.getD j true = false ∧ ∃ oj, ops[j]? = some oj ∧ ∃ e ∈ oj.after, Region.binds .any e = true ∧ (e.on = i ∨ e.on ∈ B)
theorem blkOk_spec {ops : List Oper} {listed : Array Bool} {i : Nat} {B : List Nat} (h : blkOk ops listed i B = true) : Waits ops listed i B := by
  intro j hj
  have h1 := List.all_eq_true.1 h j hj
  simp only [Bool.and_eq_true, Bool.not_eq_true'] at h1
  refine ⟨h1.1, ?_⟩
  have h2 := h1.2
  split at h2
  · rename_i oj hoj
    obtain ⟨e, he, hb⟩ := Array.any_eq_true'.1 h2
    simp only [Bool.and_eq_true, Bool.or_eq_true, beq_iff_eq] at hb
    exact ⟨oj, hoj, e, he, hb.1, hb.2.imp id (fun h => by simpa using h)⟩
  · cases h2

/-- The objects that a region makes. -/
def mkeys (ops : List Oper) : List Nat := ops.filterMap fun o => if makes o.op then o.dst else none
/-- No two operations of a region make an object under one name. -/
def mkOk (ops : List Oper) : Bool := (List.range ops.length).all fun j => (List.range ops.length).all fun k => j == k || (match ops[j]?, ops[k]? with
  | some oj, some ok => !makes oj.op || !makes ok.op || oj.dst != ok.dst
  | _, _ => true)
theorem mkOk_spec {ops : List Oper} (h : mkOk ops = true) {j k : Nat} {oj ok : Oper} (hj : ops[j]? = some oj) (hk : ops[k]? = some ok) (hm : makes oj.op = true) (hm' : makes ok.op = true) (hd : oj.dst = ok.dst) : j = k := by
  have h1 := List.all_eq_true.1 (List.all_eq_true.1 h j (List.mem_range.2 (List.getElem?_eq_some_iff.1 hj).1)) k (List.mem_range.2 (List.getElem?_eq_some_iff.1 hk).1)
  simp only [hj, hk, hm, hm', hd, Bool.not_true, Bool.false_or, bne_self_eq_false, Bool.or_false, beq_iff_eq] at h1
  exact h1

theorem firstOk_spec {ops : List Oper} {listed : Array Bool} {i : Nat} {oi : Oper} (h : firstOk ops listed i oi = true) : ∃ B, Waits ops listed i B ∧ ∀ j oj, ops[j]? = some oj → j ≠ i → listed.getD j true = false → j ∉ B →
    oi.apart ops.toArray oj = true ∧ (loads oi.op = true → acts oj.op = true → makes oj.op = true) ∧ mapUp oj.op = false := by
  unfold firstOk at h
  rw [Bool.and_eq_true] at h
  refine ⟨blk ops listed i, blkOk_spec h.1, ?_⟩
  intro j oj hj hji hun hno
  have hlt : j < ops.length := (List.getElem?_eq_some_iff.1 hj).1
  have h1 := List.all_eq_true.1 h.2 j (List.mem_range.2 hlt)
  simp only [hj, hun, Bool.or_false, Bool.or_eq_true, beq_iff_eq, Bool.and_eq_true] at h1
  rcases h1 with h1 | h1 | h1
  · exact absurd h1 hji
  · exact absurd (by simpa using h1) hno
  · refine ⟨h1.1.1, fun hl ha => ?_, by simpa using h1.1.2⟩
    rcases h1.2 with (h2 | h2) | h2
    · simp [hl] at h2
    · simp [ha] at h2
    · exact h2

theorem any_first {ops : List Oper} {K : AS → Prop} (hK : ∀ S T, S.eqv T → K S → K T) {i : Nat} {oi : Oper} (hi : ops[i]? = some oi) (hq : acts oi.op = false) (hnd : mkOk ops = true) (B : List Nat) :
    ∀ (n : Nat) (listed : Array Bool) (S S1 : AS), Waits ops listed i B →
      (∀ j oj, ops[j]? = some oj → j ≠ i → listed.getD j true = false → j ∉ B → oi.apart ops.toArray oj = true ∧ (loads oi.op = true → acts oj.op = true → makes oj.op = true) ∧ mapUp oj.op = false) →
      (loads oi.op = true → ∀ j oj d, ops[j]? = some oj → listed.getD j true = false → makes oj.op = true → oj.dst = some d → get S.objs (kb + d) = none) →
      i ∈ Region.ready .any ops.toArray listed → Step P kb w0 ops i oi S S1 →
      awAny P kb w0 ops K n (listed.setIfInBounds i true) S1 → awAny P kb w0 ops K (n + 1) listed S := by
  intro n
  induction n with
  | zero =>
    intro listed S S1 _ _ _ hr hs H
    refine ⟨fun h => (by rw [h] at hr; cases hr), fun j hj => ?_⟩
    by_cases hji : j = i
    · subst hji; exact ⟨oi, S1, hi, hs, H⟩
    · have := ready_mono hj hji
      rw [H.1] at this
      cases this
  | succ n ih =>
    intro listed S S1 hB hfree hfr hr hs H
    refine ⟨fun h => (by rw [h] at hr; cases hr), fun j hj => ?_⟩
    by_cases hji : j = i
    · subst hji; exact ⟨oi, S1, hi, hs, H⟩
    · obtain ⟨oj, T', hoj, hsj, hrest⟩ := H.2 j (ready_mono hj hji)
      obtain ⟨hjun, oj', hoj', hall⟩ := mem_ready.1 hj
      have : oj' = oj := by
        have h1 : ops[j]? = some oj' := by simpa using hoj'
        rw [hoj] at h1
        exact (Option.some.inj h1).symm
      subst this
      have hiun := (mem_ready.1 hr).1
      have hun1 : ∀ k, listed.getD k true = false → ∀ e ∈ oj'.after, Region.binds .any e = true → e.on ≠ k := fun k hk e he hb heq => by
        have h1 := hall e he hb
        rw [heq] at h1
        rcases Nat.lt_or_ge k listed.size with h' | h'
        · simp [h'] at hk h1; rw [hk] at h1; cases h1
        · simp [Array.getElem?_eq_none h'] at h1
      have hnot : j ∉ B := fun hjB => by
        obtain ⟨_, oq, hoq, e, he, hb, hon⟩ := hB j hjB
        have : oq = oj' := by rw [hoj] at hoq; exact (Option.some.inj hoq).symm
        subst this
        rcases hon with hon | hon
        · exact hun1 i hiun e he hb hon
        · exact hun1 e.on (hB e.on hon).1 e he hb rfl
      obtain ⟨hap, hload, hmuj⟩ := hfree j oj' hoj hji hjun hnot
      obtain ⟨a1, a2, a3⟩ := Oper.apart_spec hap
      obtain ⟨u, O, rfl, hO, _, hall1⟩ := step_spec hs (.inl (mapUp_acts hq))
      have hOn := hO hq
      subst hOn
      obtain ⟨u2, O2, rfl, hO2, hmk2, hall2⟩ := step_spec hsj (.inl hmuj)
      -- j before i
      have hjS : Step P kb w0 ops j oj' S (S.ap oj'.dst u2 O2) := by
        refine hall2 S ⟨fun t ht => ?_, rfl, rfl⟩ (fun _ d => rfl) (fun _ p r hp => by rw [← place_congr (S := S.ap oj'.dst u2 [] |>.ap none u2 []) (T := S) (fun d => rfl)]; rw [place_congr (S := S.ap oi.dst u []) (T := S.ap oj'.dst u2 [] |>.ap none u2 []) (fun d => rfl)] at hp; exact hp)
        cases hd : oi.dst with
        | none => rfl
        | some d =>
          simp only [AS.ap, get_cons]
          rw [if_neg (fun e => a1 d hd (by rw [e]; exact ht))]
      -- i behind j
      have hplace : loads oi.op = true → ∀ p r, S.place p = some r → (S.ap oj'.dst u2 O2).place p = some r := by
        intro hl p r hp
        cases hact : acts oj'.op with
        | false =>
          rw [hO2 hact]
          rw [← place_congr (S := S) (T := S.ap oj'.dst u2 []) (fun d => rfl)]
          exact hp
        | true =>
          have hm := hload hl hact
          have hk : ∀ d, get S.objs d ≠ none → get (S.ap oj'.dst u2 O2).objs d = get S.objs d := by
            intro d hd
            have hnotin : ∀ ob, (d, ob) ∉ O2 := fun ob hmem => by
              obtain ⟨e, he, hde⟩ := hmk2 hm d ob hmem
              exact hd (by rw [hde]; exact hfr hl j oj' e hoj hjun hm he)
            show get (O2 ++ S.objs) d = get S.objs d
            clear hmk2 hall2 hsj hrest hjS hO2
            induction O2 with
            | nil => rfl
            | cons q O2 ihq =>
              obtain ⟨k, ob⟩ := q
              simp only [List.cons_append, get_cons]
              rw [if_neg (fun e => hnotin ob (by rw [e]; simp))]
              exact ihq (fun ob' hmem => hnotin ob' (by simp [hmem]))
          cases p <;> simp only [AS.place] at hp ⊢ <;> try (first | exact hp | (cases hp; done))
          rename_i d v sz k off
          cases hg : get S.objs d with
          | none => rw [hg] at hp; cases hp
          | some ob =>
            rw [hk d (by rw [hg]; simp)]
            exact hp
      have hiT : Step P kb w0 ops i oi (S.ap oj'.dst u2 O2) ((S.ap oj'.dst u2 O2).ap oi.dst u []) := by
        refine hall1 _ ⟨fun t ht => ?_, rfl, rfl⟩ (fun h0 => by rw [hq] at h0; cases h0) hplace
        cases hd : oj'.dst with
        | none => rfl
        | some d =>
          simp only [AS.ap, get_cons]
          rw [if_neg (fun e => a3 d hd (by rw [e]; exact ht))]
      have heq : ((S.ap oi.dst u []).ap oj'.dst u2 O2).eqv ((S.ap oj'.dst u2 O2).ap oi.dst u []) := by
        refine ⟨fun t => ?_, fun d => rfl, rfl, rfl⟩
        cases hd1 : oi.dst with
        | none => rfl
        | some d1 =>
          cases hd2 : oj'.dst with
          | none => rfl
          | some d2 =>
            have hne : d2 ≠ d1 := fun e => a2 d1 hd1 (by rw [hd2, e])
            simp only [AS.ap, get_cons]
            by_cases h1 : d1 = t <;> by_cases h2 : d2 = t <;> simp [h1, h2]
            exact absurd (h2.trans h1.symm) hne
      refine ⟨oj', _, hoj, hjS, ih (listed.setIfInBounds j true) _ _ (fun k hk => by
        have hjk : j ≠ k := by rintro rfl; exact hnot hk
        exact ⟨by rw [getD_set_ne true hjk]; exact (hB k hk).1, (hB k hk).2⟩) (fun k ok hk hki hun hno => hfree k ok hk hki ?_ hno) (fun hl k ok d hk hun hm hd => ?_) (ready_mono hr (Ne.symm hji)) hiT ?_⟩
      · by_cases hjk : j = k
        · subst hjk; exact hjun
        · rw [getD_set_ne true hjk] at hun; exact hun
      · have hjk : j ≠ k := by
          rintro rfl
          have hjl : j < listed.size := by
            rcases Nat.lt_or_ge j listed.size with h | h
            · exact h
            · simp [Array.getElem?_eq_none h] at hjun
          simp [hjl] at hun
        have hun' : listed.getD k true = false := by rwa [getD_set_ne true hjk] at hun
        have h0 := hfr hl k ok d hk hun' hm hd
        show get (O2 ++ S.objs) (kb + d) = none
        cases hact : acts oj'.op with
        | false => rw [hO2 hact]; exact h0
        | true =>
          have hmj := hload hl hact
          have hnotin : ∀ ob, (kb + d, ob) ∉ O2 := fun ob hmem => by
            obtain ⟨e, hdj, hde⟩ := hmk2 hmj _ ob hmem
            have hed : d = e := Nat.add_left_cancel hde
            exact hjk (mkOk_spec hnd hoj hk hmj hm (by rw [hdj, hd, hed]))
          clear hmk2 hall2 hsj hrest hjS hO2 hplace hiT heq
          induction O2 with
          | nil => exact h0
          | cons q O2 ihq =>
            obtain ⟨k', ob⟩ := q
            simp only [List.cons_append, get_cons]
            rw [if_neg (fun e => hnotin ob (by rw [e]; simp))]
            exact ihq (fun ob' hmem => hnotin ob' (by simp [hmem]))
      · rw [Array.setIfInBounds_comm _ _ hji]
        exact any_eqv hK n _ _ _ heq hrest

/-- Where nothing else can come up, the step is taken. -/
theorem any_only {ops : List Oper} {K : AS → Prop} {n i : Nat} {o : Oper} {listed : Array Bool} {S S' : AS} (hi : ops[i]? = some o) (hr : Region.ready .any ops.toArray listed = [i]) (hs : Step P kb w0 ops i o S S') (h : awAny P kb w0 ops K n (listed.setIfInBounds i true) S') : awAny P kb w0 ops K (n + 1) listed S := by
  refine ⟨fun h0 => (by rw [hr] at h0; cases h0), fun j hj => ?_⟩
  rw [hr] at hj
  have : j = i := by simpa using hj
  subst this
  exact ⟨o, S', hi, hs, h⟩

/-- Whether operation i may be taken now; ks names the objects that are still to be made. -/
def mayTake (ops : List Oper) (listed : Array Bool) (i : Nat) (ks : List Nat) : Bool :=
  match ops[i]? with
  | some o => (!acts o.op && (Region.ready .any ops.toArray listed).contains i && firstOk ops listed i o && (!loads o.op || (List.range ops.length).all fun j => listed.getD j true || (match ops[j]? with
      | some oj => !makes oj.op || (match oj.dst with | some d => ks.contains d | none => true)
      | none => true))) || (Region.ready .any ops.toArray listed == [i])
  | none => false

/-- The order l is a way to run a region. -/
def goodOrder (ops : List Oper) : Array Bool → List (Nat × List Nat) → Bool
  | listed, [] => (Region.ready .any ops.toArray listed).isEmpty
  | listed, (i, ks) :: l => mayTake ops listed i ks && goodOrder ops (listed.setIfInBounds i true) l

/-- A region's operations in the order l, from state S on. -/
def AWO (P : Program) (kb : Nat) (w0 : Bs) (ops : List Oper) (Q : Exit → AS → Prop) : List (Nat × List Nat) → AS → Prop
  | [], S => ∃ S', ({ S with nx := S.nx + ops.length } : AS).le S' ∧ Q .normal S'
  | (i, ks) :: l, S => ∃ o S', ops[i]? = some o ∧ (ks.all fun d => (get S.objs (kb + d)).isNone) = true ∧ Step P kb w0 ops i o S S' ∧ AWO P kb w0 ops Q l S'

theorem awo_any {ops : List Oper} (hk : mkOk ops = true) : ∀ (l : List (Nat × List Nat)) (listed : Array Bool) (S : AS), goodOrder ops listed l = true → AWO P kb w0 ops Q l S →
    awAny P kb w0 ops (fun S => ∃ S', ({ S with nx := S.nx + ops.length } : AS).le S' ∧ Q .normal S') l.length listed S
  | [], listed, S, hg, h => ⟨by simpa [goodOrder] using hg, h⟩
  | (i, ks) :: l, listed, S, hg, h => by
    simp only [goodOrder, Bool.and_eq_true] at hg
    obtain ⟨o, S', ho, hks, hs, hrest⟩ := h
    have ih := awo_any hk l _ S' hg.2 hrest
    have hm := hg.1
    unfold mayTake at hm
    simp only [ho, Bool.or_eq_true, Bool.and_eq_true, beq_iff_eq] at hm
    rcases hm with ⟨⟨⟨h1, h2⟩, h3⟩, h4⟩ | hm
    · obtain ⟨B, hB, hfree⟩ := firstOk_spec h3
      refine any_first ?_ ho (by simpa using h1) hk B l.length listed S S' hB hfree (fun hl j oj d hj hun hmk hd => ?_) (by simpa using h2) hs ih
      · rintro S T he ⟨S2, h5, h6⟩
        have he' : ({ T with nx := T.nx + ops.length } : AS).eqv { S with nx := S.nx + ops.length } := ⟨fun t => (he.1 t).symm, fun d => (he.2.1 d).symm, by simp only; rw [he.2.2.1], he.2.2.2.symm⟩
        exact ⟨S2, AS.le_trans he'.le h5, h6⟩
      · rcases h4 with h4 | h4
        · simp [hl] at h4
        · have h5 := List.all_eq_true.1 h4 j (List.mem_range.2 (List.getElem?_eq_some_iff.1 hj).1)
          simp only [hun, hj, hmk, hd, Bool.not_true, Bool.false_or] at h5
          have h6 := List.all_eq_true.1 hks d (by simpa using h5)
          simpa using h6
    · exact any_only ho hm hs ih

/-- A region whose order is left open. -/
theorem awk_draw {id : Nat} {l : List Oper} {S : AS} (kb : Nat) (ord : List (Nat × List Nat)) (hm : P.follows .mixedOrders = true) (hg : (goodOrder l (Array.replicate l.length false) ord && (mkOk l && ord.length == l.length)) = true) (h : AWO P kb w0 l Q ord S) : AW P w0 N0 (.region id l.toArray true) Q S := by
  simp only [Bool.and_eq_true, beq_iff_eq] at hg
  obtain ⟨hg, hk, hl⟩ := hg
  rintro a w ⟨μ, hr⟩
  refine wp_region_any hm ?_
  have hsz : l.toArray.size = l.length := by simp
  rw [hsz]
  have haw := awo_any hk ord _ S hg h
  rw [hl] at haw
  refine any_sound (K := fun S => ∃ S', ({ S with nx := S.nx + l.length } : AS).le S' ∧ Q .normal S') ?_ l.length _ S a _ (by simp) ⟨μ, ?_⟩ haw
  · rintro S a w ⟨S', h1, h2⟩ ⟨μ, hr⟩
    refine ⟨S', h2, h1 _ _ _ _ ⟨μ, ⟨hr.defers, hr.size, hr.below, hr.n0, fun d v hv => ?_, hr.objs, hr.inj, hr.env⟩⟩⟩
    rcases hr.fresh d v hv with h3 | ⟨j, hj, e⟩
    · exact .inl (by simp only; omega)
    · exact .inl (by simp only; omega)
  · have := hr.drew
    exact this.more (fun j hj => hj.elim)
theorem aw_draw {id : Nat} {l : List Oper} {S : AS} (ord : List (Nat × List Nat)) (hm : P.follows .mixedOrders = true) (hg : (goodOrder l (Array.replicate l.length false) ord && (mkOk l && ord.length == l.length)) = true) (h : AWO P 0 w0 l Q ord S) : AW P w0 N0 (.region id l.toArray true) Q S := awk_draw 0 ord hm hg h

/-- All operations of such a region, none of them a call. -/
def runOK (P : Program) (kb : Nat) (ops : List Oper) : List (Nat × List Nat) → AS → Option AS
  | [], S => some S
  | (i, ks) :: l, S => match nth ops i with
    | some o => if (ks.all fun d => (get S.objs (kb + d)).isNone) = true then (match astepK P kb ops i o S with
      | some S' => runOK P kb ops l S'
      | none => none) else none
    | none => none

theorem awo_run {ops : List Oper} : ∀ {l : List (Nat × List Nat)} {S S1 S' : AS}, runOK P kb ops l S = some S1 → ({ S1 with nx := S1.nx + ops.length } : AS).le S' → Q .normal S' → AWO P kb w0 ops Q l S
  | [], S, S1, S', hs, hle, h => by
    simp only [runOK, Option.some.injEq] at hs
    subst hs
    exact ⟨S', hle, h⟩
  | (i, ks) :: l, S, S1, S', hs, hle, h => by
    simp only [runOK] at hs
    split at hs
    case h_2 => cases hs
    rename_i o ho
    split at hs
    case isFalse => cases hs
    rename_i hks
    split at hs
    case h_2 => cases hs
    rename_i S2 h2
    rw [nth_eq] at ho
    exact ⟨o, S2, ho, hks, .inl h2, awo_run hs hle h⟩
end
end Go.Eng

namespace Go.Eng

def runO (P : Program) (ops : List Oper) (l : List (Nat × List Nat)) (S : AS) : Option AS := runOK P 0 ops l S
attribute [simp] runO runOK AS.gv wrapG

/-- A region whose order is left open, without a call, and what is kept behind it. -/
def runDK (P : Program) (kb : Nat) (l : List Oper) (ord : List (Nat × List Nat)) (L M : List Nat) (S : AS) : Option AS :=
  match runOK P kb l ord S with
  | some S' => some ((S'.bump l.length).keep L M)
  | none => none
def runD (P : Program) (l : List Oper) (ord : List (Nat × List Nat)) (L M : List Nat) (S : AS) : Option AS := runDK P 0 l ord L M S
attribute [simp] runD runDK

section
variable {P : Program} {kb : Nat} {w0 : Bs} {N0 : Nat → Prop} {Q : Exit → AS → Prop} {S : AS}

theorem awk_done {id : Nat} {l : List Oper} {S' : AS} (kb : Nat) (ord : List (Nat × List Nat)) (L M : List Nat) (hm : P.follows .mixedOrders = true) (hg : (goodOrder l (Array.replicate l.length false) ord && (mkOk l && ord.length == l.length)) = true) (hs : runDK P kb l ord L M S = some S') (h : Q .normal S') :
    AW P w0 N0 (.region id l.toArray true) Q S := by
  unfold runDK at hs
  split at hs
  case h_2 => cases hs
  rename_i S1 h1
  injection hs with hs
  subst hs
  exact awk_draw kb ord hm hg (awo_run h1 (le_keep _ L M) h)

theorem aw_done {id : Nat} {l : List Oper} {S' : AS} (ord : List (Nat × List Nat)) (L M : List Nat) (hm : P.follows .mixedOrders = true) (hg : (goodOrder l (Array.replicate l.length false) ord && (mkOk l && ord.length == l.length)) = true) (hs : runD P l ord L M S = some S') (h : Q .normal S') :
    AW P w0 N0 (.region id l.toArray true) Q S := awk_done 0 ord L M hm hg hs h
theorem awk_dstep {id : Nat} {l : List Oper} {rest : Code} {S' : AS} (kb : Nat) (ord : List (Nat × List Nat)) (L M : List Nat) (hm : P.follows .mixedOrders = true) (hg : (goodOrder l (Array.replicate l.length false) ord && (mkOk l && ord.length == l.length)) = true) (hs : runDK P kb l ord L M S = some S') (h : AW P w0 N0 rest Q S') :
    AW P w0 N0 (.seq (.region id l.toArray true) rest) Q S := aw_seq (awk_done kb ord L M hm hg hs h)
theorem aw_dstep {id : Nat} {l : List Oper} {rest : Code} {S' : AS} (ord : List (Nat × List Nat)) (L M : List Nat) (hm : P.follows .mixedOrders = true) (hg : (goodOrder l (Array.replicate l.length false) ord && (mkOk l && ord.length == l.length)) = true) (hs : runD P l ord L M S = some S') (h : AW P w0 N0 rest Q S') :
    AW P w0 N0 (.seq (.region id l.toArray true) rest) Q S := aw_seq (aw_done ord L M hm hg hs h)

theorem awo_app {ops : List Oper} : ∀ {l1 l2 : List (Nat × List Nat)} {S S1 : AS}, runOK P kb ops l1 S = some S1 → AWO P kb w0 ops Q l2 S1 → AWO P kb w0 ops Q (l1 ++ l2) S
  | [], l2, S, S1, hs, h => by
    simp only [runOK, Option.some.injEq] at hs
    subst hs
    exact h
  | (i, ks) :: l, l2, S, S1, hs, h => by
    simp only [runOK] at hs
    split at hs
    case h_2 => cases hs
    rename_i o ho
    split at hs
    case isFalse => cases hs
    rename_i hks
    split at hs
    case h_2 => cases hs
    rename_i S2 h2
    rw [nth_eq] at ho
    exact ⟨o, S2, ho, hks, .inl h2, awo_app hs h⟩

/-- The first n operations in the order, none of them a call. -/
theorem awo_go {ops : List Oper} {l : List (Nat × List Nat)} {S1 : AS} (n : Nat) (hs : runO P ops (l.take n) S = some S1) (h : AWO P 0 w0 ops Q (l.drop n) S1) : AWO P 0 w0 ops Q l S := by
  have := awo_app (kb := 0) (l2 := l.drop n) hs h
  rwa [List.take_append_drop] at this

/-- The rest of the order, without a call. -/
theorem awo_end {ops : List Oper} {l : List (Nat × List Nat)} {S' : AS} (L M : List Nat) (hs : runD P ops l L M S = some S') (h : Q .normal S') : AWO P 0 w0 ops Q l S := by
  unfold runD runDK at hs
  split at hs
  case h_2 => cases hs
  rename_i S1 h1
  injection hs with hs
  subst hs
  exact awo_run h1 (le_keep _ L M) h

/-- A call whose result is known. -/
theorem awo_call {ops : List Oper} {i : Nat} {ks : List Nat} {l : List (Nat × List Nat)} {o : Oper} {c : Bool} {f : Operand} {fid : FuncId} {fn : Func} {args : Array Operand} {ats : Array TypeId} {vs : List V} {res : V} {S' : AS}
    (hc : c = true → AC P fid vs (fun r => r = res)) (hfn : P.funcs[fid]? = some fn) (hb : fn.body.isSome = true) (hn : (fn.name == "runtime.NumGoroutine") = false) (hi : nth ops i = some o) (hks : (ks.all fun d => (get S.objs (0 + d)).isNone) = true)
    (hg : S.gv ops o = some c) (ho : o.op = .call { callee := .value f, args := args, argTypes := ats }) (hf : S.evc c f = some (.fn fid)) (ha : S.args c args.toList = some vs) (hp : vs.all V.pureV = true) (hs : S.putv o.dst (wrapG o c res) = some S') (h : AWO P 0 w0 ops Q l S') : AWO P 0 w0 ops Q ((i, ks) :: l) S := by
  rw [nth_eq] at hi
  exact ⟨o, S', hi, hks, .inr (.inl ⟨c, f, args, ats, fid, fn, vs, res, hg, ho, hf, hfn, hb, hn, ha, hp, fun h => (hc h).b, hs⟩), h⟩

/-- A guarded call whose result is known, in a plain region. -/
theorem awl_gcall {ops : List Oper} {i : Nat} {o : Oper} {rest : List Oper} {c : Bool} {f : Operand} {fid : FuncId} {fn : Func} {args : Array Operand} {ats : Array TypeId} {vs : List V} {res : V} {S' : AS}
    (hc : c = true → AC P fid vs (fun r => r = res)) (hfn : P.funcs[fid]? = some fn) (hb : fn.body.isSome = true) (hn : (fn.name == "runtime.NumGoroutine") = false)
    (hg : S.gv ops o = some c) (ho : o.op = .call { callee := .value f, args := args, argTypes := ats }) (hf : S.evc c f = some (.fn fid)) (ha : S.args c args.toList = some vs) (hp : vs.all V.pureV = true) (hs : S.putv o.dst (wrapG o c res) = some S') (h : AWL P w0 N0 ops Q (i + 1) rest S') : AWL P w0 N0 ops Q i (o :: rest) S :=
  awl_st (kb := 0) (.inr (.inl ⟨c, f, args, ats, fid, fn, vs, res, hg, ho, hf, hfn, hb, hn, ha, hp, fun h => (hc h).b, hs⟩)) h

/-- A loop over a counter: states 'st k nx', the invariant 'Inv k', the bound n. -/
theorem aw_count {c : Code} (st : Nat → Nat → AS) (Inv : Nat → Prop) (n : Nat) (nx0 : Nat) (h0 : Inv 0) (hS : S.le (st 0 nx0))
    (round : ∀ k nx, k ≤ n → Inv k → AW P w0 N0 c (ethen (fun S' => k < n ∧ Inv (k + 1) ∧ ∃ nx', S'.le (st (k + 1) nx')) Q) (st k nx)) : AW P w0 N0 (.loop c) Q S := by
  refine aw_loop (fun x : Nat × Nat => st x.1 x.2) (fun x => x.1 ≤ n ∧ Inv x.1) (fun x => n - x.1) (0, nx0) ⟨Nat.zero_le _, h0⟩ hS ?_
  rintro ⟨k, nx⟩ ⟨hk, hI⟩
  refine (round k nx hk hI).mono ?_
  intro e T hT
  cases e with
  | normal =>
    obtain ⟨h1, h2, nx', h3⟩ := hT
    exact ⟨(k + 1, nx'), ⟨h1, h2⟩, by simp only; omega, h3⟩
  | _ => exact hT
end
end Go.Eng

namespace Go.Eng
open Go.RowKit

/-- The nil slice in slot t becomes row d. -/
def AS.adoptS (S : AS) (t d sz : Nat) (ty : TypeId) : AS := { S with env := (t, .sl d S.nx sz 0) :: S.env, objs := (d, ⟨S.nx, sz, ty, []⟩) :: S.objs, nx := S.nx + 1 }
/-- The nil slice in cell i of variable k becomes row d. -/
def AS.adoptC (S : AS) (k i d sz : Nat) (ty : TypeId) : Option AS :=
  match get S.objs k with
  | some o => match o.es with
    | [.agg cs] => match nth cs i with
      | some .nils => if k = d then none else some { S with objs := (k, { o with es := [.agg (cs.set i (.sl d S.nx sz 0))] }) :: (d, ⟨S.nx, sz, ty, []⟩) :: S.objs, nx := S.nx + 1 }
      | _ => none
    | _ => none
  | none => none

section
variable {P : Program} {w0 : Bs} {N0 : Nat → Prop} {Q : Exit → AS → Prop} {S : AS} {μ : Mu} {a : Act} {w : World}

theorem RelM.addRow (h : RelM (fun _ => False) w0 N0 μ S a w) (d sz : Nat) (ty : TypeId) :
    RelM (fun _ => False) w0 N0 (muSet μ d S.nx none) { S with objs := (d, ⟨S.nx, sz, ty, []⟩) :: S.objs, nx := S.nx + 1 } a w := by
  have hmono := h.muSet_mono (i := 0) (fun hf => hf) d none
  have hfr := h.muSet_fresh 0 d none
  simp only [Nat.add_zero] at hmono hfr
  obtain ⟨hr, _⟩ := h.update (D' := fun j => False ∨ j = 0) (d := d) (o' := ⟨S.nx, sz, ty, []⟩) (l' := none) (w' := w) (μ' := muSet μ d S.nx none) hmono hfr (muSet_same _ _ _ _) h.below (Keeps.refl _ _)
    (fun _ _ _ _ _ _ _ => rfl) (fun g c e => by cases e) (fun N' hN => rfl)
  refine ⟨hr.defers, hr.size, hr.below, hr.n0, fun d v hv => ?_, hr.objs, hr.inj, hr.env⟩
  rcases hr.fresh d v hv with h1 | ⟨j, hj, e⟩
  · exact .inl (by simp only at h1 ⊢; omega)
  · rcases hj with hj | hj
    · exact hj.elim
    · subst hj; exact .inl (by simp only at e ⊢; omega)

theorem le_adoptS {t d sz : Nat} {ty : TypeId} (ht : get S.env t = some .nils) : S.le (S.adoptS t d sz ty) := by
  rintro w0 N0 a w ⟨μ, h⟩
  have hr := h.addRow d sz ty
  refine ⟨_, ⟨hr.defers, hr.size, hr.below, hr.n0, hr.fresh, hr.objs, hr.inj, fun t' v hv => ?_⟩⟩
  simp only [AS.adoptS, get_cons] at hv
  split at hv
  · rename_i e
    subst e
    injection hv with hv
    subst hv
    obtain ⟨h1, h2⟩ := hr.env t .nils ht
    refine ⟨h1, ?_⟩
    generalize a.tmps.getD t undef = x at h2
    cases h2 with
    | pur h2 => cases h2 with
      | nils A => exact .slv d S.nx sz A (muSet_same _ _ _ _)
  · exact hr.env t' v hv

theorem le_adoptC {k i d sz : Nat} {ty : TypeId} {S' : AS} (hs : S.adoptC k i d sz ty = some S') : S.le S' := by
  unfold AS.adoptC at hs
  split at hs
  case h_2 => cases hs
  rename_i o ho
  split at hs
  case h_2 => cases hs
  rename_i cs hcs
  split at hs
  case h_2 => cases hs
  rename_i hc
  rw [nth_eq] at hc
  split at hs
  case isTrue => cases hs
  rename_i hkd
  injection hs with hs
  subst hs
  rintro w0 N0 a w ⟨μ, h⟩
  have hr := h.addRow d sz ty
  have hko : get ((d, (⟨S.nx, sz, ty, []⟩ : Ob)) :: S.objs) k = some o := by rw [get_cons, if_neg (fun e => hkd e.symm)]; exact ho
  obtain ⟨l, hl, hob⟩ := hr.objs k o hko
  -- the block of variable k is known
  cases l with
  | none =>
    have : o.es = [] := hob
    rw [hcs] at this
    cases this
  | some gc =>
    obtain ⟨g, cap⟩ := gc
    obtain ⟨o1, o2, o3, o4, arr, o5, o6, o7⟩ := hob
    have hsub : ∀ b, b < w.heap.size → Own N0 (muSet μ d S.nx none) { S with objs := (k, { o with es := [.agg (cs.set i (.sl d S.nx sz 0))] }) :: (d, ⟨S.nx, sz, ty, []⟩) :: S.objs, nx := S.nx + 1 } b → Own N0 (muSet μ d S.nx none) { S with objs := (d, ⟨S.nx, sz, ty, []⟩) :: S.objs, nx := S.nx + 1 } b := by
      rintro b _ (h0 | ⟨d1, q, c, h1, h2⟩)
      · exact .inl h0
      · simp only [get_cons k] at h1
        split at h1
        · rename_i e
          subst e
          injection h1 with h1
          subst h1
          exact .inr ⟨k, o, c, hko, h2⟩
        · exact .inr ⟨d1, q, c, h1, h2⟩
    have hk := Keeps.refl w (Own N0 (muSet μ d S.nx none) { S with objs := (d, ⟨S.nx, sz, ty, []⟩) :: S.objs, nx := S.nx + 1 })
    have hfo := o4 (.agg cs) (by rw [hcs]; simp)
    refine ⟨muSet μ d S.nx none, ⟨hr.defers, hr.size, hr.below, hr.n0, hr.fresh, fun d1 q hq => ?_, fun d1 q d2 q2 g1 c1 c2 h1 h2 h3 h4 => ?_, fun t v hv => ⟨(hr.env t v hv).1, (hr.env t v hv).2.keep hk hsub (fun _ _ _ hh => hh)⟩⟩⟩
    · simp only [get_cons k] at hq
      split at hq
      · rename_i e
        subst e
        injection hq with hq
        subst hq
        have hfit : (V.agg (cs.set i (.sl d S.nx sz 0))).fits o.sz := by
          refine ⟨by have := hfo.1; simpa [V.cells] using this, fun c hc' => ?_⟩
          rcases List.mem_or_eq_of_mem_set hc' with h1 | h1
          · exact hfo.2 c h1
          · subst h1; rfl
        refine ⟨some (g, cap), hl, o1, by rw [hcs] at o2; exact o2, o3, fun e he => by simp at he; subst he; exact hfit, arr, o5, o6, fun k' e j c hk' hj => ?_⟩
        rcases k' with _ | k'
        · simp at hk'
          subst hk'
          simp only [V.cells] at hj
          by_cases hij : i = j
          · subst hij
            have hlt : i < cs.length := (List.getElem?_eq_some_iff.1 hc).1
            rw [List.getElem?_set_self hlt] at hj
            injection hj with hj
            subst hj
            obtain ⟨x, hx, hex⟩ := o7 0 (.agg cs) i .nils (by rw [hcs]; rfl) hc
            refine ⟨x, hx, ?_⟩
            cases hex with
            | pur hex => cases hex with
              | nils A => exact .slv d S.nx sz A (muSet_same _ _ _ _)
          · rw [List.getElem?_set_ne hij] at hj
            obtain ⟨x, hx, hex⟩ := o7 0 (.agg cs) j c (by rw [hcs]; rfl) hj
            exact ⟨x, hx, hex.keep hk hsub (fun _ _ _ hh => hh)⟩
        · simp at hk'
      · obtain ⟨l1, hl1, hob1⟩ := hr.objs d1 q hq
        exact ⟨l1, hl1, hob1.keep hk hsub (fun _ _ _ hh => hh) (fun _ _ _ => rfl)⟩
    · have key : ∀ d1 q c1, get ((k, ({ o with es := [.agg (cs.set i (.sl d S.nx sz 0))] } : Ob)) :: (d, (⟨S.nx, sz, ty, []⟩ : Ob)) :: S.objs) d1 = some q → muSet μ d S.nx none d1 q.v = some (some (g1, c1)) →
          ∃ q', get ((d, (⟨S.nx, sz, ty, []⟩ : Ob)) :: S.objs) d1 = some q' ∧ muSet μ d S.nx none d1 q'.v = some (some (g1, c1)) := by
        intro d1 q c1 hq hm
        rw [get_cons k] at hq
        split at hq
        · rename_i e
          subst e
          injection hq with hq
          subst hq
          exact ⟨o, hko, hm⟩
        · exact ⟨q, hq, hm⟩
      obtain ⟨q1, a1, a2⟩ := key d1 q c1 h1 h3
      obtain ⟨q3, b1, b2⟩ := key d2 q2 c2 h2 h4
      exact hr.inj _ _ _ _ _ _ _ a1 b1 a2 b2

theorem aw_adoptS {c : Code} {S' : AS} (t d sz : Nat) (ty : TypeId) (L M : List Nat) (ht : get S.env t = some .nils) (hS : (S.adoptS t d sz ty).keep L M = S') (h : AW P w0 N0 c Q S') : AW P w0 N0 c Q S := by
  subst hS
  exact aw_le (AS.le_trans (le_adoptS ht) (le_keep _ L M)) h
def AS.adoptCK (S : AS) (k i d sz : Nat) (ty : TypeId) (L M : List Nat) : Option AS :=
  match S.adoptC k i d sz ty with
  | some S' => some (S'.keep L M)
  | none => none
theorem aw_adoptC {c : Code} {S' : AS} (k i d sz : Nat) (ty : TypeId) (L M : List Nat) (hS : S.adoptCK k i d sz ty L M = some S') (h : AW P w0 N0 c Q S') : AW P w0 N0 c Q S := by
  unfold AS.adoptCK at hS
  split at hS
  case h_2 => cases hS
  rename_i S1 h1
  injection hS with hS
  subst hS
  exact aw_le (AS.le_trans (le_adoptC h1) (le_keep _ L M)) h
end
attribute [simp] AS.adoptS AS.adoptC AS.adoptCK
end Go.Eng

namespace Go.Eng
open Go.RowKit Go.ChangeShapes Go.WideShapes

def laidFs (P : Program) : List Field → Nat → Nat → Bool
  | [], off, tot => off == tot
  | f :: r, off, tot => (f.offset == off) && laidFs P r (off + P.cellsOf f.type) tot

/-- Types that the reading covers: flags, numbers, texts, slices, structs. -/
def okT (P : Program) : Nat → TypeId → Bool
  | 0, _ => false
  | n + 1, t => match P.underlying t with
    | some .bool | some (.int _) | some .string => P.cellsOf t == 1
    | some (.slice e) => (P.cellsOf t == 1) && decide (0 < P.cellsOf e) && okT P n e
    | some (.struct fs) => laidFs P fs.toList 0 (P.cellsOf t) && fs.toList.all fun f => okT P n f.type
    | _ => false

def mkV (b : Option Bool) (cs : List V) : V := if b = some true then .agg cs else cs.headD .nils

def RdF (P : Program) (r : TypeId → List V → Prop) : List Field → List V → Prop
  | [], vs => vs = []
  | f :: fs, vs => ∃ us ws, vs = us ++ ws ∧ r f.type us ∧ RdF P r fs ws

/-- What the cells of a value of a type look like. -/
def Rd (P : Program) : Nat → TypeId → List V → Prop
  | 0, _, _ => False
  | n + 1, t, vs => match P.underlying t with
    | some .bool => ∃ b, vs = [.bool b]
    | some (.int k) => ∃ i, vs = [.int k i] ∧ (Lit.int k i).wf = true
    | some .string => ∃ l, vs = [.str l] ∧ l.length ≤ maxLen
    | some (.slice e) => ∃ es : List (List V), vs = [.ro (P.cellsOf e) (es.map (mkV (tagg P e)))] ∧ es.length ≤ maxLen ∧ ∀ x ∈ es, Rd P n e x
    | some (.struct fs) => RdF P (Rd P n) fs.toList vs
    | _ => False

def Purs (w : World) (N : Nat → Prop) (cs : List Value) (vs : List V) : Prop :=
  cs.length = vs.length ∧ ∀ (i : Nat) x v, cs[i]? = some x → vs[i]? = some v → Pur w N x v

theorem Purs.append {w : World} {N : Nat → Prop} {a b : List Value} {u v : List V} (h : Purs w N a u) (k : Purs w N b v) : Purs w N (a ++ b) (u ++ v) := by
  refine ⟨by simp [h.1, k.1], fun i x y hx hy => ?_⟩
  by_cases hi : i < a.length
  · rw [List.getElem?_append_left hi] at hx
    rw [List.getElem?_append_left (by rw [← h.1]; exact hi)] at hy
    exact h.2 i x y hx hy
  · rw [List.getElem?_append_right (by omega)] at hx
    rw [List.getElem?_append_right (by rw [← h.1]; omega), ← h.1] at hy
    exact k.2 _ x y hx hy

theorem Purs.one {w : World} {N : Nat → Prop} {x : Value} {v : V} (h : Pur w N x v) : Purs w N [x] [v] := by
  refine ⟨rfl, fun i y u hy hu => ?_⟩
  rcases i with _ | i
  · simp at hy hu; subst hy; subst hu; exact h
  · simp at hy

theorem laidFs_le {P : Program} : ∀ {fs : List Field} {off tot : Nat}, laidFs P fs off tot = true → off ≤ tot
  | [], off, tot, h => by simp [laidFs] at h; omega
  | f :: r, off, tot, h => by simp only [laidFs, Bool.and_eq_true] at h; have := laidFs_le h.2; omega

theorem list_of {α : Type} {p : Nat → α → Prop} : ∀ {n : Nat}, (∀ i, i < n → ∃ y, p i y) → ∃ l : List α, l.length = n ∧ ∀ i y, l[i]? = some y → p i y
  | 0, _ => ⟨[], rfl, by simp⟩
  | n + 1, h => by
    obtain ⟨l, hl, hp⟩ := list_of (n := n) (fun i hi => h i (by omega))
    obtain ⟨y, hy⟩ := h n (by omega)
    refine ⟨l ++ [y], by simp [hl], fun i z hz => ?_⟩
    by_cases hi : i < l.length
    · rw [List.getElem?_append_left hi] at hz; exact hp i z hz
    · rw [List.getElem?_append_right (by omega)] at hz
      have : i - l.length = 0 := by
        rcases h0 : i - l.length with _ | k
        · rfl
        · rw [h0] at hz; simp at hz
      rw [this] at hz
      simp at hz
      subst hz
      have : i = n := by omega
      subst this
      exact hy

theorem map_of {α β : Type} {f : α → β} : ∀ {l : List β}, (∀ x ∈ l, ∃ y, x = f y) → ∃ l' : List α, l = l'.map f
  | [], _ => ⟨[], rfl⟩
  | x :: r, h => by
    obtain ⟨y, hy⟩ := h x (by simp)
    obtain ⟨l', hl'⟩ := map_of (fun x hx => h x (by simp [hx]) : ∀ x ∈ r, ∃ y, x = f y)
    exact ⟨y :: l', by simp [hy, hl']⟩

section
variable {H : Type} {enc : TypeId × Value → H} {P : Program} {w : World} {base : Nat} {spare : Nat → Bool} {held : Bool}

theorem trod_purs : ∀ (n : Nat) {fuel : Nat} {t : TypeId} {cs : List Value} {x : DataW H × List MemPlace}, okT P n t = true → DataW.trod enc P w base spare held fuel t cs = some x →
    ∃ vs, Purs w (fun _ => False) cs vs ∧ (∀ v ∈ vs, v.isCell = true) ∧ Rd P n t vs ∧ cs.length = P.cellsOf t
  | 0, _, _, _, _, h, _ => by simp [okT] at h
  | _ + 1, 0, _, _, _, _, h => by simp [DataW.trod] at h
  | n + 1, fuel + 1, t, cs, x, ho, h => by
    unfold okT at ho
    unfold DataW.trod at h
    unfold Rd
    generalize hu : P.underlying t = u at ho h ⊢
    split at ho
    · -- bool
      simp only [beq_iff_eq] at ho
      split at h <;> simp_all
      rename_i b
      exact ⟨[.bool b], Purs.one (.bool _), by simp [V.isCell], by cases b <;> simp⟩
    · simp only [beq_iff_eq] at ho
      split at h <;> simp_all
      exact ⟨[.int _ _], Purs.one (.int _ _), by simp [V.isCell], _, rfl, h.1.2⟩
    · simp only [beq_iff_eq] at ho
      split at h <;> simp_all
      rename_i s
      refine ⟨[.str s.data.toList], Purs.one ?_, by simp [V.isCell], _, rfl, by simpa using h.1⟩
      have := Pur.str (w := w) (N := fun _ => False) s.data.toList
      simpa using this
    · rename_i e
      simp only [Bool.and_eq_true, beq_iff_eq, decide_eq_true_eq] at ho
      obtain ⟨⟨ho1, ho2⟩, ho3⟩ := ho
      split at h
      all_goals try (exfalso; first | (rename_i he; cases he; done) | (rename_i he _; cases he; done) | (rename_i he _ _; cases he; done) | (cases h; done))
      · refine ⟨[.ro (P.cellsOf e) []], Purs.one (.ro none ⟨0, 0, none⟩ 0 0 _ [] (fun _ _ => undef) rfl (Nat.le_refl _) (Nat.zero_le _) (fun h0 => by omega) (by simp) (by simp) (by simp)), by simp [V.isCell], ⟨[], rfl, by simp, by simp⟩, by simp [ho1]⟩
      · rename_i e' a len cap heq
        cases heq
        simp only at h
        split at h
        case isFalse => cases h
        rename_i hb
        simp only [Option.bind_eq_some_iff] at h
        obtain ⟨elems, he, _⟩ := h
        have hlen : elems.length = len := by simpa using mapM_some_length he
        have hel : ∀ i, i < len → ∃ vs : List V, ∃ ci : List Value, w.cells? base (a.add (i * P.cellsOf e)) (P.cellsOf e) = some ci ∧ Purs w (fun _ => False) ci vs ∧ (∀ v ∈ vs, v.isCell = true) ∧ Rd P n e vs ∧ ci.length = P.cellsOf e := by
          intro i hi
          have h1 := mapM_some_get he i i (by simp [hi])
          rw [List.getElem?_eq_getElem (by omega)] at h1
          simp only [Option.bind_eq_some_iff] at h1
          obtain ⟨ci, h2, h3⟩ := h1
          obtain ⟨vs, h4, h5, h6, h7⟩ := trod_purs n ho3 h3
          exact ⟨vs, ci, h2, h4, h5, h6, h7⟩
        obtain ⟨es, hes, hp⟩ := list_of hel
        have hcells : ∀ (k : Nat) us, es[k]? = some us → (mkV (tagg P e) us).cells = us ∧ (mkV (tagg P e) us).fits (P.cellsOf e) := by
          intro k us hk
          obtain ⟨ci, h1, h2, h3, h4, h5⟩ := hp k us hk
          have hc : (mkV (tagg P e) us).cells = us := by
            unfold mkV
            split
            · rfl
            · rename_i hna
              have h1' : us.length = 1 := by
                rw [← h2.1, h5]
                cases n with
                | zero => simp [okT] at ho3
                | succ n =>
                  unfold okT at ho3
                  unfold tagg at hna
                  generalize P.underlying e = ue at ho3 hna
                  split at ho3
                  · simpa using ho3
                  · simpa using ho3
                  · simpa using ho3
                  · simp only [Bool.and_eq_true, beq_iff_eq] at ho3; exact ho3.1.1
                  · simp at hna
                  · cases ho3
              match us, h1', h3 with
              | [c], _, h3 => simpa using V.cells_one (h3 c (by simp))
          exact ⟨hc, by rw [hc, ← h2.1, h5], by rw [hc]; exact h3⟩
        refine ⟨[.ro (P.cellsOf e) (es.map (mkV (tagg P e)))], Purs.one (.ro (some a) a len cap _ _ (fun k j => (w.cell? (a.add (k * P.cellsOf e + j))).getD undef) (by simp [hes]) hb.2.1 hb.2.2 (fun h0 => ⟨rfl, ?_, id⟩) ?_ ?_ ?_), by simp [V.isCell], ⟨es, rfl, by omega, ?_⟩, by simp [ho1]⟩
        · obtain ⟨vs, ci, h1, _, _, _, h5⟩ := hel 0 h0
          obtain ⟨_, h6, h7⟩ := World.cells?_some h1
          have := h7 0 ho2
          rw [List.getElem?_eq_getElem (by omega)] at this
          have := World.block_lt_of_cell? _ _ this
          rwa [add_block, add_block] at this
        · intro v hv
          simp only [List.mem_map] at hv
          obtain ⟨us, hus, rfl⟩ := hv
          obtain ⟨k, hk⟩ := List.getElem?_of_mem hus
          exact (hcells k us hk).2
        all_goals
          try
            intro k v j c hk hj
            simp only [List.getElem?_map, Option.map_eq_some_iff] at hk
            obtain ⟨us, hk, rfl⟩ := hk
            rw [(hcells k us hk).1] at hj
            obtain ⟨ci, h1, h2, h3, h4, h5⟩ := hp k us hk
            obtain ⟨_, h6, h7⟩ := World.cells?_some h1
            have hjl : j < us.length := (List.getElem?_eq_some_iff.1 hj).1
            have hji : j < ci.length := by rw [h2.1]; exact hjl
            have h8 := h7 j (by omega)
            rw [add_add', List.getElem?_eq_getElem hji] at h8
        · rw [h8]; rfl
        · rw [h8]; exact h2.2 j _ c (List.getElem?_eq_getElem hji) hj
        · intro us hus
          obtain ⟨k, hk⟩ := List.getElem?_of_mem hus
          exact (hp k us hk).choose_spec.2.2.2.1
    · rename_i fs
      simp only [Bool.and_eq_true, List.all_eq_true] at ho
      obtain ⟨hlaid, hall⟩ := ho
      replace h : (if cs.length = P.cellsOf t then (fs.toList.mapM fun f => DataW.trod enc P w base spare held fuel f.type ((cs.drop f.offset).take (P.cellsOf f.type))).map fun xs => (DataW.agg (xs.map (·.1)), xs.flatMap (·.2)) else none) = some x := h
      split at h
      case isFalse => cases h
      rename_i hlen
      simp only [Option.map_eq_some_iff] at h
      obtain ⟨xs, hxs, _⟩ := h
      have hf : ∀ f ∈ fs.toList, ∃ vs, Purs w (fun _ => False) ((cs.drop f.offset).take (P.cellsOf f.type)) vs ∧ (∀ v ∈ vs, v.isCell = true) ∧ Rd P n f.type vs ∧ ((cs.drop f.offset).take (P.cellsOf f.type)).length = P.cellsOf f.type := by
        intro f hfm
        obtain ⟨i, hi⟩ := List.getElem?_of_mem hfm
        have h1 := mapM_some_get hxs i f hi
        have hl := mapM_some_length hxs
        have hil : i < xs.length := by rw [hl]; exact (List.getElem?_eq_some_iff.1 hi).1
        rw [List.getElem?_eq_getElem hil] at h1
        exact trod_purs n (hall f hfm) h1
      have key : ∀ (l : List Field) (off : Nat), laidFs P l off (P.cellsOf t) = true → (∀ f ∈ l, ∃ vs, Purs w (fun _ => False) ((cs.drop f.offset).take (P.cellsOf f.type)) vs ∧ (∀ v ∈ vs, v.isCell = true) ∧ Rd P n f.type vs ∧ ((cs.drop f.offset).take (P.cellsOf f.type)).length = P.cellsOf f.type) →
          ∃ vs, Purs w (fun _ => False) (cs.drop off) vs ∧ (∀ v ∈ vs, v.isCell = true) ∧ RdF P (Rd P n) l vs := by
        intro l
        induction l with
        | nil =>
          intro off hl _
          simp only [laidFs, beq_iff_eq] at hl
          refine ⟨[], ⟨by simp; omega, by simp⟩, by simp, rfl⟩
        | cons f l ih =>
          intro off hl hh
          simp only [laidFs, Bool.and_eq_true, beq_iff_eq] at hl
          obtain ⟨ho, hl⟩ := hl
          subst ho
          obtain ⟨ws, h1, h2, h3⟩ := ih _ hl (fun g hg => hh g (by simp [hg]))
          obtain ⟨us, g1, g2, g3, _⟩ := hh f (by simp)
          refine ⟨us ++ ws, ?_, ?_, us, ws, rfl, g3, h3⟩
          · have := g1.append h1
            rwa [← List.drop_drop, List.take_append_drop] at this
          · intro v hv
            rcases List.mem_append.1 hv with hv | hv
            · exact g2 v hv
            · exact h2 v hv
      obtain ⟨vs, h1, h2, h3⟩ := key fs.toList 0 hlaid hf
      exact ⟨vs, by simpa using h1, h2, h3, hlen⟩
    · cases ho

/-- What an argument of a type looks like. -/
def RdV (P : Program) (n : Nat) (t : TypeId) (v : V) : Prop := ∃ vs, Rd P n t vs ∧ v = mkV (tagg P t) vs

theorem arg_pur {n : Nat} {r : Reach} {b0 : Nat} {t : TypeId} {v : Value} {d : DataW H} {ps : List MemPlace} (ho : okT P n t = true) (hval : Value.okWide P w r b0 t v) (hd : DataW.Trod enc P w base spare held t v d ps) :
    ∃ u, Pur w (fun _ => False) v u ∧ RdV P n t u := by
  obtain ⟨fuel, hf⟩ := hd
  obtain ⟨vs, h1, h2, h3, h4⟩ := trod_purs n ho hf
  refine ⟨mkV (tagg P t) vs, ?_, vs, h3, rfl⟩
  cases n with
  | zero => simp [okT] at ho
  | succ n =>
  unfold okT at ho
  generalize hu : P.underlying t = u at ho
  have one : v.cells = #[v] → tagg P t = some false → Pur w (fun _ => False) v (mkV (tagg P t) vs) := by
    intro hv hb
    have hl := h1.1
    rw [hv] at hl h1
    match vs, hl, h1 with
    | [c], _, h1 =>
      rw [hb]
      exact h1.2 0 v c rfl rfl
  split at ho
  · obtain ⟨b, rfl⟩ := okWide_bool hu hval
    exact one rfl (by simp [tagg, hu])
  · obtain ⟨b, rfl⟩ := okWide_int hu hval
    exact one rfl (by simp [tagg, hu])
  · obtain ⟨b, rfl⟩ := okWide_string hu hval
    exact one rfl (by simp [tagg, hu])
  · obtain ⟨a, l, c, rfl⟩ := okWide_slice hu hval
    exact one rfl (by simp [tagg, hu])
  · obtain ⟨cs, rfl, _⟩ := okWide_struct hu hval
    have : tagg P t = some true := by simp [tagg, hu]
    rw [this]
    have := Pur.agg cs.toList vs h1.1 h2 h1.2
    simpa [mkV] using this
  · cases ho

end

/-- Values one by one of their types. -/
def RdAll (P : Program) (n : Nat) : List TypeId → List V → Prop
  | [], vs => vs = []
  | t :: ts, vs => ∃ u us, vs = u :: us ∧ RdV P n t u ∧ RdAll P n ts us

theorem args_pur {H : Type} {enc : TypeId × Value → H} {P : Program} {n : Nat} {W : World} {r : Reach} {b0 : Nat} {sp : Nat → Bool} {hd : Bool} : ∀ {ts : List TypeId} {vs : List Value} {ds : List (DataW H)} {ps : List MemPlace}, (∀ t ∈ ts, okT P n t = true) →
    (∀ (j : Nat) t v, ts[j]? = some t → vs[j]? = some v → Value.okWide P W r b0 t v) → DataW.TrodAll enc P W 0 sp hd ts vs ds ps → ∃ us, RdAll P n ts us ∧ Purs W (fun _ => False) vs us
  | [], vs, ds, ps, _, _, h => by
    obtain ⟨rfl, rfl, rfl⟩ := trodAll_nil h
    exact ⟨[], rfl, rfl, by simp⟩
  | t :: ts, vs, ds, ps, ho, hv, h => by
    obtain ⟨v, vs', d, ds', p, q, rfl, rfl, rfl, h1, h2⟩ := trodAll_cons h
    obtain ⟨u, g1, g2⟩ := arg_pur (ho t (by simp)) (hv 0 t v rfl rfl) h1
    obtain ⟨us, g3, g4⟩ := args_pur (fun t ht => ho t (by simp [ht])) (fun j t' v' ht hv' => hv (j + 1) t' v' ht hv') h2
    exact ⟨u :: us, ⟨u, us, rfl, g2, g3⟩, (Purs.one g1).append g4⟩

theorem trodAll_below {H : Type} {enc : TypeId × Value → H} {P : Program} {W W' : World} (hl : laidOutB P = true) (hb : Below W.heap.size W W') : ∀ {ts : List TypeId} {vs : List Value} {ds : List (DataW H)} {ps : List MemPlace},
    (∀ t ∈ ts, P.readableRec t = true ∧ t < P.types.size) → DataW.TrodAll enc P W 0 (fun _ => true) true ts vs ds ps → DataW.TrodAll enc P W' 0 (fun b => decide (b < W.heap.size)) true ts vs ds ps
  | [], vs, ds, ps, _, h => by
    obtain ⟨rfl, rfl, rfl⟩ := trodAll_nil h
    exact trodAll_mk0
  | t :: ts, vs, ds, ps, ho, h => by
    obtain ⟨v, vs', d, ds', p, q, rfl, rfl, rfl, h1, h2⟩ := trodAll_cons h
    have k0 := h1
    have lt0 : ∀ x ∈ p, x.block < W.heap.size := by obtain ⟨m, hm⟩ := k0; exact DataW.trod_lt m _ _ _ hm
    exact trodAll_cons_mk (Below.trod hl (ho t (by simp)).1 (ho t (by simp)).2 h1 hb lt0) (trodAll_below hl hb (fun t ht => ho t (by simp [ht])) h2)

/-- The row's step from a contract: for all that can come in the law returns true. -/
theorem row_contract {H : Type} {enc : TypeId × Value → H} {P : Program} {f : FuncId} {fn : Func} {s : ChangeSpec} {n : Nat} {tb : TypeId} {ts : List TypeId} (hts : fn.params.toList = ts) (hok : (ts.all fun t => okT P n t && P.readableRec t && decide (t < P.types.size)) = true) (hlaid : laidOutB P = true) (hres : fn.resultTypes = #[tb]) (htb : P.underlying tb = some .bool)
    (hvars : s.vars = []) (hs : ∀ ds : List (DataW H), ds.length = ts.length → s.fn H ds = { results := [.lit (.bool true)], args := ds }) (hc : ∀ vs, RdAll P n ts vs → AC P f vs (fun r => r = .bool true))
    {W : World} {base : Nat} {args : Array Value} {ds gs : List (DataW H)} {before : List MemPlace}
    (hval : ∀ (j : Nat) t v, fn.params[j]? = some t → args[j]? = some v → Value.okWide P W .any base t v) (hW : DataW.Whole enc P fn.params.toList s.vars false W args.toList ds gs before) :
    Calls P f args W fun e W' => ∃ v, e = .returned v ∧ s.post enc P fn false true false false W args v W' := by
  have hW' := hW
  obtain ⟨p, q, hA, hV, rfl, hfz, hnd⟩ := hW
  rw [hvars] at hV
  obtain ⟨rfl, rfl⟩ := trodVars_none hV
  have hdl : ds.length = ts.length := by
    have : ∀ (ts : List TypeId) (vs : List Value) (ds : List (DataW H)) (ps : List MemPlace), DataW.TrodAll enc P W 0 (fun _ => true) true ts vs ds ps → ds.length = ts.length := by
      intro ts
      induction ts with
      | nil => intro vs ds ps h; obtain ⟨_, rfl, _⟩ := trodAll_nil h; rfl
      | cons t ts ih => intro vs ds ps h; obtain ⟨v, vs', d, ds', p, q, rfl, rfl, rfl, _, h2⟩ := trodAll_cons h; simp [ih _ _ _ h2]
    rw [← hts]; exact this _ _ _ _ hA
  have hall : ∀ t ∈ ts, okT P n t = true ∧ P.readableRec t = true ∧ t < P.types.size := by
    intro t ht
    have := List.all_eq_true.1 hok t ht
    simp only [Bool.and_eq_true, decide_eq_true_eq] at this
    exact ⟨this.1.1, this.1.2, this.2⟩
  obtain ⟨us, h1, h2⟩ := args_pur (n := n) (ts := ts) (fun t ht => (hall t ht).1) (fun j t v ht hv => hval j t v (by rw [← hts] at ht; simpa using ht) (by simpa using hv)) (hts ▸ hA)
  have hcall := hc us h1 W (fun _ => False) args.toList (fun _ hb => hb.elim) h2.1 h2.2
  rw [show args.toList.toArray = args by simp] at hcall
  refine hcall.mono ?_
  rintro e W1 ⟨x, r, rfl, rfl, hp, hb⟩
  obtain rfl : x = .bool true := by cases hp; rfl
  refine ⟨_, rfl, ds, [], p ++ [], [], p, [], hW', ?_, ?_, ?_, hb.frame _, fun h => by cases h⟩
  · rw [List.append_nil, hs ds hdl, hres]
    exact trodAll_mk1 (shut_bool htb true)
  · rw [List.append_nil, hs ds hdl]
    exact trodAll_below hlaid hb (fun t ht => (hall t (hts ▸ ht)).2) hA
  · rw [List.append_nil, hs ds hdl, hvars]
    exact rfl

section
variable {P : Program} {n : Nat} {t e : TypeId} {k : IntKind} {vs : List V} {fs : Array Field}
theorem rd_bool (hu : P.underlying t = some .bool) (h : Rd P n t vs) : ∃ b, vs = [.bool b] := by
  cases n with
  | zero => exact h.elim
  | succ n => unfold Rd at h; rw [hu] at h; exact h
theorem rd_int (hu : P.underlying t = some (.int k)) (h : Rd P n t vs) : ∃ i, vs = [.int k i] ∧ (Lit.int k i).wf = true := by
  cases n with
  | zero => exact h.elim
  | succ n => unfold Rd at h; rw [hu] at h; exact h
theorem rd_str (hu : P.underlying t = some .string) (h : Rd P n t vs) : ∃ l, vs = [.str l] ∧ l.length ≤ maxLen := by
  cases n with
  | zero => exact h.elim
  | succ n => unfold Rd at h; rw [hu] at h; exact h
theorem rd_slice (hu : P.underlying t = some (.slice e)) (h : Rd P n t vs) : ∃ es : List (List V), vs = [.ro (P.cellsOf e) (es.map (mkV (tagg P e)))] ∧ es.length ≤ maxLen ∧ ∀ x ∈ es, Rd P (n - 1) e x := by
  cases n with
  | zero => exact h.elim
  | succ n => unfold Rd at h; rw [hu] at h; exact h
theorem rd_struct (hu : P.underlying t = some (.struct fs)) (h : Rd P n t vs) : RdF P (Rd P (n - 1)) fs.toList vs := by
  cases n with
  | zero => exact h.elim
  | succ n => unfold Rd at h; rw [hu] at h; exact h
end
theorem map_map_of {α β γ : Type} {f : α → β} {g : β → γ} {l : List β} {f' : α → γ} (h : ∀ x ∈ l, ∃ y, x = f y) (hg : ∀ y, g (f y) = f' y) : ∃ l' : List α, l.map g = l'.map f' ∧ l'.length = l.length := by
  obtain ⟨l', rfl⟩ := map_of h
  exact ⟨l', by rw [List.map_map]; exact List.map_congr_left fun y _ => hg y, by simp⟩

end Go.Eng
