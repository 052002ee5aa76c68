/- That the model makes and writes memory as the abstract step says: stores, literals, make; and all such operations together. No condition. -/
import Derived.Test.YtepkalebaaidcaaEng8
import Derived.Laws.CopyOwn
namespace Go.Eng
open Go.RowKit

section
variable {D : Nat → Prop} {w0 w : World} {N0 : Nat → Prop} {μ : Mu} {S : AS} {a : Act} {P : Program}

theorem tok_spec {t n : Nat} (h : tok P t = some n) : ∃ z, tzero P t = some z ∧ tsz P t = some n ∧ z.cells.length = n ∧ cellOk z = true ∧ 0 < n := by
  unfold tok at h
  split at h
  case h_2 => cases h
  rename_i z m h1 h2
  split at h
  case isFalse => cases h
  rename_i hb
  injection h with h
  subst h
  exact ⟨z, h1, h2, hb.1, hb.2.1, hb.2.2⟩

theorem eff_store (h : RelM D w0 N0 μ S a w) {t d v k off n : Nat} {x y : Value} {u e : V} {o : Ob} (hx : Enc w (Own N0 μ S) μ x (.bp d v o.sz k off)) (hy : Enc w (Own N0 μ S) μ y u) (hn : tsz P t = some n) (ho : get S.objs d = some o)
    (hov : o.v = v) (hu : u.cells.length = n) (huk : cellOk u = true) (hpos : 0 < n) (hk : o.es[k]? = some e) (hle : off + n ≤ e.cells.length) :
    ∃ w', (Instr.storeAt t x y).run P w = .ok () w' ∧ RelM D w0 N0 μ { S with objs := (d, { o with es := o.es.set k (e.setPart off u) }) :: S.objs } a w' := by
  subst hov
  subst hu
  cases hx with
  | pur hx => cases hx
  | bp _ _ _ _ _ g cap hm =>
  obtain ⟨l, hl', hob⟩ := h.objs d o ho
  rw [hm] at hl'
  injection hl' with hl'
  subst hl'
  obtain ⟨o1, o2, o3, o4, arr, o5, o6, o7⟩ := hob
  have hfe := o4 e (List.mem_of_getElem? hk)
  have hrowy := hy.row huk
  have hys : y.cells.toList.length = u.cells.length := hrowy.1
  have hsc := setPart_cells (u := u) hle hpos
  have hfe' : (e.setPart off u).fits o.sz := by
    refine ⟨by rw [hsc]; simp; have := hfe.1; omega, fun c hc => ?_⟩
    rw [hsc] at hc
    simp only [List.mem_append] at hc
    rcases hc with (hc | hc) | hc
    · exact hfe.2 c (List.mem_of_mem_take hc)
    · exact List.all_eq_true.1 huk c hc
    · exact hfe.2 c (List.mem_of_mem_drop hc)
  have hkl : k < o.es.length := (List.getElem?_eq_some_iff.1 hk).1
  have hbound : k * o.sz + off + u.cells.length ≤ o.es.length * o.sz := by
    have h1 : (k + 1) * o.sz ≤ o.es.length * o.sz := Nat.mul_le_mul_right _ hkl
    have h2 := hfe.1
    rw [Nat.add_mul] at h1
    omega
  have hcapb : o.es.length * o.sz ≤ arr.size := by rw [o6]; exact Nat.mul_le_mul_right _ o2
  have hone : ∀ v ∈ y.cells.toList, v.oneCell' = true := by
    intro v hv
    obtain ⟨j, hj⟩ := List.getElem?_of_mem hv
    have hjl : j < u.cells.length := by rw [← hys]; exact (List.getElem?_eq_some_iff.1 hj).1
    have hc := List.getElem?_eq_getElem hjl
    exact (hrowy.2 j v _ hj hc).cell_oneCell (List.all_eq_true.1 huk _ (List.getElem_mem hjl))
  have hst := run_storeCells_at (P := P) g (k * o.sz + off) o.ty y.cells.toList 0 arr w o5 (by rw [hys]; omega) hone
  simp only [Nat.add_zero, hys] at hst
  refine ⟨w.setRow g (arr.toList.take (k * o.sz + off) ++ y.cells.toList ++ arr.toList.drop (k * o.sz + off + u.cells.length)).toArray, ?_, ?_⟩
  · have hcs : y.cells.size = u.cells.length := by simpa using hys
    simp only [Instr.storeAt, Instr.sureAddr, Sem.run_bind, Sem.run_pure, Result.andThen_ok, storeVar, tsz_run hn, hcs, ne_eq, not_true_eq_false, if_false, hst]
  · have hkeep : Keeps w (Own N0 μ S) (w.setRow g (arr.toList.take (k * o.sz + off) ++ y.cells.toList ++ arr.toList.drop (k * o.sz + off + u.cells.length)).toArray) :=
      ⟨by simp, fun b hb hN => setRow_other w g b _ (fun e => hN (by subst e; exact .inr ⟨d, o, cap, ho, hm⟩))⟩
    refine (h.update (D' := D) (d := d) (o' := { o with es := o.es.set k (e.setPart off u) }) (l' := some (g, cap)) (μ' := μ) (fun _ _ _ hh => hh) h.fresh hm (below_setRow h.below o1 _) hkeep
      (fun d1 o1' g1 c1 hne1 h1 h2 => setRow_other w g g1 _ (fun e => hne1 (by subst e; exact h.inj _ _ _ _ _ _ _ h1 ho h2 hm)))
      (fun g2 c2 e => by
        simp only [Option.some.injEq, Prod.mk.injEq] at e
        obtain ⟨rfl, rfl⟩ := e
        exact .inr ⟨o, cap, ho, hm⟩) (fun N' hN => ?_)).1
    have hfit : ∀ e1 ∈ o.es.set k (e.setPart off u), e1.fits o.sz := fun e1 he1 => by
      rcases List.mem_or_eq_of_mem_set he1 with h1 | h1
      · exact o4 e1 h1
      · subst h1; exact hfe'
    refine ⟨o1, by simpa using o2, o3, hfit, _, setRow_heap w g arr _ o.ty (0, 0) o5, ?_, ?_⟩
    · simp only [List.size_toArray, List.length_append, List.length_take, List.length_drop, Array.length_toList, hys]
      rw [← o6]
      omega
    · refine row_cells hfit ?_
      have hxs := cells_row (w := w) (N := Own N0 μ S) (μ := μ) o4 hcapb o7
      have hxs' : Row (w.setRow g (arr.toList.take (k * o.sz + off) ++ y.cells.toList ++ arr.toList.drop (k * o.sz + off + u.cells.length)).toArray) N' μ (arr.toList.take (o.es.length * o.sz)) (flat o.es) := ⟨hxs.1, fun j x c h1 h2 => (hxs.2 j x c h1 h2).keep hkeep hN (fun _ _ _ hh => hh)⟩
      have hry' : Row (w.setRow g (arr.toList.take (k * o.sz + off) ++ y.cells.toList ++ arr.toList.drop (k * o.sz + off + u.cells.length)).toArray) N' μ y.cells.toList u.cells := ⟨hrowy.1, fun j x c h1 h2 => (hrowy.2 j x c h1 h2).keep hkeep hN (fun _ _ _ hh => hh)⟩
      rw [flat_set o4 hk hle hsc]
      simp only [List.length_set]
      have e1 : (arr.toList.take (k * o.sz + off) ++ y.cells.toList ++ arr.toList.drop (k * o.sz + off + u.cells.length)).toArray.toList.take (o.es.length * o.sz) =
          (arr.toList.take (o.es.length * o.sz)).take (k * o.sz + off) ++ y.cells.toList ++ (arr.toList.take (o.es.length * o.sz)).drop (k * o.sz + off + u.cells.length) := by
        rw [List.take_take, Nat.min_eq_left (by omega), List.drop_take]
        simp only [List.append_assoc]
        rw [List.take_append, List.take_append]
        have hA : (arr.toList.take (k * o.sz + off)).length = k * o.sz + off := by simp; omega
        rw [hA, hys, List.take_of_length_le (by rw [hA]; omega), List.take_of_length_le (l := y.cells.toList) (by rw [hys]; omega)]
        congr 3
        omega
      rw [e1]
      exact ((hxs'.take _).append hry').append (hxs'.drop _)

theorem asets_fits {sz : Nat} : ∀ {vs : List (Nat × V)} {es r : List V}, (∀ e ∈ es, e.fits sz) → asets sz es vs = some r → (∀ e ∈ r, e.fits sz) ∧ r.length = es.length
  | [], es, r, h, hr => by simp only [asets, Option.some.injEq] at hr; subst hr; exact ⟨h, rfl⟩
  | (i, v) :: vs, es, r, h, hr => by
    simp only [asets] at hr
    split at hr
    case isFalse => cases hr
    rename_i hb
    obtain ⟨h1, h2⟩ := asets_fits (es := es.set i v) (fun e he => by
      rcases List.mem_or_eq_of_mem_set he with h1 | h1
      · exact h e h1
      · subst h1; rw [← hb.1]; exact cellOk_fits hb.2.2) hr
    exact ⟨h1, by simpa using h2⟩

/-- Elements put into a row of zeros. -/
theorem fills_run {N : Nat → Prop} {sz : Nat} (hsz : 0 < sz) : ∀ (vs : List (Nat × V)) (ps : List (Nat × Value)) (es : List V) (cells : Array Value) (r : List V), ps.length = vs.length →
    (∀ (j : Nat) p q, ps[j]? = some p → vs[j]? = some q → p.1 = q.1 ∧ Enc w N μ p.2 q.2) → (∀ e ∈ es, e.fits sz) → Row w N μ cells.toList (flat es) → asets sz es vs = some r →
    ∃ out, Instr.fill (fun i => some (i * sz, sz)) cells ps = some out ∧ Row w N μ out.toList (flat r)
  | [], [], es, cells, r, _, _, _, hr, h => by
    simp only [asets, Option.some.injEq] at h
    subst h
    exact ⟨cells, rfl, hr⟩
  | [], _ :: _, _, _, _, h, _, _, _, _ => by simp at h
  | _ :: _, [], _, _, _, h, _, _, _, _ => by simp at h
  | (i, v) :: vs, (i', x) :: ps, es, cells, r, hl, hp, hf, hr, h => by
    obtain ⟨e, hx⟩ := hp 0 _ _ rfl rfl
    simp only at e hx
    subst e
    simp only [asets] at h
    split at h
    case isFalse => cases h
    rename_i hb
    obtain ⟨hv1, hv2, hv3⟩ := hb
    have hrow := hx.row hv3
    have hxs : x.cells.size = sz := by have := hrow.1; simp at this; omega
    have hcs : cells.size = es.length * sz := by have := hr.1; rw [flat_length hf] at this; simpa using this
    have hk := List.getElem?_eq_getElem hv2
    have hfe := hf _ (List.getElem_mem hv2)
    have hfs := flat_set hf (k := i') (e := es[i']) (e' := v) (off := 0) (us := v.cells) hk (by have := hfe.1; omega) (by
      have := hfe.1
      rw [List.drop_of_length_le (by omega)]
      simp)
    have hm : (i' + 1) * sz ≤ es.length * sz := Nat.mul_le_mul_right _ hv2
    rw [Nat.add_mul, Nat.one_mul] at hm
    have hnew : Row w N μ (x.cells.zipIdx.foldl (fun cs p => cs.setIfInBounds (i' * sz + p.2) p.1) cells).toList (flat (es.set i' v)) := by
      rw [← Array.foldl_toList, Array.toList_zipIdx, foldl_set (i' * sz) x.cells.toList 0 cells (by simp; omega), hfs]
      simp only [Nat.add_zero, Array.length_toList, hxs, hv1]
      exact ((hr.take _).append hrow).append (hr.drop _)
    obtain ⟨out, h1, h2⟩ := fills_run hsz vs ps (es.set i' v) _ r (by simpa using hl) (fun j p q h1 h2 => hp (j + 1) p q (by simpa using h1) (by simpa using h2)) (fun e he => by
      rcases List.mem_or_eq_of_mem_set he with h1 | h1
      · exact hf e h1
      · subst h1; rw [← hv1]; exact cellOk_fits hv3) hnew h
    refine ⟨out, ?_, h2⟩
    simp only [Instr.fill, hxs]
    rw [if_neg (by simp; omega)]
    exact h1

theorem flat_replicate (z : V) (n : Nat) : flat (List.replicate n z) = (List.replicate n z.cells).flatten := by
  simp [flat, List.flatMap, List.map_replicate]

theorem zeros_row {N : Nat → Prop} {zc : Array Value} {z : V} {sz n : Nat} (hz : Row w N μ zc.toList z.cells) (hs : z.cells.length = sz) (hpos : 0 < sz) (hf : z.fits sz) :
    Row w N μ ((Array.range (n * sz)).map (zc[· % zc.size]!)).toList (flat (List.replicate n z)) := by
  have hfit : ∀ e ∈ List.replicate n z, e.fits sz := fun e he => by rw [List.eq_of_mem_replicate he]; exact hf
  have hzs : zc.size = sz := by have := hz.1; simp at this; omega
  refine ⟨by rw [flat_length hfit]; simp, fun i x c hx hc => ?_⟩
  have hi : i < n * sz := by have := (List.getElem?_eq_some_iff.1 hx).1; simpa using this
  have hk : i / sz < n := Nat.div_lt_of_lt_mul (by rw [Nat.mul_comm]; exact hi)
  have hmod : i % sz < sz := Nat.mod_lt _ hpos
  have hj : i % sz < z.cells.length := by omega
  have e1 : i / sz * sz + i % sz = i := by rw [Nat.mul_comm]; exact Nat.div_add_mod i sz
  have hfl := flat_get hfit (k := i / sz) (e := z) (by simp [hk]) (List.getElem?_eq_getElem hj)
  rw [e1, hc] at hfl
  injection hfl with hfl
  subst hfl
  have hzx : zc.toList[i % sz]? = some (zc[i % sz]'(by omega)) := by simp [hzs, hmod]
  have := hz.2 _ _ _ hzx (List.getElem?_eq_getElem hj)
  have hxx : x = zc[i % sz]'(by omega) := by
    simp only [Array.toList_map, Array.toList_range, List.getElem?_map, List.getElem?_range hi, Option.map_some, Option.some.injEq, hzs] at hx
    rw [← hx]
    simp [hzs, hmod]
  rw [hxx]
  exact this


theorem aeff_run (h : RelM D w0 N0 μ S a w) {i : Nat} (hi : ¬ D i) {o : Oper} {S' : AS} (hv : aeff P i S o.dst o.op = some S') :
    ∃ x w', Does P o a w x w' ∧ RelD (fun j => D j ∨ j = i) w0 N0 S' (a.put o.dst x) w' := by
  unfold aeff at hv
  split at hv
  case h_2 => cases hv
  rename_i O val hc0
  unfold Does execOp
  cases hop : o.op <;> rw [hop] at hc0 <;> simp only [acore] at hc0 <;> (try (cases hc0; done)) <;> dsimp only
  case alloc t =>
    split at hc0
    case h_2 => cases hc0
    rename_i d z n hd hz hk
    simp only [Option.some.injEq, Prod.mk.injEq] at hc0
    obtain ⟨rfl, rfl⟩ := hc0
    obtain ⟨z', hz', h2, h3, h4, h5⟩ := tok_spec hk
    rw [hz] at hz'
    injection hz' with hz'
    subst hz'
    subst h3
    obtain ⟨zv, hrun, hpz⟩ := tzero_run hz w (Own N0 μ S)
    rw [hd] at hv ⊢
    obtain ⟨μ', hr⟩ := eff_newVar h hi (t := t) (.pur hpz) h4 hv
    refine ⟨_, _, .inl ?_, ⟨μ', hr⟩⟩
    simp only [Sem.run_bind, Instr.alloc, hrun, Result.andThen_ok, newVar, newRow, run_newObj, World.alloc_eq, Sem.run_pure]
  case box t x =>
    split at hc0
    case h_2 => cases hc0
    rename_i d z hd hz
    split at hc0
    case isFalse => cases hc0
    rename_i hok
    simp only [Option.some.injEq, Prod.mk.injEq] at hc0
    obtain ⟨rfl, rfl⟩ := hc0
    rw [hd] at hv ⊢
    obtain ⟨μ', hr⟩ := eff_newVar h hi (t := t) (h.evc hz rfl) hok hv
    refine ⟨_, _, .inl ?_, ⟨μ', hr⟩⟩
    simp only [Sem.run_bind, Instr.box, newVar, newRow, run_newObj, World.alloc_eq, Result.andThen_ok, Sem.run_pure]
  case buildSlice t len parts =>
    split at hc0
    case h_2 => cases hc0
    rename_i d te vs hd hte hvs
    split at hc0
    case h_2 => cases hc0
    rename_i z n hz hk
    split at hc0
    case isFalse => cases hc0
    rename_i hle
    split at hc0
    case h_2 => cases hc0
    rename_i es hes
    simp only [Option.some.injEq, Prod.mk.injEq] at hc0
    obtain ⟨rfl, rfl⟩ := hc0
    obtain ⟨z', hz', h2, h3, h4, h5⟩ := tok_spec hk
    rw [hz] at hz'
    injection hz' with hz'
    subst hz'
    have hu := telem_underlying hte
    obtain ⟨zv, hrun, hpz⟩ := tzero_run hz w (Own N0 μ S)
    obtain ⟨e1, e2⟩ := h.evs rfl hvs
    have hfz : z.fits n := by rw [← h3]; exact cellOk_fits h4
    have hfr : ∀ e ∈ List.replicate len z, e.fits n := fun e he => by rw [List.eq_of_mem_replicate he]; exact hfz
    have hzrow : Row w (Own N0 μ S) μ zv.cells.toList z.cells := (Enc.pur (μ := μ) hpz).row h4
    have hzr := zeros_row (n := len) hzrow h3 h5 hfz
    obtain ⟨out, f1, f2⟩ := fills_run (w := w) (μ := μ) (N := Own N0 μ S) h5 vs (parts.toList.map fun p => (p.1, a.eval p.2)) (List.replicate len z) _ es (by simp [e1]) (fun j p q hp hq => by
      simp only [List.getElem?_map, Option.map_eq_some_iff] at hp
      obtain ⟨p', hp', rfl⟩ := hp
      exact e2 j p' q hp' hq) hfr hzr hes
    obtain ⟨g1, g2⟩ := asets_fits hfr hes
    have hlen : es.length = len := by simpa using g2
    have hos : out.size = len * n := by have := f2.1; rw [flat_length g1, hlen] at this; simpa using this
    have hmax : len ≤ maxLen := by
      have : len ≤ len * n := Nat.le_mul_of_pos_right _ h5
      simp only [maxLen]; omega
    rw [hd] at hv ⊢
    have hr := h.alloc hi d out te n len es hos (by omega) hmax g1 (row_cells g1 (by rw [hlen, List.take_of_length_le (by simp [hos])]; exact f2))
    refine ⟨_, _, .inl ?_, ⟨_, hr.putv hv (.slr d (S.nx + i) n len w.heap.size len (muSet_same _ _ _ _) (Nat.le_refl _) hmax)⟩⟩
    have hnot : ¬ (len * n > 2 ^ 24) := by omega
    by_cases h0 : len * n = 0
    · have hf1 : Instr.fill (fun i => some (i * n, n)) ((Array.range (len * n)).map fun x => (#[] : Array Value)[x % (#[] : Array Value).size]!) (parts.toList.map fun p => (p.1, a.eval p.2)) = some out := by
        rw [← f1, h0, Array.range_zero', Array.map_empty, Array.map_empty]
      simp only [Sem.run_bind, Instr.buildSlice, run_underlying hu, Result.andThen_ok, tsz_run h2, if_neg hnot, if_pos h0, Sem.run_pure, eval_map_parts, hf1, newRow, run_newObj, World.alloc_eq]
    · simp only [Sem.run_bind, Instr.buildSlice, run_underlying hu, Result.andThen_ok, tsz_run h2, if_neg hnot, if_neg h0, hrun, Sem.run_pure, eval_map_parts, f1, newRow, run_newObj, World.alloc_eq]
  case makeSlice t l c =>
    split at hc0
    case h_2 => cases hc0
    rename_i d te k1 lv k2 cv hd hte hl hc
    split at hc0
    case h_2 => cases hc0
    rename_i z n b hz hk hb
    split at hc0
    case isFalse => cases hc0
    rename_i hcond
    simp only [Option.some.injEq, Prod.mk.injEq] at hc0
    obtain ⟨rfl, rfl⟩ := hc0
    obtain ⟨c1, c2, c3, c4⟩ := hcond
    obtain ⟨z', hz', h2, h3, h4, h5⟩ := tok_spec hk
    rw [hz] at hz'
    injection hz' with hz'
    subst hz'
    have hu := telem_underlying hte
    obtain ⟨zv, hrun, hpz⟩ := tzero_run hz w (Own N0 μ S)
    have hfz : z.fits n := by rw [← h3]; exact cellOk_fits h4
    have hzrow : Row w (Own N0 μ S) μ zv.cells.toList z.cells := (Enc.pur (μ := μ) hpz).row h4
    have hzr := zeros_row (n := cv.toNat) hzrow h3 h5 hfz
    have hfr : ∀ m, ∀ e ∈ List.replicate m z, e.fits n := fun m e he => by rw [List.eq_of_mem_replicate he]; exact hfz
    have hlv := h.evc hl rfl
    have hcv := h.evc hc rfl
    generalize a.eval l = lx at hlv ⊢
    generalize a.eval c = cx at hcv ⊢
    cases hlv with
    | pur hlv =>
    cases hlv with
    | int =>
    cases hcv with
    | pur hcv =>
    cases hcv with
    | int =>
    unfold tbytes at hb
    obtain ⟨inf, hinf, rfl⟩ := Option.map_eq_some_iff.1 hb
    have hmax : cv.toNat ≤ maxLen := by simp only [maxLen]; omega
    have hsame : (List.replicate lv.toNat z) = (List.replicate cv.toNat z).take lv.toNat := by
      rw [List.take_replicate, Nat.min_eq_left (by omega)]
    rw [hd] at hv ⊢
    have hr := h.alloc hi d ((Array.range (cv.toNat * n)).map (zv.cells[· % zv.cells.size]!)) te n cv.toNat (List.replicate lv.toNat z) (by simp) (by simp; omega) hmax (hfr _) (fun k e j c hk hj => by
      have hk' : (List.replicate cv.toNat z)[k]? = some e := by
        rw [hsame] at hk
        have hkl : k < lv.toNat := by have := (List.getElem?_eq_some_iff.1 hk).1; simp at this; omega
        rwa [List.getElem?_take_of_lt hkl] at hk
      exact row_cells (hfr _) (by rw [List.take_of_length_le (by simp)]; exact hzr) k e j c hk' hj)
    refine ⟨_, _, .inl ?_, ⟨_, hr.putv hv (.slr d (S.nx + i) n lv.toNat w.heap.size cv.toNat (muSet_same _ _ _ _) (by omega) hmax)⟩⟩
    have hmk := run_make (P := P) w t te inf zv hu hinf (by
      unfold tzero at hz
      obtain ⟨inf', hinf', hz⟩ := Option.bind_eq_some_iff.1 hz
      rw [hinf] at hinf'
      injection hinf' with hinf'
      subst hinf'
      obtain ⟨zv', hzv', hz⟩ := Option.bind_eq_some_iff.1 hz
      simp only [zeroValue, typeInfo, Sem.run_bind, run_program, hinf, Result.andThen_ok, hzv', Sem.run_pure, Result.ok.injEq] at hrun
      rw [← hrun.1]; exact hzv') k1 k2 lv cv (by omega) (by omega) c4 (by omega)
    have hns : inf.size = n := by
      unfold tsz at h2
      rw [hinf] at h2
      simpa using h2
    rw [Sem.run_bind, hmk, Result.andThen_ok, hns]
    rfl
  case store t x y =>
    split at hc0
    case h_2 => cases hc0
    rename_i d v sz k off u n hx hy hn
    split at hc0
    case h_2 => cases hc0
    rename_i ob hob
    split at hc0
    case isFalse => cases hc0
    rename_i hb
    obtain ⟨b1, b2, b3, b4, b5⟩ := hb
    split at hc0
    case h_2 => cases hc0
    rename_i e he
    rw [nth_eq] at he
    split at hc0
    case isFalse => cases hc0
    rename_i hle
    simp only [Option.some.injEq, Prod.mk.injEq] at hc0
    obtain ⟨rfl, rfl⟩ := hc0
    subst b2
    obtain ⟨w', hrun, hr⟩ := eff_store (P := P) h (h.evc hx rfl) (h.evc hy rfl) hn hob b1 b3 b4 b5 he hle
    refine ⟨undef, w', .inr ⟨?_, rfl⟩, ⟨μ, (hr.putv hv (.whn _ _ _ (fun hf => (by cases hf)) (fun _ => rfl))).more (fun j hj => .inl hj)⟩⟩
    simp only [Sem.run_bind, hrun, Result.andThen_ok, Sem.run_pure]
  case call cl =>
    obtain ⟨callee, args, argTypes⟩ := cl
    cases callee with
    | value f => cases hc0
    | invoke r m => cases hc0
    | builtin b =>
    cases b <;> simp only at hc0 <;> try (cases hc0; done)
    split at hc0
    case h_2 => cases hc0
    rename_i s x t t' dd ha ht hdd
    split at hc0
    case isFalse => cases hc0
    rename_i htt
    subst htt
    split at hc0
    case h_2 => cases hc0
    rename_i sv xv te h1 h2 h3
    split at hc0
    case h_2 => cases hc0
    rename_i sz' news n b h4 h5 h6
    have ha' : args = #[s, x] := by apply Array.ext'; simpa using ha
    have ht' : argTypes = #[t, t] := by apply Array.ext'; simpa using ht
    subst ha'
    subst ht'
    obtain ⟨z, k1, k2, k3, k4, k5⟩ := tok_spec h5
    simp only [Sem.run_bind, resolve, Sem.run_pure, Result.andThen_ok, invoke, builtin, List.map_toArray, List.map_cons, List.map_nil]
    rw [hdd] at hv ⊢
    split at hc0
    · rename_i d v sz len
      split at hc0
      case h_2 => cases hc0
      rename_i ob hob
      split at hc0
      case isFalse => cases hc0
      rename_i hb
      obtain ⟨b1, b2, b3, b4, b5, b6, b7, b8⟩ := hb
      simp only [Option.some.injEq, Prod.mk.injEq] at hc0
      obtain ⟨rfl, rfl⟩ := hc0
      subst b2
      obtain ⟨y, w', hrun, hr⟩ := eff_append (P := P) (ty := o.type) h hi h3 k2 h6 (h.evc h1 rfl) hob b1 b3 b4 b5 k5 (h.evc h2 rfl) h4 b6 ⟨z, k1, k3, k4⟩ b7 b8 hv
      exact ⟨y, w', .inl (by rw [hrun]; rfl), hr⟩
    · split at hc0
      case isFalse => cases hc0
      rename_i hb
      obtain ⟨b6, b7, b8⟩ := hb
      simp only [Option.some.injEq, Prod.mk.injEq] at hc0
      obtain ⟨rfl, rfl⟩ := hc0
      have hsv := h.evc h1 rfl
      generalize a.eval s = sx at hsv ⊢
      cases hsv with
      | pur hsv =>
      cases hsv with
      | nils B =>
      obtain ⟨y, w', hrun, hr⟩ := eff_append0 (P := P) (ty := o.type) (B := B) h hi h3 k2 h6 (h.evc h2 rfl) h4 b6 ⟨z, k1, k3, k4⟩ b7 b8 hv
      exact ⟨y, w', .inl (by rw [hrun]; rfl), hr⟩
    · cases hc0

end
end Go.Eng
