/- That the model makes and writes memory as the abstract step says. No condition. -/
import Derived.Test.YtepkalebaaidcaaEng7
import Derived.Laws.CopyRow
import Derived.Laws.MakeOwn
namespace Go.Eng
open Go.RowKit

section
variable {D : Nat → Prop} {w0 w : World} {N0 : Nat → Prop} {μ : Mu} {S : AS} {a : Act} {P : Program}

theorem row_cells {N : Nat → Prop} {arr : Array Value} {es : List V} {sz : Nat} (hf : ∀ e ∈ es, e.fits sz) (hr : Row w N μ (arr.toList.take (es.length * sz)) (flat es)) :
    ∀ (k : Nat) e (j : Nat) c, es[k]? = some e → e.cells[j]? = some c → ∃ x, arr[k * sz + j]? = some x ∧ Enc w N μ x c := by
  intro k e j c hk hj
  have hfl := flat_get hf hk hj
  have hlt : k * sz + j < (flat es).length := (List.getElem?_eq_some_iff.1 hfl).1
  have hlt' : k * sz + j < (arr.toList.take (es.length * sz)).length := by rw [hr.1]; exact hlt
  have hx := List.getElem?_eq_getElem hlt'
  refine ⟨_, ?_, hr.2 _ _ c hx hfl⟩
  rw [← hx, List.getElem?_take_of_lt (by rw [flat_length hf] at hlt; exact hlt)]
  simp

theorem cells_row {N : Nat → Prop} {arr : Array Value} {es : List V} {sz : Nat} (hf : ∀ e ∈ es, e.fits sz) (hsz : es.length * sz ≤ arr.size)
    (hc : ∀ (k : Nat) e (j : Nat) c, es[k]? = some e → e.cells[j]? = some c → ∃ x, arr[k * sz + j]? = some x ∧ Enc w N μ x c) : Row w N μ (arr.toList.take (es.length * sz)) (flat es) := by
  refine ⟨by simp [flat_length hf]; omega, fun i x c hx hc' => ?_⟩
  have hi : i < es.length * sz := by have := (List.getElem?_eq_some_iff.1 hc').1; rwa [flat_length hf] at this
  have hs : 0 < sz := by
    rcases Nat.eq_zero_or_pos sz with h0 | h0
    · subst h0; simp at hi
    · exact h0
  have hk : i / sz < es.length := Nat.div_lt_of_lt_mul (by rw [Nat.mul_comm]; exact hi)
  have hfe := hf es[i / sz] (List.getElem_mem hk)
  have hj : i % sz < es[i / sz].cells.length := by rw [hfe.1]; exact Nat.mod_lt _ hs
  have e1 : i / sz * sz + i % sz = i := by rw [Nat.mul_comm]; exact Nat.div_add_mod i sz
  obtain ⟨y, hy, hey⟩ := hc _ _ _ _ (List.getElem?_eq_getElem hk) (List.getElem?_eq_getElem hj)
  have hfl := flat_get hf (List.getElem?_eq_getElem hk) (List.getElem?_eq_getElem hj)
  rw [e1] at hy hfl
  rw [hfl] at hc'
  injection hc' with hc'
  subst hc'
  rw [List.getElem?_take_of_lt hi] at hx
  have : arr[i]? = some x := by simpa using hx
  rw [this] at hy
  injection hy with hy
  subst hy
  exact hey

theorem flat_set {sz : Nat} : ∀ {es : List V}, (∀ e ∈ es, e.fits sz) → ∀ {k : Nat} {e e' : V} {off : Nat} {us : List V}, es[k]? = some e → off + us.length ≤ e.cells.length → e'.cells = e.cells.take off ++ us ++ e.cells.drop (off + us.length) →
    flat (es.set k e') = (flat es).take (k * sz + off) ++ us ++ (flat es).drop (k * sz + off + us.length)
  | [], _, k, e, e', off, us, hk, _, _ => by simp at hk
  | x :: es, h, k, e, e', off, us, hk, hle, he => by
    have h1 := (h x (by simp)).1
    rcases k with _ | k
    · simp only [List.getElem?_cons_zero, Option.some.injEq] at hk
      subst hk
      simp only [flat, List.set_cons_zero, List.flatMap_cons, he, Nat.zero_mul, Nat.zero_add]
      rw [List.take_append_of_le_length (by omega), List.drop_append_of_le_length (by omega)]
      simp only [List.append_assoc]
    · simp only [List.getElem?_cons_succ] at hk
      have ih := flat_set (es := es) (fun y hy => h y (by simp [hy])) hk hle he
      unfold flat at ih ⊢
      simp only [List.set_cons_succ, List.flatMap_cons, ih]
      have e1 : (k + 1) * sz + off = x.cells.length + (k * sz + off) := by rw [h1, Nat.add_mul]; omega
      have e2 : x.cells.length + (k * sz + off) + us.length = x.cells.length + (k * sz + off + us.length) := by omega
      rw [e1, List.take_length_add_append, e2, List.drop_length_add_append]
      simp only [List.append_assoc]

theorem setPart_cells {e u : V} {off : Nat} (hle : off + u.cells.length ≤ e.cells.length) (hpos : 0 < u.cells.length) : (e.setPart off u).cells = e.cells.take off ++ u.cells ++ e.cells.drop (off + u.cells.length) := by
  unfold V.setPart
  split
  · rfl
  · rename_i hne
    have hcell : e.cells = [e] := by cases e <;> first | rfl | (exact absurd rfl (hne _))
    rw [hcell] at hle ⊢
    simp at hle
    have : off = 0 := by omega
    subst this
    simp
    omega

/-- append of nothing. -/
theorem append_zero {t ty te : TypeId} {B A : Option Addr} {n cap c : Nat} {inf : TypeInfo} (ht : P.underlying t = some (.slice te)) (hi : P.info? te = some inf) (hn : n ≤ cap) :
    (Builtin.append_ #[t, t] ty #[.slice B n cap, .slice A 0 c]).run P w = .ok (.slice B n cap) w := by
  cases A <;> cases B <;> simp [Builtin.append_, run_underlying ht, sizeOf, typeInfo, hi, Builtin.lenOf, Builtin.firstCells, hn, storeCells, loadCells, loadCellsFrom]

/-- append onto a slice without room. -/
theorem append_cap0 {t ty te : TypeId} {B : Option Addr} {ad : Addr} {m c : Nat} {inf : TypeInfo} {z : Value} {vs : List Value} (ht : P.underlying t = some (.slice te)) (hi : P.info? te = some inf) (hz : inf.zero = some z) (hzs : z.cells.size = inf.size)
    (hl : vs.length = m * inf.size) (hv : ∀ (j : Nat) u, vs[j]? = some u → w.cell? (ad.add j) = some u) (h0 : 0 < m) (h63 : m ≤ maxLen) (hb : m * inf.bytes ≤ 140737488355328) :
    ∃ cap arr, (Builtin.append_ #[t, t] ty #[.slice B 0 0, .slice (some ad) m c]).run P w = .ok (.slice (some ⟨w.heap.size, 0, none⟩) m cap) (w.drew.alloc (.cells arr te)) ∧ m ≤ cap ∧ cap ≤ maxLen ∧ arr.size = cap * inf.size ∧ arr.toList.take (m * inf.size) = vs := by
  have hm : m ≤ 9223372036854775807 := by simp only [maxLen] at h63; omega
  have hge := grownCap_ge w m 0 te
  have hcm : grownCap w m 0 te ≤ maxLen := grownCap_le_maxLen w m 0 te h63
  have hrun : (Builtin.append_ #[t, t] ty #[.slice B 0 0, .slice (some ad) m c]).run P w = .ok (.slice (some ⟨w.heap.size, 0, none⟩) m (grownCap w m 0 te)) (w.drew.alloc (.cells (vs.toArray ++ Builtin.zeroCells z.cells (grownCap w m 0 te - m)) te)) := by
    cases B with
    | none => exact run_append_nil (P := P) w t ty te inf z ht hi hz ad m c vs hl hv h0 (by omega) (by omega)
    | some b =>
      have := run_append_grow (P := P) w t ty te inf z ht hi hz b 0 0 [] (by simp) (by simp) ad m c vs hl hv (by omega) (by omega) (by rw [Nat.zero_add, nextslicecap_zero h0]; omega)
      simpa using this
  refine ⟨_, _, hrun, hge, hcm, ?_, ?_⟩
  · simp only [Array.size_append, List.size_toArray, size_zeroCells, hzs, hl, ← Nat.add_mul]
    congr 1
    omega
  · simp only [Array.toList_append, ← hl]
    exact List.take_left

theorem RelD.of {D : Nat → Prop} (h : RelM D w0 N0 μ S a w) : RelD D w0 N0 S a w := ⟨μ, h⟩

/-- append onto a slice of the call's own that has no block yet, or onto a nil slice. -/
theorem eff_append0 (h : RelM D w0 N0 μ S a w) {i : Nat} (hi : ¬ D i) {d dd : Nat} {t te : TypeId} {B : Option Addr} {x : Value} {xv : V} {sz' n b : Nat} {news : List V} {S' : AS} {ty : TypeId}
    (ht : telem P t = some te) (hn : tsz P te = some n) (hb : tbytes P te = some b) (hx : Enc w (Own N0 μ S) μ x xv) (he : S.elems xv = some (sz', news))
    (hs : news ≠ [] → sz' = n) (hz0 : ∃ z, tzero P te = some z ∧ z.cells.length = n ∧ cellOk z = true) (hl : news.length ≤ maxLen) (hbb : news.length * b ≤ 140737488355328)
    (hp : AS.putv { S with objs := (d, ⟨S.nx + i, n, te, news⟩) :: S.objs } (some dd) (.sl d (S.nx + i) n news.length) = some S') :
    ∃ y w', (Builtin.append_ #[t, t] ty #[.slice B 0 0, x]).run P w = .ok y w' ∧ RelD (fun j => D j ∨ j = i) w0 N0 S' (a.put (some dd) y) w' := by
  have hu := telem_underlying ht
  unfold tsz at hn
  obtain ⟨inf, hinf, rfl⟩ := Option.map_eq_some_iff.1 hn
  unfold tbytes at hb
  obtain ⟨inf', hinf', rfl⟩ := Option.map_eq_some_iff.1 hb
  rw [hinf] at hinf'
  injection hinf' with hinf'
  subst hinf'
  obtain ⟨A, c, rfl, hlc, hrest⟩ := h.elems hx he
  by_cases hne : news = []
  · subst hne
    refine ⟨.slice B 0 0, w, append_zero hu hinf (Nat.le_refl _), ?_⟩
    have hmono := h.muSet_mono hi d none
    obtain ⟨hr, _⟩ := h.update (D' := fun j => D j ∨ j = i) (d := d) (o' := ⟨S.nx + i, inf.size, te, []⟩) (l' := none) (w' := w) (μ' := muSet μ d (S.nx + i) none) hmono (h.muSet_fresh i d _) (muSet_same _ _ _ _) h.below (Keeps.refl _ _)
      (fun _ _ _ _ _ _ _ => rfl) (fun g c e => by cases e) (fun N' hN => rfl)
    exact ⟨_, hr.putv hp (.slv d (S.nx + i) inf.size B (muSet_same _ _ _ _))⟩
  · obtain ⟨hf, ad, vs, rfl, hvl, hvc, hrow⟩ := hrest hne
    have hs' := hs hne
    subst hs'
    obtain ⟨z, hz1, hz2, hz3⟩ := hz0
    have hzz := hz1
    unfold tzero at hzz
    obtain ⟨inf2, hinf2, hzz⟩ := Option.bind_eq_some_iff.1 hzz
    rw [hinf] at hinf2
    injection hinf2 with hinf2
    subst hinf2
    obtain ⟨zv, hzv, hzz⟩ := Option.bind_eq_some_iff.1 hzz
    have hzp := zeroOf_pur hzz w (Own N0 μ S)
    have hzs : zv.cells.size = inf.size := by
      have := (Enc.pur (μ := μ) hzp).cells_at (cellOk_fits hz3)
      rw [this.1, hz2]
    obtain ⟨cap, arr, hrun, h1, h2, h3, h4⟩ := append_cap0 (P := P) (w := w) (ty := ty) (B := B) (c := c) hu hinf hzv hzs hvl hvc (List.length_pos_iff.2 hne) hl hbb
    refine ⟨_, _, hrun, ?_⟩
    have hkd : Keeps w (Own N0 μ S) w.drew := ⟨Nat.le_refl _, fun _ _ _ => rfl⟩
    have hrow' : Row w.drew (Own N0 μ S) μ (arr.toList.take (news.length * inf.size)) (flat news) := by
      rw [h4]
      exact ⟨hrow.1, fun i x c hx hc => (hrow.2 i x c hx hc).keep hkd (fun _ _ hb => hb) (fun _ _ _ hh => hh)⟩
    have hr := h.drew.alloc hi d arr te inf.size cap news h3 h1 h2 hf (row_cells hf hrow')
    exact ⟨_, hr.putv hp (.slr d (S.nx + i) inf.size news.length w.heap.size cap (muSet_same _ _ _ _) h1 h2)⟩

/-- append onto a slice of the call's own. -/
theorem eff_append (h : RelM D w0 N0 μ S a w) {i : Nat} (hi : ¬ D i) {d dd v len : Nat} {t te : TypeId} {s x : Value} {xv : V} {sz' n b : Nat} {news : List V} {o : Ob} {S' : AS} {ty : TypeId}
    (ht : telem P t = some te) (hn : tsz P te = some n) (hb : tbytes P te = some b) (hs : Enc w (Own N0 μ S) μ s (.sl d v o.sz len)) (ho : get S.objs d = some o) (hov : o.v = v) (hlen : o.es.length = len) (hty : o.ty = te) (hsz : n = o.sz) (hpos : 0 < n)
    (hx : Enc w (Own N0 μ S) μ x xv) (he : S.elems xv = some (sz', news)) (hs' : news ≠ [] → sz' = o.sz) (hz0 : ∃ z, tzero P te = some z ∧ z.cells.length = n ∧ cellOk z = true) (hl : len + news.length ≤ maxLen) (hbb : (len + news.length) * b ≤ 140737488355328)
    (hp : AS.putv { S with objs := (d, ⟨S.nx + i, o.sz, te, o.es ++ news⟩) :: S.objs } (some dd) (.sl d (S.nx + i) o.sz (len + news.length)) = some S') :
    ∃ y w', (Builtin.append_ #[t, t] ty #[s, x]).run P w = .ok y w' ∧ RelD (fun j => D j ∨ j = i) w0 N0 S' (a.put (some dd) y) w' := by
  subst hov
  cases hs with
  | pur hs => cases hs
  | slv _ _ _ B hm =>
    have hnil : o.es = [] := by
      obtain ⟨l, hl', hob⟩ := h.objs d o ho
      rw [hm] at hl'
      injection hl' with hl'
      subst hl'
      exact hob
    rw [hnil] at hp
    simp only [List.nil_append, Nat.zero_add] at hp hl hbb
    subst hsz
    exact eff_append0 h hi ht hn hb hx he hs' hz0 hl hbb hp
  | slr _ _ _ _ g cap hm hle hmax =>
    have hu := telem_underlying ht
    unfold tsz at hn
    obtain ⟨inf, hinf, rfl⟩ := Option.map_eq_some_iff.1 hn
    unfold tbytes at hb
    obtain ⟨inf', hinf', rfl⟩ := Option.map_eq_some_iff.1 hb
    rw [hinf] at hinf'
    injection hinf' with hinf'
    subst hinf'
    obtain ⟨A, c, rfl, hlc, hrest⟩ := h.elems hx he
    obtain ⟨l, hl', hob⟩ := h.objs d o ho
    rw [hm] at hl'
    injection hl' with hl'
    subst hl'
    have hob' := hob
    obtain ⟨o1, o2, o3, o4, arr, o5, o6, o7⟩ := hob
    by_cases hne : news = []
    · subst hne
      refine ⟨_, w, append_zero hu hinf hle, ?_⟩
      have hmono := h.muSet_mono hi d (some (g, cap))
      obtain ⟨hr, _⟩ := h.update (D' := fun j => D j ∨ j = i) (d := d) (o' := ⟨S.nx + i, o.sz, te, o.es ++ []⟩) (l' := some (g, cap)) (w' := w) (μ' := muSet μ d (S.nx + i) (some (g, cap))) hmono (h.muSet_fresh i d _) (muSet_same _ _ _ _) h.below (Keeps.refl _ _)
        (fun _ _ _ _ _ _ _ => rfl) (fun g' c' e => by
          simp only [Option.some.injEq, Prod.mk.injEq] at e
          obtain ⟨rfl, rfl⟩ := e
          exact .inr ⟨o, cap, ho, hm⟩) (fun N' hN => by
          have := hob'.keep (w' := w) (N' := N') (μ' := muSet μ d (S.nx + i) (some (g, cap))) (Keeps.refl _ _) hN hmono (fun _ _ _ => rfl)
          rw [List.append_nil, ← hty]
          exact this)
      exact ⟨_, hr.putv hp (.slr d (S.nx + i) o.sz len g cap (muSet_same _ _ _ _) hle hmax)⟩
    · obtain ⟨hf, ad, vs, rfl, hvl, hvc, hrow⟩ := hrest hne
      have hs2 := hs' hne
      subst hs2
      obtain ⟨z, hz1, hz2, hz3⟩ := hz0
      have hzz := hz1
      unfold tzero at hzz
      obtain ⟨inf2, hinf2, hzz⟩ := Option.bind_eq_some_iff.1 hzz
      rw [hinf] at hinf2
      injection hinf2 with hinf2
      subst hinf2
      obtain ⟨zv, hzv, hzz⟩ := Option.bind_eq_some_iff.1 hzz
      have hzp := zeroOf_pur hzz w (Own N0 μ S)
      have hzs : zv.cells.size = inf.size := by
        have := (Enc.pur (μ := μ) hzp).cells_at (cellOk_fits hz3)
        rw [this.1, hz2]
      subst hty
      have hxs := cells_row (w := w) (N := Own N0 μ S) (μ := μ) o4 (by rw [o6]; exact Nat.mul_le_mul_right _ o2) o7
      have hown : w.ownsRow w0.heap.size o.ty o.sz (.slice (some ⟨g, 0, none⟩) len cap) len (arr.toList.take (o.es.length * o.sz)) := by
        refine ⟨by rw [hxs.1, flat_length o4, hlen], .inr ⟨g, cap, arr, rfl, o1, o5, hle, hmax, o6, by rw [hlen]⟩⟩
      have hone : ∀ u ∈ vs, u.oneCell' = true := by
        intro u hu'
        obtain ⟨j, hj⟩ := List.getElem?_of_mem hu'
        have hjl : j < (flat news).length := by rw [← hrow.1]; exact (List.getElem?_eq_some_iff.1 hj).1
        have hc := List.getElem?_eq_getElem hjl
        refine (hrow.2 j u _ hj hc).cell_oneCell ?_
        have hmem := List.mem_of_getElem? hc
        unfold flat at hmem
        obtain ⟨e, he1, he2⟩ := List.mem_flatMap.1 hmem
        exact (hf e he1).2 _ he2
      obtain ⟨y, w', hrun, hown', hgrow, hnil, hat⟩ := run_append_own_at (P := P) w w0.heap.size t ty o.ty inf zv o.sz inf.bytes hu hinf hzv hsz rfl (by rw [hzs]; exact hsz) (by omega) (.slice (some ⟨g, 0, none⟩) len cap) len _ hown
        ad news.length c vs hvl hvc hone hl hbb h.below.size
      refine ⟨y, w', hrun, ?_⟩
      have hcount : 0 < len + news.length := by have := List.length_pos_iff.2 hne; omega
      obtain ⟨hw1, hw2 | ⟨g', cap', cur, rfl, q1, q2, q3, q4, q5, q6⟩⟩ := hown'
      · omega
      · have hgg : g' = g ∨ g' = w.heap.size := by
          simpa [Value.ownBlock] using hat
        have hblk : ∀ k, k < w.heap.size → k ≠ g → w'.heap[k]? = w.heap[k]? := fun k hk hkg => hgrow.block k hk (by simpa [Value.ownBlock] using hkg)
        have hgl : g < w.heap.size := (Array.getElem?_eq_some_iff.1 o5).1
        have hmono := h.muSet_mono hi d (some (g', cap'))
        have hkeep : Keeps w (Own N0 μ S) w' := ⟨hgrow.size, fun k hk hN => hblk k hk (fun e => hN (by subst e; exact .inr ⟨d, o, cap, ho, hm⟩))⟩
        have hfit : ∀ e ∈ o.es ++ news, e.fits o.sz := fun e he => by
          rcases List.mem_append.1 he with h1 | h1
          · exact o4 e h1
          · exact hf e h1
        obtain ⟨hr, _⟩ := h.update (D' := fun j => D j ∨ j = i) (d := d) (o' := ⟨S.nx + i, o.sz, o.ty, o.es ++ news⟩) (l' := some (g', cap')) (w' := w') (μ' := muSet μ d (S.nx + i) (some (g', cap'))) hmono (h.muSet_fresh i d _) (muSet_same _ _ _ _)
          (h.below.grown hgrow h.below.size (fun k hk => by simp [Value.ownBlock] at hk; omega)) hkeep
          (fun d1 o1' g1 c1 hne1 h1 h2 => hblk g1 (h.block_lt h1 h2) (fun e => hne1 (by subst e; exact h.inj _ _ _ _ _ _ _ h1 ho h2 hm)))
          (fun g2 c2 e => by
            simp only [Option.some.injEq, Prod.mk.injEq] at e
            obtain ⟨rfl, rfl⟩ := e
            rcases hgg with rfl | rfl
            · exact .inr ⟨o, cap, ho, hm⟩
            · exact .inl (Nat.le_refl _))
          (fun N' hN => by
            refine ⟨q1, by simp [hlen]; exact q3, q4, hfit, cur, q2, q5, ?_⟩
            refine row_cells hfit ?_
            have e1 : (o.es ++ news).length * o.sz = (len + news.length) * o.sz := by simp [hlen]
            rw [e1, q6, flat_append]
            refine Row.append ⟨hxs.1, fun j x c h1 h2 => (hxs.2 j x c h1 h2).keep hkeep hN hmono⟩ ⟨hrow.1, fun j x c h1 h2 => (hrow.2 j x c h1 h2).keep hkeep hN hmono⟩)
        exact ⟨_, hr.putv hp (.slr d (S.nx + i) o.sz _ g' cap' (muSet_same _ _ _ _) q3 q4)⟩

end
end Go.Eng
