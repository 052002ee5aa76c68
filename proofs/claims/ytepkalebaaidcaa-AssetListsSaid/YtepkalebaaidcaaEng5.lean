/- That the model computes the abstract value of an operation that leaves memory alone. No condition. -/
import Derived.Test.YtepkalebaaidcaaEng4
import Derived.MapKept
import Derived.Laws.Small
namespace Go.Eng
open Go.RowKit

section
variable {D : Nat → Prop} {w0 w : World} {N0 : Nat → Prop} {μ : Mu} {S : AS} {a : Act} {P : Program}

theorem RelM.evo (h : RelM D w0 N0 μ S a w) {c : Bool} {x : Option Operand} {v : Option V} (hx : S.evo c x = some v) (hc : c = true) :
    (∀ u, v = some u → ∃ y, x.map a.eval = some y ∧ Enc w (Own N0 μ S) μ y u) ∧ (v = none → x.map a.eval = none) := by
  cases x with
  | none =>
    simp only [AS.evo, Option.some.injEq] at hx
    subst hx
    exact ⟨fun u hu => (by cases hu), fun _ => rfl⟩
  | some x =>
    simp only [AS.evo, Option.map_eq_some_iff] at hx
    obtain ⟨u, hu, rfl⟩ := hx
    refine ⟨fun u' hu' => ?_, fun h0 => (by cases h0)⟩
    injection hu' with hu'
    subst hu'
    exact ⟨_, rfl, h.evc hu hc⟩

theorem RelM.evs (h : RelM D w0 N0 μ S a w) {c : Bool} (hc : c = true) : ∀ {xs : List (Nat × Operand)} {vs : List (Nat × V)}, S.evs c xs = some vs →
    vs.length = xs.length ∧ ∀ (j : Nat) p q, xs[j]? = some p → vs[j]? = some q → p.1 = q.1 ∧ Enc w (Own N0 μ S) μ (a.eval p.2) q.2
  | [], vs, hv => by simp only [AS.evs, Option.some.injEq] at hv; subst hv; simp
  | (i, x) :: r, vs, hv => by
    simp only [AS.evs] at hv
    split at hv
    case h_2 => cases hv
    rename_i v vs' h1 h2
    injection hv with hv
    subst hv
    obtain ⟨h3, h4⟩ := RelM.evs h hc h2
    refine ⟨by simp [h3], fun j p q hp hq => ?_⟩
    rcases j with _ | j
    · simp at hp hq; subst hp; subst hq; exact ⟨rfl, h.evc h1 hc⟩
    · simp at hp hq; exact h4 j p q hp hq

theorem aval_load (h : RelM D w0 N0 μ S a w) {t : TypeId} {p v : V} {x : Value} {e : V} {off n : Nat} {g : Bool} (hx : Enc w (Own N0 μ S) μ x p) (hp : S.place p = some (e, off)) (hn : tsz P t = some n) (hg : tagg P t = some g)
    (hv : e.part off n g = some v) : ∃ y, (Instr.loadAt t x).run P w = .ok y w ∧ Enc w (Own N0 μ S) μ y v := by
  obtain ⟨ad, sz, rfl, hf, hc⟩ := h.place hp hx
  obtain ⟨y, hy, hey⟩ := run_loadVar hn hg hf hc hv
  exact ⟨y, by simp [Instr.loadAt, Instr.sureAddr, hy], hey⟩

theorem run_fieldPlace {fd : Field} {n : Nat} (hn : tsz P fd.type = some n) (h0 : n ≠ 0) (ad : Addr) : (fieldPlace ad fd).run P w = .ok (ad.add fd.offset) w := by
  simp only [fieldPlace, Sem.run_bind, tsz_run hn, Result.andThen_ok, if_neg h0, Sem.run_pure]

theorem aval_fieldAddr_rp (_h : RelM D w0 N0 μ S a w) {t f off n : Nat} {g : Bool} {e r : V} {x : Value} (hx : Enc w (Own N0 μ S) μ x (.rp e)) (hf : tfield P t f = some (off, n, g)) (hr : e.part off n g = some r) :
    ∃ y, (Instr.fieldAt t x f).run P w = .ok y w ∧ Enc w (Own N0 μ S) μ y (.rp r) := by
  obtain ⟨fs, fd, h1, h2, rfl, h4, h5, h6⟩ := tfield_spec hf
  cases hx with
  | pur hx =>
  cases hx with
  | rp ad sz _ g' hb hN hfit hc hh =>
  refine ⟨.pointer (some (ad.add fd.offset)), ?_, .pur (.rp _ n r (fun j => g' (fd.offset + j)) (by rw [add_block]; exact hb) (by rw [add_block]; exact hN) (part_fits hfit hr) (fun j c hj => ?_) (fun j c hj => hh _ c (part_cells hfit hr j c hj)))⟩
  · simp [Instr.fieldAt, run_underlying h1, h2, Instr.sureAddr, run_fieldPlace h4 h6]
  · rw [add_add']; exact hc _ c (part_cells hfit hr j c hj)

theorem aval_fieldAddr_bp (_h : RelM D w0 N0 μ S a w) {t f off n : Nat} {g : Bool} {d v sz k o : Nat} {x : Value} (hx : Enc w (Own N0 μ S) μ x (.bp d v sz k o)) (hf : tfield P t f = some (off, n, g)) :
    ∃ y, (Instr.fieldAt t x f).run P w = .ok y w ∧ Enc w (Own N0 μ S) μ y (.bp d v sz k (o + off)) := by
  obtain ⟨fs, fd, h1, h2, rfl, h4, h5, h6⟩ := tfield_spec hf
  cases hx with
  | pur hx => cases hx
  | bp _ _ _ _ _ gb cap hm =>
  refine ⟨.pointer (some ⟨gb, k * sz + (o + fd.offset), none⟩), ?_, .bp _ _ _ _ _ gb cap hm⟩
  simp [Instr.fieldAt, run_underlying h1, h2, Instr.sureAddr, run_fieldPlace h4 h6, Addr.add_lit, Nat.add_assoc]

theorem run_indexAt {t te n z : Nat} {k : IntKind} {i : Int} {ad : Addr} {cap : Nat} (ht : telem P t = some te) (hz : tsz P te = some z) (h0 : 0 ≤ i) (h1 : i < n) :
    (Instr.indexAt t (.slice (some ad) n cap) (.int k i)).run P w = .ok (.pointer (some (ad.add (i.toNat * z)))) w := by
  simp [Instr.indexAt, run_underlying (telem_underlying ht), asIntOf, h0, h1, tsz_run hz]

theorem aval_indexAddr_ro {t te z sz : Nat} {k : IntKind} {i : Int} {es : List V} {e : V} {x y : Value} {N : Nat → Prop} (hx : Enc w N μ x (.ro sz es)) (hy : Enc w N μ y (.int k i)) (ht : telem P t = some te) (hz : tsz P te = some z)
    (h0 : 0 ≤ i) (h1 : i < es.length) (hs : z = sz) (he : es[i.toNat]? = some e) : ∃ r, (Instr.indexAt t x y).run P w = .ok r w ∧ Enc w N μ r (.rp e) := by
  subst hs
  cases hx with
  | pur hx =>
  cases hx with
  | ro A ad n cap _ _ g hn hcap hmax hA hf hc hh =>
  cases hy with
  | pur hy =>
  cases hy with
  | int =>
  obtain ⟨hA1, hA2, hA3⟩ := hA (by omega)
  subst hA1
  exact ⟨_, run_indexAt ht hz h0 (by omega), .pur (.rp _ z e (g i.toNat) (by rw [add_block]; exact hA2) (by rw [add_block]; exact hA3) (hf e (List.mem_of_getElem? he))
    (fun j c hj => by rw [add_add']; exact hc _ e j c he hj) (fun j c hj => hh _ e j c he hj))⟩

theorem aval_indexAddr_sl {t te z sz d v len : Nat} {k : IntKind} {i : Int} {x y : Value} {N : Nat → Prop} (hx : Enc w N μ x (.sl d v sz len)) (hy : Enc w N μ y (.int k i)) (ht : telem P t = some te) (hz : tsz P te = some z)
    (h0 : 0 ≤ i) (h1 : i < len) (hs : z = sz) : ∃ r, (Instr.indexAt t x y).run P w = .ok r w ∧ Enc w N μ r (.bp d v sz i.toNat 0) := by
  subst hs
  cases hy with
  | pur hy =>
  cases hy with
  | int =>
  cases hx with
  | pur hx => cases hx
  | slr _ _ _ _ g cap hm hle hmax =>
    refine ⟨_, run_indexAt ht hz h0 h1, ?_⟩
    rw [Addr.add_lit, Nat.zero_add]
    exact .bp d v z i.toNat 0 g cap hm
  | slv => simp at h1; omega

theorem aval_indexAddr_ss {t te z sz d v off len : Nat} {k : IntKind} {i : Int} {x y : Value} {N : Nat → Prop} (hx : Enc w N μ x (.ss d v sz off len)) (hy : Enc w N μ y (.int k i)) (ht : telem P t = some te) (hz : tsz P te = some z)
    (h0 : 0 ≤ i) (h1 : i < len) (hs : z = sz) : ∃ r, (Instr.indexAt t x y).run P w = .ok r w ∧ Enc w N μ r (.bp d v sz (off + i.toNat) 0) := by
  subst hs
  cases hy with
  | pur hy =>
  cases hy with
  | int =>
  cases hx with
  | pur hx => cases hx
  | ss _ _ _ _ _ g c cap A hle hcm hA =>
    obtain ⟨hm, rfl⟩ := hA (by omega)
    refine ⟨_, run_indexAt ht hz h0 h1, ?_⟩
    rw [Addr.add_lit, ← Nat.add_mul, ← Nat.add_zero ((off + i.toNat) * z)]
    exact .bp d v z _ 0 g cap hm

theorem slice_run {t te z n cap p q : Nat} {A : Option Addr} {lo hi : Option Value} (ht : telem P t = some te) (hz : tsz P te = some z) (hb : (Instr.sliceBounds true n cap lo hi none).run P w = .ok (p, q, cap) w) :
    (Instr.sliceAt t (.slice A n cap) lo hi none).run P w = .ok (.slice (if cap = p then A else A.map (·.add (p * z))) (q - p) (cap - p)) w := by
  have hu := telem_underlying ht
  simp only [Instr.sliceAt, Sem.run_bind, run_underlying hu, Result.andThen_ok, Instr.slice, hb, tsz_run hz, Sem.run_pure]

theorem aval_slice_ro {t te z sz p q : Nat} {es : List V} {x : Value} {lv hv : Option V} {lo hi : Option Value} {N : Nat → Prop} (hx : Enc w N μ x (.ro sz es)) (ht : telem P t = some te) (hz : tsz P te = some z) (hs : z = sz)
    (hb : abounds es.length lv hv = some (p, q)) (hl : ∀ v, lv = some v → ∃ x, lo = some x ∧ Enc w N μ x v) (hl0 : lv = none → lo = none) (hh : ∀ v, hv = some v → ∃ x, hi = some x ∧ Enc w N μ x v) (hh0 : hv = none → hi = none) :
    ∃ r, (Instr.sliceAt t x lo hi none).run P w = .ok r w ∧ Enc w N μ r (.ro sz ((es.drop p).take (q - p))) := by
  subst hs
  cases hx with
  | pur hx =>
  cases hx with
  | ro A ad n cap _ _ g hn hcap hmax hA hf hc hh' =>
  rw [hn] at hb
  obtain ⟨h1, h2, h3⟩ := bounds_run (P := P) (isSlice := true) hb hcap hl hl0 hh hh0
  refine ⟨_, slice_run ht hz h1, .pur (.ro _ (ad.add (p * z)) _ _ z _ (fun k j => g (p + k) j) (by simp; omega) (by omega) (by omega) (fun h0 => ?_) (fun e he => hf e (List.mem_of_mem_drop (List.mem_of_mem_take he))) (fun k e j c he hj => ?_) (fun k e j c he hj => ?_))⟩
  · obtain ⟨rfl, hA2, hA3⟩ := hA (by omega)
    rw [if_neg (by omega)]
    exact ⟨rfl, by rw [add_block]; exact hA2, by rw [add_block]; exact hA3⟩
  · have hk : k < q - p := by have := (List.getElem?_eq_some_iff.1 he).1; simp at this; omega
    rw [List.getElem?_take_of_lt hk, List.getElem?_drop] at he
    rw [add_add', show p * z + (k * z + j) = (p + k) * z + j by rw [Nat.add_mul]; omega]
    exact hc _ e j c he hj
  · have hk : k < q - p := by have := (List.getElem?_eq_some_iff.1 he).1; simp at this; omega
    rw [List.getElem?_take_of_lt hk, List.getElem?_drop] at he
    exact hh' _ e j c he hj

theorem aval_slice_sl {t te z sz d v len p q : Nat} {x : Value} {lv hv : Option V} {lo hi : Option Value} {N : Nat → Prop} (hx : Enc w N μ x (.sl d v sz len)) (ht : telem P t = some te) (hz : tsz P te = some z) (hs : z = sz)
    (hb : abounds len lv hv = some (p, q)) (hl : ∀ v, lv = some v → ∃ x, lo = some x ∧ Enc w N μ x v) (hl0 : lv = none → lo = none) (hh : ∀ v, hv = some v → ∃ x, hi = some x ∧ Enc w N μ x v) (hh0 : hv = none → hi = none) :
    ∃ r, (Instr.sliceAt t x lo hi none).run P w = .ok r w ∧ Enc w N μ r (.ss d v sz p (q - p)) := by
  subst hs
  cases hx with
  | pur hx => cases hx
  | slr _ _ _ _ g cap hm hle hmax =>
    obtain ⟨h1, h2, h3⟩ := bounds_run (P := P) (isSlice := true) hb hle hl hl0 hh hh0
    refine ⟨_, slice_run ht hz h1, .ss d v z p (q - p) g _ cap _ (by omega) (by omega) (fun h0 => ⟨hm, ?_⟩)⟩
    rw [if_neg (by omega)]
    simp [Addr.add_lit]
  | slv _ _ _ A hm =>
    obtain ⟨h1, h2, h3⟩ := bounds_run (P := P) (isSlice := true) hb (Nat.le_refl _) hl hl0 hh hh0
    exact ⟨_, slice_run ht hz h1, .ss d v z p (q - p) 0 _ 0 _ (by omega) (by omega) (fun h0 => by omega)⟩

theorem aval_slice_ss {t te z sz d v off len p q : Nat} {x : Value} {lv hv : Option V} {lo hi : Option Value} {N : Nat → Prop} (hx : Enc w N μ x (.ss d v sz off len)) (ht : telem P t = some te) (hz : tsz P te = some z) (hs : z = sz)
    (hb : abounds len lv hv = some (p, q)) (hl : ∀ v, lv = some v → ∃ x, lo = some x ∧ Enc w N μ x v) (hl0 : lv = none → lo = none) (hh : ∀ v, hv = some v → ∃ x, hi = some x ∧ Enc w N μ x v) (hh0 : hv = none → hi = none) :
    ∃ r, (Instr.sliceAt t x lo hi none).run P w = .ok r w ∧ Enc w N μ r (.ss d v sz (off + p) (q - p)) := by
  subst hs
  cases hx with
  | pur hx => cases hx
  | ss _ _ _ _ _ g c cap A hle hcm hA =>
    obtain ⟨h1, h2, h3⟩ := bounds_run (P := P) (isSlice := true) hb hle hl hl0 hh hh0
    refine ⟨_, slice_run ht hz h1, .ss d v z _ (q - p) g _ cap _ (by omega) (by omega) (fun h0 => ⟨(hA (by omega)).1, ?_⟩)⟩
    rw [(hA (by omega)).2, if_neg (by omega)]
    simp [Addr.add_lit, Nat.add_mul]

theorem aval_slice_str {t p q : Nat} {l : List UInt8} {x : Value} {lv hv : Option V} {lo hi : Option Value} {N : Nat → Prop} (hx : Enc w N μ x (.str l)) (ht : tstr P t = true)
    (hb : abounds l.length lv hv = some (p, q)) (hl : ∀ v, lv = some v → ∃ x, lo = some x ∧ Enc w N μ x v) (hl0 : lv = none → lo = none) (hh : ∀ v, hv = some v → ∃ x, hi = some x ∧ Enc w N μ x v) (hh0 : hv = none → hi = none) :
    ∃ r, (Instr.sliceAt t x lo hi none).run P w = .ok r w ∧ Enc w N μ r (.str ((l.drop p).take (q - p))) := by
  cases hx with
  | pur hx =>
  cases hx with
  | str =>
  have hu := tstr_underlying ht
  obtain ⟨h1, h2, h3⟩ := bounds_run (P := P) (isSlice := false) hb (Nat.le_refl _) hl hl0 hh hh0
  refine ⟨.string ⟨((l.drop p).take (q - p)).toArray⟩, ?_, .pur (.str _)⟩
  have hsz : (ByteArray.mk l.toArray).size = l.length := by simp [ByteArray.size]
  simp only [Instr.sliceAt, Sem.run_bind, run_underlying hu, Result.andThen_ok, Instr.slice, Option.isSome_none, Bool.false_eq_true, if_false, Sem.run_pure, hsz, h1, ByteArray.extract_mk]

/-- The place and the value of the first entry with a key. -/
def findIx (a : Int) : List MapEntry → Nat → Option (Nat × Value)
  | [], _ => none
  | e :: r, n => if keyI e = a then some (n, e.val) else findIx a r (n + 1)
theorem findNow_int {k : IntKind} {a : Int} {q : IntKind} : ∀ (es : List MapEntry) (n : Nat), (∀ e ∈ es, ∃ b, e.key = .int k b) → Instr.findNow (.int q) (.int k a) es n = some (findIx a es n)
  | [], n, _ => rfl
  | e :: r, n, h => by
    obtain ⟨b, hb⟩ := h e (by simp)
    have ih := findNow_int (q := q) (a := a) r (n + 1) (fun e he => h e (by simp [he]))
    have hk : keyI e = b := by simp [keyI, hb]
    simp only [Instr.findNow, hb, Instr.sameNow, if_true, findIx, hk]
    by_cases e1 : b = a
    · subst e1; simp
    · have : (a == b) = false := by simp; omega
      rw [this, if_neg e1]
      exact ih
theorem findIx_some {a : Int} : ∀ {es : List MapEntry} {n : Nat} {p : Nat × Value}, findIx a es n = some p → findA a es = some p.2 ∧ n ≤ p.1 ∧ ∃ e, es[p.1 - n]? = some e ∧ e.val = p.2 ∧ keyI e = a
  | [], n, p, h => by simp [findIx] at h
  | e :: r, n, p, h => by
    unfold findIx at h
    unfold findA
    split at h
    · rename_i hk
      injection h with h
      subst h
      rw [if_pos hk]
      exact ⟨rfl, Nat.le_refl _, e, by simp, rfl, hk⟩
    · rename_i hk
      rw [if_neg hk]
      obtain ⟨h1, h2, e', h3, h4⟩ := findIx_some h
      refine ⟨h1, by omega, e', ?_, h4⟩
      rw [show p.1 - n = (p.1 - (n + 1)) + 1 by omega]
      simpa using h3
theorem findIx_none {a : Int} : ∀ {es : List MapEntry} {n : Nat}, findIx a es n = none ↔ findA a es = none
  | [], n => by simp [findIx, findA]
  | e :: r, n => by
    unfold findIx findA
    split
    · simp
    · exact findIx_none
theorem tmap_spec {t e : TypeId} {q : IntKind} (h : tmap P t = some (q, e)) : ∃ k, P.underlying t = some (.map k e) ∧ P.underlying k = some (.int q) := by
  unfold tmap at h
  split at h
  · rename_i k e' hk
    split at h
    · rename_i q' hq
      simp only [Option.some.injEq, Prod.mk.injEq] at h
      obtain ⟨rfl, rfl⟩ := h
      exact ⟨k, hk, hq⟩
    · cases h
  · cases h
theorem Pur.of_flat0 {w w' : World} {N N' : Nat → Prop} {x : Value} {v : V} (h : Pur w N x v) (hf : v.flat0 = true) : Pur w' N' x v := by
  cases h with
  | bool b => exact .bool b
  | int k n => exact .int k n
  | str l => exact .str l
  | nils | fn | agg | tup | ro | rp | mp => simp [V.flat0] at hf

theorem lookup_run {N : Nat → Prop} {t e b : Nat} {k : IntKind} {m : List (Int × V)} {a : Int} {ok : Bool} {x y : Value} {z : V} (hx : Enc w N μ x (.mp b k m)) (hy : Enc w N μ y (.int k a)) (ht : tmap P t = some (k, e))
    {zv : Value} (hz : (zeroValue e).run P w = .ok zv w) (hzv : Pur w N zv z) : ∃ r, (Instr.lookup t x y ok).run P w = .ok r w ∧ Enc w N μ r (lookV ok z (assoc a m)) := by
  obtain ⟨kt, hu, hk⟩ := tmap_spec ht
  cases hy with
  | pur hy =>
  cases hy with
  | int =>
  cases hx with
  | pur hx =>
  cases hx with
  | mp _ _ _ es clock g hN hb hks hs hn hh =>
  have hfn := findNow_int (q := k) (a := a) es.toList 0 hks
  have hrun : ∀ p, findIx a es.toList 0 = p → (Instr.lookup t (.map (some b)) (.int k a) ok).run P w = .ok (if ok then .tuple #[(match p with | some q => q.2 | none => zv), .bool p.isSome] else (match p with | some q => q.2 | none => zv)) w := by
    intro p hp
    rw [hp] at hfn
    unfold Instr.lookup
    simp only [Sem.run_bind, run_underlying hu, Result.andThen_ok, MapKept.run_getObj_map hb, MapKept.run_checkKey hk (k := .int k a) (by simp [MapKept.IsKey])]
    cases p with
    | none =>
      have hf := MapKept.run_findKey (w := w) hk hfn
      simp [hf, hz]
    | some q =>
      have hf := MapKept.run_findKey (w := w) hk hfn
      simp [hf]
  cases hp : findIx a es.toList 0 with
  | none =>
    have hA := findIx_none.1 hp
    have has : assoc a m = none := by
      cases h0 : assoc a m with
      | none => rfl
      | some v => have := (hs a v h0).1; rw [hA] at this; cases this
    rw [has]
    refine ⟨_, hrun _ hp, ?_⟩
    cases ok
    · exact .pur hzv
    · exact .tup [zv, .bool false] [z, .bool false] rfl (fun i x c h1 h2 => by
        rcases i with _ | _ | i
        · simp at h1 h2; subst h1; subst h2; exact .pur hzv
        · simp at h1 h2; subst h1; subst h2; exact .pur (.bool _)
        · simp at h1)
  | some q =>
    have hA := (findIx_some hp).1
    cases has : assoc a m with
    | none => have := hn a has; rw [hA] at this; cases this
    | some v =>
      have hg := (hs a v has).1
      rw [hA] at hg
      injection hg with hg
      have hv := hh a v has
      rw [← hg] at hv
      refine ⟨_, hrun _ hp, ?_⟩
      cases ok
      · exact .pur hv
      · exact .tup [q.2, .bool true] [v, .bool true] rfl (fun i x c h1 h2 => by
          rcases i with _ | _ | i
          · simp at h1 h2; subst h1; subst h2; exact .pur hv
          · simp at h1 h2; subst h1; subst h2; exact .pur (.bool _)
          · simp at h1)
end
end Go.Eng
