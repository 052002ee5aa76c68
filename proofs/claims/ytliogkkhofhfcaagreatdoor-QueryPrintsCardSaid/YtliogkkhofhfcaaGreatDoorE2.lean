import Derived.Test.YtliogkkhofhfcaaGreatDoorE1
import Derived.Laws.BytesString
import Derived.Laws.CopyRow
import Derived.Laws.MakeOwn
import Derived.Lib.AppendStr
import Derived.Laws.CopyOwn
import Derived.Orders
/- That the model computes the abstract value of an operation that leaves memory alone: struct literals, and all operations together. No condition. -/
namespace Go.Eng
open Go.RowKit

theorem take_set {α : Type} (x : α) : ∀ (l : List α) (i : Nat), i < l.length → (l.set i x).take (i + 1) = l.take i ++ [x]
  | [], i, h => by simp at h
  | y :: l, 0, _ => by simp
  | y :: l, i + 1, h => by
    simp only [List.set_cons_succ, List.take_succ_cons, List.cons_append]
    rw [take_set x l i (by simpa using h)]

theorem foldl_set {α : Type} (off : Nat) : ∀ (l : List α) (k : Nat) (cs : Array α), off + k + l.length ≤ cs.size →
    ((l.zipIdx k).foldl (fun cs p => cs.setIfInBounds (off + p.2) p.1) cs).toList = cs.toList.take (off + k) ++ l ++ cs.toList.drop (off + k + l.length)
  | [], k, cs, _ => by simp
  | x :: l, k, cs, h => by
    simp only [List.length_cons] at h
    simp only [List.zipIdx_cons, List.foldl_cons]
    rw [foldl_set off l (k + 1) (cs.setIfInBounds (off + k) x) (by simp; omega)]
    simp only [Array.toList_setIfInBounds, List.length_cons]
    rw [← Nat.add_assoc off k 1, take_set x cs.toList (off + k) (by simp; omega), List.drop_set_of_lt (by omega)]
    simp only [List.append_assoc, List.cons_append, List.nil_append]
    rw [show off + k + 1 + l.length = off + k + (l.length + 1) by omega]

section
variable {D : Nat → Prop} {w0 : Bs} {w : World} {N0 : Nat → Prop} {μ : Mu} {S : AS} {a : Act} {P : Program}

/-- Cells that stand for abstract cells, one by one. -/
def Row (w : World) (N : Nat → Prop) (μ : Mu) (xs : List Value) (cs : List V) : Prop := xs.length = cs.length ∧ ∀ (i : Nat) x c, xs[i]? = some x → cs[i]? = some c → Enc w N μ x c

theorem Row.append {N : Nat → Prop} {xs ys : List Value} {cs ds : List V} (h : Row w N μ xs cs) (k : Row w N μ ys ds) : Row w N μ (xs ++ ys) (cs ++ ds) := by
  refine ⟨by simp [h.1, k.1], fun i x c hx hc => ?_⟩
  by_cases hi : i < xs.length
  · rw [List.getElem?_append_left hi] at hx
    rw [List.getElem?_append_left (by rw [← h.1]; exact hi)] at hc
    exact h.2 i x c hx hc
  · rw [List.getElem?_append_right (by omega)] at hx
    rw [List.getElem?_append_right (by rw [← h.1]; omega), ← h.1] at hc
    exact k.2 _ x c hx hc
theorem Row.take {N : Nat → Prop} {xs : List Value} {cs : List V} (h : Row w N μ xs cs) (n : Nat) : Row w N μ (xs.take n) (cs.take n) := by
  refine ⟨by simp [h.1], fun i x c hx hc => ?_⟩
  have hi : i < n := by have := (List.getElem?_eq_some_iff.1 hx).1; simp at this; omega
  rw [List.getElem?_take_of_lt hi] at hx hc
  exact h.2 i x c hx hc
theorem Row.drop {N : Nat → Prop} {xs : List Value} {cs : List V} (h : Row w N μ xs cs) (n : Nat) : Row w N μ (xs.drop n) (cs.drop n) := by
  refine ⟨by simp [h.1], fun i x c hx hc => ?_⟩
  rw [List.getElem?_drop] at hx hc
  exact h.2 _ x c hx hc
theorem Enc.row {N : Nat → Prop} {x : Value} {v : V} (h : Enc w N μ x v) (hv : cellOk v = true) : Row w N μ x.cells.toList v.cells := by
  have hf : v.fits v.cells.length := ⟨rfl, fun c hc => by simpa using List.all_eq_true.1 hv c hc⟩
  obtain ⟨h1, h2⟩ := h.cells_at hf
  refine ⟨by simpa using h1, fun i y c hy hc => ?_⟩
  obtain ⟨z, hz, hez, _⟩ := h2 i c hc
  rw [Array.getElem?_toList, hz] at hy
  injection hy with hy
  subst hy
  exact hez

theorem args_spec (h : RelM D w0 N0 μ S a w) {c : Bool} (hc : c = true) : ∀ {xs : List Operand} {vs : List V}, S.args c xs = some vs →
    vs.length = xs.length ∧ ∀ (i : Nat) x v, xs[i]? = some x → vs[i]? = some v → Enc w (Own N0 μ S) μ (a.eval x) v
  | [], vs, hv => by simp only [AS.args, Option.some.injEq] at hv; subst hv; simp
  | x :: r, vs, hv => by
    simp only [AS.args] at hv
    split at hv
    case h_2 => cases hv
    rename_i v vs' h1 h2
    injection hv with hv
    subst hv
    obtain ⟨h3, h4⟩ := args_spec h hc h2
    refine ⟨by simp [h3], fun i y u hy hu => ?_⟩
    rcases i with _ | i
    · simp at hy hu; subst hy; subst hu; exact h.evc h1 hc
    · simp at hy hu; exact h4 i y u hy hu

theorem bytesV_spec : ∀ {es : List V} {l : List UInt8}, bytesV es = some l → ∃ ns : List Int, es = ns.map (V.int .u8) ∧ l = ns.map (fun n => UInt8.ofNat n.toNat)
  | [], l, h => by simp only [bytesV, Option.some.injEq] at h; subst h; exact ⟨[], rfl, rfl⟩
  | e :: es, l, h => by
    cases e <;> try (cases h; done)
    rename_i k n
    cases k <;> try (cases h; done)
    simp only [bytesV] at h
    split at h
    case h_2 => cases h
    rename_i l' hl
    split at h
    case isFalse => cases h
    injection h with h
    subst h
    obtain ⟨ns, rfl, rfl⟩ := bytesV_spec hl
    exact ⟨n :: ns, rfl, rfl⟩

theorem push_bytes : ∀ (ns : List Int) (s : List UInt8), ns.foldl (fun (r : ByteArray) n => r.push (UInt8.ofNat n.toNat)) ⟨s.toArray⟩ = ⟨(s ++ ns.map fun n => UInt8.ofNat n.toNat).toArray⟩
  | [], s => by simp
  | n :: ns, s => by
    simp only [List.foldl_cons, List.map_cons]
    have : (ByteArray.mk s.toArray).push (UInt8.ofNat n.toNat) = ⟨(s ++ [UInt8.ofNat n.toNat]).toArray⟩ := by
      simp [ByteArray.push]
    rw [this, push_bytes ns]
    simp

theorem convert_bytes_run {N : Nat → Prop} {x : Value} {es : List V} {l : List UInt8} {src dst : TypeId} (hx : Enc w N μ x (.ro 1 es)) (hd : tstr P dst = true) (hs : tbyteS P src = true) (hb : bytesV es = some l) :
    (convert src dst x).run P w = .ok (.string ⟨l.toArray⟩) w := by
  obtain ⟨ns, rfl, rfl⟩ := bytesV_spec hb
  have hdu := tstr_underlying hd
  unfold tbyteS at hs
  split at hs
  case h_2 => cases hs
  rename_i e he
  have heu : P.underlying e = some (.int .u8) := tint_underlying (by simpa using hs)
  have hsu := telem_underlying he
  cases hx with
  | pur hx =>
  cases hx with
  | ro A ad n cap _ _ g hn hcap hmax hA hf hc hh =>
  rw [run_convert_bytes_string w src dst e A n cap hsu heu hdu]
  have hemp : (ByteArray.empty : ByteArray) = ⟨([] : List UInt8).toArray⟩ := rfl
  cases hns : ns with
  | nil =>
    subst hns
    have h0 : n = 0 := by simpa using hn.symm
    subst h0
    cases A with
    | none => simp [Conv.bytesToString]; rfl
    | some a0 =>
      rw [run_bytesToString w a0 0 cap [] (by simp [loadCells, loadCellsFrom])]
      rfl
  | cons n0 ns0 =>
    obtain ⟨rfl, _, _⟩ := hA (by rw [← hn, hns]; simp)
    rw [← hns]
    have hl : (loadCells ad n).run P w = .ok (ns.map (Value.int .u8)).toArray w := by
      have := run_loadCells_list (P := P) w ad (ns.map (Value.int .u8)) (fun j v hj => by
        simp only [List.getElem?_map, Option.map_eq_some_iff] at hj
        obtain ⟨m, hm, rfl⟩ := hj
        have h1 := hc j (.int .u8 m) 0 (.int .u8 m) (by simp [hm]) rfl
        have h2 := hh j (.int .u8 m) 0 (.int .u8 m) (by simp [hm]) rfl
        simp only [Nat.mul_one, Nat.add_zero] at h1
        rw [h1]
        generalize g j 0 = y at h2
        cases h2
        rfl)
      rw [List.length_map, show ns.length = n by simpa using hn] at this
      exact this
    rw [run_bytesToString w ad n cap ns hl, hemp, push_bytes]
    simp

theorem tconc_spec {t : TypeId} (h : tconc P t = true) : ∃ de, P.underlying t = some de ∧ ∀ l, de ≠ .interface l := by
  unfold tconc at h
  split at h
  · cases h
  · cases h
  · rename_i h1 h2
    cases hd : P.underlying t with
    | none => exact absurd hd h2
    | some de => exact ⟨de, rfl, fun l hl => h1 l (by rw [hd, hl])⟩

theorem iface_run {N : Nat → Prop} {x : Value} {v : V} {t : TypeId} (hx : Enc w N μ x v) (ht : tconc P t = true) (hv : v.isCell = true ∨ v.flat2 = true) :
    (Instr.makeInterface t x).run P w = .ok (.iface t x) w ∧ Enc w N μ (.iface t x) (.ifc t v) := by
  obtain ⟨de, hde, hne⟩ := tconc_spec ht
  refine ⟨?_, ?_⟩
  · simp only [Instr.makeInterface, Sem.run_bind, run_underlying hde, Result.andThen_ok]
    try rfl
  · rcases hv with hv | hv
    · exact .ifc t x v hv hx
    · refine .pur (.ifc t x v hv ?_)
      cases hx with
      | pur hx => exact hx
      | agg xs cs hl hc hh =>
        refine .agg xs cs hl hc (fun i x c h1 h2 => ?_)
        have hfc := List.all_eq_true.1 hv c (List.mem_of_getElem? h2)
        have := hh i x c h1 h2
        cases this with
        | pur h => exact h
        | _ => simp [V.flat1] at hfc
      | _ => simp [V.flat2, V.flat1] at hv

theorem tup2 {N : Nat → Prop} {x y : Value} {u v : V} (hx : Enc w N μ x u) (hy : Enc w N μ y v) : Enc w N μ (.tuple #[x, y]) (.tup [u, v]) :=
  .tup [x, y] [u, v] rfl (fun i x' c h1 h2 => by
    rcases i with _ | _ | i
    · simp at h1 h2; subst h1; subst h2; exact hx
    · simp at h1 h2; subst h1; subst h2; exact hy
    · simp at h1)

theorem assert_run {N : Nat → Prop} {x : Value} {u v : V} {at_ xt : TypeId} {ok : Bool} (hx : Enc w N μ x u) (ht : tconc P at_ = true) (hv : assertV ok at_ (tzero P at_) u = some v) :
    ∃ y, (Instr.typeAssert x xt at_ ok).run P w = .ok y w ∧ Enc w N μ y v := by
  obtain ⟨de, hde, hne⟩ := tconc_spec ht
  have hz : ∀ z, tzero P at_ = some z → ∃ zv, (zeroValue at_).run P w = .ok zv w ∧ Pur w N zv z := by
    intro z hz
    unfold tzero at hz
    obtain ⟨inf, hi, hz⟩ := Option.bind_eq_some_iff.1 hz
    obtain ⟨zv, hzv, hz⟩ := Option.bind_eq_some_iff.1 hz
    exact ⟨zv, by simp [zeroValue, typeInfo, hi, hzv], zeroOf_pur hz w _⟩
  have hn : ∀ (y : Value), ok = true → (∀ z, tzero P at_ = some z → v = .tup [z, .bool false] → ((Instr.typeAssert y xt at_ ok).run P w = (do pure (.tuple #[← zeroValue at_, .bool false]) : Sem Value).run P w) → ∃ y', (Instr.typeAssert y xt at_ ok).run P w = .ok y' w ∧ Enc w N μ y' v) := by
    intro y hok z h1 h2 h3
    obtain ⟨zv, h4, h5⟩ := hz z h1
    subst h2
    exact ⟨.tuple #[zv, .bool false], by rw [h3]; simp [h4], tup2 (.pur h5) (.pur (.bool _))⟩
  have hdyn : ∀ (t : TypeId) (y : Value) (c : V), Enc w N μ y c → (if t = at_ then some (if ok then V.tup [c, .bool true] else c) else (if ok then (tzero P at_).map fun z => V.tup [z, .bool false] else none)) = some v →
      ∃ y', (Instr.typeAssert (.iface t y) xt at_ ok).run P w = .ok y' w ∧ Enc w N μ y' v := by
    intro t y c hy hvv
    by_cases hte : t = at_
    · rw [if_pos hte] at hvv
      injection hvv with hvv
      subst hvv
      refine ⟨if ok then .tuple #[y, .bool true] else y, ?_, ?_⟩
      · simp only [Instr.typeAssert, Sem.run_bind, run_underlying hde, Result.andThen_ok]
        cases de <;> first | (exact absurd rfl (hne _)) | (simp [hte])
      · cases ok
        · exact hy
        · exact tup2 hy (.pur (.bool _))
    · rw [if_neg hte] at hvv
      cases hok : ok with
      | false => rw [hok] at hvv; simp at hvv
      | true =>
        rw [hok] at hvv
        simp only [if_true, Option.map_eq_some_iff] at hvv
        obtain ⟨z, hz1, hz2⟩ := hvv
        have h3 : (Instr.typeAssert (.iface t y) xt at_ ok).run P w = (do pure (.tuple #[← zeroValue at_, .bool false]) : Sem Value).run P w := by
          simp only [Instr.typeAssert, Sem.run_bind, run_underlying hde, Result.andThen_ok]
          cases de <;> first | (exact absurd rfl (hne _)) | (simp [hte, hok])
        have := hn (.iface t y) hok z hz1 hz2.symm h3
        rw [hok] at this
        exact this
  cases u <;> simp only [assertV] at hv <;> try (cases hv; done)
  case nili =>
    split at hv
    case isFalse => cases hv
    rename_i hok
    obtain ⟨z, hz1, hz2⟩ := Option.map_eq_some_iff.1 hv
    have hxe : x = .nilIface := by
      cases hx with
      | pur hx => cases hx; rfl
    subst hxe
    exact hn .nilIface hok z hz1 hz2.symm (by
      simp only [Instr.typeAssert, Sem.run_bind, run_underlying hde, Result.andThen_ok]
      cases de <;> first | (exact absurd rfl (hne _)) | (simp [hok]))
  case ifc t c =>
    cases hx with
    | pur hx =>
      cases hx with
      | ifc _ y _ _ hy => exact hdyn t y c (.pur hy) hv
    | ifc _ y _ _ hy => exact hdyn t y c hy hv

theorem func_run {first caps : List Operand} {us vs : List V} (h : RelM D w0 N0 μ S a w) {c : Bool} (hc : c = true) (hcell : us.all V.isCell = true ∧ vs.all V.isCell = true) (h1 : S.args c first = some us) (h2 : S.args c caps = some vs) (f : FuncId) :
    Enc w (Own N0 μ S) μ (.func (.func f) (first.map a.eval).toArray (caps.map a.eval).toArray) (.clo f us vs) := by
  obtain ⟨a1, a2⟩ := args_spec h hc h1
  obtain ⟨b1, b2⟩ := args_spec h hc h2
  refine .clo f _ _ us vs (by simp [a1]) (by simp [b1]) (fun c hc => hc.elim (List.all_eq_true.1 hcell.1 c) (List.all_eq_true.1 hcell.2 c)) (fun i x c hx hcc => ?_) (fun i x c hx hcc => ?_)
  · simp only [List.getElem?_map, Option.map_eq_some_iff] at hx
    obtain ⟨y, hy, rfl⟩ := hx
    exact a2 i y c hy hcc
  · simp only [List.getElem?_map, Option.map_eq_some_iff] at hx
    obtain ⟨y, hy, rfl⟩ := hx
    exact b2 i y c hy hcc

theorem fill_run {N : Nat → Prop} {place : Nat → Option (Nat × Nat)} {place' : Nat → Option (Nat × Nat)} (hpl : ∀ i r, place i = some r → place' i = some r) :
    ∀ (vs : List (Nat × V)) (ps : List (Nat × Value)) (zs : List V) (cells : Array Value) (r : List V), ps.length = vs.length →
    (∀ (j : Nat) p q, ps[j]? = some p → vs[j]? = some q → p.1 = q.1 ∧ Enc w N μ p.2 q.2) → (∀ p ∈ vs, cellOk p.2 = true) → (∀ c ∈ zs, c.isCell = true) → Row w N μ cells.toList zs → afill place zs vs = some r →
    ∃ out, Instr.fill place' cells ps = some out ∧ Row w N μ out.toList r ∧ (∀ c ∈ r, c.isCell = true)
  | [], [], zs, cells, r, _, _, _, hz, hr, h => by
    simp only [afill, Option.some.injEq] at h
    subst h
    exact ⟨cells, rfl, hr, hz⟩
  | [], _ :: _, _, _, _, h, _, _, _, _, _ => by simp at h
  | _ :: _, [], _, _, _, h, _, _, _, _, _ => by simp at h
  | (i, v) :: vs, (i', x) :: ps, zs, cells, r, hl, hp, hok, hz, hr, h => by
    obtain ⟨e, hx⟩ := hp 0 _ _ rfl rfl
    simp only at e hx
    subst e
    simp only [afill] at h
    split at h
    case h_1 => cases h
    rename_i off size hpi
    split at h
    case isFalse => cases h
    rename_i hsz
    obtain ⟨hsz, hle⟩ := hsz
    have hrow := hx.row (hok (i', v) (by simp))
    have hxs : x.cells.size = size := by have := hrow.1; simp at this; omega
    have hcs : cells.size = zs.length := by simpa using hr.1
    have hnew : Row w N μ (x.cells.zipIdx.foldl (fun cs p => cs.setIfInBounds (off + p.2) p.1) cells).toList (zs.take off ++ v.cells ++ zs.drop (off + size)) := by
      rw [← Array.foldl_toList, Array.toList_zipIdx, foldl_set off x.cells.toList 0 cells (by simp; omega)]
      simp only [Nat.add_zero, Array.length_toList, hxs]
      exact ((hr.take _).append hrow).append (hr.drop _)
    obtain ⟨out, h1, h2, h3⟩ := fill_run hpl vs ps _ _ r (by simpa using hl) (fun j p q h1 h2 => hp (j + 1) p q (by simpa using h1) (by simpa using h2)) (fun p hp => hok p (by simp [hp]))
      (fun c hc => by
        simp only [List.mem_append] at hc
        rcases hc with (hc | hc) | hc
        · exact hz c (List.mem_of_mem_take hc)
        · exact List.all_eq_true.1 (hok (i', v) (by simp)) c hc
        · exact hz c (List.mem_of_mem_drop hc)) hnew h
    refine ⟨out, ?_, h2, h3⟩
    simp only [Instr.fill, hpl _ _ hpi, hxs]
    rw [if_neg (by simp; omega)]
    exact h1

theorem mapM_places {fs : Array Field} (h : ∀ (i : Nat) f, fs[i]? = some f → ∃ n, tsz P f.type = some n) :
    (fs.mapM fun f => do pure (f.offset, ← sizeOf f.type) : Sem (Array (Nat × Nat))).run P w = .ok (fs.map fun f => (f.offset, (tsz P f.type).getD 0)) w := by
  rw [Array.mapM_eq_mapM_toList]
  have key : ∀ (l : List Field), (∀ f ∈ l, ∃ n, tsz P f.type = some n) → (l.mapM fun f => do pure (f.offset, ← sizeOf f.type) : Sem (List (Nat × Nat))).run P w = .ok (l.map fun f => (f.offset, (tsz P f.type).getD 0)) w := by
    intro l
    induction l with
    | nil => intro _; rfl
    | cons f l ih =>
      intro hl
      obtain ⟨n, hn⟩ := hl f (by simp)
      simp only [List.mapM_cons, Sem.run_bind, tsz_run hn, Result.andThen_ok, Sem.run_pure, ih (fun g hg => hl g (by simp [hg])), List.map_cons, hn, Option.getD_some]
  have hm : ∀ f ∈ fs.toList, ∃ n, tsz P f.type = some n := fun f hf => by
    obtain ⟨i, hi⟩ := List.getElem?_of_mem hf
    exact h i f (by simpa using hi)
  rw [Sem.run_map, key _ hm, Result.andThen_ok]
  congr 1
  apply Array.ext'
  simp

theorem tplace_spec {t i off n : Nat} (h : tplace P t i = some (off, n)) : ∃ fs fd, P.underlying t = some (.struct fs) ∧ fs[i]? = some fd ∧ fd.offset = off ∧ tsz P fd.type = some n := by
  unfold tplace at h
  obtain ⟨⟨o, n', g⟩, h1, h2⟩ := Option.map_eq_some_iff.1 h
  simp only [Prod.mk.injEq] at h2
  obtain ⟨rfl, rfl⟩ := h2
  obtain ⟨fs, fd, a1, a2, a3, a4, _⟩ := tfield_spec h1
  exact ⟨fs, fd, a1, a2, a3, a4⟩

theorem build_run {N : Nat → Prop} {t : TypeId} {z : List V} {vs : List (Nat × V)} {ps : List (Nat × Value)} {r : List V} (ht : tfields P t = true) (hz : tzero P t = some (.agg z)) (hl : ps.length = vs.length)
    (hp : ∀ (j : Nat) p q, ps[j]? = some p → vs[j]? = some q → p.1 = q.1 ∧ Enc w N μ p.2 q.2) (hok : ∀ p ∈ vs, cellOk p.2 = true) (hr : afill (tplace P t) z vs = some r) :
    ∃ x, (Instr.build t ps.toArray).run P w = .ok x w ∧ Enc w N μ x (.agg r) := by
  unfold tfields at ht
  split at ht
  case h_2 => cases ht
  rename_i fs hfs
  unfold tzero at hz
  obtain ⟨inf, hinf, hz⟩ := Option.bind_eq_some_iff.1 hz
  obtain ⟨zv, hzv, hz⟩ := Option.bind_eq_some_iff.1 hz
  have hpz := zeroOf_pur hz w N
  have hsz : ∀ (i : Nat) f, fs[i]? = some f → ∃ n, tsz P f.type = some n := fun i f hf => by
    have := Array.all_eq_true'.1 ht f (Array.mem_of_getElem? hf)
    exact Option.isSome_iff_exists.1 this
  have hpl : ∀ i q, tplace P t i = some q → (fs.map fun f => (f.offset, (tsz P f.type).getD 0))[i]? = some q := by
    rintro i ⟨off, n⟩ hq
    obtain ⟨fs', fd, h1, h2, h3, h4⟩ := tplace_spec hq
    rw [hfs] at h1
    injection h1 with h1
    injection h1 with h1
    subst h1
    simp [h2, h3, h4]
  cases hpz with
  | agg xs _ hlx hcx hhx =>
  obtain ⟨out, h1, h2, h3⟩ := fill_run (w := w) (N := N) (μ := μ) (place' := fun i => (fs.map fun f => (f.offset, (tsz P f.type).getD 0))[i]?) hpl vs ps z xs.toArray r hl hp hok hcx ⟨hlx, fun i x c h1 h2 => .pur (hhx i x c h1 h2)⟩ hr
  refine ⟨.agg out, ?_, ?_⟩
  · simp only [Instr.build, Sem.run_bind, zeroValue, typeInfo, run_program, hinf, Sem.run_pure, Result.andThen_ok, hzv, run_underlying hfs, mapM_places hsz, Value.cells, h1]
  · have : out = out.toList.toArray := by simp
    rw [this]
    exact .agg _ _ h2.1 h3 h2.2


theorem eval_map_parts (a : Act) (parts : Array (Nat × Operand)) : (parts.map fun (i, x) => (i, a.eval x)) = (parts.toList.map fun p => (p.1, a.eval p.2)).toArray := by
  apply Array.ext'
  simp

theorem aval_run (h : RelM D w0 N0 μ S a w) {c : Bool} (hc : c = true) {o : Oper} {v : V} (hv : aval P S c o.op = some v) :
    ∃ x, (execOp a.eval o).run P w = .ok (.value x) w ∧ Enc w (Own N0 μ S) μ x v := by
  unfold execOp
  cases hop : o.op <;> rw [hop] at hv <;> simp only [aval] at hv <;> (try (cases hv; done)) <;> dsimp only
  case move x => exact ⟨_, rfl, h.evc hv hc⟩
  case assign x => exact ⟨_, rfl, h.evc hv hc⟩
  case pick x y z =>
    split at hv
    case h_2 => cases hv
    rename_i g hg
    have hx := h.evc hg hc
    generalize a.eval x = xv at hx ⊢
    cases hx with
    | pur hx =>
    cases hx with
    | bool =>
    subst hc
    simp only [Sem.run_bind, asBool, Sem.run_pure, Result.andThen_ok]
    split at hv
    · rename_i p q hy hz
      injection hv with hv
      subst hv
      cases g
      · exact ⟨_, rfl, by simpa using h.evc hz rfl⟩
      · exact ⟨_, rfl, by simpa using h.evc hy rfl⟩
    · rename_i u v' hnb hy hz
      split at hv
      · injection hv with hv; subst hv; exact ⟨_, rfl, by simpa using h.evc hy rfl⟩
      · injection hv with hv; subst hv; exact ⟨_, rfl, by simpa using h.evc hz rfl⟩
    · cases hv
  case load t x =>
    split at hv
    case h_2 => cases hv
    rename_i p hp
    split at hv
    case h_2 => cases hv
    rename_i e off n g h1 h2 h3
    obtain ⟨y, hy, hey⟩ := aval_load h (h.evc hp hc) h1 h2 h3 hv
    exact ⟨y, by simp [hy], hey⟩
  case nilCheck x =>
    split at hv
    · rename_i e he
      injection hv with hv; subst hv
      have hx := h.evc he hc
      generalize a.eval x = xv at hx ⊢
      refine ⟨xv, ?_, hx⟩
      cases hx with
      | pur hx =>
      cases hx with
      | rp => rfl
    · rename_i d v' sz k off he
      injection hv with hv; subst hv
      have hx := h.evc he hc
      generalize a.eval x = xv at hx ⊢
      refine ⟨xv, ?_, hx⟩
      cases hx with
      | pur hx => cases hx
      | bp => rfl
    · cases hv
  case binOp op t x y yt =>
    split at hv
    case h_2 => cases hv
    rename_i u v' h1 h2
    obtain ⟨z, hz, hez⟩ := abin_run hv (h.evc h1 hc) (h.evc h2 hc) x y
    exact ⟨z, by rw [Sem.run_bind, hz]; rfl, .pur hez⟩
  case unOp op t x =>
    split at hv
    case h_2 => cases hv
    rename_i u h1
    obtain ⟨z, hz, hez⟩ := aun_run (P := P) hv (h.evc h1 hc)
    exact ⟨z, by rw [Sem.run_bind, hz]; rfl, .pur hez⟩
  case convert src dst x =>
    split at hv
    · rename_i k0 n k h1 h2
      split at hv
      case isFalse => cases hv
      rename_i hs
      injection hv with hv
      subst hv
      have hx := h.evc h1 hc
      generalize a.eval x = xv at hx ⊢
      cases hx with
      | pur hx =>
      cases hx with
      | int =>
      have hu := tint_underlying h2
      obtain ⟨de, hde⟩ := Option.isSome_iff_exists.1 hs
      exact ⟨.int k (k.wrap n), by simp [convert, run_underlying hde, run_underlying hu, Conv.intToInt], .pur (.int _ _)⟩
    · rename_i es h1 h2
      split at hv
      case isFalse => cases hv
      rename_i hs
      obtain ⟨l, hl, rfl⟩ := Option.map_eq_some_iff.1 hv
      exact ⟨_, by rw [Sem.run_bind, convert_bytes_run (h.evc h1 hc) hs.1 hs.2 hl]; rfl, .pur (.str _)⟩
    · rename_i l h1 h2
      split at hv
      case isFalse => cases hv
      rename_i hs
      injection hv with hv
      subst hv
      have hx := h.evc h1 hc
      generalize a.eval x = xv at hx ⊢
      cases hx with
      | pur hx =>
      cases hx with
      | str =>
      have hu := tstr_underlying hs.1
      obtain ⟨de, hde⟩ := Option.isSome_iff_exists.1 hs.2
      exact ⟨.string ⟨l.toArray⟩, by simp [convert, run_underlying hde, run_underlying hu], .pur (.str _)⟩
    · cases hv
  case makeInterface t x =>
    split at hv
    case h_2 => cases hv
    rename_i u h1
    split at hv
    case isFalse => cases hv
    rename_i hb
    injection hv with hv
    subst hv
    obtain ⟨h2, h3⟩ := iface_run (P := P) (h.evc h1 hc) hb.1 hb.2
    exact ⟨_, by rw [Sem.run_bind, h2]; rfl, h3⟩
  case typeAssert x xt at_ ok =>
    split at hv
    case h_2 => cases hv
    rename_i u h1
    split at hv
    case isFalse => cases hv
    rename_i hb
    obtain ⟨y, hy, hey⟩ := assert_run (P := P) (xt := xt) (h.evc h1 hc) hb hv
    exact ⟨y, by rw [Sem.run_bind, hy]; rfl, hey⟩
  case makeFunc fv first caps =>
    cases fv with
    | func f =>
      have key : ∀ us vs, us.all V.isCell = true ∧ vs.all V.isCell = true → S.args c first.toList = some us → S.args c caps.toList = some vs → Enc w (Own N0 μ S) μ (.func (.func f) (first.map a.eval) (caps.map a.eval)) (.clo f us vs) := by
        intro us vs hcell h1 h2
        have := func_run h hc hcell h1 h2 f
        have e1 : (first.toList.map a.eval).toArray = first.map a.eval := by apply Array.ext'; simp
        have e2 : (caps.toList.map a.eval).toArray = caps.map a.eval := by apply Array.ext'; simp
        rwa [e1, e2] at this
      simp only at hv
      split at hv
      · rename_i h1 h2
        injection hv with hv
        subst hv
        obtain ⟨a1, _⟩ := args_spec h hc h1
        obtain ⟨b1, _⟩ := args_spec h hc h2
        have e1 : first = #[] := by simpa using a1.symm
        have e2 : caps = #[] := by simpa using b1.symm
        subst e1; subst e2
        exact ⟨.func (.func f) #[] #[], by simp [Instr.makeFunc], .pur (.fn f)⟩
      · rename_i us vs _ h1 h2
        split at hv
        case isFalse => cases hv
        rename_i hcell
        injection hv with hv
        subst hv
        exact ⟨_, by simp only [Instr.makeFunc, Sem.run_bind, Sem.run_pure, Result.andThen_ok], key us vs hcell h1 h2⟩
      · cases hv
    | _ => simp only at hv; cases hv
  case fieldAddr t x f =>
    split at hv
    · rename_i e off n g h1 h2
      obtain ⟨r, hr, rfl⟩ := Option.map_eq_some_iff.1 hv
      obtain ⟨y, hy, hey⟩ := aval_fieldAddr_rp h (h.evc h1 hc) h2 hr
      exact ⟨y, by rw [Sem.run_bind, hy]; rfl, hey⟩
    · rename_i d v' sz k o' off n g h1 h2
      injection hv with hv
      subst hv
      obtain ⟨y, hy, hey⟩ := aval_fieldAddr_bp h (h.evc h1 hc) h2
      exact ⟨y, by rw [Sem.run_bind, hy]; rfl, hey⟩
    · cases hv
  case field t x f =>
    split at hv
    case h_2 => cases hv
    rename_i e off n g h1 h2
    split at hv
    case h_2 => cases hv
    rename_i cs
    obtain ⟨fs, fd, a1, a2, rfl, a4, a5, a6⟩ := tfield_spec h2
    obtain ⟨xs, y, hxs, hy, hey⟩ := run_part (P := P) a4 a5 (h.evc h1 hc) hv
    refine ⟨y, ?_, hey⟩
    rw [hxs]
    simp only [Sem.run_bind, Instr.field, run_underlying a1, Result.andThen_ok, a2, asAgg, Sem.run_pure, hy]
  case indexAddr t x i =>
    split at hv
    case h_3 => cases hv
    case h_2 =>
      rename_i d v' sz k0 off k n h1 h2 h3
      split at hv
      case h_2 => cases hv
      rename_i len z ht
      split at hv
      case isFalse => cases hv
      rename_i hb
      injection hv with hv
      subst hv
      obtain ⟨y, hy, hey⟩ := aval_indexAddr_arr (P := P) (h.evc h1 hc) (h.evc h2 hc) ht hb.1 hb.2
      exact ⟨y, by rw [Sem.run_bind, hy]; rfl, hey⟩
    rename_i p k n te h1 h2 h3
    split at hv
    case h_2 => cases hv
    rename_i z hz
    split at hv
    · rename_i sz es
      split at hv
      case isFalse => cases hv
      rename_i hb
      split at hv
      case h_2 => cases hv
      rename_i e he
      rw [nth_eq] at he
      injection hv with hv
      subst hv
      obtain ⟨y, hy, hey⟩ := aval_indexAddr_ro (P := P) (h.evc h1 hc) (h.evc h2 hc) h3 hz hb.1 hb.2.1 hb.2.2 he
      exact ⟨y, by rw [Sem.run_bind, hy]; rfl, hey⟩
    · rename_i d v' sz len
      split at hv
      case isFalse => cases hv
      rename_i hb
      injection hv with hv
      subst hv
      obtain ⟨y, hy, hey⟩ := aval_indexAddr_sl (P := P) (h.evc h1 hc) (h.evc h2 hc) h3 hz hb.1 hb.2.1 hb.2.2
      exact ⟨y, by rw [Sem.run_bind, hy]; rfl, hey⟩
    · rename_i d v' sz off len
      split at hv
      case isFalse => cases hv
      rename_i hb
      injection hv with hv
      subst hv
      obtain ⟨y, hy, hey⟩ := aval_indexAddr_ss (P := P) (h.evc h1 hc) (h.evc h2 hc) h3 hz hb.1 hb.2.1 hb.2.2
      exact ⟨y, by rw [Sem.run_bind, hy]; rfl, hey⟩
    · cases hv
  case index t x i =>
    split at hv
    case h_2 => cases hv
    rename_i l k n h1 h2
    split at hv
    case isFalse => cases hv
    rename_i hb
    split at hv
    case h_2 => cases hv
    rename_i b hl
    rw [nth_eq] at hl
    injection hv with hv
    subst hv
    have hx := h.evc h1 hc
    have hi := h.evc h2 hc
    generalize a.eval x = xv at hx ⊢
    generalize a.eval i = iv at hi ⊢
    cases hx with
    | pur hx =>
    cases hx with
    | str =>
    cases hi with
    | pur hi =>
    cases hi with
    | int =>
    have hu := tstr_underlying hb.1
    have hlt : n.toNat < l.length := (List.getElem?_eq_some_iff.1 hl).1
    have hs : (ByteArray.mk l.toArray)[n.toNat]? = some b := by
      have := ByteArray.getElem?_lt' (ByteArray.mk l.toArray) n.toNat (by simpa [ByteArray.size] using hlt)
      rw [this]
      have h2 := (List.getElem?_eq_some_iff.1 hl).2
      simp only [Option.some.injEq]
      rw [← h2]
      rfl
    exact ⟨.int .u8 b.toNat, by simp [Instr.index, asIntOf, run_underlying hu, hb.2, hs], .pur (.int _ _)⟩
  case extract x i =>
    split at hv
    case h_2 => cases hv
    rename_i vs h1
    rw [nth_eq] at hv
    have hx := h.evc h1 hc
    generalize a.eval x = xv at hx ⊢
    cases hx with
    | pur hx =>
      cases hx with
      | tup xs _ hl hh =>
      have hlt : i < xs.length := by rw [hl]; exact (List.getElem?_eq_some_iff.1 hv).1
      exact ⟨xs[i], by simp [Instr.extract, hlt], .pur (hh i _ v (List.getElem?_eq_getElem hlt) hv)⟩
    | tup xs _ hl hh =>
      have hlt : i < xs.length := by rw [hl]; exact (List.getElem?_eq_some_iff.1 hv).1
      exact ⟨xs[i], by simp [Instr.extract, hlt], hh i _ v (List.getElem?_eq_getElem hlt) hv⟩
  case slice t x lo hi mx =>
    cases mx with
    | some m => simp only at hv; cases hv
    | none =>
    simp only at hv
    split at hv
    case h_2 => cases hv
    rename_i p lv hv' h1 h2 h3
    obtain ⟨b1, b2⟩ := h.evo h2 hc
    obtain ⟨b3, b4⟩ := h.evo h3 hc
    have hx := h.evc h1 hc
    simp only [Option.map_none]
    split at hv
    · split at hv
      case isFalse => cases hv
      rename_i ht
      split at hv
      case h_2 => cases hv
      rename_i p q hb
      injection hv with hv
      subst hv
      obtain ⟨y, hy, hey⟩ := aval_slice_str (P := P) hx ht hb b1 b2 b3 b4
      exact ⟨y, by rw [Sem.run_bind, hy]; rfl, hey⟩
    · split at hv
      case h_2 => cases hv
      rename_i te hte
      split at hv
      case h_2 => cases hv
      rename_i z p q hz hb
      split at hv
      case isFalse => cases hv
      rename_i hs
      injection hv with hv
      subst hv
      obtain ⟨y, hy, hey⟩ := aval_slice_ro (P := P) hx hte hz hs hb b1 b2 b3 b4
      exact ⟨y, by rw [Sem.run_bind, hy]; rfl, hey⟩
    · split at hv
      case h_2 => cases hv
      rename_i te hte
      split at hv
      case h_2 => cases hv
      rename_i z p q hz hb
      split at hv
      case isFalse => cases hv
      rename_i hs
      injection hv with hv
      subst hv
      obtain ⟨y, hy, hey⟩ := aval_slice_sl (P := P) hx hte hz hs hb b1 b2 b3 b4
      exact ⟨y, by rw [Sem.run_bind, hy]; rfl, hey⟩
    · split at hv
      case h_2 => cases hv
      rename_i te hte
      split at hv
      case h_2 => cases hv
      rename_i z p q hz hb
      split at hv
      case isFalse => cases hv
      rename_i hs
      injection hv with hv
      subst hv
      obtain ⟨y, hy, hey⟩ := aval_slice_ss (P := P) hx hte hz hs hb b1 b2 b3 b4
      exact ⟨y, by rw [Sem.run_bind, hy]; rfl, hey⟩
    · split at hv
      case h_2 => cases hv
      rename_i len z p q hta hb
      split at hv
      case isFalse => cases hv
      rename_i hs
      injection hv with hv
      subst hv
      obtain ⟨hz1, he1, hm1⟩ := hs
      subst hz1
      obtain ⟨y, hy, hey⟩ := aval_slice_arr (P := P) hx hta he1 hm1 hb b1 b2 b3 b4
      exact ⟨y, by rw [Sem.run_bind, hy]; rfl, hey⟩
    · cases hv
  case build t parts =>
    split at hv
    case h_2 => cases hv
    rename_i z vs h1 h2
    split at hv
    case isFalse => cases hv
    rename_i hok
    obtain ⟨r, hr, rfl⟩ := Option.map_eq_some_iff.1 hv
    obtain ⟨h3, h4⟩ := h.evs hc h2
    obtain ⟨y, hy, hey⟩ := build_run (P := P) (w := w) (μ := μ) (N := Own N0 μ S) (ps := parts.toList.map fun p => (p.1, a.eval p.2)) hok.2 h1 (by simp [h3]) (fun j p q hp hq => by
      simp only [List.getElem?_map, Option.map_eq_some_iff] at hp
      obtain ⟨p', hp', rfl⟩ := hp
      exact h4 j p' q hp' hq) (fun p hp => List.all_eq_true.1 hok.1 p hp) hr
    exact ⟨y, by simp only [Sem.run_bind, eval_map_parts, hy, Result.andThen_ok, Sem.run_pure], hey⟩
  case lookup t x i ok =>
    split at hv
    case h_2 => cases hv
    rename_i b k m k' n q e h1 h2 h3
    split at hv
    case h_2 => cases hv
    rename_i z hz
    split at hv
    case isFalse => cases hv
    rename_i hk
    obtain ⟨rfl, rfl⟩ := hk
    injection hv with hv
    subst hv
    have hz' := hz
    unfold tzero at hz
    obtain ⟨inf, hi, hz⟩ := Option.bind_eq_some_iff.1 hz
    obtain ⟨zv, hzv, hz⟩ := Option.bind_eq_some_iff.1 hz
    have hrz : (zeroValue e).run P w = .ok zv w := by simp [zeroValue, typeInfo, hi, hzv]
    obtain ⟨r, hr, hre⟩ := lookup_run (ok := ok) (h.evc h1 hc) (h.evc h2 hc) h3 hrz (zeroOf_pur hz w _)
    exact ⟨r, by simp only [Sem.run_bind, hr, Result.andThen_ok, Sem.run_pure], hre⟩
  case call cl =>
    obtain ⟨callee, args, argTypes⟩ := cl
    cases callee with
    | value f => cases hv
    | invoke r m => cases hv
    | builtin b =>
    cases b <;> simp only at hv <;> try (cases hv; done)
    case min =>
      split at hv
      case h_2 => cases hv
      rename_i x y ha
      have ha' : args = #[x, y] := by apply Array.ext'; simpa using ha
      subst ha'
      split at hv
      case h_2 => cases hv
      rename_i k p k' q h1 h2
      split at hv
      case isFalse => cases hv
      rename_i hk
      subst hk
      injection hv with hv
      subst hv
      have hx := h.evc h1 hc
      have hy := h.evc h2 hc
      simp only [Sem.run_bind, resolve, Sem.run_pure, Result.andThen_ok, invoke, builtin, List.map_toArray, List.map_cons, List.map_nil]
      generalize a.eval x = xv at hx ⊢
      generalize a.eval y = yv at hy ⊢
      cases hx with
      | pur hx =>
      cases hx with
      | int =>
      cases hy with
      | pur hy =>
      cases hy with
      | int =>
      exact ⟨_, by rw [run_min_int2]; rfl, .pur (.int _ _)⟩
    case max =>
      split at hv
      case h_2 => cases hv
      rename_i x y ha
      have ha' : args = #[x, y] := by apply Array.ext'; simpa using ha
      subst ha'
      split at hv
      case h_2 => cases hv
      rename_i k p k' q h1 h2
      split at hv
      case isFalse => cases hv
      rename_i hk
      subst hk
      injection hv with hv
      subst hv
      have hx := h.evc h1 hc
      have hy := h.evc h2 hc
      simp only [Sem.run_bind, resolve, Sem.run_pure, Result.andThen_ok, invoke, builtin, List.map_toArray, List.map_cons, List.map_nil]
      generalize a.eval x = xv at hx ⊢
      generalize a.eval y = yv at hy ⊢
      cases hx with
      | pur hx =>
      cases hx with
      | int =>
      cases hy with
      | pur hy =>
      cases hy with
      | int =>
      exact ⟨_, by rw [run_max_int2]; rfl, .pur (.int _ _)⟩
    split at hv
    case h_2 => cases hv
    rename_i x t ha ht
    have ha' : args = #[x] := by apply Array.ext'; simpa using ha
    have ht' : argTypes = #[t] := by apply Array.ext'; simpa using ht
    subst ha'
    subst ht'
    simp only [Sem.run_bind, resolve, Sem.run_pure, Result.andThen_ok, invoke, builtin, List.map_toArray, List.map_cons, List.map_nil]
    split at hv
    · rename_i l h1
      split at hv
      case isFalse => cases hv
      rename_i hs
      injection hv with hv
      subst hv
      have hx := h.evc h1 hc
      generalize a.eval x = xv at hx ⊢
      cases hx with
      | pur hx =>
      cases hx with
      | str =>
      have hsz : (ByteArray.mk l.toArray).size = l.length := by simp [ByteArray.size]
      exact ⟨.int .i64 l.length, by simp [Builtin.len_, run_underlying (tstr_underlying hs), goInt, hsz], .pur (.int _ _)⟩
    · rename_i sz es h1
      split at hv
      case isFalse => cases hv
      rename_i hs
      injection hv with hv
      subst hv
      obtain ⟨te, hte⟩ := Option.isSome_iff_exists.1 hs
      have hx := h.evc h1 hc
      generalize a.eval x = xv at hx ⊢
      cases hx with
      | pur hx =>
      cases hx with
      | ro A ad n cap _ _ g hn =>
      exact ⟨.int .i64 es.length, by simp [Builtin.len_, run_underlying (telem_underlying hte), goInt, hn], .pur (.int _ _)⟩
    · rename_i h1
      split at hv
      case isFalse => cases hv
      rename_i hs
      injection hv with hv
      subst hv
      obtain ⟨te, hte⟩ := Option.isSome_iff_exists.1 hs
      have hx := h.evc h1 hc
      generalize a.eval x = xv at hx ⊢
      cases hx with
      | pur hx =>
      cases hx with
      | nils A =>
      exact ⟨.int .i64 0, by simp [Builtin.len_, run_underlying (telem_underlying hte), goInt], .pur (.int _ _)⟩
    · rename_i d v' sz n h1
      split at hv
      case isFalse => cases hv
      rename_i hs
      injection hv with hv
      subst hv
      obtain ⟨te, hte⟩ := Option.isSome_iff_exists.1 hs
      have hx := h.evc h1 hc
      generalize a.eval x = xv at hx ⊢
      cases hx with
      | pur hx => cases hx
      | slr => exact ⟨.int .i64 n, by simp [Builtin.len_, run_underlying (telem_underlying hte), goInt], .pur (.int _ _)⟩
      | slv => exact ⟨.int .i64 0, by simp [Builtin.len_, run_underlying (telem_underlying hte), goInt], .pur (.int _ _)⟩
    · rename_i d v' sz off n h1
      split at hv
      case isFalse => cases hv
      rename_i hs
      injection hv with hv
      subst hv
      obtain ⟨te, hte⟩ := Option.isSome_iff_exists.1 hs
      have hx := h.evc h1 hc
      generalize a.eval x = xv at hx ⊢
      cases hx with
      | pur hx => cases hx
      | ss => exact ⟨.int .i64 n, by simp [Builtin.len_, run_underlying (telem_underlying hte), goInt], .pur (.int _ _)⟩
    · cases hv

end
end Go.Eng

/- The abstract step of the operations that make or write memory, and that the model does the same. No condition. -/
namespace Go.Eng
open Go.RowKit

def flat (es : List V) : List V := es.flatMap V.cells

theorem flat_length {sz : Nat} : ∀ {es : List V}, (∀ e ∈ es, e.fits sz) → (flat es).length = es.length * sz
  | [], _ => by simp [flat]
  | e :: es, h => by
    have h1 := (h e (by simp)).1
    have h2 := flat_length (es := es) (fun x hx => h x (by simp [hx]))
    unfold flat at h2 ⊢
    rw [List.flatMap_cons, List.length_append, h1, h2, List.length_cons, Nat.add_mul]
    omega

theorem flat_get {sz : Nat} : ∀ {es : List V}, (∀ e ∈ es, e.fits sz) → ∀ {k j : Nat} {e c : V}, es[k]? = some e → e.cells[j]? = some c → (flat es)[k * sz + j]? = some c
  | [], _, k, j, e, c, hk, _ => by simp at hk
  | x :: es, h, k, j, e, c, hk, hj => by
    have h1 := (h x (by simp)).1
    have hj' : j < e.cells.length := (List.getElem?_eq_some_iff.1 hj).1
    unfold flat
    rw [List.flatMap_cons]
    rcases k with _ | k
    · simp only [List.getElem?_cons_zero, Option.some.injEq] at hk
      subst hk
      rw [Nat.zero_mul, Nat.zero_add, List.getElem?_append_left hj']
      exact hj
    · simp only [List.getElem?_cons_succ] at hk
      have ih := flat_get (es := es) (fun y hy => h y (by simp [hy])) hk hj
      unfold flat at ih
      rw [List.getElem?_append_right (by rw [h1, Nat.add_mul]; omega), h1, show (k + 1) * sz + j - sz = k * sz + j by rw [Nat.add_mul]; omega]
      exact ih

theorem flat_append (a b : List V) : flat (a ++ b) = flat a ++ flat b := by simp [flat]

/-- The value with the cells from off on replaced. -/
def V.setPart (e : V) (off : Nat) (v : V) : V :=
  match e with
  | .agg cs => .agg (cs.take off ++ v.cells ++ cs.drop (off + v.cells.length))
  | _ => v

def AS.putv (S : AS) (dst : Option Nat) (v : V) : Option AS :=
  match dst with
  | some d => if d < S.nt then some { S with env := (d, v) :: S.env } else none
  | none => some S

/-- The elements that a slice value stands for. -/
def AS.elems (S : AS) : V → Option (Nat × List V)
  | .ro sz es => some (sz, es)
  | .nils => some (0, [])
  | .sl d v sz len => match get S.objs d with
    | some o => if o.v = v ∧ o.sz = sz ∧ o.es.length = len then some (sz, o.es) else none
    | none => none
  | .ss d v sz off len => match get S.objs d with
    | some o => if o.v = v ∧ o.sz = sz ∧ off + len ≤ o.es.length then some (sz, (o.es.drop off).take len) else none
    | none => none
  | _ => none

def tbytes (P : Program) (t : TypeId) : Option Nat := (P.info? t).map (·.bytes)

/-- Puts elements into a list of elements. -/
def asets (sz : Nat) (es : List V) : List (Nat × V) → Option (List V)
  | [] => some es
  | (i, v) :: r => if v.cells.length = sz ∧ i < es.length ∧ cellOk v = true then asets sz (es.set i v) r else none

/-- The cells of a value of a type whose zero value is known. -/
def tok (P : Program) (t : TypeId) : Option Nat := match tzero P t, tsz P t with
  | some z, some n => if z.cells.length = n ∧ cellOk z = true ∧ 0 < n then some n else none
  | _, _ => none

/-- The type of bytes. -/
def tz8 (P : Program) (t : TypeId) : Bool := match P.info? t with
  | some i => (match i.zero with | some (.int .u8 n) => n == 0 | _ => false) && i.size == 1 && i.bytes == 1
  | none => false

/-- What an operation makes of the objects, and its value. -/
def acore (P : Program) (i : Nat) (S : AS) (dst : Option Nat) (kd : Nat) : Op → Option (List (Nat × Ob) × V)
  | .alloc t => match dst, tzero P t, tok P t with
    | some _, some z, some n => some ((kd, ⟨S.nx + i, n, t, [z]⟩) :: S.objs, .bp kd (S.nx + i) n 0 0)
    | _, _, _ => none
  | .box t x => match dst, S.evc true x with
    | some _, some z => if cellOk z = true then some ((kd, ⟨S.nx + i, z.cells.length, t, [z]⟩) :: S.objs, .bp kd (S.nx + i) z.cells.length 0 0) else none
    | _, _ => none
  | .buildSlice t len parts => match dst, telem P t, S.evs true parts.toList with
    | some _, some te, some vs => match tzero P te, tok P te with
      | some z, some n => if len * n ≤ 16777216 then (match asets n (List.replicate len z) vs with
        | some es => some ((kd, ⟨S.nx + i, n, te, es⟩) :: S.objs, .sl kd (S.nx + i) n len)
        | none => none) else none
      | _, _ => none
    | _, _, _ => none
  | .makeSlice t l c => match dst, telem P t, S.evc true l, S.evc true c with
    | some _, some te, some (.int _ l), some (.int _ c) => match tzero P te, tok P te, tbytes P te with
      | some z, some n, some b => if 0 ≤ l ∧ l ≤ c ∧ c ≤ 9223372036854775807 ∧ (b : Int) * c ≤ 281474976710656 then
          some ((kd, ⟨S.nx + i, n, te, List.replicate l.toNat z⟩) :: S.objs, .sl kd (S.nx + i) n l.toNat) else none
      | _, _, _ => none
    | _, _, _, _ => none
  | .store t x y => match S.evc true x, S.evc true y, tsz P t with
    | some (.bp d v sz k off), some u, some n => match get S.objs d with
      | some o => if o.v = v ∧ o.sz = sz ∧ u.cells.length = n ∧ cellOk u = true ∧ 0 < n then (match nth o.es k with
        | some e => if off + n ≤ e.cells.length then some ((d, { o with es := o.es.set k (e.setPart off u) }) :: S.objs, .whn false (.bool true)) else none
        | none => none) else none
      | none => none
    | _, _, _ => none
  | .call { callee := .builtin .append, args, argTypes } => match args.toList, argTypes.toList, dst with
    | [s, x], [t, t'], some _ => if t = t' then (match S.evc true s, S.evc true x, telem P t with
      | some sv, some xv, some te => match S.elems xv, tok P te, tbytes P te with
        | some (sz', news), some n, some b => match sv with
          | .sl d v sz len => match get S.objs d with
            | some o => if o.v = v ∧ o.sz = sz ∧ o.es.length = len ∧ o.ty = te ∧ n = sz ∧ (news ≠ [] → sz' = sz) ∧ len + news.length ≤ maxLen ∧ (len + news.length) * b ≤ 140737488355328 then
                some ((d, ⟨S.nx + i, sz, te, o.es ++ news⟩) :: S.objs, .sl d (S.nx + i) sz (len + news.length)) else none
            | none => none
          | .nils => if (news ≠ [] → sz' = n) ∧ news.length ≤ maxLen ∧ news.length * b ≤ 140737488355328 then
                some ((kd, ⟨S.nx + i, n, te, news⟩) :: S.objs, .sl kd (S.nx + i) n news.length) else none
          | _ => none
        | _, _, _ => none
      | _, _, _ => none) else if tstr P t' = true ∧ tbyteS P t = true then (match S.evc true s, S.evc true x, telem P t with
      | some sv, some (.str l), some te => match tz8 P te with
        | true => match sv with
          | .sl d v sz len => match get S.objs d with
            | some o => if o.v = v ∧ o.sz = sz ∧ sz = 1 ∧ o.es.length = len ∧ o.ty = te ∧ len + l.length ≤ maxLen ∧ len + l.length ≤ 140737488355328 then
                some ((d, ⟨S.nx + i, 1, te, o.es ++ l.map byV⟩) :: S.objs, .sl d (S.nx + i) 1 (len + l.length)) else none
            | none => none
          | .nils => if l.length ≤ maxLen ∧ l.length ≤ 140737488355328 then
                some ((kd, ⟨S.nx + i, 1, te, l.map byV⟩) :: S.objs, .sl kd (S.nx + i) 1 l.length) else none
          | _ => none
        | false => none
      | _, _, _ => none) else none
    | _, _, _ => none
  | _ => none

def aeff (P : Program) (i : Nat) (S : AS) (dst : Option Nat) (kd : Nat) (op : Op) : Option AS :=
  match acore P i S dst kd op with
  | some (O, v) => AS.putv { S with objs := O } dst v
  | none => none

section
variable {D : Nat → Prop} {w0 : Bs} {w : World} {N0 : Nat → Prop} {μ : Mu} {S : AS} {a : Act} {P : Program}

theorem RelM.putv (h : RelM D w0 N0 μ S a w) {S' : AS} {dst : Option Nat} {x : Value} {v : V} (hp : S.putv dst v = some S') (he : Enc w (Own N0 μ S) μ x v) : RelM D w0 N0 μ S' (a.put dst x) w := by
  unfold AS.putv at hp
  split at hp
  · split at hp
    · rename_i hd
      injection hp with hp
      subst hp
      exact h.put hd he
    · cases hp
  · injection hp with hp
    subst hp
    exact h

/-- What an operation does to the world, and the value that it leaves. -/
def Does (P : Program) (o : Oper) (a : Act) (w : World) (x : Value) (w' : World) : Prop :=
  (execOp a.eval o).run P w = .ok (.value x) w' ∨ ((execOp a.eval o).run P w = .ok .skip w' ∧ x = undef)

theorem cellOk_fits {v : V} (h : cellOk v = true) : v.fits v.cells.length := ⟨rfl, fun c hc => by simpa using List.all_eq_true.1 h c hc⟩

theorem tzero_run {t : TypeId} {z : V} (h : tzero P t = some z) (w : World) (N : Nat → Prop) : ∃ x, (zeroValue t).run P w = .ok x w ∧ Pur w N x z := by
  unfold tzero at h
  obtain ⟨inf, hinf, h⟩ := Option.bind_eq_some_iff.1 h
  obtain ⟨zv, hzv, h⟩ := Option.bind_eq_some_iff.1 h
  exact ⟨zv, by simp [zeroValue, typeInfo, hinf, hzv], zeroOf_pur h w N⟩

/-- A new variable. -/
theorem eff_newVar (h : RelM D w0 N0 μ S a w) {i : Nat} (hi : ¬ D i) {d dd : Nat} {t : TypeId} {x : Value} {z : V} {S' : AS} (hx : Enc w (Own N0 μ S) μ x z) (hz : cellOk z = true)
    (hp : AS.putv { S with objs := (d, ⟨S.nx + i, z.cells.length, t, [z]⟩) :: S.objs } (some dd) (.bp d (S.nx + i) z.cells.length 0 0) = some S') :
    ∃ μ', RelM (fun j => D j ∨ j = i) w0 N0 μ' S' (a.put (some dd) (.pointer (some ⟨w.heap.size, 0, none⟩))) (w.alloc (.cells x.cells t)) := by
  obtain ⟨h1, h2⟩ := hx.cells_at (cellOk_fits hz)
  have hr := h.alloc hi d x.cells t z.cells.length 1 [z] (by rw [h1, Nat.one_mul]) (by simp) (by simp [maxLen]) (fun e he => by simp at he; subst he; exact cellOk_fits hz) (fun k e j c hk hj => by
    rcases k with _ | k
    · simp at hk; subst hk
      obtain ⟨y, hy, hey, _⟩ := h2 j c hj
      exact ⟨y, by rw [Nat.zero_mul, Nat.zero_add]; exact hy, hey⟩
    · simp at hk)
  refine ⟨_, hr.putv hp ?_⟩
  have := Enc.bp (w := w.alloc (.cells x.cells t)) (N := Own N0 (muSet μ d (S.nx + i) (some (w.heap.size, 1))) { S with objs := (d, ⟨S.nx + i, z.cells.length, t, [z]⟩) :: S.objs }) d (S.nx + i) z.cells.length 0 0 w.heap.size 1 (muSet_same μ d (S.nx + i) (some (w.heap.size, 1)))
  simpa using this

/-- What the elements of a slice lie as. -/
theorem RelM.elems (h : RelM D w0 N0 μ S a w) {x : Value} {p : V} {sz : Nat} {es : List V} (hx : Enc w (Own N0 μ S) μ x p) (he : S.elems p = some (sz, es)) :
    ∃ A c, x = .slice A es.length c ∧ es.length ≤ c ∧ (es ≠ [] → (∀ e ∈ es, e.fits sz) ∧ ∃ ad vs, A = some ad ∧ vs.length = es.length * sz ∧ (∀ (j : Nat) u, vs[j]? = some u → w.cell? (Addr.add ad j) = some u) ∧ Row w (Own N0 μ S) μ vs (flat es)) := by
  have mk : ∀ (ad : Addr) (es : List V) (sz : Nat), (∀ e ∈ es, e.fits sz) → (∀ (k : Nat) e (j : Nat) c, es[k]? = some e → e.cells[j]? = some c → ∃ y, w.cell? (ad.add (k * sz + j)) = some y ∧ Enc w (Own N0 μ S) μ y c) →
      ∃ vs : List Value, vs.length = es.length * sz ∧ (∀ (j : Nat) u, vs[j]? = some u → w.cell? (ad.add j) = some u) ∧ Row w (Own N0 μ S) μ vs (flat es) := by
    intro ad es sz hf hc
    have hall : ∀ j, j < es.length * sz → ∃ y c, w.cell? (ad.add j) = some y ∧ (flat es)[j]? = some c ∧ Enc w (Own N0 μ S) μ y c := by
      intro j hj
      have hsz : 0 < sz := by
        rcases Nat.eq_zero_or_pos sz with h0 | h0
        · subst h0; simp at hj
        · exact h0
      have hk : j / sz < es.length := Nat.div_lt_of_lt_mul (by rw [Nat.mul_comm]; exact hj)
      have hfe := hf es[j / sz] (List.getElem_mem hk)
      have hj2 : j % sz < es[j / sz].cells.length := by rw [hfe.1]; exact Nat.mod_lt _ hsz
      have e1 : j / sz * sz + j % sz = j := by rw [Nat.mul_comm]; exact Nat.div_add_mod j sz
      obtain ⟨y, hy, hey⟩ := hc (j / sz) _ (j % sz) _ (List.getElem?_eq_getElem hk) (List.getElem?_eq_getElem hj2)
      have hfl := flat_get hf (List.getElem?_eq_getElem hk) (List.getElem?_eq_getElem hj2)
      rw [e1] at hy hfl
      exact ⟨y, _, hy, hfl, hey⟩
    refine ⟨(List.range (es.length * sz)).map fun j => (w.cell? (ad.add j)).getD undef, by simp, fun j u hu => ?_, ⟨by simp [flat_length hf], fun j y c hy hc' => ?_⟩⟩
    · have hj : j < es.length * sz := by have := (List.getElem?_eq_some_iff.1 hu).1; simpa using this
      obtain ⟨y, c, h1, h2, h3⟩ := hall j hj
      simp only [List.getElem?_map, List.getElem?_range hj, Option.map_some, Option.some.injEq, h1, Option.getD_some] at hu
      rw [h1, hu]
    · have hj : j < es.length * sz := by have := (List.getElem?_eq_some_iff.1 hy).1; simpa using this
      obtain ⟨y', c', h1, h2, h3⟩ := hall j hj
      simp only [List.getElem?_map, List.getElem?_range hj, Option.map_some, Option.some.injEq, h1, Option.getD_some] at hy
      rw [h2] at hc'
      injection hc' with hc'
      subst hy; subst hc'
      exact h3
  cases p <;> simp only [AS.elems] at he <;> try (cases he; done)
  case ro sz' es' =>
    simp only [Option.some.injEq, Prod.mk.injEq] at he
    obtain ⟨rfl, rfl⟩ := he
    cases hx with
    | pur hx =>
    cases hx with
    | ro A ad n cap _ _ g hn hcap hmax hA hf hc hh =>
    subst hn
    refine ⟨A, cap, rfl, hcap, fun hne => ⟨hf, ?_⟩⟩
    obtain ⟨hA1, _, _⟩ := hA (List.length_pos_iff.2 hne)
    obtain ⟨vs, v1, v2, v3⟩ := mk ad es' sz' hf (fun k e j c h1 h2 => ⟨_, hc k e j c h1 h2, .pur (hh k e j c h1 h2)⟩)
    exact ⟨ad, vs, hA1, v1, v2, v3⟩
  case nils =>
    simp only [Option.some.injEq, Prod.mk.injEq] at he
    obtain ⟨rfl, rfl⟩ := he
    cases hx with
    | pur hx =>
    cases hx with
    | nils A => exact ⟨A, 0, rfl, Nat.le_refl _, fun hne => absurd rfl hne⟩
  case sl d v sz' len =>
    split at he
    case h_2 => cases he
    rename_i o ho
    split at he
    case isFalse => cases he
    rename_i hb
    obtain ⟨rfl, rfl, hlen⟩ := hb
    simp only [Option.some.injEq, Prod.mk.injEq] at he
    obtain ⟨rfl, rfl⟩ := he
    cases hx with
    | pur hx => cases hx
    | slr _ _ _ _ g cap hm hle hmax =>
      refine ⟨_, cap, by rw [hlen], by rw [hlen]; exact hle, fun hne => ?_⟩
      obtain ⟨l, hl, hob⟩ := h.objs d o ho
      rw [hm] at hl
      injection hl with hl
      subst hl
      obtain ⟨_, _, _, h4, arr, h5, h6, h7⟩ := hob
      refine ⟨h4, ?_⟩
      obtain ⟨vs, v1, v2, v3⟩ := mk ⟨g, 0, none⟩ o.es o.sz h4 (fun k e j c h1 h2 => by
        obtain ⟨y, hy, hey⟩ := h7 k e j c h1 h2
        exact ⟨y, by rw [Addr.add_lit, Nat.zero_add, cell_of_row w g _ arr o.ty (0, 0) h5]; exact hy, hey⟩)
      exact ⟨_, vs, rfl, v1, v2, v3⟩
    | slv _ _ _ A hm =>
      have hnil : o.es = [] := List.eq_nil_of_length_eq_zero hlen
      exact ⟨A, 0, by rw [hlen], by rw [hlen]; exact Nat.le_refl _, fun hne => absurd hnil hne⟩
  case ss d v sz' off len =>
    split at he
    case h_2 => cases he
    rename_i o ho
    split at he
    case isFalse => cases he
    rename_i hb
    obtain ⟨rfl, rfl, hlen⟩ := hb
    simp only [Option.some.injEq, Prod.mk.injEq] at he
    obtain ⟨rfl, rfl⟩ := he
    have hl' : ((o.es.drop off).take len).length = len := by simp; omega
    cases hx with
    | pur hx => cases hx
    | ss _ _ _ _ _ g c cap A hle hcm hA =>
      refine ⟨A, c, by rw [hl'], by rw [hl']; exact hle, fun hne => ?_⟩
      have hpos : 0 < len := by
        have := List.length_pos_iff.2 hne
        omega
      obtain ⟨hm, rfl⟩ := hA hpos
      obtain ⟨l, hl, hob⟩ := h.objs d o ho
      rw [hm] at hl
      injection hl with hl
      subst hl
      obtain ⟨_, _, _, h4, arr, h5, h6, h7⟩ := hob
      have h4' : ∀ e ∈ (o.es.drop off).take len, e.fits o.sz := fun e he => h4 e (List.mem_of_mem_drop (List.mem_of_mem_take he))
      refine ⟨h4', ?_⟩
      obtain ⟨vs, v1, v2, v3⟩ := mk ⟨g, off * o.sz, none⟩ ((o.es.drop off).take len) o.sz h4' (fun k e j c h1 h2 => by
        have hk : k < len := by have := (List.getElem?_eq_some_iff.1 h1).1; omega
        rw [List.getElem?_take_of_lt hk, List.getElem?_drop] at h1
        obtain ⟨y, hy, hey⟩ := h7 (off + k) e j c h1 h2
        exact ⟨y, by rw [Addr.add_lit, cell_of_row w g _ arr o.ty (0, 0) h5, show off * o.sz + (k * o.sz + j) = (off + k) * o.sz + j by rw [Nat.add_mul]; omega]; exact hy, hey⟩)
      exact ⟨_, vs, rfl, v1, v2, v3⟩
end
end Go.Eng

/- That the model makes and writes memory as the abstract step says. No condition. -/
namespace Go.Eng
open Go.RowKit

section
variable {D : Nat → Prop} {w0 : Bs} {w : World} {N0 : Nat → Prop} {μ : Mu} {S : AS} {a : Act} {P : Program}

theorem row_cells {N : Nat → Prop} {arr : Array Value} {es : List V} {sz : Nat} (hf : ∀ e ∈ es, e.fits sz) (hr : Row w N μ (arr.toList.take (es.length * sz)) (flat es)) :
    ∀ (k : Nat) e (j : Nat) c, es[k]? = some e → e.cells[j]? = some c → ∃ x, arr[k * sz + j]? = some x ∧ Enc w N μ x c := by
  intro k e j c hk hj
  have hfl := flat_get hf hk hj
  have hlt : k * sz + j < (flat es).length := (List.getElem?_eq_some_iff.1 hfl).1
  have hlt' : k * sz + j < (arr.toList.take (es.length * sz)).length := by rw [hr.1]; exact hlt
  have hx := List.getElem?_eq_getElem hlt'
  refine ⟨_, ?_, hr.2 _ _ c hx hfl⟩
  rw [← hx, List.getElem?_take_of_lt (by rw [flat_length hf] at hlt; exact hlt)]
  simp

theorem cells_row {N : Nat → Prop} {arr : Array Value} {es : List V} {sz : Nat} (hf : ∀ e ∈ es, e.fits sz) (hsz : es.length * sz ≤ arr.size)
    (hc : ∀ (k : Nat) e (j : Nat) c, es[k]? = some e → e.cells[j]? = some c → ∃ x, arr[k * sz + j]? = some x ∧ Enc w N μ x c) : Row w N μ (arr.toList.take (es.length * sz)) (flat es) := by
  refine ⟨by simp [flat_length hf]; omega, fun i x c hx hc' => ?_⟩
  have hi : i < es.length * sz := by have := (List.getElem?_eq_some_iff.1 hc').1; rwa [flat_length hf] at this
  have hs : 0 < sz := by
    rcases Nat.eq_zero_or_pos sz with h0 | h0
    · subst h0; simp at hi
    · exact h0
  have hk : i / sz < es.length := Nat.div_lt_of_lt_mul (by rw [Nat.mul_comm]; exact hi)
  have hfe := hf es[i / sz] (List.getElem_mem hk)
  have hj : i % sz < es[i / sz].cells.length := by rw [hfe.1]; exact Nat.mod_lt _ hs
  have e1 : i / sz * sz + i % sz = i := by rw [Nat.mul_comm]; exact Nat.div_add_mod i sz
  obtain ⟨y, hy, hey⟩ := hc _ _ _ _ (List.getElem?_eq_getElem hk) (List.getElem?_eq_getElem hj)
  have hfl := flat_get hf (List.getElem?_eq_getElem hk) (List.getElem?_eq_getElem hj)
  rw [e1] at hy hfl
  rw [hfl] at hc'
  injection hc' with hc'
  subst hc'
  rw [List.getElem?_take_of_lt hi] at hx
  have : arr[i]? = some x := by simpa using hx
  rw [this] at hy
  injection hy with hy
  subst hy
  exact hey

theorem flat_set {sz : Nat} : ∀ {es : List V}, (∀ e ∈ es, e.fits sz) → ∀ {k : Nat} {e e' : V} {off : Nat} {us : List V}, es[k]? = some e → off + us.length ≤ e.cells.length → e'.cells = e.cells.take off ++ us ++ e.cells.drop (off + us.length) →
    flat (es.set k e') = (flat es).take (k * sz + off) ++ us ++ (flat es).drop (k * sz + off + us.length)
  | [], _, k, e, e', off, us, hk, _, _ => by simp at hk
  | x :: es, h, k, e, e', off, us, hk, hle, he => by
    have h1 := (h x (by simp)).1
    rcases k with _ | k
    · simp only [List.getElem?_cons_zero, Option.some.injEq] at hk
      subst hk
      simp only [flat, List.set_cons_zero, List.flatMap_cons, he, Nat.zero_mul, Nat.zero_add]
      rw [List.take_append_of_le_length (by omega), List.drop_append_of_le_length (by omega)]
      simp only [List.append_assoc]
    · simp only [List.getElem?_cons_succ] at hk
      have ih := flat_set (es := es) (fun y hy => h y (by simp [hy])) hk hle he
      unfold flat at ih ⊢
      simp only [List.set_cons_succ, List.flatMap_cons, ih]
      have e1 : (k + 1) * sz + off = x.cells.length + (k * sz + off) := by rw [h1, Nat.add_mul]; omega
      have e2 : x.cells.length + (k * sz + off) + us.length = x.cells.length + (k * sz + off + us.length) := by omega
      rw [e1, List.take_length_add_append, e2, List.drop_length_add_append]
      simp only [List.append_assoc]

theorem setPart_cells {e u : V} {off : Nat} (hle : off + u.cells.length ≤ e.cells.length) (hpos : 0 < u.cells.length) : (e.setPart off u).cells = e.cells.take off ++ u.cells ++ e.cells.drop (off + u.cells.length) := by
  unfold V.setPart
  split
  · rfl
  · rename_i hne
    have hcell : e.cells = [e] := by cases e <;> first | rfl | (exact absurd rfl (hne _))
    rw [hcell] at hle ⊢
    simp at hle
    have : off = 0 := by omega
    subst this
    simp
    omega

/-- append of nothing. -/
theorem append_zero {t ty te : TypeId} {B A : Option Addr} {n cap c : Nat} {inf : TypeInfo} (ht : P.underlying t = some (.slice te)) (hi : P.info? te = some inf) (hn : n ≤ cap) :
    (Builtin.append_ #[t, t] ty #[.slice B n cap, .slice A 0 c]).run P w = .ok (.slice B n cap) w := by
  cases A <;> cases B <;> simp [Builtin.append_, run_underlying ht, sizeOf, typeInfo, hi, Builtin.lenOf, Builtin.firstCells, hn, storeCells, loadCells, loadCellsFrom]

/-- append onto a slice without room. -/
theorem append_cap0 {t ty te : TypeId} {B : Option Addr} {ad : Addr} {m c : Nat} {inf : TypeInfo} {z : Value} {vs : List Value} (ht : P.underlying t = some (.slice te)) (hi : P.info? te = some inf) (hz : inf.zero = some z) (hzs : z.cells.size = inf.size)
    (hl : vs.length = m * inf.size) (hv : ∀ (j : Nat) u, vs[j]? = some u → w.cell? (ad.add j) = some u) (h0 : 0 < m) (h63 : m ≤ maxLen) (hb : m * inf.bytes ≤ 140737488355328) :
    ∃ cap arr, (Builtin.append_ #[t, t] ty #[.slice B 0 0, .slice (some ad) m c]).run P w = .ok (.slice (some ⟨w.heap.size, 0, none⟩) m cap) (w.drew.alloc (.cells arr te)) ∧ m ≤ cap ∧ cap ≤ maxLen ∧ arr.size = cap * inf.size ∧ arr.toList.take (m * inf.size) = vs := by
  have hm : m ≤ 9223372036854775807 := by simp only [maxLen] at h63; omega
  have hge := grownCap_ge w m 0 te
  have hcm : grownCap w m 0 te ≤ maxLen := grownCap_le_maxLen w m 0 te h63
  have hrun : (Builtin.append_ #[t, t] ty #[.slice B 0 0, .slice (some ad) m c]).run P w = .ok (.slice (some ⟨w.heap.size, 0, none⟩) m (grownCap w m 0 te)) (w.drew.alloc (.cells (vs.toArray ++ Builtin.zeroCells z.cells (grownCap w m 0 te - m)) te)) := by
    cases B with
    | none => exact run_append_nil (P := P) w t ty te inf z ht hi hz ad m c vs hl hv h0 (by omega) (by omega)
    | some b =>
      have := run_append_grow (P := P) w t ty te inf z ht hi hz b 0 0 [] (by simp) (by simp) ad m c vs hl hv (by omega) (by omega) (by rw [Nat.zero_add, nextslicecap_zero h0]; omega)
      simpa using this
  refine ⟨_, _, hrun, hge, hcm, ?_, ?_⟩
  · simp only [Array.size_append, List.size_toArray, size_zeroCells, hzs, hl, ← Nat.add_mul]
    congr 1
    omega
  · simp only [Array.toList_append, ← hl]
    exact List.take_left

theorem RelD.of {D : Nat → Prop} (h : RelM D w0 N0 μ S a w) : RelD D w0 N0 S a w := ⟨μ, h⟩

/-- append onto a slice of the call's own that has no block yet, or onto a nil slice. -/
theorem eff_append0 (h : RelM D w0 N0 μ S a w) {i : Nat} (hi : ¬ D i) {d dd : Nat} {t te : TypeId} {B : Option Addr} {x : Value} {xv : V} {sz' n b : Nat} {news : List V} {S' : AS} {ty : TypeId}
    (ht : telem P t = some te) (hn : tsz P te = some n) (hb : tbytes P te = some b) (hx : Enc w (Own N0 μ S) μ x xv) (he : S.elems xv = some (sz', news))
    (hs : news ≠ [] → sz' = n) (hz0 : ∃ z, tzero P te = some z ∧ z.cells.length = n ∧ cellOk z = true) (hl : news.length ≤ maxLen) (hbb : news.length * b ≤ 140737488355328)
    (hp : AS.putv { S with objs := (d, ⟨S.nx + i, n, te, news⟩) :: S.objs } (some dd) (.sl d (S.nx + i) n news.length) = some S') :
    ∃ y w', (Builtin.append_ #[t, t] ty #[.slice B 0 0, x]).run P w = .ok y w' ∧ RelD (fun j => D j ∨ j = i) w0 N0 S' (a.put (some dd) y) w' := by
  have hu := telem_underlying ht
  unfold tsz at hn
  obtain ⟨inf, hinf, rfl⟩ := Option.map_eq_some_iff.1 hn
  unfold tbytes at hb
  obtain ⟨inf', hinf', rfl⟩ := Option.map_eq_some_iff.1 hb
  rw [hinf] at hinf'
  injection hinf' with hinf'
  subst hinf'
  obtain ⟨A, c, rfl, hlc, hrest⟩ := h.elems hx he
  by_cases hne : news = []
  · subst hne
    refine ⟨.slice B 0 0, w, append_zero hu hinf (Nat.le_refl _), ?_⟩
    have hmono := h.muSet_mono hi d none
    obtain ⟨hr, _⟩ := h.update (D' := fun j => D j ∨ j = i) (d := d) (o' := ⟨S.nx + i, inf.size, te, []⟩) (l' := none) (w' := w) (μ' := muSet μ d (S.nx + i) none) hmono (h.muSet_fresh i d _) (muSet_same _ _ _ _) h.below (Keeps.refl _ _)
      (fun _ _ _ _ _ _ _ => rfl) (fun g c e => by cases e) (fun N' hN => rfl)
    exact ⟨_, hr.putv hp (.slv d (S.nx + i) inf.size B (muSet_same _ _ _ _))⟩
  · obtain ⟨hf, ad, vs, rfl, hvl, hvc, hrow⟩ := hrest hne
    have hs' := hs hne
    subst hs'
    obtain ⟨z, hz1, hz2, hz3⟩ := hz0
    have hzz := hz1
    unfold tzero at hzz
    obtain ⟨inf2, hinf2, hzz⟩ := Option.bind_eq_some_iff.1 hzz
    rw [hinf] at hinf2
    injection hinf2 with hinf2
    subst hinf2
    obtain ⟨zv, hzv, hzz⟩ := Option.bind_eq_some_iff.1 hzz
    have hzp := zeroOf_pur hzz w (Own N0 μ S)
    have hzs : zv.cells.size = inf.size := by
      have := (Enc.pur (μ := μ) hzp).cells_at (cellOk_fits hz3)
      rw [this.1, hz2]
    obtain ⟨cap, arr, hrun, h1, h2, h3, h4⟩ := append_cap0 (P := P) (w := w) (ty := ty) (B := B) (c := c) hu hinf hzv hzs hvl hvc (List.length_pos_iff.2 hne) hl hbb
    refine ⟨_, _, hrun, ?_⟩
    have hkd : Keeps w (Own N0 μ S) w.drew := ⟨Nat.le_refl _, fun _ _ _ => rfl⟩
    have hrow' : Row w.drew (Own N0 μ S) μ (arr.toList.take (news.length * inf.size)) (flat news) := by
      rw [h4]
      exact ⟨hrow.1, fun i x c hx hc => (hrow.2 i x c hx hc).keep hkd (fun _ _ hb => hb) (fun _ _ _ hh => hh)⟩
    have hr := h.drew.alloc hi d arr te inf.size cap news h3 h1 h2 hf (row_cells hf hrow')
    exact ⟨_, hr.putv hp (.slr d (S.nx + i) inf.size news.length w.heap.size cap (muSet_same _ _ _ _) h1 h2)⟩

theorem byV_row (w : World) (N : Nat → Prop) (l : List UInt8) : Row w N μ (Lib.strCells ⟨l.toArray⟩) (flat (l.map byV)) := by
  have hf : flat (l.map byV) = l.map byV := by
    unfold flat
    induction l with
    | nil => rfl
    | cons b l ih => simp only [List.map_cons, List.flatMap_cons, ih]; rfl
  rw [hf]
  refine ⟨by simp [Lib.strCells], fun i x c hx hc => ?_⟩
  simp only [Lib.strCells, List.getElem?_map, Option.map_eq_some_iff] at hx hc
  obtain ⟨b, hb, rfl⟩ := hx
  obtain ⟨b', hb', rfl⟩ := hc
  rw [hb] at hb'
  injection hb' with hb'
  subst hb'
  exact .pur (.int _ _)
theorem byV_fits (l : List UInt8) : ∀ e ∈ l.map byV, e.fits 1 := by
  intro e he
  simp only [List.mem_map] at he
  obtain ⟨b, _, rfl⟩ := he
  exact ⟨rfl, fun c hc => by simp [byV, V.cells] at hc; subst hc; rfl⟩

theorem tbyteS_spec {t : TypeId} (h : tbyteS P t = true) : ∃ e, telem P t = some e ∧ P.underlying e = some (.int .u8) := by
  unfold tbyteS at h
  split at h
  · rename_i e he; exact ⟨e, he, tint_underlying (by simpa using h)⟩
  · cases h

theorem tz8_spec {t : TypeId} (h : tz8 P t = true) : ∃ inf, P.info? t = some inf ∧ inf.zero = some (.int .u8 0) ∧ inf.size = 1 ∧ inf.bytes = 1 := by
  unfold tz8 at h
  split at h
  · rename_i inf hinf
    simp only [Bool.and_eq_true, beq_iff_eq] at h
    refine ⟨inf, hinf, ?_, h.1.2, h.2⟩
    have h1 := h.1.1
    split at h1
    · rename_i n hn
      have : n = 0 := by simpa using h1
      rw [hn, this]
    · cases h1
  · cases h

/-- append of a string onto a slice without room. -/
theorem eff_appendS0 (h : RelM D w0 N0 μ S a w) {i : Nat} (hi : ¬ D i) {d dd : Nat} {t u te : TypeId} {B : Option Addr} {l : List UInt8} {S' : AS} {ty : TypeId}
    (ht : telem P t = some te) (hu : tstr P u = true) (hz : ∃ inf, P.info? te = some inf ∧ inf.zero = some (.int .u8 0) ∧ inf.size = 1 ∧ inf.bytes = 1)
    (hl : l.length ≤ maxLen) (hbb : l.length ≤ 140737488355328)
    (hp : AS.putv { S with objs := (d, ⟨S.nx + i, 1, te, l.map byV⟩) :: S.objs } (some dd) (.sl d (S.nx + i) 1 l.length) = some S') :
    ∃ y w', (Builtin.append_ #[t, u] ty #[.slice B 0 0, .string ⟨l.toArray⟩]).run P w = .ok y w' ∧ RelD (fun j => D j ∨ j = i) w0 N0 S' (a.put (some dd) y) w' := by
  have htu := telem_underlying ht
  have huu := tstr_underlying hu
  obtain ⟨inf, hinf, hz0, hs1, hb1⟩ := hz
  have hsz : (ByteArray.mk l.toArray).size = l.length := by simp [ByteArray.size]
  have hf := Lib.run_firstCells_string (P := P) w 1 ⟨l.toArray⟩
  rcases l with _ | ⟨b0, l0⟩
  · refine ⟨.slice B 0 0, w, ?_, ?_⟩
    · rw [hsz] at hf
      simp only [List.length_nil] at hf
      cases B <;> simp [Builtin.append_, run_underlying htu, run_underlying huu, sizeOf, typeInfo, hinf, hs1, Builtin.lenOf, hsz, hf, storeCells, Lib.strCells]
    · have hmono := h.muSet_mono hi d none
      obtain ⟨hr, _⟩ := h.update (D' := fun j => D j ∨ j = i) (d := d) (o' := ⟨S.nx + i, 1, te, []⟩) (l' := none) (w' := w) (μ' := muSet μ d (S.nx + i) none) hmono (h.muSet_fresh i d _) (muSet_same _ _ _ _) h.below (Keeps.refl _ _)
        (fun _ _ _ _ _ _ _ => rfl) (fun g c e => by cases e) (fun N' hN => rfl)
      exact ⟨_, hr.putv hp (.slv d (S.nx + i) 1 B (muSet_same _ _ _ _))⟩
  · generalize hle : b0 :: l0 = l at *
    have hpos : 0 < l.length := by rw [← hle]; simp
    have hge := grownCap_ge w l.length 0 te
    have hcm : grownCap w l.length 0 te ≤ maxLen := grownCap_le_maxLen w l.length 0 te hl
    have hrun : (Builtin.append_ #[t, u] ty #[.slice B 0 0, .string ⟨l.toArray⟩]).run P w = .ok (.slice (some ⟨w.heap.size, 0, none⟩) l.length (grownCap w l.length 0 te))
        (w.drew.alloc (.cells ((Lib.strCells ⟨l.toArray⟩).toArray ++ Builtin.zeroCells (Value.int .u8 0).cells (grownCap w l.length 0 te - l.length)) te)) := by
      have h63 : ¬ (9223372036854775807 < (l.length : Int)) := by simp only [maxLen] at hl; omega
      have hns : Builtin.nextslicecap l.length 0 = l.length := by simp [Builtin.nextslicecap, hpos]
      have h48 : ¬ (281474976710656 < Builtin.nextslicecap l.length 0 * inf.bytes) := by rw [hb1, hns]; omega
      have h0 : ¬ (l.length ≤ 0) := by omega
      have hne : l ≠ [] := by rw [← hle]; simp
      have hf' := Lib.run_firstCells_string (P := P) w.drew 1 ⟨l.toArray⟩
      rw [hsz] at hf'
      have hfo : (Builtin.firstCells 1 0 (.slice B 0 0)).run P w.drew = .ok #[] w.drew := by
        cases B <;> simp [Builtin.firstCells, loadCells, loadCellsFrom]
      simp [Builtin.append_, run_underlying htu, run_underlying huu, sizeOf, typeInfo, zeroValue, hinf, hz0, hs1, Builtin.lenOf, hsz, hne, h63, h48, Question.forced, hf', hfo, newRow, grownCap]
    refine ⟨_, _, hrun, ?_⟩
    have hkd : Keeps w (Own N0 μ S) w.drew := ⟨Nat.le_refl _, fun _ _ _ => rfl⟩
    have hlen : (Lib.strCells ⟨l.toArray⟩).length = l.length := by rw [Lib.strCells_length, hsz]
    have hz1 : (Value.int IntKind.u8 0).cells.size = 1 := rfl
    have hr := h.drew.alloc hi d ((Lib.strCells ⟨l.toArray⟩).toArray ++ Builtin.zeroCells (Value.int .u8 0).cells (grownCap w l.length 0 te - l.length)) te 1 (grownCap w l.length 0 te) (l.map byV)
      (by simp only [Array.size_append, List.size_toArray, size_zeroCells, hz1, hlen]; omega) (by simpa using hge) hcm (byV_fits l) (row_cells (byV_fits l) (by
        simp only [List.length_map, Nat.mul_one, Array.toList_append]
        rw [← hlen, List.take_left]
        exact byV_row w.drew _ l))
    exact ⟨_, hr.putv hp (.slr d (S.nx + i) 1 l.length w.heap.size _ (muSet_same _ _ _ _) hge hcm)⟩

/-- append of a string onto a slice of the call's own. -/
theorem eff_appendS (h : RelM D w0 N0 μ S a w) {i : Nat} (hi : ¬ D i) {d dd v len : Nat} {t u te : TypeId} {s : Value} {l : List UInt8} {o : Ob} {S' : AS} {ty : TypeId}
    (ht : telem P t = some te) (hu : tstr P u = true) (hz : ∃ inf, P.info? te = some inf ∧ inf.zero = some (.int .u8 0) ∧ inf.size = 1 ∧ inf.bytes = 1)
    (hs : Enc w (Own N0 μ S) μ s (.sl d v o.sz len)) (ho : get S.objs d = some o) (hov : o.v = v) (hsz : o.sz = 1) (hlen : o.es.length = len) (hty : o.ty = te) (hl : len + l.length ≤ maxLen) (hbb : len + l.length ≤ 140737488355328)
    (hp : AS.putv { S with objs := (d, ⟨S.nx + i, 1, te, o.es ++ l.map byV⟩) :: S.objs } (some dd) (.sl d (S.nx + i) 1 (len + l.length)) = some S') :
    ∃ y w', (Builtin.append_ #[t, u] ty #[s, .string ⟨l.toArray⟩]).run P w = .ok y w' ∧ RelD (fun j => D j ∨ j = i) w0 N0 S' (a.put (some dd) y) w' := by
  subst hov
  cases hs with
  | pur hs => cases hs
  | slv _ _ _ B hm =>
    have hnil : o.es = [] := by
      obtain ⟨l, hl', hob⟩ := h.objs d o ho
      rw [hm] at hl'
      injection hl' with hl'
      subst hl'
      exact hob
    rw [hnil] at hp
    simp only [List.nil_append, Nat.zero_add] at hp hl hbb
    exact eff_appendS0 h hi ht hu hz hl hbb hp
  | slr _ _ _ _ g cap hm hle hmax =>
    have htu := telem_underlying ht
    have huu := tstr_underlying hu
    obtain ⟨inf, hinf, hz0, hs1, hb1⟩ := hz
    obtain ⟨lo, hl', hob⟩ := h.objs d o ho
    rw [hm] at hl'
    injection hl' with hl'
    subst hl'
    obtain ⟨o1, o2, o3, o4, arr, o5, o6, o7⟩ := hob
    rw [hsz] at o4 o6 o7
    subst hty
    have hxs := cells_row (w := w) (N := Own N0 μ S) (μ := μ) o4 (by rw [o6]; exact Nat.mul_le_mul_right _ o2) o7
    simp only [Nat.mul_one] at hxs o6
    have hbz : (ByteArray.mk l.toArray).size = l.length := by simp [ByteArray.size]
    have hgl : g < w.heap.size := (Array.getElem?_eq_some_iff.1 o5).1
    have hfit : ∀ e ∈ o.es ++ l.map byV, e.fits 1 := fun e he => by
      rcases List.mem_append.1 he with h1 | h1
      · exact o4 e h1
      · exact byV_fits l e h1
    have hcl : (Lib.strCells ⟨l.toArray⟩).length = l.length := by rw [Lib.strCells_length, hbz]
    by_cases hroom : len + l.length ≤ cap
    · have hrun := Lib.run_append_room_string (P := P) w t u ty o.ty inf htu huu hinf hs1 g len cap arr o5 ⟨l.toArray⟩ (by rw [hbz]; exact hroom) (by rw [hbz, o6]; exact hroom)
      rw [hbz] at hrun
      refine ⟨_, _, hrun, ?_⟩
      have hmono := h.muSet_mono hi d (some (g, cap))
      have hkeep : Keeps w (Own N0 μ S) (w.setRow g (arr.toList.take len ++ Lib.strCells ⟨l.toArray⟩ ++ arr.toList.drop (len + l.length)).toArray) :=
        ⟨by simp, fun b hb hN => setRow_other w g b _ (fun e => hN (by subst e; exact .inr ⟨d, o, cap, ho, hm⟩))⟩
      obtain ⟨hr, _⟩ := h.update (D' := fun j => D j ∨ j = i) (d := d) (o' := ⟨S.nx + i, 1, o.ty, o.es ++ l.map byV⟩) (l' := some (g, cap)) (w' := w.setRow g (arr.toList.take len ++ Lib.strCells ⟨l.toArray⟩ ++ arr.toList.drop (len + l.length)).toArray) (μ' := muSet μ d (S.nx + i) (some (g, cap))) hmono (h.muSet_fresh i d _) (muSet_same _ _ _ _)
        (⟨h.below.os, h.below.tape, h.below.output, by simpa using h.below.size, fun k hk hx => by
          rw [setRow_other w g k _ (fun e => by subst e; rcases o1 with h | h; omega; exact hx h)]
          exact h.below.block k hk hx⟩) hkeep
        (fun d1 o1' g1 c1 hne1 h1 h2 => setRow_other w g g1 _ (fun e => hne1 (by subst e; exact h.inj _ _ _ _ _ _ _ h1 ho h2 hm)))
        (fun g2 c2 e => by
          simp only [Option.some.injEq, Prod.mk.injEq] at e
          obtain ⟨rfl, rfl⟩ := e
          exact .inr ⟨o, cap, ho, hm⟩)
        (fun N' hN => by
          refine ⟨o1, by simp [hlen]; exact hroom, o3, hfit, _, setRow_heap w g arr _ o.ty (0, 0) o5, ?_, ?_⟩
          · simp only [List.size_toArray, List.length_append, List.length_take, List.length_drop, Array.length_toList, hcl]
            omega
          · refine row_cells hfit ?_
            have e1 : (arr.toList.take len ++ Lib.strCells ⟨l.toArray⟩ ++ arr.toList.drop (len + l.length)).toArray.toList.take ((o.es ++ l.map byV).length * 1) = arr.toList.take o.es.length ++ Lib.strCells ⟨l.toArray⟩ := by
              simp only [List.length_append, List.length_map, Nat.mul_one, hlen]
              rw [List.take_append_of_le_length (by simp [hcl]; omega), List.take_of_length_le (by simp [hcl]; omega)]
            rw [e1, flat_append]
            exact Row.append ⟨hxs.1, fun j x c h1 h2 => (hxs.2 j x c h1 h2).keep hkeep hN hmono⟩ (byV_row _ _ l))
      exact ⟨_, hr.putv hp (.slr d (S.nx + i) 1 _ g cap (muSet_same _ _ _ _) hroom hmax)⟩
    · have holds : ∀ j u, (arr.toList.take o.es.length)[j]? = some u → w.cell? ((⟨g, 0, none⟩ : Addr).add j) = some u := by
        intro j u hj
        have hjl : j < o.es.length := by have := (List.getElem?_eq_some_iff.1 hj).1; simp at this; omega
        rw [List.getElem?_take_of_lt hjl] at hj
        rw [Addr.add_lit, cell_of_row w g _ arr o.ty (0, 0) o5, Nat.zero_add]
        simpa using hj
      have hol : (arr.toList.take o.es.length).length = len * inf.size := by rw [hs1]; simp; omega
      have hfitb : Builtin.nextslicecap (len + l.length) cap * inf.bytes ≤ 281474976710656 := by rw [hb1]; exact growslice_fits (by omega) (by omega)
      have hrun := Lib.run_append_grow_string (P := P) w t u ty o.ty inf (.int .u8 0) htu huu hinf hz0 ⟨g, 0, none⟩ len cap _ hol holds ⟨l.toArray⟩ (by rw [hbz]; omega) (by rw [hbz]; simp only [maxLen] at hl; omega) (by rw [hbz]; exact hfitb)
      rw [hbz] at hrun
      refine ⟨_, _, hrun, ?_⟩
      have hge := grownCap_ge w (len + l.length) cap o.ty
      have hcm : grownCap w (len + l.length) cap o.ty ≤ maxLen := grownCap_le_maxLen w (len + l.length) cap o.ty hl
      have hz1 : (Value.int IntKind.u8 0).cells.size = 1 := rfl
      have hkd : Keeps w (Own N0 μ S) w.drew := ⟨Nat.le_refl _, fun _ _ _ => rfl⟩
      have hr := h.drew.alloc hi d ((arr.toList.take o.es.length).toArray ++ (Lib.strCells ⟨l.toArray⟩).toArray ++ Builtin.zeroCells (Value.int .u8 0).cells (grownCap w (len + l.length) cap o.ty - (len + l.length))) o.ty 1 (grownCap w (len + l.length) cap o.ty) (o.es ++ l.map byV)
        (by simp only [Array.size_append, List.size_toArray, size_zeroCells, hz1, hcl, List.length_take, Array.length_toList]; omega) (by simpa [hlen] using hge) hcm hfit (row_cells hfit (by
          have e1 : ((arr.toList.take o.es.length).toArray ++ (Lib.strCells ⟨l.toArray⟩).toArray ++ Builtin.zeroCells (Value.int .u8 0).cells (grownCap w (len + l.length) cap o.ty - (len + l.length))).toList.take ((o.es ++ l.map byV).length * 1) = arr.toList.take o.es.length ++ Lib.strCells ⟨l.toArray⟩ := by
            simp only [Array.toList_append, List.length_append, List.length_map, Nat.mul_one]
            rw [List.take_append_of_le_length (by simp [hcl]; omega), List.take_of_length_le (by simp [hcl]; omega)]
          rw [e1, flat_append]
          exact Row.append ⟨hxs.1, fun j x c h1 h2 => (hxs.2 j x c h1 h2).keep hkd (fun _ _ hb => hb) (fun _ _ _ hh => hh)⟩ (byV_row _ _ l)))
      exact ⟨_, hr.putv hp (.slr d (S.nx + i) 1 _ w.heap.size _ (muSet_same _ _ _ _) hge hcm)⟩

/-- append onto a slice of the call's own. -/
theorem eff_append (h : RelM D w0 N0 μ S a w) {i : Nat} (hi : ¬ D i) {d dd v len : Nat} {t te : TypeId} {s x : Value} {xv : V} {sz' n b : Nat} {news : List V} {o : Ob} {S' : AS} {ty : TypeId}
    (ht : telem P t = some te) (hn : tsz P te = some n) (hb : tbytes P te = some b) (hs : Enc w (Own N0 μ S) μ s (.sl d v o.sz len)) (ho : get S.objs d = some o) (hov : o.v = v) (hlen : o.es.length = len) (hty : o.ty = te) (hsz : n = o.sz) (hpos : 0 < n)
    (hx : Enc w (Own N0 μ S) μ x xv) (he : S.elems xv = some (sz', news)) (hs' : news ≠ [] → sz' = o.sz) (hz0 : ∃ z, tzero P te = some z ∧ z.cells.length = n ∧ cellOk z = true) (hl : len + news.length ≤ maxLen) (hbb : (len + news.length) * b ≤ 140737488355328)
    (hp : AS.putv { S with objs := (d, ⟨S.nx + i, o.sz, te, o.es ++ news⟩) :: S.objs } (some dd) (.sl d (S.nx + i) o.sz (len + news.length)) = some S') :
    ∃ y w', (Builtin.append_ #[t, t] ty #[s, x]).run P w = .ok y w' ∧ RelD (fun j => D j ∨ j = i) w0 N0 S' (a.put (some dd) y) w' := by
  subst hov
  cases hs with
  | pur hs => cases hs
  | slv _ _ _ B hm =>
    have hnil : o.es = [] := by
      obtain ⟨l, hl', hob⟩ := h.objs d o ho
      rw [hm] at hl'
      injection hl' with hl'
      subst hl'
      exact hob
    rw [hnil] at hp
    simp only [List.nil_append, Nat.zero_add] at hp hl hbb
    subst hsz
    exact eff_append0 h hi ht hn hb hx he hs' hz0 hl hbb hp
  | slr _ _ _ _ g cap hm hle hmax =>
    have hu := telem_underlying ht
    unfold tsz at hn
    obtain ⟨inf, hinf, rfl⟩ := Option.map_eq_some_iff.1 hn
    unfold tbytes at hb
    obtain ⟨inf', hinf', rfl⟩ := Option.map_eq_some_iff.1 hb
    rw [hinf] at hinf'
    injection hinf' with hinf'
    subst hinf'
    obtain ⟨A, c, rfl, hlc, hrest⟩ := h.elems hx he
    obtain ⟨l, hl', hob⟩ := h.objs d o ho
    rw [hm] at hl'
    injection hl' with hl'
    subst hl'
    have hob' := hob
    obtain ⟨o1, o2, o3, o4, arr, o5, o6, o7⟩ := hob
    by_cases hne : news = []
    · subst hne
      refine ⟨_, w, append_zero hu hinf hle, ?_⟩
      have hmono := h.muSet_mono hi d (some (g, cap))
      obtain ⟨hr, _⟩ := h.update (D' := fun j => D j ∨ j = i) (d := d) (o' := ⟨S.nx + i, o.sz, te, o.es ++ []⟩) (l' := some (g, cap)) (w' := w) (μ' := muSet μ d (S.nx + i) (some (g, cap))) hmono (h.muSet_fresh i d _) (muSet_same _ _ _ _) h.below (Keeps.refl _ _)
        (fun _ _ _ _ _ _ _ => rfl) (fun g' c' e => by
          simp only [Option.some.injEq, Prod.mk.injEq] at e
          obtain ⟨rfl, rfl⟩ := e
          exact .inr ⟨o, cap, ho, hm⟩) (fun N' hN => by
          have := hob'.keep (w' := w) (N' := N') (μ' := muSet μ d (S.nx + i) (some (g, cap))) (Keeps.refl _ _) hN hmono (fun _ _ _ => rfl)
          rw [List.append_nil, ← hty]
          exact this)
      exact ⟨_, hr.putv hp (.slr d (S.nx + i) o.sz len g cap (muSet_same _ _ _ _) hle hmax)⟩
    · obtain ⟨hf, ad, vs, rfl, hvl, hvc, hrow⟩ := hrest hne
      have hs2 := hs' hne
      subst hs2
      obtain ⟨z, hz1, hz2, hz3⟩ := hz0
      have hzz := hz1
      unfold tzero at hzz
      obtain ⟨inf2, hinf2, hzz⟩ := Option.bind_eq_some_iff.1 hzz
      rw [hinf] at hinf2
      injection hinf2 with hinf2
      subst hinf2
      obtain ⟨zv, hzv, hzz⟩ := Option.bind_eq_some_iff.1 hzz
      have hzp := zeroOf_pur hzz w (Own N0 μ S)
      have hzs : zv.cells.size = inf.size := by
        have := (Enc.pur (μ := μ) hzp).cells_at (cellOk_fits hz3)
        rw [this.1, hz2]
      subst hty
      have hxs := cells_row (w := w) (N := Own N0 μ S) (μ := μ) o4 (by rw [o6]; exact Nat.mul_le_mul_right _ o2) o7
      have hown : w.ownsRow 0 o.ty o.sz (.slice (some ⟨g, 0, none⟩) len cap) len (arr.toList.take (o.es.length * o.sz)) := by
        refine ⟨by rw [hxs.1, flat_length o4, hlen], .inr ⟨g, cap, arr, rfl, Nat.zero_le _, o5, hle, hmax, o6, by rw [hlen]⟩⟩
      have hone : ∀ u ∈ vs, u.oneCell' = true := by
        intro u hu'
        obtain ⟨j, hj⟩ := List.getElem?_of_mem hu'
        have hjl : j < (flat news).length := by rw [← hrow.1]; exact (List.getElem?_eq_some_iff.1 hj).1
        have hc := List.getElem?_eq_getElem hjl
        refine (hrow.2 j u _ hj hc).cell_oneCell ?_
        have hmem := List.mem_of_getElem? hc
        unfold flat at hmem
        obtain ⟨e, he1, he2⟩ := List.mem_flatMap.1 hmem
        exact (hf e he1).2 _ he2
      obtain ⟨y, w', hrun, hown', hgrow, hnil, hat⟩ := run_append_own_at (P := P) w 0 t ty o.ty inf zv o.sz inf.bytes hu hinf hzv hsz rfl (by rw [hzs]; exact hsz) (by omega) (.slice (some ⟨g, 0, none⟩) len cap) len _ hown
        ad news.length c vs hvl hvc hone hl hbb (Nat.zero_le _)
      refine ⟨y, w', hrun, ?_⟩
      have hcount : 0 < len + news.length := by have := List.length_pos_iff.2 hne; omega
      obtain ⟨hw1, hw2 | ⟨g', cap', cur, rfl, q1, q2, q3, q4, q5, q6⟩⟩ := hown'
      · omega
      · have hgg : g' = g ∨ g' = w.heap.size := by
          simpa [Value.ownBlock] using hat
        have hblk : ∀ k, k < w.heap.size → k ≠ g → w'.heap[k]? = w.heap[k]? := fun k hk hkg => hgrow.block k hk (by simpa [Value.ownBlock] using hkg)
        have hgl : g < w.heap.size := (Array.getElem?_eq_some_iff.1 o5).1
        have hmono := h.muSet_mono hi d (some (g', cap'))
        have hkeep : Keeps w (Own N0 μ S) w' := ⟨hgrow.size, fun k hk hN => hblk k hk (fun e => hN (by subst e; exact .inr ⟨d, o, cap, ho, hm⟩))⟩
        have hfit : ∀ e ∈ o.es ++ news, e.fits o.sz := fun e he => by
          rcases List.mem_append.1 he with h1 | h1
          · exact o4 e h1
          · exact hf e h1
        obtain ⟨hr, _⟩ := h.update (D' := fun j => D j ∨ j = i) (d := d) (o' := ⟨S.nx + i, o.sz, o.ty, o.es ++ news⟩) (l' := some (g', cap')) (w' := w') (μ' := muSet μ d (S.nx + i) (some (g', cap'))) hmono (h.muSet_fresh i d _) (muSet_same _ _ _ _)
          (h.below.grown hgrow h.below.size (fun k hk => by simp [Value.ownBlock] at hk; subst hk; exact o1)) hkeep
          (fun d1 o1' g1 c1 hne1 h1 h2 => hblk g1 (h.block_lt h1 h2) (fun e => hne1 (by subst e; exact h.inj _ _ _ _ _ _ _ h1 ho h2 hm)))
          (fun g2 c2 e => by
            simp only [Option.some.injEq, Prod.mk.injEq] at e
            obtain ⟨rfl, rfl⟩ := e
            rcases hgg with rfl | rfl
            · exact .inr ⟨o, cap, ho, hm⟩
            · exact .inl (Nat.le_refl _))
          (fun N' hN => by
            refine ⟨by rcases hgg with rfl | rfl; exact o1; exact .inl h.below.size, by simp [hlen]; exact q3, q4, hfit, cur, q2, q5, ?_⟩
            refine row_cells hfit ?_
            have e1 : (o.es ++ news).length * o.sz = (len + news.length) * o.sz := by simp [hlen]
            rw [e1, q6, flat_append]
            refine Row.append ⟨hxs.1, fun j x c h1 h2 => (hxs.2 j x c h1 h2).keep hkeep hN hmono⟩ ⟨hrow.1, fun j x c h1 h2 => (hrow.2 j x c h1 h2).keep hkeep hN hmono⟩)
        exact ⟨_, hr.putv hp (.slr d (S.nx + i) o.sz _ g' cap' (muSet_same _ _ _ _) q3 q4)⟩

end
end Go.Eng

/- That the model makes and writes memory as the abstract step says: stores, literals, make; and all such operations together. No condition. -/
namespace Go.Eng
open Go.RowKit

theorem bs_setRow {B : Bs} {w : World} (h : B.Below w) {g : Nat} (hg : B.free g) (arr : Array Value) : B.Below (w.setRow g arr) :=
  ⟨h.os, h.tape, h.output, by simpa using h.size, fun k hk hx => by
    rw [setRow_other w g k _ (fun e => by subst e; rcases hg with h | h; omega; exact hx h)]
    exact h.block k hk hx⟩
section
variable {D : Nat → Prop} {w0 : Bs} {w : World} {N0 : Nat → Prop} {μ : Mu} {S : AS} {a : Act} {P : Program}

theorem tok_spec {t n : Nat} (h : tok P t = some n) : ∃ z, tzero P t = some z ∧ tsz P t = some n ∧ z.cells.length = n ∧ cellOk z = true ∧ 0 < n := by
  unfold tok at h
  split at h
  case h_2 => cases h
  rename_i z m h1 h2
  split at h
  case isFalse => cases h
  rename_i hb
  injection h with h
  subst h
  exact ⟨z, h1, h2, hb.1, hb.2.1, hb.2.2⟩

theorem eff_store (h : RelM D w0 N0 μ S a w) {t d v k off n : Nat} {x y : Value} {u e : V} {o : Ob} (hx : Enc w (Own N0 μ S) μ x (.bp d v o.sz k off)) (hy : Enc w (Own N0 μ S) μ y u) (hn : tsz P t = some n) (ho : get S.objs d = some o)
    (hov : o.v = v) (hu : u.cells.length = n) (huk : cellOk u = true) (hpos : 0 < n) (hk : o.es[k]? = some e) (hle : off + n ≤ e.cells.length) :
    ∃ w', (Instr.storeAt t x y).run P w = .ok () w' ∧ RelM D w0 N0 μ { S with objs := (d, { o with es := o.es.set k (e.setPart off u) }) :: S.objs } a w' := by
  subst hov
  subst hu
  cases hx with
  | pur hx => cases hx
  | bp _ _ _ _ _ g cap hm =>
  obtain ⟨l, hl', hob⟩ := h.objs d o ho
  rw [hm] at hl'
  injection hl' with hl'
  subst hl'
  obtain ⟨o1, o2, o3, o4, arr, o5, o6, o7⟩ := hob
  have hfe := o4 e (List.mem_of_getElem? hk)
  have hrowy := hy.row huk
  have hys : y.cells.toList.length = u.cells.length := hrowy.1
  have hsc := setPart_cells (u := u) hle hpos
  have hfe' : (e.setPart off u).fits o.sz := by
    refine ⟨by rw [hsc]; simp; have := hfe.1; omega, fun c hc => ?_⟩
    rw [hsc] at hc
    simp only [List.mem_append] at hc
    rcases hc with (hc | hc) | hc
    · exact hfe.2 c (List.mem_of_mem_take hc)
    · exact List.all_eq_true.1 huk c hc
    · exact hfe.2 c (List.mem_of_mem_drop hc)
  have hkl : k < o.es.length := (List.getElem?_eq_some_iff.1 hk).1
  have hbound : k * o.sz + off + u.cells.length ≤ o.es.length * o.sz := by
    have h1 : (k + 1) * o.sz ≤ o.es.length * o.sz := Nat.mul_le_mul_right _ hkl
    have h2 := hfe.1
    rw [Nat.add_mul] at h1
    omega
  have hcapb : o.es.length * o.sz ≤ arr.size := by rw [o6]; exact Nat.mul_le_mul_right _ o2
  have hone : ∀ v ∈ y.cells.toList, v.oneCell' = true := by
    intro v hv
    obtain ⟨j, hj⟩ := List.getElem?_of_mem hv
    have hjl : j < u.cells.length := by rw [← hys]; exact (List.getElem?_eq_some_iff.1 hj).1
    have hc := List.getElem?_eq_getElem hjl
    exact (hrowy.2 j v _ hj hc).cell_oneCell (List.all_eq_true.1 huk _ (List.getElem_mem hjl))
  have hst := run_storeCells_at (P := P) g (k * o.sz + off) o.ty y.cells.toList 0 arr w o5 (by rw [hys]; omega) hone
  simp only [Nat.add_zero, hys] at hst
  refine ⟨w.setRow g (arr.toList.take (k * o.sz + off) ++ y.cells.toList ++ arr.toList.drop (k * o.sz + off + u.cells.length)).toArray, ?_, ?_⟩
  · have hcs : y.cells.size = u.cells.length := by simpa using hys
    simp only [Instr.storeAt, Instr.sureAddr, Sem.run_bind, Sem.run_pure, Result.andThen_ok, storeVar, tsz_run hn, hcs, ne_eq, not_true_eq_false, if_false, hst]
  · have hkeep : Keeps w (Own N0 μ S) (w.setRow g (arr.toList.take (k * o.sz + off) ++ y.cells.toList ++ arr.toList.drop (k * o.sz + off + u.cells.length)).toArray) :=
      ⟨by simp, fun b hb hN => setRow_other w g b _ (fun e => hN (by subst e; exact .inr ⟨d, o, cap, ho, hm⟩))⟩
    refine (h.update (D' := D) (d := d) (o' := { o with es := o.es.set k (e.setPart off u) }) (l' := some (g, cap)) (μ' := μ) (fun _ _ _ hh => hh) h.fresh hm (bs_setRow h.below o1 _) hkeep
      (fun d1 o1' g1 c1 hne1 h1 h2 => setRow_other w g g1 _ (fun e => hne1 (by subst e; exact h.inj _ _ _ _ _ _ _ h1 ho h2 hm)))
      (fun g2 c2 e => by
        simp only [Option.some.injEq, Prod.mk.injEq] at e
        obtain ⟨rfl, rfl⟩ := e
        exact .inr ⟨o, cap, ho, hm⟩) (fun N' hN => ?_)).1
    have hfit : ∀ e1 ∈ o.es.set k (e.setPart off u), e1.fits o.sz := fun e1 he1 => by
      rcases List.mem_or_eq_of_mem_set he1 with h1 | h1
      · exact o4 e1 h1
      · subst h1; exact hfe'
    refine ⟨o1, by simpa using o2, o3, hfit, _, setRow_heap w g arr _ o.ty (0, 0) o5, ?_, ?_⟩
    · simp only [List.size_toArray, List.length_append, List.length_take, List.length_drop, Array.length_toList, hys]
      rw [← o6]
      omega
    · refine row_cells hfit ?_
      have hxs := cells_row (w := w) (N := Own N0 μ S) (μ := μ) o4 hcapb o7
      have hxs' : Row (w.setRow g (arr.toList.take (k * o.sz + off) ++ y.cells.toList ++ arr.toList.drop (k * o.sz + off + u.cells.length)).toArray) N' μ (arr.toList.take (o.es.length * o.sz)) (flat o.es) := ⟨hxs.1, fun j x c h1 h2 => (hxs.2 j x c h1 h2).keep hkeep hN (fun _ _ _ hh => hh)⟩
      have hry' : Row (w.setRow g (arr.toList.take (k * o.sz + off) ++ y.cells.toList ++ arr.toList.drop (k * o.sz + off + u.cells.length)).toArray) N' μ y.cells.toList u.cells := ⟨hrowy.1, fun j x c h1 h2 => (hrowy.2 j x c h1 h2).keep hkeep hN (fun _ _ _ hh => hh)⟩
      rw [flat_set o4 hk hle hsc]
      simp only [List.length_set]
      have e1 : (arr.toList.take (k * o.sz + off) ++ y.cells.toList ++ arr.toList.drop (k * o.sz + off + u.cells.length)).toArray.toList.take (o.es.length * o.sz) =
          (arr.toList.take (o.es.length * o.sz)).take (k * o.sz + off) ++ y.cells.toList ++ (arr.toList.take (o.es.length * o.sz)).drop (k * o.sz + off + u.cells.length) := by
        rw [List.take_take, Nat.min_eq_left (by omega), List.drop_take]
        simp only [List.append_assoc]
        rw [List.take_append, List.take_append]
        have hA : (arr.toList.take (k * o.sz + off)).length = k * o.sz + off := by simp; omega
        rw [hA, hys, List.take_of_length_le (by rw [hA]; omega), List.take_of_length_le (l := y.cells.toList) (by rw [hys]; omega)]
        congr 3
        omega
      rw [e1]
      exact ((hxs'.take _).append hry').append (hxs'.drop _)

theorem asets_fits {sz : Nat} : ∀ {vs : List (Nat × V)} {es r : List V}, (∀ e ∈ es, e.fits sz) → asets sz es vs = some r → (∀ e ∈ r, e.fits sz) ∧ r.length = es.length
  | [], es, r, h, hr => by simp only [asets, Option.some.injEq] at hr; subst hr; exact ⟨h, rfl⟩
  | (i, v) :: vs, es, r, h, hr => by
    simp only [asets] at hr
    split at hr
    case isFalse => cases hr
    rename_i hb
    obtain ⟨h1, h2⟩ := asets_fits (es := es.set i v) (fun e he => by
      rcases List.mem_or_eq_of_mem_set he with h1 | h1
      · exact h e h1
      · subst h1; rw [← hb.1]; exact cellOk_fits hb.2.2) hr
    exact ⟨h1, by simpa using h2⟩

/-- Elements put into a row of zeros. -/
theorem fills_run {N : Nat → Prop} {sz : Nat} (hsz : 0 < sz) : ∀ (vs : List (Nat × V)) (ps : List (Nat × Value)) (es : List V) (cells : Array Value) (r : List V), ps.length = vs.length →
    (∀ (j : Nat) p q, ps[j]? = some p → vs[j]? = some q → p.1 = q.1 ∧ Enc w N μ p.2 q.2) → (∀ e ∈ es, e.fits sz) → Row w N μ cells.toList (flat es) → asets sz es vs = some r →
    ∃ out, Instr.fill (fun i => some (i * sz, sz)) cells ps = some out ∧ Row w N μ out.toList (flat r)
  | [], [], es, cells, r, _, _, _, hr, h => by
    simp only [asets, Option.some.injEq] at h
    subst h
    exact ⟨cells, rfl, hr⟩
  | [], _ :: _, _, _, _, h, _, _, _, _ => by simp at h
  | _ :: _, [], _, _, _, h, _, _, _, _ => by simp at h
  | (i, v) :: vs, (i', x) :: ps, es, cells, r, hl, hp, hf, hr, h => by
    obtain ⟨e, hx⟩ := hp 0 _ _ rfl rfl
    simp only at e hx
    subst e
    simp only [asets] at h
    split at h
    case isFalse => cases h
    rename_i hb
    obtain ⟨hv1, hv2, hv3⟩ := hb
    have hrow := hx.row hv3
    have hxs : x.cells.size = sz := by have := hrow.1; simp at this; omega
    have hcs : cells.size = es.length * sz := by have := hr.1; rw [flat_length hf] at this; simpa using this
    have hk := List.getElem?_eq_getElem hv2
    have hfe := hf _ (List.getElem_mem hv2)
    have hfs := flat_set hf (k := i') (e := es[i']) (e' := v) (off := 0) (us := v.cells) hk (by have := hfe.1; omega) (by
      have := hfe.1
      rw [List.drop_of_length_le (by omega)]
      simp)
    have hm : (i' + 1) * sz ≤ es.length * sz := Nat.mul_le_mul_right _ hv2
    rw [Nat.add_mul, Nat.one_mul] at hm
    have hnew : Row w N μ (x.cells.zipIdx.foldl (fun cs p => cs.setIfInBounds (i' * sz + p.2) p.1) cells).toList (flat (es.set i' v)) := by
      rw [← Array.foldl_toList, Array.toList_zipIdx, foldl_set (i' * sz) x.cells.toList 0 cells (by simp; omega), hfs]
      simp only [Nat.add_zero, Array.length_toList, hxs, hv1]
      exact ((hr.take _).append hrow).append (hr.drop _)
    obtain ⟨out, h1, h2⟩ := fills_run hsz vs ps (es.set i' v) _ r (by simpa using hl) (fun j p q h1 h2 => hp (j + 1) p q (by simpa using h1) (by simpa using h2)) (fun e he => by
      rcases List.mem_or_eq_of_mem_set he with h1 | h1
      · exact hf e h1
      · subst h1; rw [← hv1]; exact cellOk_fits hv3) hnew h
    refine ⟨out, ?_, h2⟩
    simp only [Instr.fill, hxs]
    rw [if_neg (by simp; omega)]
    exact h1

theorem flat_replicate (z : V) (n : Nat) : flat (List.replicate n z) = (List.replicate n z.cells).flatten := by
  simp [flat, List.flatMap, List.map_replicate]

theorem zeros_row {N : Nat → Prop} {zc : Array Value} {z : V} {sz n : Nat} (hz : Row w N μ zc.toList z.cells) (hs : z.cells.length = sz) (hpos : 0 < sz) (hf : z.fits sz) :
    Row w N μ ((Array.range (n * sz)).map (zc[· % zc.size]!)).toList (flat (List.replicate n z)) := by
  have hfit : ∀ e ∈ List.replicate n z, e.fits sz := fun e he => by rw [List.eq_of_mem_replicate he]; exact hf
  have hzs : zc.size = sz := by have := hz.1; simp at this; omega
  refine ⟨by rw [flat_length hfit]; simp, fun i x c hx hc => ?_⟩
  have hi : i < n * sz := by have := (List.getElem?_eq_some_iff.1 hx).1; simpa using this
  have hk : i / sz < n := Nat.div_lt_of_lt_mul (by rw [Nat.mul_comm]; exact hi)
  have hmod : i % sz < sz := Nat.mod_lt _ hpos
  have hj : i % sz < z.cells.length := by omega
  have e1 : i / sz * sz + i % sz = i := by rw [Nat.mul_comm]; exact Nat.div_add_mod i sz
  have hfl := flat_get hfit (k := i / sz) (e := z) (by simp [hk]) (List.getElem?_eq_getElem hj)
  rw [e1, hc] at hfl
  injection hfl with hfl
  subst hfl
  have hzx : zc.toList[i % sz]? = some (zc[i % sz]'(by omega)) := by simp [hzs, hmod]
  have := hz.2 _ _ _ hzx (List.getElem?_eq_getElem hj)
  have hxx : x = zc[i % sz]'(by omega) := by
    simp only [Array.toList_map, Array.toList_range, List.getElem?_map, List.getElem?_range hi, Option.map_some, Option.some.injEq, hzs] at hx
    rw [← hx]
    simp [hzs, hmod]
  rw [hxx]
  exact this


theorem aeff_run (h : RelM D w0 N0 μ S a w) {i kd : Nat} (hi : ¬ D i) {o : Oper} {S' : AS} (hv : aeff P i S o.dst kd o.op = some S') :
    ∃ x w', Does P o a w x w' ∧ RelD (fun j => D j ∨ j = i) w0 N0 S' (a.put o.dst x) w' := by
  unfold aeff at hv
  split at hv
  case h_2 => cases hv
  rename_i O val hc0
  unfold Does execOp
  cases hop : o.op <;> rw [hop] at hc0 <;> simp only [acore] at hc0 <;> (try (cases hc0; done)) <;> dsimp only
  case alloc t =>
    split at hc0
    case h_2 => cases hc0
    rename_i d z n hd hz hk
    simp only [Option.some.injEq, Prod.mk.injEq] at hc0
    obtain ⟨rfl, rfl⟩ := hc0
    obtain ⟨z', hz', h2, h3, h4, h5⟩ := tok_spec hk
    rw [hz] at hz'
    injection hz' with hz'
    subst hz'
    subst h3
    obtain ⟨zv, hrun, hpz⟩ := tzero_run hz w (Own N0 μ S)
    rw [hd] at hv ⊢
    obtain ⟨μ', hr⟩ := eff_newVar h hi (t := t) (.pur hpz) h4 hv
    refine ⟨_, _, .inl ?_, ⟨μ', hr⟩⟩
    simp only [Sem.run_bind, Instr.alloc, hrun, Result.andThen_ok, newVar, newRow, run_newObj, World.alloc_eq, Sem.run_pure]
  case box t x =>
    split at hc0
    case h_2 => cases hc0
    rename_i d z hd hz
    split at hc0
    case isFalse => cases hc0
    rename_i hok
    simp only [Option.some.injEq, Prod.mk.injEq] at hc0
    obtain ⟨rfl, rfl⟩ := hc0
    rw [hd] at hv ⊢
    obtain ⟨μ', hr⟩ := eff_newVar h hi (t := t) (h.evc hz rfl) hok hv
    refine ⟨_, _, .inl ?_, ⟨μ', hr⟩⟩
    simp only [Sem.run_bind, Instr.box, newVar, newRow, run_newObj, World.alloc_eq, Result.andThen_ok, Sem.run_pure]
  case buildSlice t len parts =>
    split at hc0
    case h_2 => cases hc0
    rename_i d te vs hd hte hvs
    split at hc0
    case h_2 => cases hc0
    rename_i z n hz hk
    split at hc0
    case isFalse => cases hc0
    rename_i hle
    split at hc0
    case h_2 => cases hc0
    rename_i es hes
    simp only [Option.some.injEq, Prod.mk.injEq] at hc0
    obtain ⟨rfl, rfl⟩ := hc0
    obtain ⟨z', hz', h2, h3, h4, h5⟩ := tok_spec hk
    rw [hz] at hz'
    injection hz' with hz'
    subst hz'
    have hu := telem_underlying hte
    obtain ⟨zv, hrun, hpz⟩ := tzero_run hz w (Own N0 μ S)
    obtain ⟨e1, e2⟩ := h.evs rfl hvs
    have hfz : z.fits n := by rw [← h3]; exact cellOk_fits h4
    have hfr : ∀ e ∈ List.replicate len z, e.fits n := fun e he => by rw [List.eq_of_mem_replicate he]; exact hfz
    have hzrow : Row w (Own N0 μ S) μ zv.cells.toList z.cells := (Enc.pur (μ := μ) hpz).row h4
    have hzr := zeros_row (n := len) hzrow h3 h5 hfz
    obtain ⟨out, f1, f2⟩ := fills_run (w := w) (μ := μ) (N := Own N0 μ S) h5 vs (parts.toList.map fun p => (p.1, a.eval p.2)) (List.replicate len z) _ es (by simp [e1]) (fun j p q hp hq => by
      simp only [List.getElem?_map, Option.map_eq_some_iff] at hp
      obtain ⟨p', hp', rfl⟩ := hp
      exact e2 j p' q hp' hq) hfr hzr hes
    obtain ⟨g1, g2⟩ := asets_fits hfr hes
    have hlen : es.length = len := by simpa using g2
    have hos : out.size = len * n := by have := f2.1; rw [flat_length g1, hlen] at this; simpa using this
    have hmax : len ≤ maxLen := by
      have : len ≤ len * n := Nat.le_mul_of_pos_right _ h5
      simp only [maxLen]; omega
    rw [hd] at hv ⊢
    have hr := h.alloc hi kd out te n len es hos (by omega) hmax g1 (row_cells g1 (by rw [hlen, List.take_of_length_le (by simp [hos])]; exact f2))
    refine ⟨_, _, .inl ?_, ⟨_, hr.putv hv (.slr kd (S.nx + i) n len w.heap.size len (muSet_same _ _ _ _) (Nat.le_refl _) hmax)⟩⟩
    have hnot : ¬ (len * n > 2 ^ 24) := by omega
    by_cases h0 : len * n = 0
    · have hf1 : Instr.fill (fun i => some (i * n, n)) ((Array.range (len * n)).map fun x => (#[] : Array Value)[x % (#[] : Array Value).size]!) (parts.toList.map fun p => (p.1, a.eval p.2)) = some out := by
        rw [← f1, h0, Array.range_zero', Array.map_empty, Array.map_empty]
      simp only [Sem.run_bind, Instr.buildSlice, run_underlying hu, Result.andThen_ok, tsz_run h2, if_neg hnot, if_pos h0, Sem.run_pure, eval_map_parts, hf1, newRow, run_newObj, World.alloc_eq]
    · simp only [Sem.run_bind, Instr.buildSlice, run_underlying hu, Result.andThen_ok, tsz_run h2, if_neg hnot, if_neg h0, hrun, Sem.run_pure, eval_map_parts, f1, newRow, run_newObj, World.alloc_eq]
  case makeSlice t l c =>
    split at hc0
    case h_2 => cases hc0
    rename_i d te k1 lv k2 cv hd hte hl hc
    split at hc0
    case h_2 => cases hc0
    rename_i z n b hz hk hb
    split at hc0
    case isFalse => cases hc0
    rename_i hcond
    simp only [Option.some.injEq, Prod.mk.injEq] at hc0
    obtain ⟨rfl, rfl⟩ := hc0
    obtain ⟨c1, c2, c3, c4⟩ := hcond
    obtain ⟨z', hz', h2, h3, h4, h5⟩ := tok_spec hk
    rw [hz] at hz'
    injection hz' with hz'
    subst hz'
    have hu := telem_underlying hte
    obtain ⟨zv, hrun, hpz⟩ := tzero_run hz w (Own N0 μ S)
    have hfz : z.fits n := by rw [← h3]; exact cellOk_fits h4
    have hzrow : Row w (Own N0 μ S) μ zv.cells.toList z.cells := (Enc.pur (μ := μ) hpz).row h4
    have hzr := zeros_row (n := cv.toNat) hzrow h3 h5 hfz
    have hfr : ∀ m, ∀ e ∈ List.replicate m z, e.fits n := fun m e he => by rw [List.eq_of_mem_replicate he]; exact hfz
    have hlv := h.evc hl rfl
    have hcv := h.evc hc rfl
    generalize a.eval l = lx at hlv ⊢
    generalize a.eval c = cx at hcv ⊢
    cases hlv with
    | pur hlv =>
    cases hlv with
    | int =>
    cases hcv with
    | pur hcv =>
    cases hcv with
    | int =>
    unfold tbytes at hb
    obtain ⟨inf, hinf, rfl⟩ := Option.map_eq_some_iff.1 hb
    have hmax : cv.toNat ≤ maxLen := by simp only [maxLen]; omega
    have hsame : (List.replicate lv.toNat z) = (List.replicate cv.toNat z).take lv.toNat := by
      rw [List.take_replicate, Nat.min_eq_left (by omega)]
    rw [hd] at hv ⊢
    have hr := h.alloc hi kd ((Array.range (cv.toNat * n)).map (zv.cells[· % zv.cells.size]!)) te n cv.toNat (List.replicate lv.toNat z) (by simp) (by simp; omega) hmax (hfr _) (fun k e j c hk hj => by
      have hk' : (List.replicate cv.toNat z)[k]? = some e := by
        rw [hsame] at hk
        have hkl : k < lv.toNat := by have := (List.getElem?_eq_some_iff.1 hk).1; simp at this; omega
        rwa [List.getElem?_take_of_lt hkl] at hk
      exact row_cells (hfr _) (by rw [List.take_of_length_le (by simp)]; exact hzr) k e j c hk' hj)
    refine ⟨_, _, .inl ?_, ⟨_, hr.putv hv (.slr kd (S.nx + i) n lv.toNat w.heap.size cv.toNat (muSet_same _ _ _ _) (by omega) hmax)⟩⟩
    have hmk := run_make (P := P) w t te inf zv hu hinf (by
      unfold tzero at hz
      obtain ⟨inf', hinf', hz⟩ := Option.bind_eq_some_iff.1 hz
      rw [hinf] at hinf'
      injection hinf' with hinf'
      subst hinf'
      obtain ⟨zv', hzv', hz⟩ := Option.bind_eq_some_iff.1 hz
      simp only [zeroValue, typeInfo, Sem.run_bind, run_program, hinf, Result.andThen_ok, hzv', Sem.run_pure, Result.ok.injEq] at hrun
      rw [← hrun.1]; exact hzv') k1 k2 lv cv (by omega) (by omega) c4 (by omega)
    have hns : inf.size = n := by
      unfold tsz at h2
      rw [hinf] at h2
      simpa using h2
    rw [Sem.run_bind, hmk, Result.andThen_ok, hns]
    rfl
  case store t x y =>
    split at hc0
    case h_2 => cases hc0
    rename_i d v sz k off u n hx hy hn
    split at hc0
    case h_2 => cases hc0
    rename_i ob hob
    split at hc0
    case isFalse => cases hc0
    rename_i hb
    obtain ⟨b1, b2, b3, b4, b5⟩ := hb
    split at hc0
    case h_2 => cases hc0
    rename_i e he
    rw [nth_eq] at he
    split at hc0
    case isFalse => cases hc0
    rename_i hle
    simp only [Option.some.injEq, Prod.mk.injEq] at hc0
    obtain ⟨rfl, rfl⟩ := hc0
    subst b2
    obtain ⟨w', hrun, hr⟩ := eff_store (P := P) h (h.evc hx rfl) (h.evc hy rfl) hn hob b1 b3 b4 b5 he hle
    refine ⟨undef, w', .inr ⟨?_, rfl⟩, ⟨μ, (hr.putv hv (.whn _ _ _ (fun hf => (by cases hf)) (fun _ => rfl))).more (fun j hj => .inl hj)⟩⟩
    simp only [Sem.run_bind, hrun, Result.andThen_ok, Sem.run_pure]
  case call cl =>
    obtain ⟨callee, args, argTypes⟩ := cl
    cases callee with
    | value f => cases hc0
    | invoke r m => cases hc0
    | builtin b =>
    cases b <;> simp only at hc0 <;> try (cases hc0; done)
    split at hc0
    case h_2 => cases hc0
    rename_i s x t t' dd ha ht hdd
    have ha' : args = #[s, x] := by apply Array.ext'; simpa using ha
    have ht' : argTypes = #[t, t'] := by apply Array.ext'; simpa using ht
    subst ha'
    subst ht'
    simp only [Sem.run_bind, resolve, Sem.run_pure, Result.andThen_ok, invoke, builtin, List.map_toArray, List.map_cons, List.map_nil]
    rw [hdd] at hv ⊢
    split at hc0
    · rename_i htt
      subst htt
      split at hc0
      case h_2 => cases hc0
      rename_i sv xv te h1 h2 h3
      split at hc0
      case h_2 => cases hc0
      rename_i sz' news n b h4 h5 h6
      obtain ⟨z, k1, k2, k3, k4, k5⟩ := tok_spec h5
      split at hc0
      · rename_i d v sz len
        split at hc0
        case h_2 => cases hc0
        rename_i ob hob
        split at hc0
        case isFalse => cases hc0
        rename_i hb
        obtain ⟨b1, b2, b3, b4, b5, b6, b7, b8⟩ := hb
        simp only [Option.some.injEq, Prod.mk.injEq] at hc0
        obtain ⟨rfl, rfl⟩ := hc0
        subst b2
        obtain ⟨y, w', hrun, hr⟩ := eff_append (P := P) (ty := o.type) h hi h3 k2 h6 (h.evc h1 rfl) hob b1 b3 b4 b5 k5 (h.evc h2 rfl) h4 b6 ⟨z, k1, k3, k4⟩ b7 b8 hv
        exact ⟨y, w', .inl (by rw [hrun]; rfl), hr⟩
      · split at hc0
        case isFalse => cases hc0
        rename_i hb
        obtain ⟨b6, b7, b8⟩ := hb
        simp only [Option.some.injEq, Prod.mk.injEq] at hc0
        obtain ⟨rfl, rfl⟩ := hc0
        have hsv := h.evc h1 rfl
        generalize a.eval s = sx at hsv ⊢
        cases hsv with
        | pur hsv =>
        cases hsv with
        | nils B =>
        obtain ⟨y, w', hrun, hr⟩ := eff_append0 (P := P) (ty := o.type) (B := B) h hi h3 k2 h6 (h.evc h2 rfl) h4 b6 ⟨z, k1, k3, k4⟩ b7 b8 hv
        exact ⟨y, w', .inl (by rw [hrun]; rfl), hr⟩
      · cases hc0
    · split at hc0
      case isFalse => cases hc0
      rename_i hsb
      obtain ⟨hs1, hs2⟩ := hsb
      split at hc0
      case h_2 => cases hc0
      rename_i sv l te h1 h2 h3
      split at hc0
      case h_2 => cases hc0
      rename_i h5
      have hxv := h.evc h2 rfl
      have hxe : a.eval x = .string ⟨l.toArray⟩ := by
        generalize a.eval x = y at hxv
        cases hxv with
        | pur hxv => cases hxv; rfl
      rw [hxe]
      have hz := tz8_spec h5
      split at hc0
      · rename_i d v sz len
        split at hc0
        case h_2 => cases hc0
        rename_i ob hob
        split at hc0
        case isFalse => cases hc0
        rename_i hb
        obtain ⟨b1, b2, b3, b4, b5, b6, b7⟩ := hb
        simp only [Option.some.injEq, Prod.mk.injEq] at hc0
        obtain ⟨rfl, rfl⟩ := hc0
        subst b2
        obtain ⟨y, w', hrun, hr⟩ := eff_appendS (P := P) (ty := o.type) h hi h3 hs1 hz (h.evc h1 rfl) hob b1 b3 b4 b5 b6 b7 hv
        exact ⟨y, w', .inl (by rw [hrun]; rfl), hr⟩
      · split at hc0
        case isFalse => cases hc0
        rename_i hb
        obtain ⟨b7, b8⟩ := hb
        simp only [Option.some.injEq, Prod.mk.injEq] at hc0
        obtain ⟨rfl, rfl⟩ := hc0
        have hsv := h.evc h1 rfl
        generalize a.eval s = sx at hsv ⊢
        cases hsv with
        | pur hsv =>
        cases hsv with
        | nils B =>
        obtain ⟨y, w', hrun, hr⟩ := eff_appendS0 (P := P) (ty := o.type) (B := B) h hi h3 hs1 hz b7 b8 hv
        exact ⟨y, w', .inl (by rw [hrun]; rfl), hr⟩
      · cases hc0

end
end Go.Eng

/- Contracts of Go functions over pure values, and the rules by which a function's body is proved to meet one. No condition. -/
namespace Go.Eng
open Go.RowKit

/-- A cell that holds no reference to an object of the call's own. -/
def V.pureC : V → Bool
  | .sl .. | .ss .. | .bp .. | .whn .. | .agg _ | .tup _ | .mp .. | .clo .. => false
  | .ifc _ v => v.flat2
  | _ => true
/-- A value (a cell or a struct) that holds none. -/
def V.pureE (v : V) : Bool := v.cells.all V.pureC

theorem pureC_cell {v : V} (h : v.pureC = true) : v.isCell = true := by cases v <;> first | rfl | simp [V.pureC] at h

section
variable {D : Nat → Prop} {w0 : Bs} {w : World} {N0 : Nat → Prop} {μ : Mu} {S : AS} {a : Act} {P : Program}

theorem Enc.flat2 {N : Nat → Prop} {x : Value} {v : V} (h : Enc w N μ x v) (hc : v.isCell = true) (hp : v.flat2 = true) : Pur w N x v := by
  cases h with
  | pur h => exact h
  | agg => simp [V.isCell] at hc
  | _ => simp [V.flat2, V.flat1] at hp
theorem Enc.flatP {N : Nat → Prop} {x : Value} {v : V} (h : Enc w N μ x v) (hp : v.flat = true) : Pur w N x v := by
  cases h with
  | pur h => exact h
  | ifc t x v hc h => exact .ifc t x v hp (h.flat2 hc hp)
  | _ => simp [V.flat] at hp
theorem Enc.pureC {N : Nat → Prop} {x : Value} {v : V} (h : Enc w N μ x v) (hp : v.pureC = true) : Pur w N x v := by
  cases h with
  | pur h => exact h
  | ifc t x v hc h => exact .ifc t x v hp (h.flat2 hc hp)
  | _ => simp [V.pureC] at hp

theorem Enc.pureE {N : Nat → Prop} {x : Value} {v : V} (h : Enc w N μ x v) (hp : v.pureE = true) : Pur w N x v := by
  cases h with
  | pur h => exact h
  | agg xs cs hl hc hh => exact .agg xs cs hl hc (fun i x c h1 h2 => (hh i x c h1 h2).pureC (List.all_eq_true.1 hp c (List.mem_of_getElem? h2)))
  | ifc t x v hc h => exact (Enc.ifc t x v hc h).pureC (by simpa [V.pureE, V.cells] using hp)
  | _ => simp [V.pureE, V.cells, V.pureC] at hp

/-- A cell with slices of the call's own read as lists. -/
def AS.viewC (S : AS) (v : V) : Option V :=
  match v with
  | .sl .. | .ss .. => match S.elems v with
    | some (sz, es) => if es.all V.pureE = true then some (.ro sz es) else none
    | none => none
  | _ => if v.pureC = true then some v else none

def AS.viewL (S : AS) : List V → Option (List V)
  | [] => some []
  | v :: r => match S.viewC v, S.viewL r with
    | some u, some us => some (u :: us)
    | _, _ => none

/-- A value with slices of the call's own read as lists. -/
def AS.view (S : AS) (v : V) : Option V :=
  match v with
  | .agg cs => match S.viewL cs with
    | some us => some (.agg us)
    | none => none
  | .tup _ => none
  | v => S.viewC v

/-- The blocks that are known to stay away from what is viewed: those of N0. -/
theorem RelM.viewC (h : RelM D w0 N0 μ S a w) {x : Value} {v u : V} (hx : Enc w (Own N0 μ S) μ x v) (hv : S.viewC v = some u) : Pur w N0 x u ∧ u.isCell = true := by
  have hsub : ∀ b, b < w.heap.size → N0 b → Own N0 μ S b := fun b _ hb => .inl hb
  have key : ∀ (v u : V), Enc w (Own N0 μ S) μ x v → (match S.elems v with | some (sz, es) => if es.all V.pureE = true then some (V.ro sz es) else none | none => none) = some u → (∀ d v' sz len, v = .sl d v' sz len → True) → (∃ d v' sz off len, v = .ss d v' sz off len ∨ v = .sl d v' sz len) → Pur w N0 x u ∧ u.isCell = true := by
    intro v u hx hv _ hform
    split at hv
    case h_2 => cases hv
    rename_i sz es hes
    split at hv
    case isFalse => cases hv
    rename_i hp
    injection hv with hv
    subst hv
    refine ⟨?_, rfl⟩
    obtain ⟨A, c, rfl, hlc, hrest⟩ := h.elems hx hes
    by_cases hne : es = []
    · subst hne
      have hc : c ≤ maxLen := by
        obtain ⟨d, v', sz', off, len, rfl | rfl⟩ := hform
        · cases hx with
          | pur hx => cases hx
          | ss _ _ _ _ _ g c' cap A' h1 h2 h3 => exact h2
        · cases hx with
          | pur hx => cases hx
          | slr _ _ _ _ g cap h1 h2 h3 => exact h3
          | slv => simp [maxLen]
      exact .ro A ⟨0, 0, none⟩ 0 c sz [] (fun _ _ => undef) rfl hlc hc (fun h0 => absurd h0 (by simp)) (by simp) (by simp) (by simp)
    · obtain ⟨hf, ad, vs, rfl, hvl, hvc, hrow⟩ := hrest hne
      -- the row lies in a block of the call's own
      have hblk : ad.block < w.heap.size ∧ ¬ N0 ad.block ∧ c ≤ maxLen := by
        have hpos := List.length_pos_iff.2 hne
        obtain ⟨d, v', sz', off, len, rfl | rfl⟩ := hform
        · simp only [AS.elems] at hes
          split at hes
          case h_2 => cases hes
          rename_i o ho
          split at hes
          case isFalse => cases hes
          rename_i hb
          obtain ⟨rfl, rfl, hb3⟩ := hb
          simp only [Option.some.injEq, Prod.mk.injEq] at hes
          obtain ⟨rfl, rfl⟩ := hes
          have hl' : ((o.es.drop off).take len).length = len := by simp; omega
          rw [hl'] at hpos hx
          cases hx with
          | pur hx => cases hx
          | ss _ _ _ _ _ g c' cap A' h1 h2 h3 =>
            obtain ⟨hm, hA⟩ := h3 hpos
            injection hA with hA
            subst hA
            refine ⟨h.block_lt ho hm, fun hn => ?_, h2⟩
            have := h.n0.1 _ hn
            obtain ⟨l, hl, hob⟩ := h.objs d o ho
            rw [hm] at hl
            injection hl with hl
            subst hl
            exact absurd hob.1 (fun hf => hf.elim (fun h => by have := this.1; simp only at *; omega) this.2)
        · simp only [AS.elems] at hes
          split at hes
          case h_2 => cases hes
          rename_i o ho
          split at hes
          case isFalse => cases hes
          rename_i hb
          obtain ⟨rfl, rfl, hb3⟩ := hb
          simp only [Option.some.injEq, Prod.mk.injEq] at hes
          obtain ⟨rfl, rfl⟩ := hes
          rw [hb3] at hpos hx
          cases hx with
          | pur hx => cases hx
          | slr _ _ _ _ g cap hm h2 h3 =>
            refine ⟨h.block_lt ho hm, fun hn => ?_, h3⟩
            have := h.n0.1 _ hn
            obtain ⟨l, hl, hob⟩ := h.objs d o ho
            rw [hm] at hl
            injection hl with hl
            subst hl
            exact absurd hob.1 (fun hf => hf.elim (fun h => by have := this.1; simp only at *; omega) this.2)
          | slv => exact absurd hpos (by simp)
      have hat : ∀ (k : Nat) e (j : Nat) c, es[k]? = some e → e.cells[j]? = some c → ∃ y, vs[k * sz + j]? = some y ∧ Enc w (Own N0 μ S) μ y c := by
        intro k e j c hk hj
        have hfl := flat_get hf hk hj
        have hlt : k * sz + j < vs.length := by rw [hrow.1]; exact (List.getElem?_eq_some_iff.1 hfl).1
        exact ⟨_, List.getElem?_eq_getElem hlt, hrow.2 _ _ c (List.getElem?_eq_getElem hlt) hfl⟩
      refine .ro _ ad es.length c sz es (fun k j => (vs[k * sz + j]?).getD undef) rfl hlc hblk.2.2 (fun _ => ⟨rfl, hblk.1, hblk.2.1⟩) hf (fun k e j c hk hj => ?_) (fun k e j c hk hj => ?_)
      · obtain ⟨y, hy, _⟩ := hat k e j c hk hj
        simp only [hy, Option.getD_some]
        exact hvc _ _ hy
      · obtain ⟨y, hy, hey⟩ := hat k e j c hk hj
        simp only [hy, Option.getD_some]
        have hpc : c.pureC = true := List.all_eq_true.1 (List.all_eq_true.1 hp e (List.mem_of_getElem? hk)) c (List.mem_of_getElem? hj)
        exact (hey.pureC hpc).keep (Keeps.refl _ _) hsub
  unfold AS.viewC at hv
  split at hv
  · exact key _ u hx hv (fun _ _ _ _ _ => trivial) ⟨_, _, _, 0, _, .inr rfl⟩
  · exact key _ u hx hv (fun _ _ _ _ _ => trivial) ⟨_, _, _, _, _, .inl rfl⟩
  · split at hv
    case isFalse => cases hv
    rename_i hp
    injection hv with hv
    subst hv
    exact ⟨(hx.pureC hp).keep (Keeps.refl _ _) hsub, pureC_cell hp⟩

theorem viewL_spec : ∀ {cs us : List V}, S.viewL cs = some us → us.length = cs.length ∧ ∀ (i : Nat) c u, cs[i]? = some c → us[i]? = some u → S.viewC c = some u
  | [], us, h => by simp only [AS.viewL, Option.some.injEq] at h; subst h; simp
  | c :: cs, us, h => by
    simp only [AS.viewL] at h
    split at h
    case h_2 => cases h
    rename_i u us' h1 h2
    injection h with h
    subst h
    obtain ⟨h3, h4⟩ := viewL_spec h2
    refine ⟨by simp [h3], fun i c' u' hc hu => ?_⟩
    rcases i with _ | i
    · simp at hc hu; subst hc; subst hu; exact h1
    · simp at hc hu; exact h4 i c' u' hc hu

theorem RelM.view (h : RelM D w0 N0 μ S a w) {x : Value} {v u : V} (hx : Enc w (Own N0 μ S) μ x v) (hv : S.view v = some u) : Pur w N0 x u := by
  have hsub : ∀ b, b < w.heap.size → N0 b → Own N0 μ S b := fun b _ hb => .inl hb
  unfold AS.view at hv
  split at hv
  · rename_i cs
    split at hv
    case h_2 => cases hv
    rename_i us hus
    injection hv with hv
    subst hv
    obtain ⟨h1, h2⟩ := viewL_spec hus
    have key : ∀ xs : List Value, xs.length = cs.length → (∀ (i : Nat) x c, xs[i]? = some x → cs[i]? = some c → Enc w (Own N0 μ S) μ x c) → Pur w N0 (.agg xs.toArray) (.agg us) := by
      intro xs hl hh
      refine .agg xs us (by omega) (fun c hc => ?_) (fun i x c hx hc => ?_)
      · obtain ⟨i, hi⟩ := List.getElem?_of_mem hc
        have hlt : i < us.length := (List.getElem?_eq_some_iff.1 hi).1
        exact (h.viewC (hh i xs[i] cs[i] (List.getElem?_eq_getElem (by omega)) (List.getElem?_eq_getElem (by omega))) (h2 i cs[i] c (List.getElem?_eq_getElem (by omega)) hi)).2
      · have hlt : i < us.length := (List.getElem?_eq_some_iff.1 hc).1
        exact (h.viewC (hh i x cs[i] hx (List.getElem?_eq_getElem (by omega))) (h2 i cs[i] c (List.getElem?_eq_getElem (by omega)) hc)).1
    cases hx with
    | pur hx =>
      cases hx with
      | agg xs _ hl hc hh => exact key xs hl (fun i x c h1 h2 => .pur (hh i x c h1 h2))
    | agg xs _ hl hc hh => exact key xs hl hh
  · cases hv
  · exact (h.viewC hx hv).1

end
end Go.Eng
