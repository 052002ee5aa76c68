import Derived.Test.YtnklkkagpkcmfaaGreatDoorG1
import Derived.Laws.CopyRow
import Derived.Laws.MakeOwn
import Derived.Lib.AppendStr
import Derived.Laws.CopyOwn
import Derived.Orders
set_option linter.all false
namespace Go.Eng
open Go.RowKit
def flat (es : List V) : List V := es.flatMap V.cells
theorem flat_length {sz : Nat} : ∀ {es : List V}, (∀ e ∈ es, e.fits sz) → (flat es).length = es.length * sz
  | [], _ => by simp [flat]
  | e :: es, h => by
    have h1 := (h e (by simp)).1
    have h2 := flat_length (es := es) (fun x hx => h x (by simp [hx]))
    unfold flat at h2 ⊢
    rw [List.flatMap_cons, List.length_append, h1, h2, List.length_cons, Nat.add_mul]
    omega
theorem flat_get {sz : Nat} : ∀ {es : List V}, (∀ e ∈ es, e.fits sz) → ∀ {k j : Nat} {e c : V}, es[k]? = some e → e.cells[j]? = some c → (flat es)[k * sz + j]? = some c
  | [], _, k, j, e, c, hk, _ => by simp at hk
  | x :: es, h, k, j, e, c, hk, hj => by
    have h1 := (h x (by simp)).1
    have hj' : j < e.cells.length := (List.getElem?_eq_some_iff.1 hj).1
    unfold flat
    rw [List.flatMap_cons]
    rcases k with _ | k
    · simp only [List.getElem?_cons_zero, Option.some.injEq] at hk
      subst hk
      rw [Nat.zero_mul, Nat.zero_add, List.getElem?_append_left hj']
      exact hj
    · simp only [List.getElem?_cons_succ] at hk
      have ih := flat_get (es := es) (fun y hy => h y (by simp [hy])) hk hj
      unfold flat at ih
      rw [List.getElem?_append_right (by rw [h1, Nat.add_mul]; omega), h1, show (k + 1) * sz + j - sz = k * sz + j by rw [Nat.add_mul]; omega]
      exact ih
theorem flat_append (a b : List V) : flat (a ++ b) = flat a ++ flat b := by simp [flat]
def V.setPart (e : V) (off : Nat) (v : V) : V :=
  match e with
  | .agg cs => .agg (cs.take off ++ v.cells ++ cs.drop (off + v.cells.length))
  | _ => v
def AS.putv (S : AS) (dst : Option Nat) (v : V) : Option AS :=
  match dst with
  | some d => if d < S.nt then some { S with env := (d, v) :: S.env } else none
  | none => some S
def AS.elems (S : AS) : V → Option (Nat × List V)
  | .ro sz es => some (sz, es)
  | .nils => some (0, [])
  | .sl d v sz len => match get S.objs d with
    | some o => if o.v = v ∧ o.sz = sz ∧ o.es.length = len then some (sz, o.es) else none
    | none => none
  | .ss d v sz off len => match get S.objs d with
    | some o => if o.v = v ∧ o.sz = sz ∧ off + len ≤ o.es.length then some (sz, (o.es.drop off).take len) else none
    | none => none
  | _ => none
def tbytes (P : Program) (t : TypeId) : Option Nat := (P.info? t).map (·.bytes)
def asets (sz : Nat) (es : List V) : List (Nat × V) → Option (List V)
  | [] => some es
  | (i, v) :: r => if v.cells.length = sz ∧ i < es.length ∧ cellOk v = true then asets sz (es.set i v) r else none
def tok (P : Program) (t : TypeId) : Option Nat := match tzero P t, tsz P t with
  | some z, some n => if z.cells.length = n ∧ cellOk z = true ∧ 0 < n then some n else none
  | _, _ => none
def tz8 (P : Program) (t : TypeId) : Bool := match P.info? t with
  | some i => (match i.zero with | some (.int .u8 n) => n == 0 | _ => false) && i.size == 1 && i.bytes == 1
  | none => false
def acore (P : Program) (i : Nat) (S : AS) (dst : Option Nat) (kd : Nat) : Op → Option (List (Nat × Ob) × V)
  | .alloc t => match dst, tzero P t, tok P t with
    | some _, some z, some n => some ((kd, ⟨S.nx + i, n, t, [z]⟩) :: S.objs, .bp kd (S.nx + i) n 0 0)
    | _, _, _ => none
  | .box t x => match dst, S.evc true x with
    | some _, some z => if cellOk z = true then some ((kd, ⟨S.nx + i, z.cells.length, t, [z]⟩) :: S.objs, .bp kd (S.nx + i) z.cells.length 0 0) else none
    | _, _ => none
  | .buildSlice t len parts => match dst, telem P t, S.evs true parts.toList with
    | some _, some te, some vs => match tzero P te, tok P te with
      | some z, some n => if len * n ≤ 16777216 then (match asets n (List.replicate len z) vs with
        | some es => some ((kd, ⟨S.nx + i, n, te, es⟩) :: S.objs, .sl kd (S.nx + i) n len)
        | none => none) else none
      | _, _ => none
    | _, _, _ => none
  | .makeSlice t l c => match dst, telem P t, S.evc true l, S.evc true c with
    | some _, some te, some (.int _ l), some (.int _ c) => match tzero P te, tok P te, tbytes P te with
      | some z, some n, some b => if 0 ≤ l ∧ l ≤ c ∧ c ≤ 9223372036854775807 ∧ (b : Int) * c ≤ 281474976710656 then
          some ((kd, ⟨S.nx + i, n, te, List.replicate l.toNat z⟩) :: S.objs, .sl kd (S.nx + i) n l.toNat) else none
      | _, _, _ => none
    | _, _, _, _ => none
  | .store t x y => match S.evc true x, S.evc true y, tsz P t with
    | some (.bp d v sz k off), some u, some n => match get S.objs d with
      | some o => if o.v = v ∧ o.sz = sz ∧ u.cells.length = n ∧ cellOk u = true ∧ 0 < n then (match nth o.es k with
        | some e => if off + n ≤ e.cells.length then some ((d, { o with es := o.es.set k (e.setPart off u) }) :: S.objs, .whn false (.bool true)) else none
        | none => none) else none
      | none => none
    | _, _, _ => none
  | .call { callee := .builtin .append, args, argTypes } => match args.toList, argTypes.toList, dst with
    | [s, x], [t, t'], some _ => if t = t' then (match S.evc true s, S.evc true x, telem P t with
      | some sv, some xv, some te => match S.elems xv, tok P te, tbytes P te with
        | some (sz', news), some n, some b => match sv with
          | .sl d v sz len => match get S.objs d with
            | some o => if o.v = v ∧ o.sz = sz ∧ o.es.length = len ∧ o.ty = te ∧ n = sz ∧ (news ≠ [] → sz' = sz) ∧ len + news.length ≤ maxLen ∧ (len + news.length) * b ≤ 140737488355328 then
                some ((d, ⟨S.nx + i, sz, te, o.es ++ news⟩) :: S.objs, .sl d (S.nx + i) sz (len + news.length)) else none
            | none => none
          | .nils => if (news ≠ [] → sz' = n) ∧ news.length ≤ maxLen ∧ news.length * b ≤ 140737488355328 then
                some ((kd, ⟨S.nx + i, n, te, news⟩) :: S.objs, .sl kd (S.nx + i) n news.length) else none
          | _ => none
        | _, _, _ => none
      | _, _, _ => none) else if tstr P t' = true ∧ tbyteS P t = true then (match S.evc true s, S.evc true x, telem P t with
      | some sv, some (.str l), some te => match tz8 P te with
        | true => match sv with
          | .sl d v sz len => match get S.objs d with
            | some o => if o.v = v ∧ o.sz = sz ∧ sz = 1 ∧ o.es.length = len ∧ o.ty = te ∧ len + l.length ≤ maxLen ∧ len + l.length ≤ 140737488355328 then
                some ((d, ⟨S.nx + i, 1, te, o.es ++ l.map byV⟩) :: S.objs, .sl d (S.nx + i) 1 (len + l.length)) else none
            | none => none
          | .nils => if l.length ≤ maxLen ∧ l.length ≤ 140737488355328 then
                some ((kd, ⟨S.nx + i, 1, te, l.map byV⟩) :: S.objs, .sl kd (S.nx + i) 1 l.length) else none
          | _ => none
        | false => none
      | _, _, _ => none) else none
    | _, _, _ => none
  | _ => none
def aeff (P : Program) (i : Nat) (S : AS) (dst : Option Nat) (kd : Nat) (op : Op) : Option AS :=
  match acore P i S dst kd op with
  | some (O, v) => AS.putv { S with objs := O } dst v
  | none => none
section
variable {D : Nat → Prop} {w0 : Bs} {w : World} {N0 : Nat → Prop} {μ : Mu} {S : AS} {a : Act} {P : Program}
theorem RelM.putv (h : RelM D w0 N0 μ S a w) {S' : AS} {dst : Option Nat} {x : Value} {v : V} (hp : S.putv dst v = some S') (he : Enc w (Own N0 μ S) μ x v) : RelM D w0 N0 μ S' (a.put dst x) w := by
  unfold AS.putv at hp
  split at hp
  · split at hp
    · rename_i hd
      injection hp with hp
      subst hp
      exact h.put hd he
    · cases hp
  · injection hp with hp
    subst hp
    exact h
def Does (P : Program) (o : Oper) (a : Act) (w : World) (x : Value) (w' : World) : Prop :=
  (execOp a.eval o).run P w = .ok (.value x) w' ∨ ((execOp a.eval o).run P w = .ok .skip w' ∧ x = undef)
theorem cellOk_fits {v : V} (h : cellOk v = true) : v.fits v.cells.length := ⟨rfl, fun c hc => by simpa using List.all_eq_true.1 h c hc⟩
theorem tzero_run {t : TypeId} {z : V} (h : tzero P t = some z) (w : World) (N : Nat → Prop) : ∃ x, (zeroValue t).run P w = .ok x w ∧ Pur w N x z := by
  unfold tzero at h
  obtain ⟨inf, hinf, h⟩ := Option.bind_eq_some_iff.1 h
  obtain ⟨zv, hzv, h⟩ := Option.bind_eq_some_iff.1 h
  exact ⟨zv, by simp [zeroValue, typeInfo, hinf, hzv], zeroOf_pur h w N⟩
theorem eff_newVar (h : RelM D w0 N0 μ S a w) {i : Nat} (hi : ¬ D i) {d dd : Nat} {t : TypeId} {x : Value} {z : V} {S' : AS} (hx : Enc w (Own N0 μ S) μ x z) (hz : cellOk z = true)
    (hp : AS.putv { S with objs := (d, ⟨S.nx + i, z.cells.length, t, [z]⟩) :: S.objs } (some dd) (.bp d (S.nx + i) z.cells.length 0 0) = some S') :
    ∃ μ', RelM (fun j => D j ∨ j = i) w0 N0 μ' S' (a.put (some dd) (.pointer (some ⟨w.heap.size, 0, none⟩))) (w.alloc (.cells x.cells t)) := by
  obtain ⟨h1, h2⟩ := hx.cells_at (cellOk_fits hz)
  have hr := h.alloc hi d x.cells t z.cells.length 1 [z] (by rw [h1, Nat.one_mul]) (by simp) (by simp [maxLen]) (fun e he => by simp at he; subst he; exact cellOk_fits hz) (fun k e j c hk hj => by
    rcases k with _ | k
    · simp at hk; subst hk
      obtain ⟨y, hy, hey, _⟩ := h2 j c hj
      exact ⟨y, by rw [Nat.zero_mul, Nat.zero_add]; exact hy, hey⟩
    · simp at hk)
  refine ⟨_, hr.putv hp ?_⟩
  have := Enc.bp (w := w.alloc (.cells x.cells t)) (N := Own N0 (muSet μ d (S.nx + i) (some (w.heap.size, 1))) { S with objs := (d, ⟨S.nx + i, z.cells.length, t, [z]⟩) :: S.objs }) d (S.nx + i) z.cells.length 0 0 w.heap.size 1 (muSet_same μ d (S.nx + i) (some (w.heap.size, 1)))
  simpa using this
theorem RelM.elems (h : RelM D w0 N0 μ S a w) {x : Value} {p : V} {sz : Nat} {es : List V} (hx : Enc w (Own N0 μ S) μ x p) (he : S.elems p = some (sz, es)) :
    ∃ A c, x = .slice A es.length c ∧ es.length ≤ c ∧ (es ≠ [] → (∀ e ∈ es, e.fits sz) ∧ ∃ ad vs, A = some ad ∧ vs.length = es.length * sz ∧ (∀ (j : Nat) u, vs[j]? = some u → w.cell? (Addr.add ad j) = some u) ∧ Row w (Own N0 μ S) μ vs (flat es)) := by
  have mk : ∀ (ad : Addr) (es : List V) (sz : Nat), (∀ e ∈ es, e.fits sz) → (∀ (k : Nat) e (j : Nat) c, es[k]? = some e → e.cells[j]? = some c → ∃ y, w.cell? (ad.add (k * sz + j)) = some y ∧ Enc w (Own N0 μ S) μ y c) →
      ∃ vs : List Value, vs.length = es.length * sz ∧ (∀ (j : Nat) u, vs[j]? = some u → w.cell? (ad.add j) = some u) ∧ Row w (Own N0 μ S) μ vs (flat es) := by
    intro ad es sz hf hc
    have hall : ∀ j, j < es.length * sz → ∃ y c, w.cell? (ad.add j) = some y ∧ (flat es)[j]? = some c ∧ Enc w (Own N0 μ S) μ y c := by
      intro j hj
      have hsz : 0 < sz := by
        rcases Nat.eq_zero_or_pos sz with h0 | h0
        · subst h0; simp at hj
        · exact h0
      have hk : j / sz < es.length := Nat.div_lt_of_lt_mul (by rw [Nat.mul_comm]; exact hj)
      have hfe := hf es[j / sz] (List.getElem_mem hk)
      have hj2 : j % sz < es[j / sz].cells.length := by rw [hfe.1]; exact Nat.mod_lt _ hsz
      have e1 : j / sz * sz + j % sz = j := by rw [Nat.mul_comm]; exact Nat.div_add_mod j sz
      obtain ⟨y, hy, hey⟩ := hc (j / sz) _ (j % sz) _ (List.getElem?_eq_getElem hk) (List.getElem?_eq_getElem hj2)
      have hfl := flat_get hf (List.getElem?_eq_getElem hk) (List.getElem?_eq_getElem hj2)
      rw [e1] at hy hfl
      exact ⟨y, _, hy, hfl, hey⟩
    refine ⟨(List.range (es.length * sz)).map fun j => (w.cell? (ad.add j)).getD undef, by simp, fun j u hu => ?_, ⟨by simp [flat_length hf], fun j y c hy hc' => ?_⟩⟩
    · have hj : j < es.length * sz := by have := (List.getElem?_eq_some_iff.1 hu).1; simpa using this
      obtain ⟨y, c, h1, h2, h3⟩ := hall j hj
      simp only [List.getElem?_map, List.getElem?_range hj, Option.map_some, Option.some.injEq, h1, Option.getD_some] at hu
      rw [h1, hu]
    · have hj : j < es.length * sz := by have := (List.getElem?_eq_some_iff.1 hy).1; simpa using this
      obtain ⟨y', c', h1, h2, h3⟩ := hall j hj
      simp only [List.getElem?_map, List.getElem?_range hj, Option.map_some, Option.some.injEq, h1, Option.getD_some] at hy
      rw [h2] at hc'
      injection hc' with hc'
      subst hy; subst hc'
      exact h3
  cases p <;> simp only [AS.elems] at he <;> try (cases he; done)
  case ro sz' es' =>
    simp only [Option.some.injEq, Prod.mk.injEq] at he
    obtain ⟨rfl, rfl⟩ := he
    cases hx with
    | pur hx =>
    cases hx with
    | ro A ad n cap _ _ g hn hcap hmax hA hf hc hh =>
    subst hn
    refine ⟨A, cap, rfl, hcap, fun hne => ⟨hf, ?_⟩⟩
    obtain ⟨hA1, _, _⟩ := hA (List.length_pos_iff.2 hne)
    obtain ⟨vs, v1, v2, v3⟩ := mk ad es' sz' hf (fun k e j c h1 h2 => ⟨_, hc k e j c h1 h2, .pur (hh k e j c h1 h2)⟩)
    exact ⟨ad, vs, hA1, v1, v2, v3⟩
  case nils =>
    simp only [Option.some.injEq, Prod.mk.injEq] at he
    obtain ⟨rfl, rfl⟩ := he
    cases hx with
    | pur hx =>
    cases hx with
    | nils A => exact ⟨A, 0, rfl, Nat.le_refl _, fun hne => absurd rfl hne⟩
  case sl d v sz' len =>
    split at he
    case h_2 => cases he
    rename_i o ho
    split at he
    case isFalse => cases he
    rename_i hb
    obtain ⟨rfl, rfl, hlen⟩ := hb
    simp only [Option.some.injEq, Prod.mk.injEq] at he
    obtain ⟨rfl, rfl⟩ := he
    cases hx with
    | pur hx => cases hx
    | slr _ _ _ _ g cap hm hle hmax =>
      refine ⟨_, cap, by rw [hlen], by rw [hlen]; exact hle, fun hne => ?_⟩
      obtain ⟨l, hl, hob⟩ := h.objs d o ho
      rw [hm] at hl
      injection hl with hl
      subst hl
      obtain ⟨_, _, _, h4, arr, h5, h6, h7⟩ := hob
      refine ⟨h4, ?_⟩
      obtain ⟨vs, v1, v2, v3⟩ := mk ⟨g, 0, none⟩ o.es o.sz h4 (fun k e j c h1 h2 => by
        obtain ⟨y, hy, hey⟩ := h7 k e j c h1 h2
        exact ⟨y, by rw [Addr.add_lit, Nat.zero_add, cell_of_row w g _ arr o.ty (0, 0) h5]; exact hy, hey⟩)
      exact ⟨_, vs, rfl, v1, v2, v3⟩
    | slv _ _ _ A hm =>
      have hnil : o.es = [] := List.eq_nil_of_length_eq_zero hlen
      exact ⟨A, 0, by rw [hlen], by rw [hlen]; exact Nat.le_refl _, fun hne => absurd hnil hne⟩
  case ss d v sz' off len =>
    split at he
    case h_2 => cases he
    rename_i o ho
    split at he
    case isFalse => cases he
    rename_i hb
    obtain ⟨rfl, rfl, hlen⟩ := hb
    simp only [Option.some.injEq, Prod.mk.injEq] at he
    obtain ⟨rfl, rfl⟩ := he
    have hl' : ((o.es.drop off).take len).length = len := by simp; omega
    cases hx with
    | pur hx => cases hx
    | ss _ _ _ _ _ g c cap A hle hcm hA =>
      refine ⟨A, c, by rw [hl'], by rw [hl']; exact hle, fun hne => ?_⟩
      have hpos : 0 < len := by
        have := List.length_pos_iff.2 hne
        omega
      obtain ⟨hm, rfl⟩ := hA hpos
      obtain ⟨l, hl, hob⟩ := h.objs d o ho
      rw [hm] at hl
      injection hl with hl
      subst hl
      obtain ⟨_, _, _, h4, arr, h5, h6, h7⟩ := hob
      have h4' : ∀ e ∈ (o.es.drop off).take len, e.fits o.sz := fun e he => h4 e (List.mem_of_mem_drop (List.mem_of_mem_take he))
      refine ⟨h4', ?_⟩
      obtain ⟨vs, v1, v2, v3⟩ := mk ⟨g, off * o.sz, none⟩ ((o.es.drop off).take len) o.sz h4' (fun k e j c h1 h2 => by
        have hk : k < len := by have := (List.getElem?_eq_some_iff.1 h1).1; omega
        rw [List.getElem?_take_of_lt hk, List.getElem?_drop] at h1
        obtain ⟨y, hy, hey⟩ := h7 (off + k) e j c h1 h2
        exact ⟨y, by rw [Addr.add_lit, cell_of_row w g _ arr o.ty (0, 0) h5, show off * o.sz + (k * o.sz + j) = (off + k) * o.sz + j by rw [Nat.add_mul]; omega]; exact hy, hey⟩)
      exact ⟨_, vs, rfl, v1, v2, v3⟩
end
end Go.Eng

namespace Go.Eng
open Go.RowKit
section
variable {D : Nat → Prop} {w0 : Bs} {w : World} {N0 : Nat → Prop} {μ : Mu} {S : AS} {a : Act} {P : Program}
theorem row_cells {N : Nat → Prop} {arr : Array Value} {es : List V} {sz : Nat} (hf : ∀ e ∈ es, e.fits sz) (hr : Row w N μ (arr.toList.take (es.length * sz)) (flat es)) :
    ∀ (k : Nat) e (j : Nat) c, es[k]? = some e → e.cells[j]? = some c → ∃ x, arr[k * sz + j]? = some x ∧ Enc w N μ x c := by
  intro k e j c hk hj
  have hfl := flat_get hf hk hj
  have hlt : k * sz + j < (flat es).length := (List.getElem?_eq_some_iff.1 hfl).1
  have hlt' : k * sz + j < (arr.toList.take (es.length * sz)).length := by rw [hr.1]; exact hlt
  have hx := List.getElem?_eq_getElem hlt'
  refine ⟨_, ?_, hr.2 _ _ c hx hfl⟩
  rw [← hx, List.getElem?_take_of_lt (by rw [flat_length hf] at hlt; exact hlt)]
  simp
theorem cells_row {N : Nat → Prop} {arr : Array Value} {es : List V} {sz : Nat} (hf : ∀ e ∈ es, e.fits sz) (hsz : es.length * sz ≤ arr.size)
    (hc : ∀ (k : Nat) e (j : Nat) c, es[k]? = some e → e.cells[j]? = some c → ∃ x, arr[k * sz + j]? = some x ∧ Enc w N μ x c) : Row w N μ (arr.toList.take (es.length * sz)) (flat es) := by
  refine ⟨by simp [flat_length hf]; omega, fun i x c hx hc' => ?_⟩
  have hi : i < es.length * sz := by have := (List.getElem?_eq_some_iff.1 hc').1; rwa [flat_length hf] at this
  have hs : 0 < sz := by
    rcases Nat.eq_zero_or_pos sz with h0 | h0
    · subst h0; simp at hi
    · exact h0
  have hk : i / sz < es.length := Nat.div_lt_of_lt_mul (by rw [Nat.mul_comm]; exact hi)
  have hfe := hf es[i / sz] (List.getElem_mem hk)
  have hj : i % sz < es[i / sz].cells.length := by rw [hfe.1]; exact Nat.mod_lt _ hs
  have e1 : i / sz * sz + i % sz = i := by rw [Nat.mul_comm]; exact Nat.div_add_mod i sz
  obtain ⟨y, hy, hey⟩ := hc _ _ _ _ (List.getElem?_eq_getElem hk) (List.getElem?_eq_getElem hj)
  have hfl := flat_get hf (List.getElem?_eq_getElem hk) (List.getElem?_eq_getElem hj)
  rw [e1] at hy hfl
  rw [hfl] at hc'
  injection hc' with hc'
  subst hc'
  rw [List.getElem?_take_of_lt hi] at hx
  have : arr[i]? = some x := by simpa using hx
  rw [this] at hy
  injection hy with hy
  subst hy
  exact hey
theorem flat_set {sz : Nat} : ∀ {es : List V}, (∀ e ∈ es, e.fits sz) → ∀ {k : Nat} {e e' : V} {off : Nat} {us : List V}, es[k]? = some e → off + us.length ≤ e.cells.length → e'.cells = e.cells.take off ++ us ++ e.cells.drop (off + us.length) →
    flat (es.set k e') = (flat es).take (k * sz + off) ++ us ++ (flat es).drop (k * sz + off + us.length)
  | [], _, k, e, e', off, us, hk, _, _ => by simp at hk
  | x :: es, h, k, e, e', off, us, hk, hle, he => by
    have h1 := (h x (by simp)).1
    rcases k with _ | k
    · simp only [List.getElem?_cons_zero, Option.some.injEq] at hk
      subst hk
      simp only [flat, List.set_cons_zero, List.flatMap_cons, he, Nat.zero_mul, Nat.zero_add]
      rw [List.take_append_of_le_length (by omega), List.drop_append_of_le_length (by omega)]
      simp only [List.append_assoc]
    · simp only [List.getElem?_cons_succ] at hk
      have ih := flat_set (es := es) (fun y hy => h y (by simp [hy])) hk hle he
      unfold flat at ih ⊢
      simp only [List.set_cons_succ, List.flatMap_cons, ih]
      have e1 : (k + 1) * sz + off = x.cells.length + (k * sz + off) := by rw [h1, Nat.add_mul]; omega
      have e2 : x.cells.length + (k * sz + off) + us.length = x.cells.length + (k * sz + off + us.length) := by omega
      rw [e1, List.take_length_add_append, e2, List.drop_length_add_append]
      simp only [List.append_assoc]
theorem setPart_cells {e u : V} {off : Nat} (hle : off + u.cells.length ≤ e.cells.length) (hpos : 0 < u.cells.length) : (e.setPart off u).cells = e.cells.take off ++ u.cells ++ e.cells.drop (off + u.cells.length) := by
  unfold V.setPart
  split
  · rfl
  · rename_i hne
    have hcell : e.cells = [e] := by cases e <;> first | rfl | (exact absurd rfl (hne _))
    rw [hcell] at hle ⊢
    simp at hle
    have : off = 0 := by omega
    subst this
    simp
    omega
theorem append_zero {t ty te : TypeId} {B A : Option Addr} {n cap c : Nat} {inf : TypeInfo} (ht : P.underlying t = some (.slice te)) (hi : P.info? te = some inf) (hn : n ≤ cap) :
    (Builtin.append_ #[t, t] ty #[.slice B n cap, .slice A 0 c]).run P w = .ok (.slice B n cap) w := by
  cases A <;> cases B <;> simp [Builtin.append_, run_underlying ht, sizeOf, typeInfo, hi, Builtin.lenOf, Builtin.firstCells, hn, storeCells, loadCells, loadCellsFrom]
theorem append_cap0 {t ty te : TypeId} {B : Option Addr} {ad : Addr} {m c : Nat} {inf : TypeInfo} {z : Value} {vs : List Value} (ht : P.underlying t = some (.slice te)) (hi : P.info? te = some inf) (hz : inf.zero = some z) (hzs : z.cells.size = inf.size)
    (hl : vs.length = m * inf.size) (hv : ∀ (j : Nat) u, vs[j]? = some u → w.cell? (ad.add j) = some u) (h0 : 0 < m) (h63 : m ≤ maxLen) (hb : m * inf.bytes ≤ 140737488355328) :
    ∃ cap arr, (Builtin.append_ #[t, t] ty #[.slice B 0 0, .slice (some ad) m c]).run P w = .ok (.slice (some ⟨w.heap.size, 0, none⟩) m cap) (w.drew.alloc (.cells arr te)) ∧ m ≤ cap ∧ cap ≤ maxLen ∧ arr.size = cap * inf.size ∧ arr.toList.take (m * inf.size) = vs := by
  have hm : m ≤ 9223372036854775807 := by simp only [maxLen] at h63; omega
  have hge := grownCap_ge w m 0 te
  have hcm : grownCap w m 0 te ≤ maxLen := grownCap_le_maxLen w m 0 te h63
  have hrun : (Builtin.append_ #[t, t] ty #[.slice B 0 0, .slice (some ad) m c]).run P w = .ok (.slice (some ⟨w.heap.size, 0, none⟩) m (grownCap w m 0 te)) (w.drew.alloc (.cells (vs.toArray ++ Builtin.zeroCells z.cells (grownCap w m 0 te - m)) te)) := by
    cases B with
    | none => exact run_append_nil (P := P) w t ty te inf z ht hi hz ad m c vs hl hv h0 (by omega) (by omega)
    | some b =>
      have := run_append_grow (P := P) w t ty te inf z ht hi hz b 0 0 [] (by simp) (by simp) ad m c vs hl hv (by omega) (by omega) (by rw [Nat.zero_add, nextslicecap_zero h0]; omega)
      simpa using this
  refine ⟨_, _, hrun, hge, hcm, ?_, ?_⟩
  · simp only [Array.size_append, List.size_toArray, size_zeroCells, hzs, hl, ← Nat.add_mul]
    congr 1
    omega
  · simp only [Array.toList_append, ← hl]
    exact List.take_left
theorem eff_append0 (h : RelM D w0 N0 μ S a w) {i : Nat} (hi : ¬ D i) {d dd : Nat} {t te : TypeId} {B : Option Addr} {x : Value} {xv : V} {sz' n b : Nat} {news : List V} {S' : AS} {ty : TypeId}
    (ht : telem P t = some te) (hn : tsz P te = some n) (hb : tbytes P te = some b) (hx : Enc w (Own N0 μ S) μ x xv) (he : S.elems xv = some (sz', news))
    (hs : news ≠ [] → sz' = n) (hz0 : ∃ z, tzero P te = some z ∧ z.cells.length = n ∧ cellOk z = true) (hl : news.length ≤ maxLen) (hbb : news.length * b ≤ 140737488355328)
    (hp : AS.putv { S with objs := (d, ⟨S.nx + i, n, te, news⟩) :: S.objs } (some dd) (.sl d (S.nx + i) n news.length) = some S') :
    ∃ y w', (Builtin.append_ #[t, t] ty #[.slice B 0 0, x]).run P w = .ok y w' ∧ RelD (fun j => D j ∨ j = i) w0 N0 S' (a.put (some dd) y) w' := by
  have hu := telem_underlying ht
  unfold tsz at hn
  obtain ⟨inf, hinf, rfl⟩ := Option.map_eq_some_iff.1 hn
  unfold tbytes at hb
  obtain ⟨inf', hinf', rfl⟩ := Option.map_eq_some_iff.1 hb
  rw [hinf] at hinf'
  injection hinf' with hinf'
  subst hinf'
  obtain ⟨A, c, rfl, hlc, hrest⟩ := h.elems hx he
  by_cases hne : news = []
  · subst hne
    refine ⟨.slice B 0 0, w, append_zero hu hinf (Nat.le_refl _), ?_⟩
    have hmono := h.muSet_mono hi d none
    obtain ⟨hr, _⟩ := h.update (D' := fun j => D j ∨ j = i) (d := d) (o' := ⟨S.nx + i, inf.size, te, []⟩) (l' := none) (w' := w) (μ' := muSet μ d (S.nx + i) none) hmono (h.muSet_fresh i d _) (muSet_same _ _ _ _) h.below (Keeps.refl _ _)
      (fun _ _ _ _ _ _ _ => rfl) (fun g c e => by cases e) (fun N' hN => rfl)
    exact ⟨_, hr.putv hp (.slv d (S.nx + i) inf.size B (muSet_same _ _ _ _))⟩
  · obtain ⟨hf, ad, vs, rfl, hvl, hvc, hrow⟩ := hrest hne
    have hs' := hs hne
    subst hs'
    obtain ⟨z, hz1, hz2, hz3⟩ := hz0
    have hzz := hz1
    unfold tzero at hzz
    obtain ⟨inf2, hinf2, hzz⟩ := Option.bind_eq_some_iff.1 hzz
    rw [hinf] at hinf2
    injection hinf2 with hinf2
    subst hinf2
    obtain ⟨zv, hzv, hzz⟩ := Option.bind_eq_some_iff.1 hzz
    have hzp := zeroOf_pur hzz w (Own N0 μ S)
    have hzs : zv.cells.size = inf.size := by
      have := (Enc.pur (μ := μ) hzp).cells_at (cellOk_fits hz3)
      rw [this.1, hz2]
    obtain ⟨cap, arr, hrun, h1, h2, h3, h4⟩ := append_cap0 (P := P) (w := w) (ty := ty) (B := B) (c := c) hu hinf hzv hzs hvl hvc (List.length_pos_iff.2 hne) hl hbb
    refine ⟨_, _, hrun, ?_⟩
    have hkd : Keeps w (Own N0 μ S) w.drew := ⟨Nat.le_refl _, fun _ _ _ => rfl⟩
    have hrow' : Row w.drew (Own N0 μ S) μ (arr.toList.take (news.length * inf.size)) (flat news) := by
      rw [h4]
      exact ⟨hrow.1, fun i x c hx hc => (hrow.2 i x c hx hc).keep hkd (fun _ _ hb => hb) (fun _ _ _ hh => hh)⟩
    have hr := h.drew.alloc hi d arr te inf.size cap news h3 h1 h2 hf (row_cells hf hrow')
    exact ⟨_, hr.putv hp (.slr d (S.nx + i) inf.size news.length w.heap.size cap (muSet_same _ _ _ _) h1 h2)⟩
theorem byV_row (w : World) (N : Nat → Prop) (l : List UInt8) : Row w N μ (Lib.strCells ⟨l.toArray⟩) (flat (l.map byV)) := by
  have hf : flat (l.map byV) = l.map byV := by
    unfold flat
    induction l with
    | nil => rfl
    | cons b l ih => simp only [List.map_cons, List.flatMap_cons, ih]; rfl
  rw [hf]
  refine ⟨by simp [Lib.strCells], fun i x c hx hc => ?_⟩
  simp only [Lib.strCells, List.getElem?_map, Option.map_eq_some_iff] at hx hc
  obtain ⟨b, hb, rfl⟩ := hx
  obtain ⟨b', hb', rfl⟩ := hc
  rw [hb] at hb'
  injection hb' with hb'
  subst hb'
  exact .pur (.int _ _)
theorem byV_fits (l : List UInt8) : ∀ e ∈ l.map byV, e.fits 1 := by
  intro e he
  simp only [List.mem_map] at he
  obtain ⟨b, _, rfl⟩ := he
  exact ⟨rfl, fun c hc => by simp [byV, V.cells] at hc; subst hc; rfl⟩
theorem tz8_spec {t : TypeId} (h : tz8 P t = true) : ∃ inf, P.info? t = some inf ∧ inf.zero = some (.int .u8 0) ∧ inf.size = 1 ∧ inf.bytes = 1 := by
  unfold tz8 at h
  split at h
  · rename_i inf hinf
    simp only [Bool.and_eq_true, beq_iff_eq] at h
    refine ⟨inf, hinf, ?_, h.1.2, h.2⟩
    have h1 := h.1.1
    split at h1
    · rename_i n hn
      have : n = 0 := by simpa using h1
      rw [hn, this]
    · cases h1
  · cases h
theorem eff_appendS0 (h : RelM D w0 N0 μ S a w) {i : Nat} (hi : ¬ D i) {d dd : Nat} {t u te : TypeId} {B : Option Addr} {l : List UInt8} {S' : AS} {ty : TypeId}
    (ht : telem P t = some te) (hu : tstr P u = true) (hz : ∃ inf, P.info? te = some inf ∧ inf.zero = some (.int .u8 0) ∧ inf.size = 1 ∧ inf.bytes = 1)
    (hl : l.length ≤ maxLen) (hbb : l.length ≤ 140737488355328)
    (hp : AS.putv { S with objs := (d, ⟨S.nx + i, 1, te, l.map byV⟩) :: S.objs } (some dd) (.sl d (S.nx + i) 1 l.length) = some S') :
    ∃ y w', (Builtin.append_ #[t, u] ty #[.slice B 0 0, .string ⟨l.toArray⟩]).run P w = .ok y w' ∧ RelD (fun j => D j ∨ j = i) w0 N0 S' (a.put (some dd) y) w' := by
  have htu := telem_underlying ht
  have huu := tstr_underlying hu
  obtain ⟨inf, hinf, hz0, hs1, hb1⟩ := hz
  have hsz : (ByteArray.mk l.toArray).size = l.length := by simp [ByteArray.size]
  have hf := Lib.run_firstCells_string (P := P) w 1 ⟨l.toArray⟩
  rcases l with _ | ⟨b0, l0⟩
  · refine ⟨.slice B 0 0, w, ?_, ?_⟩
    · rw [hsz] at hf
      simp only [List.length_nil] at hf
      cases B <;> simp [Builtin.append_, run_underlying htu, run_underlying huu, sizeOf, typeInfo, hinf, hs1, Builtin.lenOf, hsz, hf, storeCells, Lib.strCells]
    · have hmono := h.muSet_mono hi d none
      obtain ⟨hr, _⟩ := h.update (D' := fun j => D j ∨ j = i) (d := d) (o' := ⟨S.nx + i, 1, te, []⟩) (l' := none) (w' := w) (μ' := muSet μ d (S.nx + i) none) hmono (h.muSet_fresh i d _) (muSet_same _ _ _ _) h.below (Keeps.refl _ _)
        (fun _ _ _ _ _ _ _ => rfl) (fun g c e => by cases e) (fun N' hN => rfl)
      exact ⟨_, hr.putv hp (.slv d (S.nx + i) 1 B (muSet_same _ _ _ _))⟩
  · generalize hle : b0 :: l0 = l at *
    have hpos : 0 < l.length := by rw [← hle]; simp
    have hge := grownCap_ge w l.length 0 te
    have hcm : grownCap w l.length 0 te ≤ maxLen := grownCap_le_maxLen w l.length 0 te hl
    have hrun : (Builtin.append_ #[t, u] ty #[.slice B 0 0, .string ⟨l.toArray⟩]).run P w = .ok (.slice (some ⟨w.heap.size, 0, none⟩) l.length (grownCap w l.length 0 te))
        (w.drew.alloc (.cells ((Lib.strCells ⟨l.toArray⟩).toArray ++ Builtin.zeroCells (Value.int .u8 0).cells (grownCap w l.length 0 te - l.length)) te)) := by
      have h63 : ¬ (9223372036854775807 < (l.length : Int)) := by simp only [maxLen] at hl; omega
      have hns : Builtin.nextslicecap l.length 0 = l.length := by simp [Builtin.nextslicecap, hpos]
      have h48 : ¬ (281474976710656 < Builtin.nextslicecap l.length 0 * inf.bytes) := by rw [hb1, hns]; omega
      have h0 : ¬ (l.length ≤ 0) := by omega
      have hne : l ≠ [] := by rw [← hle]; simp
      have hf' := Lib.run_firstCells_string (P := P) w.drew 1 ⟨l.toArray⟩
      rw [hsz] at hf'
      have hfo : (Builtin.firstCells 1 0 (.slice B 0 0)).run P w.drew = .ok #[] w.drew := by
        cases B <;> simp [Builtin.firstCells, loadCells, loadCellsFrom]
      simp [Builtin.append_, run_underlying htu, run_underlying huu, sizeOf, typeInfo, zeroValue, hinf, hz0, hs1, Builtin.lenOf, hsz, hne, h63, h48, Question.forced, hf', hfo, newRow, grownCap]
    refine ⟨_, _, hrun, ?_⟩
    have hkd : Keeps w (Own N0 μ S) w.drew := ⟨Nat.le_refl _, fun _ _ _ => rfl⟩
    have hlen : (Lib.strCells ⟨l.toArray⟩).length = l.length := by rw [Lib.strCells_length, hsz]
    have hz1 : (Value.int IntKind.u8 0).cells.size = 1 := rfl
    have hr := h.drew.alloc hi d ((Lib.strCells ⟨l.toArray⟩).toArray ++ Builtin.zeroCells (Value.int .u8 0).cells (grownCap w l.length 0 te - l.length)) te 1 (grownCap w l.length 0 te) (l.map byV)
      (by simp only [Array.size_append, List.size_toArray, size_zeroCells, hz1, hlen]; omega) (by simpa using hge) hcm (byV_fits l) (row_cells (byV_fits l) (by
        simp only [List.length_map, Nat.mul_one, Array.toList_append]
        rw [← hlen, List.take_left]
        exact byV_row w.drew _ l))
    exact ⟨_, hr.putv hp (.slr d (S.nx + i) 1 l.length w.heap.size _ (muSet_same _ _ _ _) hge hcm)⟩
theorem eff_appendS (h : RelM D w0 N0 μ S a w) {i : Nat} (hi : ¬ D i) {d dd v len : Nat} {t u te : TypeId} {s : Value} {l : List UInt8} {o : Ob} {S' : AS} {ty : TypeId}
    (ht : telem P t = some te) (hu : tstr P u = true) (hz : ∃ inf, P.info? te = some inf ∧ inf.zero = some (.int .u8 0) ∧ inf.size = 1 ∧ inf.bytes = 1)
    (hs : Enc w (Own N0 μ S) μ s (.sl d v o.sz len)) (ho : get S.objs d = some o) (hov : o.v = v) (hsz : o.sz = 1) (hlen : o.es.length = len) (hty : o.ty = te) (hl : len + l.length ≤ maxLen) (hbb : len + l.length ≤ 140737488355328)
    (hp : AS.putv { S with objs := (d, ⟨S.nx + i, 1, te, o.es ++ l.map byV⟩) :: S.objs } (some dd) (.sl d (S.nx + i) 1 (len + l.length)) = some S') :
    ∃ y w', (Builtin.append_ #[t, u] ty #[s, .string ⟨l.toArray⟩]).run P w = .ok y w' ∧ RelD (fun j => D j ∨ j = i) w0 N0 S' (a.put (some dd) y) w' := by
  subst hov
  cases hs with
  | pur hs => cases hs
  | slv _ _ _ B hm =>
    have hnil : o.es = [] := by
      obtain ⟨l, hl', hob⟩ := h.objs d o ho
      rw [hm] at hl'
      injection hl' with hl'
      subst hl'
      exact hob
    rw [hnil] at hp
    simp only [List.nil_append, Nat.zero_add] at hp hl hbb
    exact eff_appendS0 h hi ht hu hz hl hbb hp
  | slr _ _ _ _ g cap hm hle hmax =>
    have htu := telem_underlying ht
    have huu := tstr_underlying hu
    obtain ⟨inf, hinf, hz0, hs1, hb1⟩ := hz
    obtain ⟨lo, hl', hob⟩ := h.objs d o ho
    rw [hm] at hl'
    injection hl' with hl'
    subst hl'
    obtain ⟨o1, o2, o3, o4, arr, o5, o6, o7⟩ := hob
    rw [hsz] at o4 o6 o7
    subst hty
    have hxs := cells_row (w := w) (N := Own N0 μ S) (μ := μ) o4 (by rw [o6]; exact Nat.mul_le_mul_right _ o2) o7
    simp only [Nat.mul_one] at hxs o6
    have hbz : (ByteArray.mk l.toArray).size = l.length := by simp [ByteArray.size]
    have hgl : g < w.heap.size := (Array.getElem?_eq_some_iff.1 o5).1
    have hfit : ∀ e ∈ o.es ++ l.map byV, e.fits 1 := fun e he => by
      rcases List.mem_append.1 he with h1 | h1
      · exact o4 e h1
      · exact byV_fits l e h1
    have hcl : (Lib.strCells ⟨l.toArray⟩).length = l.length := by rw [Lib.strCells_length, hbz]
    by_cases hroom : len + l.length ≤ cap
    · have hrun := Lib.run_append_room_string (P := P) w t u ty o.ty inf htu huu hinf hs1 g len cap arr o5 ⟨l.toArray⟩ (by rw [hbz]; exact hroom) (by rw [hbz, o6]; exact hroom)
      rw [hbz] at hrun
      refine ⟨_, _, hrun, ?_⟩
      have hmono := h.muSet_mono hi d (some (g, cap))
      have hkeep : Keeps w (Own N0 μ S) (w.setRow g (arr.toList.take len ++ Lib.strCells ⟨l.toArray⟩ ++ arr.toList.drop (len + l.length)).toArray) :=
        ⟨by simp, fun b hb hN => setRow_other w g b _ (fun e => hN (by subst e; exact .inr ⟨d, o, cap, ho, hm⟩))⟩
      obtain ⟨hr, _⟩ := h.update (D' := fun j => D j ∨ j = i) (d := d) (o' := ⟨S.nx + i, 1, o.ty, o.es ++ l.map byV⟩) (l' := some (g, cap)) (w' := w.setRow g (arr.toList.take len ++ Lib.strCells ⟨l.toArray⟩ ++ arr.toList.drop (len + l.length)).toArray) (μ' := muSet μ d (S.nx + i) (some (g, cap))) hmono (h.muSet_fresh i d _) (muSet_same _ _ _ _)
        (⟨h.below.os, h.below.tape, h.below.output, by simpa using h.below.size, fun k hk hx => by
          rw [setRow_other w g k _ (fun e => by subst e; rcases o1 with h | h; omega; exact hx h)]
          exact h.below.block k hk hx⟩) hkeep
        (fun d1 o1' g1 c1 hne1 h1 h2 => setRow_other w g g1 _ (fun e => hne1 (by subst e; exact h.inj _ _ _ _ _ _ _ h1 ho h2 hm)))
        (fun g2 c2 e => by
          simp only [Option.some.injEq, Prod.mk.injEq] at e
          obtain ⟨rfl, rfl⟩ := e
          exact .inr ⟨o, cap, ho, hm⟩)
        (fun N' hN => by
          refine ⟨o1, by simp [hlen]; exact hroom, o3, hfit, _, setRow_heap w g arr _ o.ty (0, 0) o5, ?_, ?_⟩
          · simp only [List.size_toArray, List.length_append, List.length_take, List.length_drop, Array.length_toList, hcl]
            omega
          · refine row_cells hfit ?_
            have e1 : (arr.toList.take len ++ Lib.strCells ⟨l.toArray⟩ ++ arr.toList.drop (len + l.length)).toArray.toList.take ((o.es ++ l.map byV).length * 1) = arr.toList.take o.es.length ++ Lib.strCells ⟨l.toArray⟩ := by
              simp only [List.length_append, List.length_map, Nat.mul_one, hlen]
              rw [List.take_append_of_le_length (by simp [hcl]; omega), List.take_of_length_le (by simp [hcl]; omega)]
            rw [e1, flat_append]
            exact Row.append ⟨hxs.1, fun j x c h1 h2 => (hxs.2 j x c h1 h2).keep hkeep hN hmono⟩ (byV_row _ _ l))
      exact ⟨_, hr.putv hp (.slr d (S.nx + i) 1 _ g cap (muSet_same _ _ _ _) hroom hmax)⟩
    · have holds : ∀ j u, (arr.toList.take o.es.length)[j]? = some u → w.cell? ((⟨g, 0, none⟩ : Addr).add j) = some u := by
        intro j u hj
        have hjl : j < o.es.length := by have := (List.getElem?_eq_some_iff.1 hj).1; simp at this; omega
        rw [List.getElem?_take_of_lt hjl] at hj
        rw [Addr.add_lit, cell_of_row w g _ arr o.ty (0, 0) o5, Nat.zero_add]
        simpa using hj
      have hol : (arr.toList.take o.es.length).length = len * inf.size := by rw [hs1]; simp; omega
      have hfitb : Builtin.nextslicecap (len + l.length) cap * inf.bytes ≤ 281474976710656 := by rw [hb1]; exact growslice_fits (by omega) (by omega)
      have hrun := Lib.run_append_grow_string (P := P) w t u ty o.ty inf (.int .u8 0) htu huu hinf hz0 ⟨g, 0, none⟩ len cap _ hol holds ⟨l.toArray⟩ (by rw [hbz]; omega) (by rw [hbz]; simp only [maxLen] at hl; omega) (by rw [hbz]; exact hfitb)
      rw [hbz] at hrun
      refine ⟨_, _, hrun, ?_⟩
      have hge := grownCap_ge w (len + l.length) cap o.ty
      have hcm : grownCap w (len + l.length) cap o.ty ≤ maxLen := grownCap_le_maxLen w (len + l.length) cap o.ty hl
      have hz1 : (Value.int IntKind.u8 0).cells.size = 1 := rfl
      have hkd : Keeps w (Own N0 μ S) w.drew := ⟨Nat.le_refl _, fun _ _ _ => rfl⟩
      have hr := h.drew.alloc hi d ((arr.toList.take o.es.length).toArray ++ (Lib.strCells ⟨l.toArray⟩).toArray ++ Builtin.zeroCells (Value.int .u8 0).cells (grownCap w (len + l.length) cap o.ty - (len + l.length))) o.ty 1 (grownCap w (len + l.length) cap o.ty) (o.es ++ l.map byV)
        (by simp only [Array.size_append, List.size_toArray, size_zeroCells, hz1, hcl, List.length_take, Array.length_toList]; omega) (by simpa [hlen] using hge) hcm hfit (row_cells hfit (by
          have e1 : ((arr.toList.take o.es.length).toArray ++ (Lib.strCells ⟨l.toArray⟩).toArray ++ Builtin.zeroCells (Value.int .u8 0).cells (grownCap w (len + l.length) cap o.ty - (len + l.length))).toList.take ((o.es ++ l.map byV).length * 1) = arr.toList.take o.es.length ++ Lib.strCells ⟨l.toArray⟩ := by
            simp only [Array.toList_append, List.length_append, List.length_map, Nat.mul_one]
            rw [List.take_append_of_le_length (by simp [hcl]; omega), List.take_of_length_le (by simp [hcl]; omega)]
          rw [e1, flat_append]
          exact Row.append ⟨hxs.1, fun j x c h1 h2 => (hxs.2 j x c h1 h2).keep hkd (fun _ _ hb => hb) (fun _ _ _ hh => hh)⟩ (byV_row _ _ l)))
      exact ⟨_, hr.putv hp (.slr d (S.nx + i) 1 _ w.heap.size _ (muSet_same _ _ _ _) hge hcm)⟩
theorem eff_append (h : RelM D w0 N0 μ S a w) {i : Nat} (hi : ¬ D i) {d dd v len : Nat} {t te : TypeId} {s x : Value} {xv : V} {sz' n b : Nat} {news : List V} {o : Ob} {S' : AS} {ty : TypeId}
    (ht : telem P t = some te) (hn : tsz P te = some n) (hb : tbytes P te = some b) (hs : Enc w (Own N0 μ S) μ s (.sl d v o.sz len)) (ho : get S.objs d = some o) (hov : o.v = v) (hlen : o.es.length = len) (hty : o.ty = te) (hsz : n = o.sz) (hpos : 0 < n)
    (hx : Enc w (Own N0 μ S) μ x xv) (he : S.elems xv = some (sz', news)) (hs' : news ≠ [] → sz' = o.sz) (hz0 : ∃ z, tzero P te = some z ∧ z.cells.length = n ∧ cellOk z = true) (hl : len + news.length ≤ maxLen) (hbb : (len + news.length) * b ≤ 140737488355328)
    (hp : AS.putv { S with objs := (d, ⟨S.nx + i, o.sz, te, o.es ++ news⟩) :: S.objs } (some dd) (.sl d (S.nx + i) o.sz (len + news.length)) = some S') :
    ∃ y w', (Builtin.append_ #[t, t] ty #[s, x]).run P w = .ok y w' ∧ RelD (fun j => D j ∨ j = i) w0 N0 S' (a.put (some dd) y) w' := by
  subst hov
  cases hs with
  | pur hs => cases hs
  | slv _ _ _ B hm =>
    have hnil : o.es = [] := by
      obtain ⟨l, hl', hob⟩ := h.objs d o ho
      rw [hm] at hl'
      injection hl' with hl'
      subst hl'
      exact hob
    rw [hnil] at hp
    simp only [List.nil_append, Nat.zero_add] at hp hl hbb
    subst hsz
    exact eff_append0 h hi ht hn hb hx he hs' hz0 hl hbb hp
  | slr _ _ _ _ g cap hm hle hmax =>
    have hu := telem_underlying ht
    unfold tsz at hn
    obtain ⟨inf, hinf, rfl⟩ := Option.map_eq_some_iff.1 hn
    unfold tbytes at hb
    obtain ⟨inf', hinf', rfl⟩ := Option.map_eq_some_iff.1 hb
    rw [hinf] at hinf'
    injection hinf' with hinf'
    subst hinf'
    obtain ⟨A, c, rfl, hlc, hrest⟩ := h.elems hx he
    obtain ⟨l, hl', hob⟩ := h.objs d o ho
    rw [hm] at hl'
    injection hl' with hl'
    subst hl'
    have hob' := hob
    obtain ⟨o1, o2, o3, o4, arr, o5, o6, o7⟩ := hob
    by_cases hne : news = []
    · subst hne
      refine ⟨_, w, append_zero hu hinf hle, ?_⟩
      have hmono := h.muSet_mono hi d (some (g, cap))
      obtain ⟨hr, _⟩ := h.update (D' := fun j => D j ∨ j = i) (d := d) (o' := ⟨S.nx + i, o.sz, te, o.es ++ []⟩) (l' := some (g, cap)) (w' := w) (μ' := muSet μ d (S.nx + i) (some (g, cap))) hmono (h.muSet_fresh i d _) (muSet_same _ _ _ _) h.below (Keeps.refl _ _)
        (fun _ _ _ _ _ _ _ => rfl) (fun g' c' e => by
          simp only [Option.some.injEq, Prod.mk.injEq] at e
          obtain ⟨rfl, rfl⟩ := e
          exact .inr ⟨o, cap, ho, hm⟩) (fun N' hN => by
          have := hob'.keep (w' := w) (N' := N') (μ' := muSet μ d (S.nx + i) (some (g, cap))) (Keeps.refl _ _) hN hmono (fun _ _ _ => rfl)
          rw [List.append_nil, ← hty]
          exact this)
      exact ⟨_, hr.putv hp (.slr d (S.nx + i) o.sz len g cap (muSet_same _ _ _ _) hle hmax)⟩
    · obtain ⟨hf, ad, vs, rfl, hvl, hvc, hrow⟩ := hrest hne
      have hs2 := hs' hne
      subst hs2
      obtain ⟨z, hz1, hz2, hz3⟩ := hz0
      have hzz := hz1
      unfold tzero at hzz
      obtain ⟨inf2, hinf2, hzz⟩ := Option.bind_eq_some_iff.1 hzz
      rw [hinf] at hinf2
      injection hinf2 with hinf2
      subst hinf2
      obtain ⟨zv, hzv, hzz⟩ := Option.bind_eq_some_iff.1 hzz
      have hzp := zeroOf_pur hzz w (Own N0 μ S)
      have hzs : zv.cells.size = inf.size := by
        have := (Enc.pur (μ := μ) hzp).cells_at (cellOk_fits hz3)
        rw [this.1, hz2]
      subst hty
      have hxs := cells_row (w := w) (N := Own N0 μ S) (μ := μ) o4 (by rw [o6]; exact Nat.mul_le_mul_right _ o2) o7
      have hown : w.ownsRow 0 o.ty o.sz (.slice (some ⟨g, 0, none⟩) len cap) len (arr.toList.take (o.es.length * o.sz)) := by
        refine ⟨by rw [hxs.1, flat_length o4, hlen], .inr ⟨g, cap, arr, rfl, Nat.zero_le _, o5, hle, hmax, o6, by rw [hlen]⟩⟩
      have hone : ∀ u ∈ vs, u.oneCell' = true := by
        intro u hu'
        obtain ⟨j, hj⟩ := List.getElem?_of_mem hu'
        have hjl : j < (flat news).length := by rw [← hrow.1]; exact (List.getElem?_eq_some_iff.1 hj).1
        have hc := List.getElem?_eq_getElem hjl
        refine (hrow.2 j u _ hj hc).cell_oneCell ?_
        have hmem := List.mem_of_getElem? hc
        unfold flat at hmem
        obtain ⟨e, he1, he2⟩ := List.mem_flatMap.1 hmem
        exact (hf e he1).2 _ he2
      obtain ⟨y, w', hrun, hown', hgrow, hnil, hat⟩ := run_append_own_at (P := P) w 0 t ty o.ty inf zv o.sz inf.bytes hu hinf hzv hsz rfl (by rw [hzs]; exact hsz) (by omega) (.slice (some ⟨g, 0, none⟩) len cap) len _ hown
        ad news.length c vs hvl hvc hone hl hbb (Nat.zero_le _)
      refine ⟨y, w', hrun, ?_⟩
      have hcount : 0 < len + news.length := by have := List.length_pos_iff.2 hne; omega
      obtain ⟨hw1, hw2 | ⟨g', cap', cur, rfl, q1, q2, q3, q4, q5, q6⟩⟩ := hown'
      · omega
      · have hgg : g' = g ∨ g' = w.heap.size := by
          simpa [Value.ownBlock] using hat
        have hblk : ∀ k, k < w.heap.size → k ≠ g → w'.heap[k]? = w.heap[k]? := fun k hk hkg => hgrow.block k hk (by simpa [Value.ownBlock] using hkg)
        have hgl : g < w.heap.size := (Array.getElem?_eq_some_iff.1 o5).1
        have hmono := h.muSet_mono hi d (some (g', cap'))
        have hkeep : Keeps w (Own N0 μ S) w' := ⟨hgrow.size, fun k hk hN => hblk k hk (fun e => hN (by subst e; exact .inr ⟨d, o, cap, ho, hm⟩))⟩
        have hfit : ∀ e ∈ o.es ++ news, e.fits o.sz := fun e he => by
          rcases List.mem_append.1 he with h1 | h1
          · exact o4 e h1
          · exact hf e h1
        obtain ⟨hr, _⟩ := h.update (D' := fun j => D j ∨ j = i) (d := d) (o' := ⟨S.nx + i, o.sz, o.ty, o.es ++ news⟩) (l' := some (g', cap')) (w' := w') (μ' := muSet μ d (S.nx + i) (some (g', cap'))) hmono (h.muSet_fresh i d _) (muSet_same _ _ _ _)
          (h.below.grown hgrow h.below.size (fun k hk => by simp [Value.ownBlock] at hk; subst hk; exact o1)) hkeep
          (fun d1 o1' g1 c1 hne1 h1 h2 => hblk g1 (h.block_lt h1 h2) (fun e => hne1 (by subst e; exact h.inj _ _ _ _ _ _ _ h1 ho h2 hm)))
          (fun g2 c2 e => by
            simp only [Option.some.injEq, Prod.mk.injEq] at e
            obtain ⟨rfl, rfl⟩ := e
            rcases hgg with rfl | rfl
            · exact .inr ⟨o, cap, ho, hm⟩
            · exact .inl (Nat.le_refl _))
          (fun N' hN => by
            refine ⟨by rcases hgg with rfl | rfl; exact o1; exact .inl h.below.size, by simp [hlen]; exact q3, q4, hfit, cur, q2, q5, ?_⟩
            refine row_cells hfit ?_
            have e1 : (o.es ++ news).length * o.sz = (len + news.length) * o.sz := by simp [hlen]
            rw [e1, q6, flat_append]
            refine Row.append ⟨hxs.1, fun j x c h1 h2 => (hxs.2 j x c h1 h2).keep hkeep hN hmono⟩ ⟨hrow.1, fun j x c h1 h2 => (hrow.2 j x c h1 h2).keep hkeep hN hmono⟩)
        exact ⟨_, hr.putv hp (.slr d (S.nx + i) o.sz _ g' cap' (muSet_same _ _ _ _) q3 q4)⟩
end
end Go.Eng

namespace Go.Eng
open Go.RowKit
theorem bs_setRow {B : Bs} {w : World} (h : B.Below w) {g : Nat} (hg : B.free g) (arr : Array Value) : B.Below (w.setRow g arr) :=
  ⟨h.os, h.tape, h.output, by simpa using h.size, fun k hk hx => by
    rw [setRow_other w g k _ (fun e => by subst e; rcases hg with h | h; omega; exact hx h)]
    exact h.block k hk hx⟩
section
variable {D : Nat → Prop} {w0 : Bs} {w : World} {N0 : Nat → Prop} {μ : Mu} {S : AS} {a : Act} {P : Program}
theorem tok_spec {t n : Nat} (h : tok P t = some n) : ∃ z, tzero P t = some z ∧ tsz P t = some n ∧ z.cells.length = n ∧ cellOk z = true ∧ 0 < n := by
  unfold tok at h
  split at h
  case h_2 => cases h
  rename_i z m h1 h2
  split at h
  case isFalse => cases h
  rename_i hb
  injection h with h
  subst h
  exact ⟨z, h1, h2, hb.1, hb.2.1, hb.2.2⟩
theorem eff_store (h : RelM D w0 N0 μ S a w) {t d v k off n : Nat} {x y : Value} {u e : V} {o : Ob} (hx : Enc w (Own N0 μ S) μ x (.bp d v o.sz k off)) (hy : Enc w (Own N0 μ S) μ y u) (hn : tsz P t = some n) (ho : get S.objs d = some o)
    (hov : o.v = v) (hu : u.cells.length = n) (huk : cellOk u = true) (hpos : 0 < n) (hk : o.es[k]? = some e) (hle : off + n ≤ e.cells.length) :
    ∃ w', (Instr.storeAt t x y).run P w = .ok () w' ∧ RelM D w0 N0 μ { S with objs := (d, { o with es := o.es.set k (e.setPart off u) }) :: S.objs } a w' := by
  subst hov
  subst hu
  cases hx with
  | pur hx => cases hx
  | bp _ _ _ _ _ g cap hm =>
  obtain ⟨l, hl', hob⟩ := h.objs d o ho
  rw [hm] at hl'
  injection hl' with hl'
  subst hl'
  obtain ⟨o1, o2, o3, o4, arr, o5, o6, o7⟩ := hob
  have hfe := o4 e (List.mem_of_getElem? hk)
  have hrowy := hy.row huk
  have hys : y.cells.toList.length = u.cells.length := hrowy.1
  have hsc := setPart_cells (u := u) hle hpos
  have hfe' : (e.setPart off u).fits o.sz := by
    refine ⟨by rw [hsc]; simp; have := hfe.1; omega, fun c hc => ?_⟩
    rw [hsc] at hc
    simp only [List.mem_append] at hc
    rcases hc with (hc | hc) | hc
    · exact hfe.2 c (List.mem_of_mem_take hc)
    · exact List.all_eq_true.1 huk c hc
    · exact hfe.2 c (List.mem_of_mem_drop hc)
  have hkl : k < o.es.length := (List.getElem?_eq_some_iff.1 hk).1
  have hbound : k * o.sz + off + u.cells.length ≤ o.es.length * o.sz := by
    have h1 : (k + 1) * o.sz ≤ o.es.length * o.sz := Nat.mul_le_mul_right _ hkl
    have h2 := hfe.1
    rw [Nat.add_mul] at h1
    omega
  have hcapb : o.es.length * o.sz ≤ arr.size := by rw [o6]; exact Nat.mul_le_mul_right _ o2
  have hone : ∀ v ∈ y.cells.toList, v.oneCell' = true := by
    intro v hv
    obtain ⟨j, hj⟩ := List.getElem?_of_mem hv
    have hjl : j < u.cells.length := by rw [← hys]; exact (List.getElem?_eq_some_iff.1 hj).1
    have hc := List.getElem?_eq_getElem hjl
    exact (hrowy.2 j v _ hj hc).cell_oneCell (List.all_eq_true.1 huk _ (List.getElem_mem hjl))
  have hst := run_storeCells_at (P := P) g (k * o.sz + off) o.ty y.cells.toList 0 arr w o5 (by rw [hys]; omega) hone
  simp only [Nat.add_zero, hys] at hst
  refine ⟨w.setRow g (arr.toList.take (k * o.sz + off) ++ y.cells.toList ++ arr.toList.drop (k * o.sz + off + u.cells.length)).toArray, ?_, ?_⟩
  · have hcs : y.cells.size = u.cells.length := by simpa using hys
    simp only [Instr.storeAt, Instr.sureAddr, Sem.run_bind, Sem.run_pure, Result.andThen_ok, storeVar, tsz_run hn, hcs, ne_eq, not_true_eq_false, if_false, hst]
  · have hkeep : Keeps w (Own N0 μ S) (w.setRow g (arr.toList.take (k * o.sz + off) ++ y.cells.toList ++ arr.toList.drop (k * o.sz + off + u.cells.length)).toArray) :=
      ⟨by simp, fun b hb hN => setRow_other w g b _ (fun e => hN (by subst e; exact .inr ⟨d, o, cap, ho, hm⟩))⟩
    refine (h.update (D' := D) (d := d) (o' := { o with es := o.es.set k (e.setPart off u) }) (l' := some (g, cap)) (μ' := μ) (fun _ _ _ hh => hh) h.fresh hm (bs_setRow h.below o1 _) hkeep
      (fun d1 o1' g1 c1 hne1 h1 h2 => setRow_other w g g1 _ (fun e => hne1 (by subst e; exact h.inj _ _ _ _ _ _ _ h1 ho h2 hm)))
      (fun g2 c2 e => by
        simp only [Option.some.injEq, Prod.mk.injEq] at e
        obtain ⟨rfl, rfl⟩ := e
        exact .inr ⟨o, cap, ho, hm⟩) (fun N' hN => ?_)).1
    have hfit : ∀ e1 ∈ o.es.set k (e.setPart off u), e1.fits o.sz := fun e1 he1 => by
      rcases List.mem_or_eq_of_mem_set he1 with h1 | h1
      · exact o4 e1 h1
      · subst h1; exact hfe'
    refine ⟨o1, by simpa using o2, o3, hfit, _, setRow_heap w g arr _ o.ty (0, 0) o5, ?_, ?_⟩
    · simp only [List.size_toArray, List.length_append, List.length_take, List.length_drop, Array.length_toList, hys]
      rw [← o6]
      omega
    · refine row_cells hfit ?_
      have hxs := cells_row (w := w) (N := Own N0 μ S) (μ := μ) o4 hcapb o7
      have hxs' : Row (w.setRow g (arr.toList.take (k * o.sz + off) ++ y.cells.toList ++ arr.toList.drop (k * o.sz + off + u.cells.length)).toArray) N' μ (arr.toList.take (o.es.length * o.sz)) (flat o.es) := ⟨hxs.1, fun j x c h1 h2 => (hxs.2 j x c h1 h2).keep hkeep hN (fun _ _ _ hh => hh)⟩
      have hry' : Row (w.setRow g (arr.toList.take (k * o.sz + off) ++ y.cells.toList ++ arr.toList.drop (k * o.sz + off + u.cells.length)).toArray) N' μ y.cells.toList u.cells := ⟨hrowy.1, fun j x c h1 h2 => (hrowy.2 j x c h1 h2).keep hkeep hN (fun _ _ _ hh => hh)⟩
      rw [flat_set o4 hk hle hsc]
      simp only [List.length_set]
      have e1 : (arr.toList.take (k * o.sz + off) ++ y.cells.toList ++ arr.toList.drop (k * o.sz + off + u.cells.length)).toArray.toList.take (o.es.length * o.sz) =
          (arr.toList.take (o.es.length * o.sz)).take (k * o.sz + off) ++ y.cells.toList ++ (arr.toList.take (o.es.length * o.sz)).drop (k * o.sz + off + u.cells.length) := by
        rw [List.take_take, Nat.min_eq_left (by omega), List.drop_take]
        simp only [List.append_assoc]
        rw [List.take_append, List.take_append]
        have hA : (arr.toList.take (k * o.sz + off)).length = k * o.sz + off := by simp; omega
        rw [hA, hys, List.take_of_length_le (by rw [hA]; omega), List.take_of_length_le (l := y.cells.toList) (by rw [hys]; omega)]
        congr 3
        omega
      rw [e1]
      exact ((hxs'.take _).append hry').append (hxs'.drop _)
theorem asets_fits {sz : Nat} : ∀ {vs : List (Nat × V)} {es r : List V}, (∀ e ∈ es, e.fits sz) → asets sz es vs = some r → (∀ e ∈ r, e.fits sz) ∧ r.length = es.length
  | [], es, r, h, hr => by simp only [asets, Option.some.injEq] at hr; subst hr; exact ⟨h, rfl⟩
  | (i, v) :: vs, es, r, h, hr => by
    simp only [asets] at hr
    split at hr
    case isFalse => cases hr
    rename_i hb
    obtain ⟨h1, h2⟩ := asets_fits (es := es.set i v) (fun e he => by
      rcases List.mem_or_eq_of_mem_set he with h1 | h1
      · exact h e h1
      · subst h1; rw [← hb.1]; exact cellOk_fits hb.2.2) hr
    exact ⟨h1, by simpa using h2⟩
theorem fills_run {N : Nat → Prop} {sz : Nat} (hsz : 0 < sz) : ∀ (vs : List (Nat × V)) (ps : List (Nat × Value)) (es : List V) (cells : Array Value) (r : List V), ps.length = vs.length →
    (∀ (j : Nat) p q, ps[j]? = some p → vs[j]? = some q → p.1 = q.1 ∧ Enc w N μ p.2 q.2) → (∀ e ∈ es, e.fits sz) → Row w N μ cells.toList (flat es) → asets sz es vs = some r →
    ∃ out, Instr.fill (fun i => some (i * sz, sz)) cells ps = some out ∧ Row w N μ out.toList (flat r)
  | [], [], es, cells, r, _, _, _, hr, h => by
    simp only [asets, Option.some.injEq] at h
    subst h
    exact ⟨cells, rfl, hr⟩
  | [], _ :: _, _, _, _, h, _, _, _, _ => by simp at h
  | _ :: _, [], _, _, _, h, _, _, _, _ => by simp at h
  | (i, v) :: vs, (i', x) :: ps, es, cells, r, hl, hp, hf, hr, h => by
    obtain ⟨e, hx⟩ := hp 0 _ _ rfl rfl
    simp only at e hx
    subst e
    simp only [asets] at h
    split at h
    case isFalse => cases h
    rename_i hb
    obtain ⟨hv1, hv2, hv3⟩ := hb
    have hrow := hx.row hv3
    have hxs : x.cells.size = sz := by have := hrow.1; simp at this; omega
    have hcs : cells.size = es.length * sz := by have := hr.1; rw [flat_length hf] at this; simpa using this
    have hk := List.getElem?_eq_getElem hv2
    have hfe := hf _ (List.getElem_mem hv2)
    have hfs := flat_set hf (k := i') (e := es[i']) (e' := v) (off := 0) (us := v.cells) hk (by have := hfe.1; omega) (by
      have := hfe.1
      rw [List.drop_of_length_le (by omega)]
      simp)
    have hm : (i' + 1) * sz ≤ es.length * sz := Nat.mul_le_mul_right _ hv2
    rw [Nat.add_mul, Nat.one_mul] at hm
    have hnew : Row w N μ (x.cells.zipIdx.foldl (fun cs p => cs.setIfInBounds (i' * sz + p.2) p.1) cells).toList (flat (es.set i' v)) := by
      rw [← Array.foldl_toList, Array.toList_zipIdx, foldl_set (i' * sz) x.cells.toList 0 cells (by simp; omega), hfs]
      simp only [Nat.add_zero, Array.length_toList, hxs, hv1]
      exact ((hr.take _).append hrow).append (hr.drop _)
    obtain ⟨out, h1, h2⟩ := fills_run hsz vs ps (es.set i' v) _ r (by simpa using hl) (fun j p q h1 h2 => hp (j + 1) p q (by simpa using h1) (by simpa using h2)) (fun e he => by
      rcases List.mem_or_eq_of_mem_set he with h1 | h1
      · exact hf e h1
      · subst h1; rw [← hv1]; exact cellOk_fits hv3) hnew h
    refine ⟨out, ?_, h2⟩
    simp only [Instr.fill, hxs]
    rw [if_neg (by simp; omega)]
    exact h1
theorem zeros_row {N : Nat → Prop} {zc : Array Value} {z : V} {sz n : Nat} (hz : Row w N μ zc.toList z.cells) (hs : z.cells.length = sz) (hpos : 0 < sz) (hf : z.fits sz) :
    Row w N μ ((Array.range (n * sz)).map (zc[· % zc.size]!)).toList (flat (List.replicate n z)) := by
  have hfit : ∀ e ∈ List.replicate n z, e.fits sz := fun e he => by rw [List.eq_of_mem_replicate he]; exact hf
  have hzs : zc.size = sz := by have := hz.1; simp at this; omega
  refine ⟨by rw [flat_length hfit]; simp, fun i x c hx hc => ?_⟩
  have hi : i < n * sz := by have := (List.getElem?_eq_some_iff.1 hx).1; simpa using this
  have hk : i / sz < n := Nat.div_lt_of_lt_mul (by rw [Nat.mul_comm]; exact hi)
  have hmod : i % sz < sz := Nat.mod_lt _ hpos
  have hj : i % sz < z.cells.length := by omega
  have e1 : i / sz * sz + i % sz = i := by rw [Nat.mul_comm]; exact Nat.div_add_mod i sz
  have hfl := flat_get hfit (k := i / sz) (e := z) (by simp [hk]) (List.getElem?_eq_getElem hj)
  rw [e1, hc] at hfl
  injection hfl with hfl
  subst hfl
  have hzx : zc.toList[i % sz]? = some (zc[i % sz]'(by omega)) := by simp [hzs, hmod]
  have := hz.2 _ _ _ hzx (List.getElem?_eq_getElem hj)
  have hxx : x = zc[i % sz]'(by omega) := by
    simp only [Array.toList_map, Array.toList_range, List.getElem?_map, List.getElem?_range hi, Option.map_some, Option.some.injEq, hzs] at hx
    rw [← hx]
    simp [hzs, hmod]
  rw [hxx]
  exact this
theorem aeff_run (h : RelM D w0 N0 μ S a w) {i kd : Nat} (hi : ¬ D i) {o : Oper} {S' : AS} (hv : aeff P i S o.dst kd o.op = some S') :
    ∃ x w', Does P o a w x w' ∧ RelD (fun j => D j ∨ j = i) w0 N0 S' (a.put o.dst x) w' := by
  unfold aeff at hv
  split at hv
  case h_2 => cases hv
  rename_i O val hc0
  unfold Does execOp
  cases hop : o.op <;> rw [hop] at hc0 <;> simp only [acore] at hc0 <;> (try (cases hc0; done)) <;> dsimp only
  case alloc t =>
    split at hc0
    case h_2 => cases hc0
    rename_i d z n hd hz hk
    simp only [Option.some.injEq, Prod.mk.injEq] at hc0
    obtain ⟨rfl, rfl⟩ := hc0
    obtain ⟨z', hz', h2, h3, h4, h5⟩ := tok_spec hk
    rw [hz] at hz'
    injection hz' with hz'
    subst hz'
    subst h3
    obtain ⟨zv, hrun, hpz⟩ := tzero_run hz w (Own N0 μ S)
    rw [hd] at hv ⊢
    obtain ⟨μ', hr⟩ := eff_newVar h hi (t := t) (.pur hpz) h4 hv
    refine ⟨_, _, .inl ?_, ⟨μ', hr⟩⟩
    simp only [Sem.run_bind, Instr.alloc, hrun, Result.andThen_ok, newVar, newRow, run_newObj, World.alloc_eq, Sem.run_pure]
  case box t x =>
    split at hc0
    case h_2 => cases hc0
    rename_i d z hd hz
    split at hc0
    case isFalse => cases hc0
    rename_i hok
    simp only [Option.some.injEq, Prod.mk.injEq] at hc0
    obtain ⟨rfl, rfl⟩ := hc0
    rw [hd] at hv ⊢
    obtain ⟨μ', hr⟩ := eff_newVar h hi (t := t) (h.evc hz rfl) hok hv
    refine ⟨_, _, .inl ?_, ⟨μ', hr⟩⟩
    simp only [Sem.run_bind, Instr.box, newVar, newRow, run_newObj, World.alloc_eq, Result.andThen_ok, Sem.run_pure]
  case buildSlice t len parts =>
    split at hc0
    case h_2 => cases hc0
    rename_i d te vs hd hte hvs
    split at hc0
    case h_2 => cases hc0
    rename_i z n hz hk
    split at hc0
    case isFalse => cases hc0
    rename_i hle
    split at hc0
    case h_2 => cases hc0
    rename_i es hes
    simp only [Option.some.injEq, Prod.mk.injEq] at hc0
    obtain ⟨rfl, rfl⟩ := hc0
    obtain ⟨z', hz', h2, h3, h4, h5⟩ := tok_spec hk
    rw [hz] at hz'
    injection hz' with hz'
    subst hz'
    have hu := telem_underlying hte
    obtain ⟨zv, hrun, hpz⟩ := tzero_run hz w (Own N0 μ S)
    obtain ⟨e1, e2⟩ := h.evs rfl hvs
    have hfz : z.fits n := by rw [← h3]; exact cellOk_fits h4
    have hfr : ∀ e ∈ List.replicate len z, e.fits n := fun e he => by rw [List.eq_of_mem_replicate he]; exact hfz
    have hzrow : Row w (Own N0 μ S) μ zv.cells.toList z.cells := (Enc.pur (μ := μ) hpz).row h4
    have hzr := zeros_row (n := len) hzrow h3 h5 hfz
    obtain ⟨out, f1, f2⟩ := fills_run (w := w) (μ := μ) (N := Own N0 μ S) h5 vs (parts.toList.map fun p => (p.1, a.eval p.2)) (List.replicate len z) _ es (by simp [e1]) (fun j p q hp hq => by
      simp only [List.getElem?_map, Option.map_eq_some_iff] at hp
      obtain ⟨p', hp', rfl⟩ := hp
      exact e2 j p' q hp' hq) hfr hzr hes
    obtain ⟨g1, g2⟩ := asets_fits hfr hes
    have hlen : es.length = len := by simpa using g2
    have hos : out.size = len * n := by have := f2.1; rw [flat_length g1, hlen] at this; simpa using this
    have hmax : len ≤ maxLen := by
      have : len ≤ len * n := Nat.le_mul_of_pos_right _ h5
      simp only [maxLen]; omega
    rw [hd] at hv ⊢
    have hr := h.alloc hi kd out te n len es hos (by omega) hmax g1 (row_cells g1 (by rw [hlen, List.take_of_length_le (by simp [hos])]; exact f2))
    refine ⟨_, _, .inl ?_, ⟨_, hr.putv hv (.slr kd (S.nx + i) n len w.heap.size len (muSet_same _ _ _ _) (Nat.le_refl _) hmax)⟩⟩
    have hnot : ¬ (len * n > 2 ^ 24) := by omega
    by_cases h0 : len * n = 0
    · have hf1 : Instr.fill (fun i => some (i * n, n)) ((Array.range (len * n)).map fun x => (#[] : Array Value)[x % (#[] : Array Value).size]!) (parts.toList.map fun p => (p.1, a.eval p.2)) = some out := by
        rw [← f1, h0, Array.range_zero', Array.map_empty, Array.map_empty]
      simp only [Sem.run_bind, Instr.buildSlice, run_underlying hu, Result.andThen_ok, tsz_run h2, if_neg hnot, if_pos h0, Sem.run_pure, eval_map_parts, hf1, newRow, run_newObj, World.alloc_eq]
    · simp only [Sem.run_bind, Instr.buildSlice, run_underlying hu, Result.andThen_ok, tsz_run h2, if_neg hnot, if_neg h0, hrun, Sem.run_pure, eval_map_parts, f1, newRow, run_newObj, World.alloc_eq]
  case makeSlice t l c =>
    split at hc0
    case h_2 => cases hc0
    rename_i d te k1 lv k2 cv hd hte hl hc
    split at hc0
    case h_2 => cases hc0
    rename_i z n b hz hk hb
    split at hc0
    case isFalse => cases hc0
    rename_i hcond
    simp only [Option.some.injEq, Prod.mk.injEq] at hc0
    obtain ⟨rfl, rfl⟩ := hc0
    obtain ⟨c1, c2, c3, c4⟩ := hcond
    obtain ⟨z', hz', h2, h3, h4, h5⟩ := tok_spec hk
    rw [hz] at hz'
    injection hz' with hz'
    subst hz'
    have hu := telem_underlying hte
    obtain ⟨zv, hrun, hpz⟩ := tzero_run hz w (Own N0 μ S)
    have hfz : z.fits n := by rw [← h3]; exact cellOk_fits h4
    have hzrow : Row w (Own N0 μ S) μ zv.cells.toList z.cells := (Enc.pur (μ := μ) hpz).row h4
    have hzr := zeros_row (n := cv.toNat) hzrow h3 h5 hfz
    have hfr : ∀ m, ∀ e ∈ List.replicate m z, e.fits n := fun m e he => by rw [List.eq_of_mem_replicate he]; exact hfz
    have hlv := h.evc hl rfl
    have hcv := h.evc hc rfl
    generalize a.eval l = lx at hlv ⊢
    generalize a.eval c = cx at hcv ⊢
    cases hlv with
    | pur hlv =>
    cases hlv with
    | int =>
    cases hcv with
    | pur hcv =>
    cases hcv with
    | int =>
    unfold tbytes at hb
    obtain ⟨inf, hinf, rfl⟩ := Option.map_eq_some_iff.1 hb
    have hmax : cv.toNat ≤ maxLen := by simp only [maxLen]; omega
    have hsame : (List.replicate lv.toNat z) = (List.replicate cv.toNat z).take lv.toNat := by
      rw [List.take_replicate, Nat.min_eq_left (by omega)]
    rw [hd] at hv ⊢
    have hr := h.alloc hi kd ((Array.range (cv.toNat * n)).map (zv.cells[· % zv.cells.size]!)) te n cv.toNat (List.replicate lv.toNat z) (by simp) (by simp; omega) hmax (hfr _) (fun k e j c hk hj => by
      have hk' : (List.replicate cv.toNat z)[k]? = some e := by
        rw [hsame] at hk
        have hkl : k < lv.toNat := by have := (List.getElem?_eq_some_iff.1 hk).1; simp at this; omega
        rwa [List.getElem?_take_of_lt hkl] at hk
      exact row_cells (hfr _) (by rw [List.take_of_length_le (by simp)]; exact hzr) k e j c hk' hj)
    refine ⟨_, _, .inl ?_, ⟨_, hr.putv hv (.slr kd (S.nx + i) n lv.toNat w.heap.size cv.toNat (muSet_same _ _ _ _) (by omega) hmax)⟩⟩
    have hmk := run_make (P := P) w t te inf zv hu hinf (by
      unfold tzero at hz
      obtain ⟨inf', hinf', hz⟩ := Option.bind_eq_some_iff.1 hz
      rw [hinf] at hinf'
      injection hinf' with hinf'
      subst hinf'
      obtain ⟨zv', hzv', hz⟩ := Option.bind_eq_some_iff.1 hz
      simp only [zeroValue, typeInfo, Sem.run_bind, run_program, hinf, Result.andThen_ok, hzv', Sem.run_pure, Result.ok.injEq] at hrun
      rw [← hrun.1]; exact hzv') k1 k2 lv cv (by omega) (by omega) c4 (by omega)
    have hns : inf.size = n := by
      unfold tsz at h2
      rw [hinf] at h2
      simpa using h2
    rw [Sem.run_bind, hmk, Result.andThen_ok, hns]
    rfl
  case store t x y =>
    split at hc0
    case h_2 => cases hc0
    rename_i d v sz k off u n hx hy hn
    split at hc0
    case h_2 => cases hc0
    rename_i ob hob
    split at hc0
    case isFalse => cases hc0
    rename_i hb
    obtain ⟨b1, b2, b3, b4, b5⟩ := hb
    split at hc0
    case h_2 => cases hc0
    rename_i e he
    rw [nth_eq] at he
    split at hc0
    case isFalse => cases hc0
    rename_i hle
    simp only [Option.some.injEq, Prod.mk.injEq] at hc0
    obtain ⟨rfl, rfl⟩ := hc0
    subst b2
    obtain ⟨w', hrun, hr⟩ := eff_store (P := P) h (h.evc hx rfl) (h.evc hy rfl) hn hob b1 b3 b4 b5 he hle
    refine ⟨undef, w', .inr ⟨?_, rfl⟩, ⟨μ, (hr.putv hv (.whn _ _ _ (fun hf => (by cases hf)) (fun _ => rfl))).more (fun j hj => .inl hj)⟩⟩
    simp only [Sem.run_bind, hrun, Result.andThen_ok, Sem.run_pure]
  case call cl =>
    obtain ⟨callee, args, argTypes⟩ := cl
    cases callee with
    | value f => cases hc0
    | invoke r m => cases hc0
    | builtin b =>
    cases b <;> simp only at hc0 <;> try (cases hc0; done)
    split at hc0
    case h_2 => cases hc0
    rename_i s x t t' dd ha ht hdd
    have ha' : args = #[s, x] := by apply Array.ext'; simpa using ha
    have ht' : argTypes = #[t, t'] := by apply Array.ext'; simpa using ht
    subst ha'
    subst ht'
    simp only [Sem.run_bind, resolve, Sem.run_pure, Result.andThen_ok, invoke, builtin, List.map_toArray, List.map_cons, List.map_nil]
    rw [hdd] at hv ⊢
    split at hc0
    · rename_i htt
      subst htt
      split at hc0
      case h_2 => cases hc0
      rename_i sv xv te h1 h2 h3
      split at hc0
      case h_2 => cases hc0
      rename_i sz' news n b h4 h5 h6
      obtain ⟨z, k1, k2, k3, k4, k5⟩ := tok_spec h5
      split at hc0
      · rename_i d v sz len
        split at hc0
        case h_2 => cases hc0
        rename_i ob hob
        split at hc0
        case isFalse => cases hc0
        rename_i hb
        obtain ⟨b1, b2, b3, b4, b5, b6, b7, b8⟩ := hb
        simp only [Option.some.injEq, Prod.mk.injEq] at hc0
        obtain ⟨rfl, rfl⟩ := hc0
        subst b2
        obtain ⟨y, w', hrun, hr⟩ := eff_append (P := P) (ty := o.type) h hi h3 k2 h6 (h.evc h1 rfl) hob b1 b3 b4 b5 k5 (h.evc h2 rfl) h4 b6 ⟨z, k1, k3, k4⟩ b7 b8 hv
        exact ⟨y, w', .inl (by rw [hrun]; rfl), hr⟩
      · split at hc0
        case isFalse => cases hc0
        rename_i hb
        obtain ⟨b6, b7, b8⟩ := hb
        simp only [Option.some.injEq, Prod.mk.injEq] at hc0
        obtain ⟨rfl, rfl⟩ := hc0
        have hsv := h.evc h1 rfl
        generalize a.eval s = sx at hsv ⊢
        cases hsv with
        | pur hsv =>
        cases hsv with
        | nils B =>
        obtain ⟨y, w', hrun, hr⟩ := eff_append0 (P := P) (ty := o.type) (B := B) h hi h3 k2 h6 (h.evc h2 rfl) h4 b6 ⟨z, k1, k3, k4⟩ b7 b8 hv
        exact ⟨y, w', .inl (by rw [hrun]; rfl), hr⟩
      · cases hc0
    · split at hc0
      case isFalse => cases hc0
      rename_i hsb
      obtain ⟨hs1, hs2⟩ := hsb
      split at hc0
      case h_2 => cases hc0
      rename_i sv l te h1 h2 h3
      split at hc0
      case h_2 => cases hc0
      rename_i h5
      have hxv := h.evc h2 rfl
      have hxe : a.eval x = .string ⟨l.toArray⟩ := by
        generalize a.eval x = y at hxv
        cases hxv with
        | pur hxv => cases hxv; rfl
      rw [hxe]
      have hz := tz8_spec h5
      split at hc0
      · rename_i d v sz len
        split at hc0
        case h_2 => cases hc0
        rename_i ob hob
        split at hc0
        case isFalse => cases hc0
        rename_i hb
        obtain ⟨b1, b2, b3, b4, b5, b6, b7⟩ := hb
        simp only [Option.some.injEq, Prod.mk.injEq] at hc0
        obtain ⟨rfl, rfl⟩ := hc0
        subst b2
        obtain ⟨y, w', hrun, hr⟩ := eff_appendS (P := P) (ty := o.type) h hi h3 hs1 hz (h.evc h1 rfl) hob b1 b3 b4 b5 b6 b7 hv
        exact ⟨y, w', .inl (by rw [hrun]; rfl), hr⟩
      · split at hc0
        case isFalse => cases hc0
        rename_i hb
        obtain ⟨b7, b8⟩ := hb
        simp only [Option.some.injEq, Prod.mk.injEq] at hc0
        obtain ⟨rfl, rfl⟩ := hc0
        have hsv := h.evc h1 rfl
        generalize a.eval s = sx at hsv ⊢
        cases hsv with
        | pur hsv =>
        cases hsv with
        | nils B =>
        obtain ⟨y, w', hrun, hr⟩ := eff_appendS0 (P := P) (ty := o.type) (B := B) h hi h3 hs1 hz b7 b8 hv
        exact ⟨y, w', .inl (by rw [hrun]; rfl), hr⟩
      · cases hc0
end
end Go.Eng

namespace Go.Eng
open Go.RowKit
def V.pureC : V → Bool
  | .sl .. | .ss .. | .bp .. | .whn .. | .agg _ | .tup _ | .mp .. | .clo .. | .rm .. | .mr .. => false
  | .ifc _ v => v.flat2
  | .fc _ us vs => us.all V.still && vs.all V.still
  | _ => true
def V.pureE (v : V) : Bool := v.cells.all V.pureC
theorem pureC_cell {v : V} (h : v.pureC = true) : v.isCell = true := by cases v <;> first | rfl | exact h | simp [V.pureC] at h
section
variable {D : Nat → Prop} {w0 : Bs} {w : World} {N0 : Nat → Prop} {μ : Mu} {S : AS} {a : Act} {P : Program}
theorem Enc.flat2 {N : Nat → Prop} {x : Value} {v : V} (h : Enc w N μ x v) (hc : v.isCell = true) (hp : v.flat2 = true) : Pur w N x v := by
  cases h with
  | pur h => exact h
  | agg => simp [V.isCell] at hc
  | _ => simp [V.flat2, V.flat1] at hp
theorem Enc.flatP {N : Nat → Prop} {x : Value} {v : V} (h : Enc w N μ x v) (hp : v.flat = true) : Pur w N x v := by
  cases h with
  | pur h => exact h
  | ifc t x v hc h => exact .ifc t x v hp (h.flat2 hc hp)
  | _ => simp [V.flat] at hp
theorem Enc.pureC {N : Nat → Prop} {x : Value} {v : V} (h : Enc w N μ x v) (hp : v.pureC = true) : Pur w N x v := by
  cases h with
  | pur h => exact h
  | ifc t x v hc h => exact .ifc t x v hp (h.flat2 hc hp)
  | _ => simp [V.pureC] at hp
theorem Enc.pureE {N : Nat → Prop} {x : Value} {v : V} (h : Enc w N μ x v) (hp : v.pureE = true) : Pur w N x v := by
  cases h with
  | pur h => exact h
  | agg xs cs hl hc hh => exact .agg xs cs hl hc (fun i x c h1 h2 => (hh i x c h1 h2).pureC (List.all_eq_true.1 hp c (List.mem_of_getElem? h2)))
  | ifc t x v hc h => exact (Enc.ifc t x v hc h).pureC (by simpa [V.pureE, V.cells] using hp)
  | _ => simp [V.pureE, V.cells, V.pureC] at hp
def AS.viewC (S : AS) (v : V) : Option V :=
  match v with
  | .sl .. | .ss .. => match S.elems v with
    | some (sz, es) => if es.all V.pureE = true then some (.ro sz es) else none
    | none => none
  | _ => if v.pureC = true then some v else none
def AS.viewL (S : AS) : List V → Option (List V)
  | [] => some []
  | v :: r => match S.viewC v, S.viewL r with
    | some u, some us => some (u :: us)
    | _, _ => none
def AS.view (S : AS) (v : V) : Option V :=
  match v with
  | .agg cs => match S.viewL cs with
    | some us => some (.agg us)
    | none => none
  | .tup _ => none
  | v => S.viewC v
theorem RelM.viewC (h : RelM D w0 N0 μ S a w) {x : Value} {v u : V} (hx : Enc w (Own N0 μ S) μ x v) (hv : S.viewC v = some u) : Pur w N0 x u ∧ u.isCell = true := by
  have hsub : ∀ b, b < w.heap.size → N0 b → Own N0 μ S b := fun b _ hb => .inl hb
  have key : ∀ (v u : V), Enc w (Own N0 μ S) μ x v → (match S.elems v with | some (sz, es) => if es.all V.pureE = true then some (V.ro sz es) else none | none => none) = some u → (∀ d v' sz len, v = .sl d v' sz len → True) → (∃ d v' sz off len, v = .ss d v' sz off len ∨ v = .sl d v' sz len) → Pur w N0 x u ∧ u.isCell = true := by
    intro v u hx hv _ hform
    split at hv
    case h_2 => cases hv
    rename_i sz es hes
    split at hv
    case isFalse => cases hv
    rename_i hp
    injection hv with hv
    subst hv
    refine ⟨?_, rfl⟩
    obtain ⟨A, c, rfl, hlc, hrest⟩ := h.elems hx hes
    by_cases hne : es = []
    · subst hne
      have hc : c ≤ maxLen := by
        obtain ⟨d, v', sz', off, len, rfl | rfl⟩ := hform
        · cases hx with
          | pur hx => cases hx
          | ss _ _ _ _ _ g c' cap A' h1 h2 h3 => exact h2
        · cases hx with
          | pur hx => cases hx
          | slr _ _ _ _ g cap h1 h2 h3 => exact h3
          | slv => simp [maxLen]
      exact .ro A ⟨0, 0, none⟩ 0 c sz [] (fun _ _ => undef) rfl hlc hc (fun h0 => absurd h0 (by simp)) (by simp) (by simp) (by simp)
    · obtain ⟨hf, ad, vs, rfl, hvl, hvc, hrow⟩ := hrest hne
      -- the row lies in a block of the call's own
      have hblk : ad.block < w.heap.size ∧ ¬ N0 ad.block ∧ c ≤ maxLen := by
        have hpos := List.length_pos_iff.2 hne
        obtain ⟨d, v', sz', off, len, rfl | rfl⟩ := hform
        · simp only [AS.elems] at hes
          split at hes
          case h_2 => cases hes
          rename_i o ho
          split at hes
          case isFalse => cases hes
          rename_i hb
          obtain ⟨rfl, rfl, hb3⟩ := hb
          simp only [Option.some.injEq, Prod.mk.injEq] at hes
          obtain ⟨rfl, rfl⟩ := hes
          have hl' : ((o.es.drop off).take len).length = len := by simp; omega
          rw [hl'] at hpos hx
          cases hx with
          | pur hx => cases hx
          | ss _ _ _ _ _ g c' cap A' h1 h2 h3 =>
            obtain ⟨hm, hA⟩ := h3 hpos
            injection hA with hA
            subst hA
            refine ⟨h.block_lt ho hm, fun hn => ?_, h2⟩
            have := h.n0.1 _ hn
            obtain ⟨l, hl, hob⟩ := h.objs d o ho
            rw [hm] at hl
            injection hl with hl
            subst hl
            exact absurd hob.1 (fun hf => hf.elim (fun h => by have := this.1; simp only at *; omega) this.2)
        · simp only [AS.elems] at hes
          split at hes
          case h_2 => cases hes
          rename_i o ho
          split at hes
          case isFalse => cases hes
          rename_i hb
          obtain ⟨rfl, rfl, hb3⟩ := hb
          simp only [Option.some.injEq, Prod.mk.injEq] at hes
          obtain ⟨rfl, rfl⟩ := hes
          rw [hb3] at hpos hx
          cases hx with
          | pur hx => cases hx
          | slr _ _ _ _ g cap hm h2 h3 =>
            refine ⟨h.block_lt ho hm, fun hn => ?_, h3⟩
            have := h.n0.1 _ hn
            obtain ⟨l, hl, hob⟩ := h.objs d o ho
            rw [hm] at hl
            injection hl with hl
            subst hl
            exact absurd hob.1 (fun hf => hf.elim (fun h => by have := this.1; simp only at *; omega) this.2)
          | slv => exact absurd hpos (by simp)
      have hat : ∀ (k : Nat) e (j : Nat) c, es[k]? = some e → e.cells[j]? = some c → ∃ y, vs[k * sz + j]? = some y ∧ Enc w (Own N0 μ S) μ y c := by
        intro k e j c hk hj
        have hfl := flat_get hf hk hj
        have hlt : k * sz + j < vs.length := by rw [hrow.1]; exact (List.getElem?_eq_some_iff.1 hfl).1
        exact ⟨_, List.getElem?_eq_getElem hlt, hrow.2 _ _ c (List.getElem?_eq_getElem hlt) hfl⟩
      refine .ro _ ad es.length c sz es (fun k j => (vs[k * sz + j]?).getD undef) rfl hlc hblk.2.2 (fun _ => ⟨rfl, hblk.1, hblk.2.1⟩) hf (fun k e j c hk hj => ?_) (fun k e j c hk hj => ?_)
      · obtain ⟨y, hy, _⟩ := hat k e j c hk hj
        simp only [hy, Option.getD_some]
        exact hvc _ _ hy
      · obtain ⟨y, hy, hey⟩ := hat k e j c hk hj
        simp only [hy, Option.getD_some]
        have hpc : c.pureC = true := List.all_eq_true.1 (List.all_eq_true.1 hp e (List.mem_of_getElem? hk)) c (List.mem_of_getElem? hj)
        exact (hey.pureC hpc).keep (Keeps.refl _ _) hsub
  unfold AS.viewC at hv
  split at hv
  · exact key _ u hx hv (fun _ _ _ _ _ => trivial) ⟨_, _, _, 0, _, .inr rfl⟩
  · exact key _ u hx hv (fun _ _ _ _ _ => trivial) ⟨_, _, _, _, _, .inl rfl⟩
  · split at hv
    case isFalse => cases hv
    rename_i hp
    injection hv with hv
    subst hv
    exact ⟨(hx.pureC hp).keep (Keeps.refl _ _) hsub, pureC_cell hp⟩
theorem viewL_spec : ∀ {cs us : List V}, S.viewL cs = some us → us.length = cs.length ∧ ∀ (i : Nat) c u, cs[i]? = some c → us[i]? = some u → S.viewC c = some u
  | [], us, h => by simp only [AS.viewL, Option.some.injEq] at h; subst h; simp
  | c :: cs, us, h => by
    simp only [AS.viewL] at h
    split at h
    case h_2 => cases h
    rename_i u us' h1 h2
    injection h with h
    subst h
    obtain ⟨h3, h4⟩ := viewL_spec h2
    refine ⟨by simp [h3], fun i c' u' hc hu => ?_⟩
    rcases i with _ | i
    · simp at hc hu; subst hc; subst hu; exact h1
    · simp at hc hu; exact h4 i c' u' hc hu
theorem RelM.view (h : RelM D w0 N0 μ S a w) {x : Value} {v u : V} (hx : Enc w (Own N0 μ S) μ x v) (hv : S.view v = some u) : Pur w N0 x u := by
  have hsub : ∀ b, b < w.heap.size → N0 b → Own N0 μ S b := fun b _ hb => .inl hb
  unfold AS.view at hv
  split at hv
  · rename_i cs
    split at hv
    case h_2 => cases hv
    rename_i us hus
    injection hv with hv
    subst hv
    obtain ⟨h1, h2⟩ := viewL_spec hus
    have key : ∀ xs : List Value, xs.length = cs.length → (∀ (i : Nat) x c, xs[i]? = some x → cs[i]? = some c → Enc w (Own N0 μ S) μ x c) → Pur w N0 (.agg xs.toArray) (.agg us) := by
      intro xs hl hh
      refine .agg xs us (by omega) (fun c hc => ?_) (fun i x c hx hc => ?_)
      · obtain ⟨i, hi⟩ := List.getElem?_of_mem hc
        have hlt : i < us.length := (List.getElem?_eq_some_iff.1 hi).1
        exact (h.viewC (hh i xs[i] cs[i] (List.getElem?_eq_getElem (by omega)) (List.getElem?_eq_getElem (by omega))) (h2 i cs[i] c (List.getElem?_eq_getElem (by omega)) hi)).2
      · have hlt : i < us.length := (List.getElem?_eq_some_iff.1 hc).1
        exact (h.viewC (hh i x cs[i] hx (List.getElem?_eq_getElem (by omega))) (h2 i cs[i] c (List.getElem?_eq_getElem (by omega)) hc)).1
    cases hx with
    | pur hx =>
      cases hx with
      | agg xs _ hl hc hh => exact key xs hl (fun i x c h1 h2 => .pur (hh i x c h1 h2))
    | agg xs _ hl hc hh => exact key xs hl hh
  · cases hv
  · exact (h.viewC hx hv).1
end
end Go.Eng

namespace Go.Eng
open Go.RowKit
def AC (P : Program) (f : FuncId) (args : List V) (R : V → Prop) : Prop :=
  ∀ (w : World) (N : Nat → Prop) (xs : List Value), (∀ b, N b → b < w.heap.size) → xs.length = args.length → (∀ (i : Nat) x v, xs[i]? = some x → args[i]? = some v → Pur w N x v) →
    Calls P f xs.toArray w (fun e w' => ∃ x r, e = .returned x ∧ R r ∧ Pur w' N x r ∧ Below w.heap.size w w')
def post (w0 : Bs) (N0 : Nat → Prop) (Q : Exit → AS → Prop) (e : Exit) (a : Act) (w : World) : Prop := ∃ S, Q e S ∧ Rel w0 N0 S a w
def AW (P : Program) (w0 : Bs) (N0 : Nat → Prop) (c : Code) (Q : Exit → AS → Prop) (S : AS) : Prop := ∀ a w, Rel w0 N0 S a w → c.wp P (post w0 N0 Q) a w
def AWL (P : Program) (w0 : Bs) (N0 : Nat → Prop) (ops : List Oper) (Q : Exit → AS → Prop) (i : Nat) (l : List Oper) (S : AS) : Prop :=
  ∀ D a w, (∀ j, D j → j < i) → RelD D w0 N0 S a w → wpList P ops.toArray (post w0 N0 Q) l a w
section
variable {P : Program} {w0 : Bs} {N0 : Nat → Prop} {Q : Exit → AS → Prop} {S : AS}
theorem AW.mono {c : Code} {Q' : Exit → AS → Prop} (h : AW P w0 N0 c Q S) (hq : ∀ e S, Q e S → Q' e S) : AW P w0 N0 c Q' S :=
  fun a w hr => wp_mono (h a w hr) fun _ _ _ ⟨S', hQ, hR⟩ => ⟨S', hq _ _ hQ, hR⟩
theorem aw_le {c : Code} {S' : AS} (hle : S.le S') (h : AW P w0 N0 c Q S') : AW P w0 N0 c Q S := fun a w hr => h a w (hle _ _ _ _ hr)
@[reducible] def ethen (K : AS → Prop) (Q : Exit → AS → Prop) : Exit → AS → Prop
  | .normal, S => K S
  | e, S => Q e S
@[reducible] def einBlock (id : Nat) (Q : Exit → AS → Prop) : Exit → AS → Prop
  | .exit id', S => if id' = id then Q .normal S else Q (.exit id') S
  | e, S => Q e S
theorem aw_skip (h : Q .normal S) : AW P w0 N0 .skip Q S := fun _ _ hr => wp_skip ⟨S, h, hr⟩
theorem aw_label {l : Nat} (h : Q .normal S) : AW P w0 N0 (.label l) Q S := fun _ _ hr => wp_label ⟨S, h, hr⟩
theorem aw_exit {id : Nat} (h : Q (.exit id) S) : AW P w0 N0 (.exit id) Q S := fun _ _ hr => wp_exit ⟨S, h, hr⟩
theorem aw_ret (h : Q .ret S) : AW P w0 N0 .ret Q S := fun _ _ hr => wp_ret ⟨S, h, hr⟩
theorem aw_seq {x y : Code} (h : AW P w0 N0 x (ethen (AW P w0 N0 y Q) Q) S) : AW P w0 N0 (.seq x y) Q S := by
  intro a w hr
  refine wp_seq (wp_mono (h a w hr) ?_)
  rintro e a' w' ⟨S', hQ, hR⟩
  cases e with
  | normal => exact hQ a' w' hR
  | _ => exact ⟨S', hQ, hR⟩
theorem aw_block {id : Nat} {c : Code} (h : AW P w0 N0 c (einBlock id Q) S) : AW P w0 N0 (.block id c) Q S := by
  intro a w hr
  refine wp_block (wp_mono (h a w hr) ?_)
  rintro e a' w' ⟨S', hQ, hR⟩
  cases e with
  | exit id' =>
    simp only [einBlock] at hQ
    simp only [Exit.inBlock]
    split
    · rename_i he; rw [if_pos he] at hQ; exact ⟨S', hQ, hR⟩
    · rename_i he; rw [if_neg he] at hQ; exact ⟨S', hQ, hR⟩
  | _ => exact ⟨S', hQ, hR⟩
theorem aw_cond {c : Operand} {x y : Code} {t : Bool} (hc : S.evc true c = some (.bool t)) (ht : t = true → AW P w0 N0 x Q S) (hf : t = false → AW P w0 N0 y Q S) : AW P w0 N0 (.cond c x y) Q S := by
  intro a w hr
  obtain ⟨μ, hm⟩ := hr
  have hx := hm.evc hc rfl
  have he : a.eval c = .bool t := by
    generalize a.eval c = v at hx
    cases hx with
    | pur hx => cases hx with
      | bool => rfl
  exact wp_cond_split he (fun h => ht h a w ⟨μ, hm⟩) (fun h => hf h a w ⟨μ, hm⟩)
theorem aw_loop {α : Type} {c : Code} (st : α → AS) (Inv : α → Prop) (m : α → Nat) (x0 : α) (h0 : Inv x0) (hS : S.le (st x0))
    (round : ∀ x, Inv x → AW P w0 N0 c (ethen (fun S' => ∃ x', Inv x' ∧ m x' < m x ∧ S'.le (st x')) Q) (st x)) : AW P w0 N0 (.loop c) Q S := by
  intro a w hr
  -- the invariant names the ghost by its measure
  have key : ∀ n x, m x = n → Inv x → ∀ a w, Rel w0 N0 (st x) a w → (Code.loop c).wp P (post w0 N0 Q) a w := by
    intro n x hn hx a w hr b k cs
    have main : ∀ n x, m x = n → Inv x → ∀ a w, Rel w0 N0 (st x) a w → ∃ e a' w', post w0 N0 Q e a' w' ∧ Arrives P (lone (b.at a (.code c :: .inLoop c :: k)) cs w) b k cs e a' w' := by
      intro n
      induction n using Nat.strongRecOn with
      | _ n ih =>
        intro x hn hx a w hr
        obtain ⟨e, a1, w1, ⟨S', hQ, hR⟩, harr⟩ := round x hx a w hr b (.inLoop c :: k) cs
        cases e with
        | normal =>
          obtain ⟨x', hx', hlt, hle⟩ := hQ
          obtain ⟨e2, a2, w2, hq2, harr2⟩ := ih (m x') (hn ▸ hlt) x' rfl hx' a1 w1 (hle _ _ _ _ hR)
          exact ⟨e2, a2, w2, hq2, .of_steps (Steps.trans harr (.one step_inLoop)) harr2⟩
        | exit id => exact ⟨_, a1, w1, ⟨S', hQ, hR⟩, .pass (x := .inLoop c) rfl (fun _ _ => .inl (by simp)) harr⟩
        | goto l => exact ⟨_, a1, w1, ⟨S', hQ, hR⟩, .pass (x := .inLoop c) rfl (fun _ _ => .inl (by simp)) harr⟩
        | ret => exact ⟨_, a1, w1, ⟨S', hQ, hR⟩, .pass (x := .inLoop c) rfl (fun _ _ => .inl (by simp)) harr⟩
        | panic ch => exact ⟨_, a1, w1, ⟨S', hQ, hR⟩, .pass (x := .inLoop c) rfl (fun _ _ => .inl (by simp)) harr⟩
        | outgrown => exact ⟨_, a1, w1, ⟨S', hQ, hR⟩, .pass (x := .inLoop c) rfl (fun _ _ => .inl (by simp)) harr⟩
    obtain ⟨e, a', w', hq, harr⟩ := main n x hn hx a w hr
    exact ⟨e, a', w', hq, .of_steps (.one step_loop) harr⟩
  exact key _ x0 rfl h0 a w (hS _ _ _ _ hr)
def AS.gd (S : AS) (ops : List Oper) (j : Nat) (want : Bool) : Option Bool :=
  match ops[j]? with
  | some o => match o.dst with
    | some d => match get S.env d with
      | some (.bool g) => some (g == want)
      | some (.whn b (.bool g)) => some (b && (g == want))
      | _ => none
    | none => none
  | none => none
def AS.fb (S : AS) (c : Bool) : Op → Bool
  | .load _ x => match S.evc c x with
    | some (.bp ..) => false
    | some (.rp _) => false
    | _ => true
  | _ => true
def astepK (P : Program) (kb : Nat) (ops : List Oper) (i : Nat) (o : Oper) (S : AS) : Option AS :=
  match o.guard with
  | none => match aval P S true o.op with
    | some v => S.putv o.dst v
    | none => aeff P i S o.dst (kb + o.dst.getD 0) o.op
  | some (j, want) => match S.gd ops j want with
    | some c => match aval P S c o.op with
      | some v => S.putv o.dst (.whn c v)
      | none => if c = false ∧ S.fb c o.op = true then S.putv o.dst (.whn false (.bool true)) else none
    | none => none
theorem gd_spec {D : Nat → Prop} {μ : Mu} {a : Act} {w : World} (h : RelM D w0 N0 μ S a w) {ops : List Oper} {o : Oper} {j : Nat} {want c : Bool} (hg : o.guard = some (j, want)) (hc : S.gd ops j want = some c) :
    Region.wanted o (yielded ops.toArray a.tmps) = c := by
  unfold AS.gd at hc
  split at hc
  case h_2 => cases hc
  rename_i oj hoj
  split at hc
  case h_2 => cases hc
  rename_i d hd
  have hy : ∀ (x : Value) (t : Bool), a.tmps.getD d undef = x → d < S.nt → (yielded ops.toArray a.tmps j = match x with | .bool b => some b | _ => none) := by
    intro x t hx hd'
    have hsz : d < a.tmps.size := by rw [h.size]; exact hd'
    unfold yielded
    simp only [List.getElem?_toArray, hoj, Option.bind_some, hd, Array.getElem?_eq_getElem hsz]
    rw [Array.getD_eq_getD_getElem?, Array.getElem?_eq_getElem hsz] at hx
    simp only [Option.getD_some] at hx
    rw [hx]
    split <;> simp_all
  unfold Region.wanted
  rw [hg]
  simp only
  split at hc
  · rename_i g hget
    injection hc with hc
    obtain ⟨hd', hen⟩ := h.env d _ hget
    generalize hxx : a.tmps.getD d undef = x at hen
    have h1 := hy x true hxx hd'
    cases hen with
    | pur hen =>
    cases hen with
    | bool =>
    rw [h1, ← hc]
    cases g <;> cases want <;> rfl
  · rename_i b g hget
    injection hc with hc
    obtain ⟨hd', hen⟩ := h.env d _ hget
    generalize hxx : a.tmps.getD d undef = x at hen
    have h1 := hy x true hxx hd'
    cases hen with
    | pur hen => cases hen
    | whn _ _ _ hh hu =>
    cases b with
    | false =>
      rw [h1, hu rfl, ← hc]
      cases want <;> rfl
    | true =>
      have hb := hh rfl
      cases hb with
      | pur hb =>
      cases hb with
      | bool =>
      rw [h1, ← hc]
      cases g <;> cases want <;> rfl
  · cases hc
theorem awl_nil {ops : List Oper} {i : Nat} (h : Q .normal { S with nx := S.nx + i }) : AWL P w0 N0 ops Q i [] S := by
  rintro D a w hD ⟨μ, hr⟩
  refine wpList_nil ⟨_, h, μ, ⟨hr.defers, hr.size, hr.below, hr.n0, fun d v hv => ?_, hr.objs, hr.inj, hr.env⟩⟩
  rcases hr.fresh d v hv with h1 | ⟨j, hj, e⟩
  · exact .inl (by simp only; omega)
  · have := hD j hj
    exact .inl (by simp only; omega)
theorem awl_stepK {kb : Nat} {ops : List Oper} {i : Nat} {o : Oper} {rest : List Oper} {S' : AS} (hs : astepK P kb ops i o S = some S') (h : AWL P w0 N0 ops Q (i + 1) rest S') : AWL P w0 N0 ops Q i (o :: rest) S := by
  rintro D a w hD ⟨μ, hr⟩
  have hi : ¬ D i := fun hd => absurd (hD i hd) (by omega)
  have hD' : ∀ j, (D j ∨ j = i) → j < i + 1 := fun j hj => by
    rcases hj with hj | hj
    · have := hD j hj; omega
    · omega
  have hD1 : ∀ j, D j → j < i + 1 := fun j hj => hD' j (.inl hj)
  refine wpList_step fun K hK => ?_
  unfold astepK at hs
  split at hs
  · rename_i hg
    have hw : Region.wanted o (yielded ops.toArray a.tmps) = true := by simp [Region.wanted, hg]
    rw [if_pos hw]
    split at hs
    · rename_i v hv
      obtain ⟨x, hx, hex⟩ := aval_run hr rfl hv
      unfold Oper.wp
      rw [hx]
      exact hK _ _ (h D _ w hD1 ⟨μ, hr.putv hs hex⟩)
    · obtain ⟨x, w', hdo, hrel⟩ := aeff_run hr hi hs
      unfold Oper.wp
      rcases hdo with hx | ⟨hx, rfl⟩
      · rw [hx]; exact hK _ _ (h _ _ w' hD' hrel)
      · rw [hx]; exact hK _ _ (h _ _ w' hD' hrel)
  · rename_i j want hg
    split at hs
    case h_2 => cases hs
    rename_i c hc
    have hwc := gd_spec hr hg hc
    rw [hwc]
    split at hs
    · rename_i v hv
      cases c with
      | true =>
        rw [if_pos rfl]
        obtain ⟨x, hx, hex⟩ := aval_run hr rfl hv
        unfold Oper.wp
        rw [hx]
        exact hK _ _ (h D _ w hD1 ⟨μ, hr.putv hs (.whn _ _ _ (fun _ => hex) (fun hf => (by cases hf)))⟩)
      | false =>
        rw [if_neg (by simp)]
        exact hK _ _ (h D _ w hD1 ⟨μ, hr.putv hs (.whn _ _ _ (fun hf => (by cases hf)) (fun _ => rfl))⟩)
    · split at hs
      case isFalse => cases hs
      rename_i hcf
      obtain ⟨rfl, _⟩ := hcf
      rw [if_neg (by simp)]
      exact hK _ _ (h D _ w hD1 ⟨μ, hr.putv hs (.whn _ _ _ (fun hf => (by cases hf)) (fun _ => rfl))⟩)
def runOpsK (P : Program) (kb : Nat) (ops : List Oper) : Nat → List Oper → AS → Option AS
  | _, [], S => some S
  | i, o :: rest, S => match astepK P kb ops i o S with
    | some S' => runOpsK P kb ops (i + 1) rest S'
    | none => none
def runOps (P : Program) (ops : List Oper) (i : Nat) (l : List Oper) (S : AS) : Option AS := runOpsK P 0 ops i l S
theorem awl_runK {kb : Nat} {ops : List Oper} : ∀ {l : List Oper} {i : Nat} {S S' : AS}, runOpsK P kb ops i l S = some S' → Q .normal { S' with nx := S'.nx + (i + l.length) } → AWL P w0 N0 ops Q i l S
  | [], i, S, S', hs, h => by
    simp only [runOpsK, Option.some.injEq] at hs
    subst hs
    exact awl_nil h
  | o :: rest, i, S, S', hs, h => by
    simp only [runOpsK] at hs
    split at hs
    case h_2 => cases hs
    rename_i S1 h1
    refine awl_stepK h1 (awl_runK hs ?_)
    rw [show i + 1 + rest.length = i + (o :: rest).length by simp; omega]
    exact h
theorem aw_region {id : Nat} {l : List Oper} (h : AWL P w0 N0 l Q 0 l S) : AW P w0 N0 (.region id l.toArray false) Q S :=
  fun a w hr => wp_region_lit (h (fun _ => False) a w (fun _ hj => hj.elim) hr)
end
end Go.Eng

namespace Go.Eng
open Go.RowKit
section
variable {P : Program} {w0 : Bs} {N0 : Nat → Prop} {Q : Exit → AS → Prop} {S : AS}
def V.pureV : V → Bool
  | .tup vs => vs.all V.pureE
  | .mp .. | .rm .. | .fc .. => true
  | v => v.pureE
theorem Enc.pureV {w : World} {N : Nat → Prop} {μ : Mu} {x : Value} {v : V} (h : Enc w N μ x v) (hp : v.pureV = true) : Pur w N x v := by
  cases v with
  | tup vs => cases h with
    | pur h => exact h
    | tup xs _ hl hh => exact .tup xs _ hl (fun i x c hx hc => (hh i x c hx hc).pureE (List.all_eq_true.1 hp c (List.mem_of_getElem? hc)))
  | mp | rm | fc => cases h with
    | pur h => exact h
  | _ => exact h.pureE hp
theorem RelM.own_lt {D : Nat → Prop} {μ : Mu} {a : Act} {w : World} (h : RelM D w0 N0 μ S a w) (b : Nat) (hb : Own N0 μ S b) : b < w.heap.size := by
  rcases hb with hb | ⟨d, o, c, h1, h2⟩
  · exact Nat.lt_of_lt_of_le (h.n0.1 b hb).1 h.below.size
  · exact h.block_lt h1 h2
theorem RelM.later {D : Nat → Prop} {μ : Mu} {a : Act} {w w' : World} (h : RelM D w0 N0 μ S a w) (hb : Below w.heap.size w w') : RelM D w0 N0 μ S a w' := by
  have hk : Keeps w (Own N0 μ S) w' := Keeps.of_below hb _
  refine ⟨h.defers, h.size, h.below.trans (hb.mono h.below.size), h.n0, h.fresh, fun d o hd => ?_, h.inj, fun t u hu => ⟨(h.env t u hu).1, (h.env t u hu).2.keep hk (fun _ _ hh => hh) (fun _ _ _ hh => hh)⟩⟩
  obtain ⟨l, hl, hob⟩ := h.objs d o hd
  exact ⟨l, hl, hob.keep hk (fun _ _ hh => hh) (fun _ _ _ hh => hh) (fun g c e => hb.block g (h.block_lt hd (by rw [hl, e])))⟩
theorem run_call_fn {ρ : Operand → Value} {o : Oper} {f : Operand} {fid : FuncId} {fn : Func} {args : Array Operand} {ats : Array TypeId} {w : World} (ho : o.op = .call { callee := .value f, args := args, argTypes := ats }) (hf : ρ f = .func (.func fid) #[] #[])
    (hfn : P.funcs[fid]? = some fn) (hb : fn.body.isSome = true) (hn : (fn.name == "runtime.NumGoroutine") = false) : (execOp ρ o).run P w = .ok (.enter fid (args.map ρ)) w := by
  unfold execOp
  rw [ho]
  obtain ⟨c, hc⟩ := Option.isSome_iff_exists.1 hb
  have hn' : ¬ fn.name = "runtime.NumGoroutine" := by simpa using hn
  simp [resolve, hf, Deferred.ofValue, invoke, callFunc, hfn, hn', hc]
theorem awl_call {ops : List Oper} {i : Nat} {o : Oper} {rest : List Oper} {f : Operand} {fid : FuncId} {fn : Func} {args : Array Operand} {ats : Array TypeId} {vs : List V} {R : V → Prop}
    (hg : o.guard = none) (ho : o.op = .call { callee := .value f, args := args, argTypes := ats }) (hf : S.evc true f = some (.fn fid)) (hfn : P.funcs[fid]? = some fn) (hb : fn.body.isSome = true) (hn : (fn.name == "runtime.NumGoroutine") = false)
    (ha : S.args true args.toList = some vs) (hp : vs.all V.pureV = true) (hc : AC P fid vs R) (h : ∀ r, R r → ∃ S', S.putv o.dst r = some S' ∧ AWL P w0 N0 ops Q (i + 1) rest S') : AWL P w0 N0 ops Q i (o :: rest) S := by
  rintro D a w hD ⟨μ, hr⟩
  refine wpList_plain hg fun K hK => ?_
  have hfv := hr.evc hf rfl
  have hfe : a.eval f = .func (.func fid) #[] #[] := by
    generalize a.eval f = y at hfv
    cases hfv with
    | pur hfv => cases hfv with
      | fn => rfl
  obtain ⟨h1, h2⟩ := args_spec hr rfl ha
  unfold Oper.wp
  rw [run_call_fn ho hfe hfn hb hn]
  have hcall := hc w (Own N0 μ S) (args.toList.map a.eval) hr.own_lt (by simp [h1]) (fun j x v hx hv => by
    simp only [List.getElem?_map, Option.map_eq_some_iff] at hx
    obtain ⟨y, hy, rfl⟩ := hx
    exact (h2 j y v hy hv).pureV (List.all_eq_true.1 hp v (List.mem_of_getElem? hv)))
  have harr : (args.toList.map a.eval).toArray = args.map a.eval := by apply Array.ext'; simp
  rw [harr] at hcall
  refine hcall.mono ?_
  rintro e w' ⟨x, r, rfl, hR, hpx, hbw⟩
  obtain ⟨S', hs, hrest⟩ := h r hR
  exact hK _ _ (hrest D _ w' (fun j hj => Nat.lt_succ_of_lt (hD j hj)) ⟨μ, (hr.later hbw).putv hs (.pur hpx)⟩)
def V.light : V → Bool
  | .agg cs => cs.all V.flat
  | .tup vs => vs.all fun v => match v with | .agg cs => cs.all V.flat | v => v.flat
  | v => v.flat
theorem Pur.of_light {w w' : World} {N N' : Nat → Prop} {x : Value} {v : V} (h : Pur w N x v) (hl : v.light = true) : Pur w' N' x v := by
  have ha : ∀ (xs : List Value) (cs : List V), cs.all V.flat = true → xs.length = cs.length → (∀ c ∈ cs, c.isCell = true) → (∀ (i : Nat) x c, xs[i]? = some x → cs[i]? = some c → Pur w N x c) → Pur w' N' (.agg xs.toArray) (.agg cs) :=
    fun xs cs h1 h2 h3 h4 => .agg xs cs h2 h3 (fun i x c hx hc => (h4 i x c hx hc).of_flat (List.all_eq_true.1 h1 c (List.mem_of_getElem? hc)))
  cases h with
  | agg xs cs h1 h2 h3 => exact ha xs cs hl h1 h2 h3
  | tup xs cs h1 h2 =>
    refine .tup xs cs h1 (fun i x c hx hc => ?_)
    have hc' := List.all_eq_true.1 hl c (List.mem_of_getElem? hc)
    have hp := h2 i x c hx hc
    cases hp with
    | agg ys ds g1 g2 g3 => exact ha ys ds hc' g1 g2 g3
    | bool b => exact .bool b
    | int k n => exact .int k n
    | str l => exact .str l
    | nils A => exact .nils A
    | fn f => exact .fn f
    | nilp => exact .nilp
    | nili => exact .nili
    | nilf => exact .nilf
    | ifc t x v h1 h2 => exact .ifc t x v h1 (h2.of_flat2 h1)
    | tup | ro | rp | mp | fc | dm | rm => simp [V.flat] at hc'
  | bool b => exact .bool b
  | int k n => exact .int k n
  | str l => exact .str l
  | nils A => exact .nils A
  | fn f => exact .fn f
  | nilp => exact .nilp
  | nili => exact .nili
  | nilf => exact .nilf
  | ifc t x v h1 h2 => exact .ifc t x v h1 (h2.of_flat2 h1)
  | ro | rp | mp | fc | dm | rm => simp [V.light, V.flat] at hl
def AS.views (S : AS) : List V → Option (List V)
  | [] => some []
  | v :: r => match S.view v, S.views r with
    | some u, some us => some (u :: us)
    | _, _ => none
theorem views_spec : ∀ {vs us : List V}, S.views vs = some us → us.length = vs.length ∧ ∀ (i : Nat) v u, vs[i]? = some v → us[i]? = some u → S.view v = some u
  | [], us, h => by simp only [AS.views, Option.some.injEq] at h; subst h; simp
  | c :: cs, us, h => by
    simp only [AS.views] at h
    split at h
    case h_2 => cases h
    rename_i u us' h1 h2
    injection h with h
    subst h
    obtain ⟨h3, h4⟩ := views_spec h2
    refine ⟨by simp [h3], fun i c' u' hc hu => ?_⟩
    rcases i with _ | i
    · simp at hc hu; subst hc; subst hu; exact h1
    · simp at hc hu; exact h4 i c' u' hc hu
def aresult (P : Program) (S : AS) : ResultVar → Option V
  | .tmp t => S.evc true (.tmp t)
  | .cell t ty => match S.evc true (.tmp t) with
    | some p => match S.place p, tsz P ty, tagg P ty with
      | some (e, off), some n, some g => e.part off n g
      | _, _, _ => none
    | none => none
def aresultsL (P : Program) (S : AS) : List ResultVar → Option (List V)
  | [] => some []
  | r :: rs => match aresult P S r, aresultsL P S rs with
    | some v, some vs => match S.view v with
      | some u => some (u :: vs)
      | none => none
    | _, _ => none
def aresults (P : Program) (S : AS) (rs : List ResultVar) : Option V :=
  match aresultsL P S rs with
  | some [v] => some v
  | some vs => some (.tup vs)
  | none => none
def Ends (P : Program) (fn : Func) (R : V → Prop) (e : Exit) (S : AS) : Prop :=
  match e with
  | .ret | .normal => match aresults P S fn.results.toList with | some r => R r | none => False
  | _ => False
def resSem (tmps : Array Value) : ResultVar → Sem Value
  | .tmp t => pure (tmps.getD t undef)
  | .cell b t => do loadVar t (← asAddr (tmps.getD b undef))
theorem results_eq (fn : Func) (tmps : Array Value) : results fn tmps = (do let vs ← fn.results.mapM (resSem tmps); pure (if h : vs.size = 1 then vs[0] else .tuple vs)) := rfl
theorem aresult_run {D : Nat → Prop} {μ : Mu} {a : Act} {w : World} (h : RelM D w0 N0 μ S a w) {r : ResultVar} {v : V} (hv : aresult P S r = some v) :
    ∃ x, (resSem a.tmps r).run P w = .ok x w ∧ Enc w (Own N0 μ S) μ x v := by
  cases r with
  | tmp t => exact ⟨_, rfl, h.evc hv rfl⟩
  | cell t ty =>
    simp only [aresult] at hv
    split at hv
    case h_2 => cases hv
    rename_i p hp
    split at hv
    case h_2 => cases hv
    rename_i e off n g h1 h2 h3
    obtain ⟨ad, sz, hx, hf, hc⟩ := h.place h1 (h.evc hp rfl)
    obtain ⟨y, hy, hey⟩ := run_loadVar (P := P) h2 h3 hf hc hv
    have hx' : a.tmps.getD t undef = .pointer (some (ad.add off)) := hx
    exact ⟨y, by simp only [resSem, hx', Sem.run_bind, asAddr, Sem.run_pure, Result.andThen_ok, hy], hey⟩
theorem aresults_run {D : Nat → Prop} {μ : Mu} {a : Act} {w : World} (h : RelM D w0 N0 μ S a w) {fn : Func} {r : V} (hv : aresults P S fn.results.toList = some r) : ∃ x, (results fn a.tmps).run P w = .ok x w ∧ Pur w N0 x r := by
  have key : ∀ (l : List ResultVar) (vs : List V), aresultsL P S l = some vs → ∃ xs : List Value, (l.mapM (resSem a.tmps)).run P w = .ok xs w ∧
      xs.length = vs.length ∧ ∀ (i : Nat) x v, xs[i]? = some x → vs[i]? = some v → Pur w N0 x v := by
    intro l
    induction l with
    | nil => intro vs hvs; simp only [aresultsL, Option.some.injEq] at hvs; subst hvs; exact ⟨[], rfl, rfl, by simp⟩
    | cons q l ih =>
      intro vs hvs
      simp only [aresultsL] at hvs
      split at hvs
      case h_2 => cases hvs
      rename_i v vs' h1 h2
      split at hvs
      case h_2 => cases hvs
      rename_i u hu
      injection hvs with hvs
      subst hvs
      obtain ⟨x, hx, hex⟩ := aresult_run h h1
      obtain ⟨xs, hxs, hl, hh⟩ := ih vs' h2
      refine ⟨x :: xs, ?_, by simp [hl], fun i y v hy hv => ?_⟩
      · rw [List.mapM_cons, Sem.run_bind, hx, Result.andThen_ok, Sem.run_bind, hxs, Result.andThen_ok]
        rfl
      · rcases i with _ | i
        · simp at hy hv; subst hy; subst hv; exact h.view hex hu
        · simp at hy hv; exact hh i y v hy hv
  unfold aresults at hv
  have hmap : ∀ xs : List Value, (fn.results.toList.mapM (resSem a.tmps)).run P w = .ok xs w →
      (results fn a.tmps).run P w = .ok (if h : xs.toArray.size = 1 then xs.toArray[0] else .tuple xs.toArray) w := by
    intro xs hxs
    rw [results_eq, Sem.run_bind, Array.mapM_eq_mapM_toList, Sem.run_map, hxs]
    rfl
  split at hv
  · rename_i v hvs
    injection hv with hv
    subst hv
    obtain ⟨xs, h1, h2, h3⟩ := key _ _ hvs
    match xs, h2 with
    | [x], _ => exact ⟨x, hmap [x] h1, h3 0 x _ rfl rfl⟩
  · rename_i vs hne hvs
    injection hv with hv
    subst hv
    obtain ⟨xs, h1, h2, h3⟩ := key _ _ hvs
    refine ⟨.tuple xs.toArray, ?_, .tup xs vs h2 h3⟩
    rw [hmap xs h1]
    have : ¬ xs.toArray.size = 1 := by
      intro h0
      have hl : vs.length = 1 := by simp at h0; omega
      match vs, hl with
      | [v], _ => exact hne v rfl
    rw [dif_neg this]
  · cases hv
def env0 : Nat → List V → List (Nat × V)
  | _, [] => []
  | i, v :: vs => (i, v) :: env0 (i + 1) vs
theorem get_env0 : ∀ {vs : List V} {i t : Nat} {v : V}, get (env0 i vs) t = some v → i ≤ t ∧ vs[t - i]? = some v
  | [], i, t, v, h => by simp [env0, get] at h
  | u :: vs, i, t, v, h => by
    simp only [env0, get_cons] at h
    split at h
    · rename_i he
      injection h with h
      subst h; subst he
      exact ⟨Nat.le_refl _, by simp⟩
    · rename_i he
      obtain ⟨h1, h2⟩ := get_env0 h
      refine ⟨by omega, ?_⟩
      rw [show t - i = (t - (i + 1)) + 1 by omega]
      simpa using h2
theorem ac_intro {f : FuncId} {fn : Func} {c : Code} {args : List V} {R : V → Prop} (hf : P.funcs[f]? = some fn) (hb : fn.body = some c) (hl : args.length ≤ fn.ntmps)
    (h : ∀ w0 N0, AW P w0 N0 c (Ends P fn R) ⟨env0 0 args, [], 0, fn.ntmps⟩) : AC P f args R := by
  intro w N xs hN hlen hp
  refine calls_of_wp hf hb (wp_mono (h ⟨w, fun _ => False, fun _ _ => none, []⟩ N _ w ⟨fun _ _ => none, ⟨rfl, ?_, Bs.Below.refl _, ⟨fun b hb => ⟨hN b hb, fun h => h⟩, fun _ _ _ h => by cases h⟩, fun d v hv => absurd rfl hv, fun d o hd => ?_, fun d o _ _ _ _ _ hd => ?_, fun t v hv => ?_⟩⟩) ?_)
  · simp only [Array.size_append, List.size_toArray, Array.size_replicate]; omega
  · simp [get] at hd
  · simp [get] at hd
  · obtain ⟨_, h2⟩ := get_env0 hv
    simp only [Nat.sub_zero] at h2
    have ht : t < args.length := (List.getElem?_eq_some_iff.1 h2).1
    refine ⟨by simp only; omega, .pur ?_⟩
    have hx : xs[t]? = some xs[t] := List.getElem?_eq_getElem (by omega)
    have := hp t xs[t] v hx h2
    have hget : (xs.toArray ++ Array.replicate (fn.ntmps - xs.toArray.size) undef).getD t undef = xs[t] := by
      rw [Array.getD_eq_getD_getElem?, Array.getElem?_append_left (by simp; omega)]
      simp [hx]
    rw [hget]
    exact this.keep (Keeps.refl _ _) (fun b hb ho => by
      rcases ho with h0 | ⟨d, o, c, h1, _⟩
      · exact h0
      · simp [get] at h1)
  · rintro e a' w' ⟨S', hE, ⟨μ, hr⟩⟩
    have key : (match aresults P S' fn.results.toList with | some r => R r | none => False) → ∃ v, (results fn a'.tmps).run P w' = .ok v w' ∧ ∃ x r, Ending.returned v = .returned x ∧ R r ∧ Pur w' N x r ∧ Below w.heap.size w w' := by
      intro hk
      split at hk
      · rename_i r hres
        obtain ⟨x, hx, hpx⟩ := aresults_run hr hres
        exact ⟨x, hx, x, r, rfl, hk, hpx, hr.below.plain⟩
      · exact hk.elim
    cases e with
    | ret => exact ⟨hr.defers, key hE⟩
    | normal => exact ⟨hr.defers, key hE⟩
    | _ => exact hE.elim
def keepL {α : Type} (l : List (Nat × α)) : List Nat → List (Nat × α)
  | [] => []
  | t :: r => match get l t with
    | some v => (t, v) :: keepL l r
    | none => keepL l r
theorem get_keepL {α : Type} {l : List (Nat × α)} : ∀ {L : List Nat} {t : Nat} {v : α}, get (keepL l L) t = some v → get l t = some v
  | [], t, v, h => by simp [keepL, get] at h
  | k :: L, t, v, h => by
    simp only [keepL] at h
    split at h
    · rename_i u hu
      rw [get_cons] at h
      split at h
      · rename_i e
        subst e
        rw [hu]; exact h
      · exact get_keepL h
    · exact get_keepL h
def AS.keep (S : AS) (L M : List Nat) : AS := { S with env := keepL S.env L, objs := keepL S.objs M }
theorem le_of_get {S S' : AS} (hnt : S'.nt = S.nt) (hnx : S.nx ≤ S'.nx) (he : ∀ t v, get S'.env t = some v → get S.env t = some v) (ho : ∀ d o, get S'.objs d = some o → get S.objs d = some o) : S.le S' := by
  rintro w0 N0 a w ⟨μ, hr⟩
  have hsub : ∀ b, b < w.heap.size → Own N0 μ S' b → Own N0 μ S b := by
    rintro b _ (h0 | ⟨d, o, c, h1, h2⟩)
    · exact .inl h0
    · exact .inr ⟨d, o, c, ho d o h1, h2⟩
  have hk := Keeps.refl w (Own N0 μ S)
  refine ⟨μ, ⟨hr.defers, by rw [hnt]; exact hr.size, hr.below, hr.n0, fun d v hv => ?_, fun d o hd => ?_, fun d o d' o' g c c' h1 h2 => hr.inj d o d' o' g c c' (ho _ _ h1) (ho _ _ h2), fun t v hv => ?_⟩⟩
  · rcases hr.fresh d v hv with h1 | ⟨j, hj, _⟩
    · exact .inl (by omega)
    · exact hj.elim
  · obtain ⟨l, hl, hob⟩ := hr.objs d o (ho _ _ hd)
    exact ⟨l, hl, hob.keep hk hsub (fun _ _ _ hh => hh) (fun _ _ _ => rfl)⟩
  · obtain ⟨h1, h2⟩ := hr.env t v (he _ _ hv)
    exact ⟨by rw [hnt]; exact h1, h2.keep hk hsub (fun _ _ _ hh => hh)⟩
theorem le_keep (S : AS) (L M : List Nat) : S.le (S.keep L M) := le_of_get rfl (Nat.le_refl _) (fun _ _ h => get_keepL h) (fun _ _ h => get_keepL h)
theorem AS.le_refl (S : AS) : S.le S := fun _ _ _ _ h => h
theorem AS.le_trans {S S1 S2 : AS} (h : S.le S1) (k : S1.le S2) : S.le S2 := fun _ _ _ _ hr => k _ _ _ _ (h _ _ _ _ hr)
end
end Go.Eng

namespace Go.Eng
attribute [simp] bytesV assertV V.flat1 V.flat2 runOpsK astepK eqC eqL AS.fb nth runOps aval aeff acore AS.evc AS.ev get constV AS.place V.part V.cells AS.putv abin aint isShift ashift astr aun AS.gd AS.evs AS.evo abounds afill tplace cellOk asets AS.elems V.setPart
attribute [simp] V.still V.pl V.plA V.pcell pcells dmV AS.viewC AS.viewL AS.view AS.views AS.args V.pureV V.pureE V.pureC V.isCell keepL AS.keep aresult aresultsL aresults env0 V.light V.flat
def AS.bump (S : AS) (n : Nat) : AS := { S with nx := S.nx + n }
attribute [simp] AS.bump
def runRK (P : Program) (kb : Nat) (l : List Oper) (L M : List Nat) (S : AS) : Option AS :=
  match runOpsK P kb l 0 l S with
  | some S' => some ((S'.bump l.length).keep L M)
  | none => none
def runR (P : Program) (l : List Oper) (L M : List Nat) (S : AS) : Option AS := runRK P 0 l L M S
attribute [simp] runR runRK
section
variable {P : Program} {w0 : Bs} {N0 : Nat → Prop} {Q : Exit → AS → Prop} {S : AS}
theorem awk_one {id : Nat} {l : List Oper} {S' : AS} (kb : Nat) (L M : List Nat) (hs : runRK P kb l L M S = some S') (h : Q .normal S') : AW P w0 N0 (.region id l.toArray false) Q S := by
  unfold runRK at hs
  split at hs
  case h_2 => cases hs
  rename_i S1 h1
  injection hs with hs
  subst hs
  intro a w hr
  refine wp_mono (aw_region (Q := fun e T => e = .normal ∧ T = S1.bump l.length) (id := id) (awl_runK h1 ⟨rfl, by simp [AS.bump]⟩) a w hr) ?_
  rintro e a' w' ⟨T, ⟨rfl, rfl⟩, hR⟩
  exact ⟨_, h, le_keep _ L M _ _ _ _ hR⟩
theorem aw_one {id : Nat} {l : List Oper} {S' : AS} (L M : List Nat) (hs : runR P l L M S = some S') (h : Q .normal S') : AW P w0 N0 (.region id l.toArray false) Q S := awk_one 0 L M hs h
theorem aw_step {id : Nat} {l : List Oper} {rest : Code} {S' : AS} (L M : List Nat) (hs : runR P l L M S = some S') (h : AW P w0 N0 rest Q S') : AW P w0 N0 (.seq (.region id l.toArray false) rest) Q S :=
  aw_seq (aw_one L M hs h)
theorem aw_keep {c : Code} (L M : List Nat) {S' : AS} (hS : S.keep L M = S') (h : AW P w0 N0 c Q S') : AW P w0 N0 c Q S := by
  subst hS
  exact aw_le (le_keep S L M) h
theorem ends_ret {fn : Func} {R : V → Prop} {r : V} (hr : aresults P S fn.results.toList = some r) (h : R r) : Ends P fn R .ret S := by
  unfold Ends
  simp only [hr]
  exact h
theorem awl_nil_le {ops : List Oper} {i : Nat} {S' : AS} (hle : (S.bump i).le S') (h : Q .normal S') : AWL P w0 N0 ops Q i [] S := by
  intro D a w hD hr
  obtain ⟨T, ⟨_, rfl⟩, hT⟩ := awl_nil (P := P) (w0 := w0) (N0 := N0) (ops := ops) (i := i) (S := S) (Q := fun e T => e = .normal ∧ T = S.bump i) ⟨rfl, rfl⟩ D a w hD hr
  exact wpList_nil ⟨S', h, hle _ _ _ _ hT⟩
theorem awl_run_le {kb : Nat} {ops : List Oper} : ∀ {l : List Oper} {i : Nat} {S S1 S' : AS}, runOpsK P kb ops i l S = some S1 → (S1.bump (i + l.length)).le S' → Q .normal S' → AWL P w0 N0 ops Q i l S
  | [], i, S, S1, S', hs, hle, h => by
    simp only [runOpsK, Option.some.injEq] at hs
    subst hs
    exact awl_nil_le hle h
  | o :: rest, i, S, S1, S', hs, hle, h => by
    simp only [runOpsK] at hs
    split at hs
    case h_2 => cases hs
    rename_i S2 h1
    refine awl_stepK h1 (awl_run_le hs ?_ h)
    rw [show i + 1 + rest.length = i + (o :: rest).length by simp; omega]
    exact hle
theorem awlk_end {ops l : List Oper} {i : Nat} {S' : AS} (kb : Nat) (L M : List Nat) (hs : (match runOpsK P kb ops i l S with | some S1 => some ((S1.bump (i + l.length)).keep L M) | none => none) = some S') (h : Q .normal S') : AWL P w0 N0 ops Q i l S := by
  split at hs
  case h_2 => cases hs
  rename_i S1 h1
  injection hs with hs
  subst hs
  exact awl_run_le h1 (le_keep _ L M) h
theorem awl_end {ops l : List Oper} {i : Nat} {S' : AS} (L M : List Nat) (hs : (match runOps P ops i l S with | some S1 => some ((S1.bump (i + l.length)).keep L M) | none => none) = some S') (h : Q .normal S') : AWL P w0 N0 ops Q i l S := awlk_end 0 L M hs h
theorem awl_app {kb : Nat} {ops : List Oper} : ∀ {l1 l2 : List Oper} {i : Nat} {S S1 : AS}, runOpsK P kb ops i l1 S = some S1 → AWL P w0 N0 ops Q (i + l1.length) l2 S1 → AWL P w0 N0 ops Q i (l1 ++ l2) S
  | [], l2, i, S, S1, hs, h => by
    simp only [runOpsK, Option.some.injEq] at hs
    subst hs
    exact h
  | o :: rest, l2, i, S, S1, hs, h => by
    simp only [runOpsK] at hs
    split at hs
    case h_2 => cases hs
    rename_i S2 h1
    refine awl_stepK h1 (awl_app hs ?_)
    rw [show i + 1 + rest.length = i + (o :: rest).length by simp; omega]
    exact h
theorem awlk_go {ops l : List Oper} {i : Nat} {S1 : AS} (kb n : Nat) (hs : runOpsK P kb ops i (l.take n) S = some S1) (h : AWL P w0 N0 ops Q (i + (l.take n).length) (l.drop n) S1) : AWL P w0 N0 ops Q i l S := by
  have := awl_app (l2 := l.drop n) hs h
  rwa [List.take_append_drop] at this
theorem awl_go {ops l : List Oper} {i : Nat} {S1 : AS} (n : Nat) (hs : runOps P ops i (l.take n) S = some S1) (h : AWL P w0 N0 ops Q (i + (l.take n).length) (l.drop n) S1) : AWL P w0 N0 ops Q i l S := awlk_go 0 n hs h
theorem awl_call1 {ops : List Oper} {i : Nat} {o : Oper} {rest : List Oper} {f : Operand} {fid : FuncId} {fn : Func} {args : Array Operand} {ats : Array TypeId} {vs : List V} {res : V} {S' : AS}
    (hc : AC P fid vs (fun r => r = res)) (hfn : P.funcs[fid]? = some fn) (hb : fn.body.isSome = true) (hn : (fn.name == "runtime.NumGoroutine") = false)
    (hg : o.guard = none) (ho : o.op = .call { callee := .value f, args := args, argTypes := ats }) (hf : S.evc true f = some (.fn fid))
    (ha : S.args true args.toList = some vs) (hp : vs.all V.pureV = true) (hs : S.putv o.dst res = some S') (h : AWL P w0 N0 ops Q (i + 1) rest S') : AWL P w0 N0 ops Q i (o :: rest) S :=
  awl_call hg ho hf hfn hb hn ha hp hc (fun r hr => by subst hr; exact ⟨S', hs, h⟩)
end
end Go.Eng
