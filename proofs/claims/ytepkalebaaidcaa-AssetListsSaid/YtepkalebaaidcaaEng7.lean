/- The abstract step of the operations that make or write memory, and that the model does the same. No condition. -/
import Derived.Test.YtepkalebaaidcaaEng6
namespace Go.Eng
open Go.RowKit

def flat (es : List V) : List V := es.flatMap V.cells

theorem flat_length {sz : Nat} : ∀ {es : List V}, (∀ e ∈ es, e.fits sz) → (flat es).length = es.length * sz
  | [], _ => by simp [flat]
  | e :: es, h => by
    have h1 := (h e (by simp)).1
    have h2 := flat_length (es := es) (fun x hx => h x (by simp [hx]))
    unfold flat at h2 ⊢
    rw [List.flatMap_cons, List.length_append, h1, h2, List.length_cons, Nat.add_mul]
    omega

theorem flat_get {sz : Nat} : ∀ {es : List V}, (∀ e ∈ es, e.fits sz) → ∀ {k j : Nat} {e c : V}, es[k]? = some e → e.cells[j]? = some c → (flat es)[k * sz + j]? = some c
  | [], _, k, j, e, c, hk, _ => by simp at hk
  | x :: es, h, k, j, e, c, hk, hj => by
    have h1 := (h x (by simp)).1
    have hj' : j < e.cells.length := (List.getElem?_eq_some_iff.1 hj).1
    unfold flat
    rw [List.flatMap_cons]
    rcases k with _ | k
    · simp only [List.getElem?_cons_zero, Option.some.injEq] at hk
      subst hk
      rw [Nat.zero_mul, Nat.zero_add, List.getElem?_append_left hj']
      exact hj
    · simp only [List.getElem?_cons_succ] at hk
      have ih := flat_get (es := es) (fun y hy => h y (by simp [hy])) hk hj
      unfold flat at ih
      rw [List.getElem?_append_right (by rw [h1, Nat.add_mul]; omega), h1, show (k + 1) * sz + j - sz = k * sz + j by rw [Nat.add_mul]; omega]
      exact ih

theorem flat_append (a b : List V) : flat (a ++ b) = flat a ++ flat b := by simp [flat]

/-- The value with the cells from off on replaced. -/
def V.setPart (e : V) (off : Nat) (v : V) : V :=
  match e with
  | .agg cs => .agg (cs.take off ++ v.cells ++ cs.drop (off + v.cells.length))
  | _ => v

def AS.putv (S : AS) (dst : Option Nat) (v : V) : Option AS :=
  match dst with
  | some d => if d < S.nt then some { S with env := (d, v) :: S.env } else none
  | none => some S

/-- The elements that a slice value stands for. -/
def AS.elems (S : AS) : V → Option (Nat × List V)
  | .ro sz es => some (sz, es)
  | .nils => some (0, [])
  | .sl d v sz len => match get S.objs d with
    | some o => if o.v = v ∧ o.sz = sz ∧ o.es.length = len then some (sz, o.es) else none
    | none => none
  | .ss d v sz off len => match get S.objs d with
    | some o => if o.v = v ∧ o.sz = sz ∧ off + len ≤ o.es.length then some (sz, (o.es.drop off).take len) else none
    | none => none
  | _ => none

def tbytes (P : Program) (t : TypeId) : Option Nat := (P.info? t).map (·.bytes)

/-- Puts elements into a list of elements. -/
def asets (sz : Nat) (es : List V) : List (Nat × V) → Option (List V)
  | [] => some es
  | (i, v) :: r => if v.cells.length = sz ∧ i < es.length ∧ cellOk v = true then asets sz (es.set i v) r else none

/-- The cells of a value of a type whose zero value is known. -/
def tok (P : Program) (t : TypeId) : Option Nat := match tzero P t, tsz P t with
  | some z, some n => if z.cells.length = n ∧ cellOk z = true ∧ 0 < n then some n else none
  | _, _ => none

/-- What an operation makes of the objects, and its value. -/
def acore (P : Program) (i : Nat) (S : AS) (dst : Option Nat) : Op → Option (List (Nat × Ob) × V)
  | .alloc t => match dst, tzero P t, tok P t with
    | some d, some z, some n => some ((d, ⟨S.nx + i, n, t, [z]⟩) :: S.objs, .bp d (S.nx + i) n 0 0)
    | _, _, _ => none
  | .box t x => match dst, S.evc true x with
    | some d, some z => if cellOk z = true then some ((d, ⟨S.nx + i, z.cells.length, t, [z]⟩) :: S.objs, .bp d (S.nx + i) z.cells.length 0 0) else none
    | _, _ => none
  | .buildSlice t len parts => match dst, telem P t, S.evs true parts.toList with
    | some d, some te, some vs => match tzero P te, tok P te with
      | some z, some n => if len * n ≤ 16777216 then (match asets n (List.replicate len z) vs with
        | some es => some ((d, ⟨S.nx + i, n, te, es⟩) :: S.objs, .sl d (S.nx + i) n len)
        | none => none) else none
      | _, _ => none
    | _, _, _ => none
  | .makeSlice t l c => match dst, telem P t, S.evc true l, S.evc true c with
    | some d, some te, some (.int _ l), some (.int _ c) => match tzero P te, tok P te, tbytes P te with
      | some z, some n, some b => if 0 ≤ l ∧ l ≤ c ∧ c ≤ 9223372036854775807 ∧ (b : Int) * c ≤ 281474976710656 then
          some ((d, ⟨S.nx + i, n, te, List.replicate l.toNat z⟩) :: S.objs, .sl d (S.nx + i) n l.toNat) else none
      | _, _, _ => none
    | _, _, _, _ => none
  | .store t x y => match S.evc true x, S.evc true y, tsz P t with
    | some (.bp d v sz k off), some u, some n => match get S.objs d with
      | some o => if o.v = v ∧ o.sz = sz ∧ u.cells.length = n ∧ cellOk u = true ∧ 0 < n then (match nth o.es k with
        | some e => if off + n ≤ e.cells.length then some ((d, { o with es := o.es.set k (e.setPart off u) }) :: S.objs, .whn false (.bool true)) else none
        | none => none) else none
      | none => none
    | _, _, _ => none
  | .call { callee := .builtin .append, args, argTypes } => match args.toList, argTypes.toList, dst with
    | [s, x], [t, t'], some dd => if t = t' then (match S.evc true s, S.evc true x, telem P t with
      | some sv, some xv, some te => match S.elems xv, tok P te, tbytes P te with
        | some (sz', news), some n, some b => match sv with
          | .sl d v sz len => match get S.objs d with
            | some o => if o.v = v ∧ o.sz = sz ∧ o.es.length = len ∧ o.ty = te ∧ n = sz ∧ (news ≠ [] → sz' = sz) ∧ len + news.length ≤ maxLen ∧ (len + news.length) * b ≤ 140737488355328 then
                some ((d, ⟨S.nx + i, sz, te, o.es ++ news⟩) :: S.objs, .sl d (S.nx + i) sz (len + news.length)) else none
            | none => none
          | .nils => if (news ≠ [] → sz' = n) ∧ news.length ≤ maxLen ∧ news.length * b ≤ 140737488355328 then
                some ((dd, ⟨S.nx + i, n, te, news⟩) :: S.objs, .sl dd (S.nx + i) n news.length) else none
          | _ => none
        | _, _, _ => none
      | _, _, _ => none) else none
    | _, _, _ => none
  | _ => none

def aeff (P : Program) (i : Nat) (S : AS) (dst : Option Nat) (op : Op) : Option AS :=
  match acore P i S dst op with
  | some (O, v) => AS.putv { S with objs := O } dst v
  | none => none

section
variable {D : Nat → Prop} {w0 w : World} {N0 : Nat → Prop} {μ : Mu} {S : AS} {a : Act} {P : Program}

theorem RelM.putv (h : RelM D w0 N0 μ S a w) {S' : AS} {dst : Option Nat} {x : Value} {v : V} (hp : S.putv dst v = some S') (he : Enc w (Own N0 μ S) μ x v) : RelM D w0 N0 μ S' (a.put dst x) w := by
  unfold AS.putv at hp
  split at hp
  · split at hp
    · rename_i hd
      injection hp with hp
      subst hp
      exact h.put hd he
    · cases hp
  · injection hp with hp
    subst hp
    exact h

/-- What an operation does to the world, and the value that it leaves. -/
def Does (P : Program) (o : Oper) (a : Act) (w : World) (x : Value) (w' : World) : Prop :=
  (execOp a.eval o).run P w = .ok (.value x) w' ∨ ((execOp a.eval o).run P w = .ok .skip w' ∧ x = undef)

theorem cellOk_fits {v : V} (h : cellOk v = true) : v.fits v.cells.length := ⟨rfl, fun c hc => by simpa using List.all_eq_true.1 h c hc⟩

theorem tzero_run {t : TypeId} {z : V} (h : tzero P t = some z) (w : World) (N : Nat → Prop) : ∃ x, (zeroValue t).run P w = .ok x w ∧ Pur w N x z := by
  unfold tzero at h
  obtain ⟨inf, hinf, h⟩ := Option.bind_eq_some_iff.1 h
  obtain ⟨zv, hzv, h⟩ := Option.bind_eq_some_iff.1 h
  exact ⟨zv, by simp [zeroValue, typeInfo, hinf, hzv], zeroOf_pur h w N⟩

/-- A new variable. -/
theorem eff_newVar (h : RelM D w0 N0 μ S a w) {i : Nat} (hi : ¬ D i) {d : Nat} {t : TypeId} {x : Value} {z : V} {S' : AS} (hx : Enc w (Own N0 μ S) μ x z) (hz : cellOk z = true)
    (hp : AS.putv { S with objs := (d, ⟨S.nx + i, z.cells.length, t, [z]⟩) :: S.objs } (some d) (.bp d (S.nx + i) z.cells.length 0 0) = some S') :
    ∃ μ', RelM (fun j => D j ∨ j = i) w0 N0 μ' S' (a.put (some d) (.pointer (some ⟨w.heap.size, 0, none⟩))) (w.alloc (.cells x.cells t)) := by
  obtain ⟨h1, h2⟩ := hx.cells_at (cellOk_fits hz)
  have hr := h.alloc hi d x.cells t z.cells.length 1 [z] (by rw [h1, Nat.one_mul]) (by simp) (by simp [maxLen]) (fun e he => by simp at he; subst he; exact cellOk_fits hz) (fun k e j c hk hj => by
    rcases k with _ | k
    · simp at hk; subst hk
      obtain ⟨y, hy, hey, _⟩ := h2 j c hj
      exact ⟨y, by rw [Nat.zero_mul, Nat.zero_add]; exact hy, hey⟩
    · simp at hk)
  refine ⟨_, hr.putv hp ?_⟩
  have := Enc.bp (w := w.alloc (.cells x.cells t)) (N := Own N0 (muSet μ d (S.nx + i) (some (w.heap.size, 1))) { S with objs := (d, ⟨S.nx + i, z.cells.length, t, [z]⟩) :: S.objs }) d (S.nx + i) z.cells.length 0 0 w.heap.size 1 (muSet_same μ d (S.nx + i) (some (w.heap.size, 1)))
  simpa using this

/-- What the elements of a slice lie as. -/
theorem RelM.elems (h : RelM D w0 N0 μ S a w) {x : Value} {p : V} {sz : Nat} {es : List V} (hx : Enc w (Own N0 μ S) μ x p) (he : S.elems p = some (sz, es)) :
    ∃ A c, x = .slice A es.length c ∧ es.length ≤ c ∧ (es ≠ [] → (∀ e ∈ es, e.fits sz) ∧ ∃ ad vs, A = some ad ∧ vs.length = es.length * sz ∧ (∀ (j : Nat) u, vs[j]? = some u → w.cell? (Addr.add ad j) = some u) ∧ Row w (Own N0 μ S) μ vs (flat es)) := by
  have mk : ∀ (ad : Addr) (es : List V) (sz : Nat), (∀ e ∈ es, e.fits sz) → (∀ (k : Nat) e (j : Nat) c, es[k]? = some e → e.cells[j]? = some c → ∃ y, w.cell? (ad.add (k * sz + j)) = some y ∧ Enc w (Own N0 μ S) μ y c) →
      ∃ vs : List Value, vs.length = es.length * sz ∧ (∀ (j : Nat) u, vs[j]? = some u → w.cell? (ad.add j) = some u) ∧ Row w (Own N0 μ S) μ vs (flat es) := by
    intro ad es sz hf hc
    have hall : ∀ j, j < es.length * sz → ∃ y c, w.cell? (ad.add j) = some y ∧ (flat es)[j]? = some c ∧ Enc w (Own N0 μ S) μ y c := by
      intro j hj
      have hsz : 0 < sz := by
        rcases Nat.eq_zero_or_pos sz with h0 | h0
        · subst h0; simp at hj
        · exact h0
      have hk : j / sz < es.length := Nat.div_lt_of_lt_mul (by rw [Nat.mul_comm]; exact hj)
      have hfe := hf es[j / sz] (List.getElem_mem hk)
      have hj2 : j % sz < es[j / sz].cells.length := by rw [hfe.1]; exact Nat.mod_lt _ hsz
      have e1 : j / sz * sz + j % sz = j := by rw [Nat.mul_comm]; exact Nat.div_add_mod j sz
      obtain ⟨y, hy, hey⟩ := hc (j / sz) _ (j % sz) _ (List.getElem?_eq_getElem hk) (List.getElem?_eq_getElem hj2)
      have hfl := flat_get hf (List.getElem?_eq_getElem hk) (List.getElem?_eq_getElem hj2)
      rw [e1] at hy hfl
      exact ⟨y, _, hy, hfl, hey⟩
    refine ⟨(List.range (es.length * sz)).map fun j => (w.cell? (ad.add j)).getD undef, by simp, fun j u hu => ?_, ⟨by simp [flat_length hf], fun j y c hy hc' => ?_⟩⟩
    · have hj : j < es.length * sz := by have := (List.getElem?_eq_some_iff.1 hu).1; simpa using this
      obtain ⟨y, c, h1, h2, h3⟩ := hall j hj
      simp only [List.getElem?_map, List.getElem?_range hj, Option.map_some, Option.some.injEq, h1, Option.getD_some] at hu
      rw [h1, hu]
    · have hj : j < es.length * sz := by have := (List.getElem?_eq_some_iff.1 hy).1; simpa using this
      obtain ⟨y', c', h1, h2, h3⟩ := hall j hj
      simp only [List.getElem?_map, List.getElem?_range hj, Option.map_some, Option.some.injEq, h1, Option.getD_some] at hy
      rw [h2] at hc'
      injection hc' with hc'
      subst hy; subst hc'
      exact h3
  cases p <;> simp only [AS.elems] at he <;> try (cases he; done)
  case ro sz' es' =>
    simp only [Option.some.injEq, Prod.mk.injEq] at he
    obtain ⟨rfl, rfl⟩ := he
    cases hx with
    | pur hx =>
    cases hx with
    | ro A ad n cap _ _ g hn hcap hmax hA hf hc hh =>
    subst hn
    refine ⟨A, cap, rfl, hcap, fun hne => ⟨hf, ?_⟩⟩
    obtain ⟨hA1, _, _⟩ := hA (List.length_pos_iff.2 hne)
    obtain ⟨vs, v1, v2, v3⟩ := mk ad es' sz' hf (fun k e j c h1 h2 => ⟨_, hc k e j c h1 h2, .pur (hh k e j c h1 h2)⟩)
    exact ⟨ad, vs, hA1, v1, v2, v3⟩
  case nils =>
    simp only [Option.some.injEq, Prod.mk.injEq] at he
    obtain ⟨rfl, rfl⟩ := he
    cases hx with
    | pur hx =>
    cases hx with
    | nils A => exact ⟨A, 0, rfl, Nat.le_refl _, fun hne => absurd rfl hne⟩
  case sl d v sz' len =>
    split at he
    case h_2 => cases he
    rename_i o ho
    split at he
    case isFalse => cases he
    rename_i hb
    obtain ⟨rfl, rfl, hlen⟩ := hb
    simp only [Option.some.injEq, Prod.mk.injEq] at he
    obtain ⟨rfl, rfl⟩ := he
    cases hx with
    | pur hx => cases hx
    | slr _ _ _ _ g cap hm hle hmax =>
      refine ⟨_, cap, by rw [hlen], by rw [hlen]; exact hle, fun hne => ?_⟩
      obtain ⟨l, hl, hob⟩ := h.objs d o ho
      rw [hm] at hl
      injection hl with hl
      subst hl
      obtain ⟨_, _, _, h4, arr, h5, h6, h7⟩ := hob
      refine ⟨h4, ?_⟩
      obtain ⟨vs, v1, v2, v3⟩ := mk ⟨g, 0, none⟩ o.es o.sz h4 (fun k e j c h1 h2 => by
        obtain ⟨y, hy, hey⟩ := h7 k e j c h1 h2
        exact ⟨y, by rw [Addr.add_lit, Nat.zero_add, cell_of_row w g _ arr o.ty (0, 0) h5]; exact hy, hey⟩)
      exact ⟨_, vs, rfl, v1, v2, v3⟩
    | slv _ _ _ A hm =>
      have hnil : o.es = [] := List.eq_nil_of_length_eq_zero hlen
      exact ⟨A, 0, by rw [hlen], by rw [hlen]; exact Nat.le_refl _, fun hne => absurd hnil hne⟩
  case ss d v sz' off len =>
    split at he
    case h_2 => cases he
    rename_i o ho
    split at he
    case isFalse => cases he
    rename_i hb
    obtain ⟨rfl, rfl, hlen⟩ := hb
    simp only [Option.some.injEq, Prod.mk.injEq] at he
    obtain ⟨rfl, rfl⟩ := he
    have hl' : ((o.es.drop off).take len).length = len := by simp; omega
    cases hx with
    | pur hx => cases hx
    | ss _ _ _ _ _ g c cap A hle hcm hA =>
      refine ⟨A, c, by rw [hl'], by rw [hl']; exact hle, fun hne => ?_⟩
      have hpos : 0 < len := by
        have := List.length_pos_iff.2 hne
        omega
      obtain ⟨hm, rfl⟩ := hA hpos
      obtain ⟨l, hl, hob⟩ := h.objs d o ho
      rw [hm] at hl
      injection hl with hl
      subst hl
      obtain ⟨_, _, _, h4, arr, h5, h6, h7⟩ := hob
      have h4' : ∀ e ∈ (o.es.drop off).take len, e.fits o.sz := fun e he => h4 e (List.mem_of_mem_drop (List.mem_of_mem_take he))
      refine ⟨h4', ?_⟩
      obtain ⟨vs, v1, v2, v3⟩ := mk ⟨g, off * o.sz, none⟩ ((o.es.drop off).take len) o.sz h4' (fun k e j c h1 h2 => by
        have hk : k < len := by have := (List.getElem?_eq_some_iff.1 h1).1; omega
        rw [List.getElem?_take_of_lt hk, List.getElem?_drop] at h1
        obtain ⟨y, hy, hey⟩ := h7 (off + k) e j c h1 h2
        exact ⟨y, by rw [Addr.add_lit, cell_of_row w g _ arr o.ty (0, 0) h5, show off * o.sz + (k * o.sz + j) = (off + k) * o.sz + j by rw [Nat.add_mul]; omega]; exact hy, hey⟩)
      exact ⟨_, vs, rfl, v1, v2, v3⟩
end
end Go.Eng
