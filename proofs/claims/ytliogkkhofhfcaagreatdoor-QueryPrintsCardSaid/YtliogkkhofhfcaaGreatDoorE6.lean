import Derived.Test.YtliogkkhofhfcaaGreatDoorE5
/- Values that say less: a nil slice reads as an empty list. No condition. -/
set_option linter.unusedSimpArgs false
namespace Go.Eng
open Go.RowKit

/-- Whatever reads as v reads as v'. -/
def Relax (v v' : V) : Prop := (∀ (w : World) (N : Nat → Prop) (x : Value), Pur w N x v → Pur w N x v') ∧ (v.isCell = true → v'.isCell = true)
inductive RelaxL : List V → List V → Prop
  | nil : RelaxL [] []
  | cons {v v' : V} {l l' : List V} (h : Relax v v') (t : RelaxL l l') : RelaxL (v :: l) (v' :: l')

theorem Relax.refl (v : V) : Relax v v := ⟨fun _ _ _ h => h, id⟩
theorem Relax.trans {u v w : V} (h : Relax u v) (k : Relax v w) : Relax u w := ⟨fun a b c d => k.1 a b c (h.1 a b c d), fun c => k.2 (h.2 c)⟩
theorem Pur.nils_ro {w : World} {N : Nat → Prop} {x : Value} (sz : Nat) (h : Pur w N x .nils) : Pur w N x (.ro sz []) := by
  cases h with
  | nils A => exact .ro A ⟨0, 0, none⟩ 0 0 sz [] (fun _ _ => undef) rfl (Nat.le_refl _) (Nat.zero_le _) (fun h0 => by omega) (by simp) (by simp) (by simp)
theorem Relax.nils (sz : Nat) : Relax .nils (.ro sz []) := ⟨fun _ _ _ h => h.nils_ro sz, fun _ => rfl⟩
theorem RelaxL.length {l l' : List V} (h : RelaxL l l') : l.length = l'.length := by induction h <;> simp_all
theorem RelaxL.get {l l' : List V} (h : RelaxL l l') : ∀ (i : Nat) v', l'[i]? = some v' → ∃ v, l[i]? = some v ∧ Relax v v' := by
  induction h with
  | nil => intro i v' h; simp at h
  | cons h _ ih =>
    intro i v' hv
    rcases i with _ | i
    · simp at hv; subst hv; exact ⟨_, rfl, h⟩
    · simp at hv; obtain ⟨v, h1, h2⟩ := ih i v' hv; exact ⟨v, by simpa using h1, h2⟩
theorem RelaxL.refl : ∀ l : List V, RelaxL l l
  | [] => .nil
  | v :: l => .cons (Relax.refl v) (RelaxL.refl l)
theorem Relax.agg {cs ds : List V} (h : RelaxL cs ds) : Relax (.agg cs) (.agg ds) := by
  refine ⟨fun w N x hx => ?_, fun h => by simp [V.isCell] at h⟩
  cases hx with
  | agg xs _ hl hc hh =>
    refine .agg xs ds (by rw [hl, h.length]) (fun c hc' => ?_) (fun i x c hx' hc' => ?_)
    · obtain ⟨i, hi⟩ := List.getElem?_of_mem hc'
      obtain ⟨v, h1, h2⟩ := h.get i c hi
      exact h2.2 (hc v (List.mem_of_getElem? h1))
    · obtain ⟨v, h1, h2⟩ := h.get i c hc'
      exact h2.1 _ _ _ (hh i x v hx' h1)
theorem Relax.tup {cs ds : List V} (h : RelaxL cs ds) : Relax (.tup cs) (.tup ds) := by
  refine ⟨fun w N x hx => ?_, fun h => by simp [V.isCell] at h⟩
  cases hx with
  | tup xs _ hl hh =>
    refine .tup xs ds (by rw [hl, h.length]) (fun i x c hx' hc' => ?_)
    obtain ⟨v, h1, h2⟩ := h.get i c hc'
    exact h2.1 _ _ _ (hh i x v hx' h1)
/-- The elements of a list that is read. -/
theorem Relax.ro {sz : Nat} {es fs : List V} (h : RelaxL es fs) (hf : ∀ (k : Nat) e f, es[k]? = some e → fs[k]? = some f → e.cells.length = f.cells.length ∧ (∀ (j : Nat) c d, e.cells[j]? = some c → f.cells[j]? = some d → Relax c d)) : Relax (.ro sz es) (.ro sz fs) := by
  refine ⟨fun w N x hx => ?_, fun _ => rfl⟩
  cases hx with
  | ro A ad n cap _ _ g hn hcap hmax hA hfit hc hh =>
    have hl := h.length
    have at_ : ∀ (k : Nat) f, fs[k]? = some f → ∃ e, es[k]? = some e ∧ e.cells.length = f.cells.length ∧ (∀ (j : Nat) c d, e.cells[j]? = some c → f.cells[j]? = some d → Relax c d) := by
      intro k f hk
      obtain ⟨e, h1, _⟩ := h.get k f hk
      exact ⟨e, h1, hf k e f h1 hk⟩
    refine .ro A ad n cap sz fs g (by rw [← hl]; exact hn) hcap hmax hA (fun f hf' => ?_) (fun k f j d hk hj => ?_) (fun k f j d hk hj => ?_)
    · obtain ⟨k, hk⟩ := List.getElem?_of_mem hf'
      obtain ⟨e, h1, h2, h3⟩ := at_ k f hk
      have hfe := hfit e (List.mem_of_getElem? h1)
      refine ⟨by rw [← h2]; exact hfe.1, fun d hd => ?_⟩
      obtain ⟨j, hj⟩ := List.getElem?_of_mem hd
      have hlt : j < e.cells.length := by rw [h2]; exact (List.getElem?_eq_some_iff.1 hj).1
      exact (h3 j _ d (List.getElem?_eq_getElem hlt) hj).2 (hfe.2 _ (List.getElem_mem hlt))
    · obtain ⟨e, h1, h2, h3⟩ := at_ k f hk
      have hlt : j < e.cells.length := by rw [h2]; exact (List.getElem?_eq_some_iff.1 hj).1
      exact hc k e j _ h1 (List.getElem?_eq_getElem hlt)
    · obtain ⟨e, h1, h2, h3⟩ := at_ k f hk
      have hlt : j < e.cells.length := by rw [h2]; exact (List.getElem?_eq_some_iff.1 hj).1
      exact (h3 j _ d (List.getElem?_eq_getElem hlt) hj).1 _ _ _ (hh k e j _ h1 (List.getElem?_eq_getElem hlt))

theorem AC.relax {P : Program} {f : FuncId} {args : List V} {v v' : V} (h : AC P f args (fun r => r = v)) (hr : Relax v v') : AC P f args (fun r => r = v') :=
  fun w N xs h1 h2 h3 => (h w N xs h1 h2 h3).mono fun _ _ ⟨x, _, he, hR, hp, hb⟩ => ⟨x, v', he, rfl, hr.1 _ _ _ (hR ▸ hp), hb⟩
theorem AC.argsR {P : Program} {f : FuncId} {args args' : List V} {R : V → Prop} (h : AC P f args' R) (hr : RelaxL args args') : AC P f args R :=
  fun w N xs h1 h2 h3 => h w N xs h1 (by rw [h2, hr.length]) (fun i x v hx hv => by
    obtain ⟨u, h4, h5⟩ := hr.get i v hv
    exact h5.1 _ _ _ (h3 i x u hx h4))

theorem Enc.relax {w : World} {N : Nat → Prop} {μ : Mu} {x : Value} {v v' : V} (h : Enc w N μ x v) (hp : v.pureV = true) (hr : Relax v v') : Enc w N μ x v' := .pur (hr.1 _ _ _ (h.pureV hp))
theorem le_relax {S : AS} {t : Nat} {v v' : V} (ht : get S.env t = some v) (hp : v.pureV = true) (hr : Relax v v') : S.le { S with env := (t, v') :: S.env } := by
  rintro w0 N0 a w ⟨μ, h⟩
  refine ⟨μ, h.defers, h.size, h.below, h.n0, h.fresh, h.objs, h.inj, fun u x hu => ?_⟩
  rw [get_cons] at hu
  by_cases e : t = u
  · subst e
    simp only [if_true, Option.some.injEq] at hu
    subst hu
    exact ⟨(h.env t v ht).1, (h.env t v ht).2.relax hp hr⟩
  · simp only [e, if_false] at hu
    exact h.env u x hu
/-- A slot that is read as less. -/
theorem aw_relax {P : Program} {w0 : Bs} {N0 : Nat → Prop} {Q : Exit → AS → Prop} {S S' : AS} {c : Code} (t : Nat) {v : V} (v' : V) (L M : List Nat) (ht : get S.env t = some v) (hp : v.pureV = true) (hr : Relax v v') (hS : AS.keep { S with env := (t, v') :: S.env } L M = S') (h : AW P w0 N0 c Q S') : AW P w0 N0 c Q S :=
  aw_le (le_relax ht hp hr) (aw_keep L M hS h)
end Go.Eng

/- Lengths of lists that are read are bounded. No condition. -/
set_option linter.unusedSimpArgs false
namespace Go.Eng
open Go.RowKit

theorem Pur.ro_len {w : World} {N : Nat → Prop} {x : Value} {sz : Nat} {es : List V} (h : Pur w N x (.ro sz es)) : es.length ≤ maxLen := by
  cases h with
  | ro A ad n cap _ _ g hn hcap hmax _ _ _ _ => omega
theorem ac_lenR {P : Program} {f : FuncId} {args : List V} {R : V → Prop} (i : Nat) {sz : Nat} {es : List V} (h : args[i]? = some (.ro sz es)) (k : es.length ≤ maxLen → AC P f args R) : AC P f args R := by
  intro w N xs h1 h2 h3
  have hi : i < xs.length := by rw [h2]; exact (List.getElem?_eq_some_iff.1 h).1
  exact k (h3 i xs[i] _ (List.getElem?_eq_getElem hi) h).ro_len w N xs h1 h2 h3
theorem ac_lenC {P : Program} {f : FuncId} {args : List V} {R : V → Prop} (i j : Nat) {sz : Nat} {cs es : List V} (h : args[i]? = some (.agg cs)) (hj : cs[j]? = some (.ro sz es)) (k : es.length ≤ maxLen → AC P f args R) : AC P f args R := by
  intro w N xs h1 h2 h3
  have hi : i < xs.length := by rw [h2]; exact (List.getElem?_eq_some_iff.1 h).1
  have hp := h3 i xs[i] _ (List.getElem?_eq_getElem hi) h
  refine k ?_ w N xs h1 h2 h3
  generalize xs[i] = x at hp
  cases hp with
  | agg ys _ hl _ hh =>
    have hlt : j < ys.length := by rw [hl]; exact (List.getElem?_eq_some_iff.1 hj).1
    exact (hh j ys[j] _ (List.getElem?_eq_getElem hlt) hj).ro_len
theorem aw_len {P : Program} {w0 : Bs} {N0 : Nat → Prop} {Q : Exit → AS → Prop} {S : AS} {c : Code} (t : Nat) {sz : Nat} {es : List V} (h : get S.env t = some (.ro sz es)) (k : es.length ≤ maxLen → AW P w0 N0 c Q S) : AW P w0 N0 c Q S := by
  rintro a w ⟨μ, hr⟩
  have := (hr.env t _ h).2
  refine k ?_ a w ⟨μ, hr⟩
  generalize a.tmps.getD t undef = x at this
  cases this with
  | pur hp => exact hp.ro_len
theorem acO_lenR {P : Program} {f : FuncId} {args : List V} {sz' : Nat} {ty : TypeId} {R : (Nat → Nat → V) → List V → Prop} (i : Nat) {sz : Nat} {es : List V} (h : args[i]? = some (.ro sz es)) (k : es.length ≤ maxLen → ACO P f args sz' ty R) : ACO P f args sz' ty R := by
  intro w N xs h1 h2 h3
  have hi : i < xs.length := by rw [h2]; exact (List.getElem?_eq_some_iff.1 h).1
  exact k (h3 i xs[i] _ (List.getElem?_eq_getElem hi) h).ro_len w N xs h1 h2 h3

/-- A row of zeros whose first k elements are filled from l. -/
def fillK (l : List V) (z : V) (k : Nat) : List V := l.take k ++ List.replicate (l.length - k) z
theorem fillK_zero (l : List V) (z : V) : fillK l z 0 = List.replicate l.length z := by simp [fillK]
theorem fillK_all (l : List V) (z : V) (k : Nat) (h : l.length ≤ k) : fillK l z k = l := by
  rw [fillK, List.take_of_length_le h, show l.length - k = 0 by omega]; simp
theorem fillK_len (l : List V) (z : V) (k : Nat) (h : k ≤ l.length) : (fillK l z k).length = l.length := by simp [fillK]; omega
theorem fillK_nth (l : List V) (z : V) (k : Nat) (h : k < l.length) : nth (fillK l z k) k = some z := by
  rw [nth_eq, fillK, List.getElem?_append_right (by simp; omega)]
  rw [List.getElem?_replicate, List.length_take, Nat.min_eq_left (Nat.le_of_lt h), if_pos (by omega)]
theorem fillK_set (l : List V) (z : V) (k : Nat) (h : k < l.length) {x : V} (hx : l[k]? = some x) : (fillK l z k).set k x = fillK l z (k + 1) := by
  have hx' : l[k] = x := by rw [List.getElem?_eq_getElem h] at hx; injection hx
  unfold fillK
  rw [List.set_append_right _ _ (by simp; omega), List.take_succ_eq_append_getElem h, hx']
  simp only [List.length_take, Nat.min_eq_left (Nat.le_of_lt h), Nat.sub_self]
  rw [show l.length - k = (l.length - (k + 1)) + 1 by omega, List.replicate_succ, List.set_cons_zero]
  simp
theorem nth_set {l : List V} {k : Nat} {x : V} (h : k < l.length) : nth (l.set k x) k = some x := by rw [nth_eq]; simp [h]
theorem nth_append_len {l : List V} {x : V} : nth (l ++ [x]) l.length = some x := by rw [nth_eq]; simp
end Go.Eng

/- A row of the call's own that is not written any more becomes a list that is read. No condition. -/
set_option linter.unusedSimpArgs false
namespace Go.Eng
open Go.RowKit

/-- A cell with the slices of row d read as lists. -/
def V.frzC (d v sz : Nat) (es : List V) : V → V
  | .sl d' v' sz' len => if d' = d ∧ v' = v ∧ sz' = sz ∧ es.length = len then .ro sz es else .sl d' v' sz' len
  | .ss d' v' sz' off len => if d' = d ∧ v' = v ∧ sz' = sz ∧ off + len ≤ es.length then .ro sz ((es.drop off).take len) else .ss d' v' sz' off len
  | .bp d' v' sz' k off => if d' = d ∧ v' = v ∧ sz' = sz ∧ off = 0 then (match nth es k with | some e => .rp e | none => .bp d' v' sz' k off) else .bp d' v' sz' k off
  | u => u
def V.frz (d v sz : Nat) (es : List V) : V → V
  | .agg cs => .agg (cs.map (V.frzC d v sz es))
  | u => u.frzC d v sz es
def eraseK {α : Type} (d : Nat) : List (Nat × α) → List (Nat × α)
  | [] => []
  | (k, x) :: r => if k = d then eraseK d r else (k, x) :: eraseK d r
theorem get_eraseK {α : Type} (d t : Nat) : ∀ (l : List (Nat × α)) (x : α), get (eraseK d l) t = some x → t ≠ d ∧ get l t = some x
  | [], x, h => by simp [eraseK, get] at h
  | (k, y) :: r, x, h => by
    unfold eraseK at h
    split at h
    · rename_i e
      obtain ⟨h1, h2⟩ := get_eraseK d t r x h
      refine ⟨h1, ?_⟩
      rw [get_cons, if_neg (by omega)]
      exact h2
    · rename_i e
      rw [get_cons] at h ⊢
      split at h
      · rename_i e2; exact ⟨by omega, by rw [if_pos e2]; exact h⟩
      · rename_i e2
        obtain ⟨h1, h2⟩ := get_eraseK d t r x h
        exact ⟨h1, by rw [if_neg e2]; exact h2⟩
theorem get_mapK {α β : Type} (f : α → β) (t : Nat) : ∀ (l : List (Nat × α)) (y : β), get (mapK f l) t = some y → ∃ x, get l t = some x ∧ f x = y
  | [], y, h => by simp [mapK, get] at h
  | (k, x) :: r, y, h => by
    unfold mapK at h
    rw [get_cons] at h
    rw [get_cons]
    split at h
    · rename_i e; rw [if_pos e]; injection h with h; exact ⟨x, rfl, h⟩
    · rename_i e; rw [if_neg e]; exact get_mapK f t r y h

/-- The row d is given up and read from now on. -/
def AS.freeze (S : AS) (d : Nat) : Option AS :=
  match get S.objs d with
  | some o => if o.es.all V.pureE = true then some { S with env := mapK (V.frz d o.v o.sz o.es) S.env, objs := mapK (fun q => { q with es := q.es.map (V.frz d o.v o.sz o.es) }) (eraseK d S.objs) } else none
  | none => none
def AS.freezeK (S : AS) (d : Nat) (L M : List Nat) : Option AS :=
  match S.freeze d with
  | some S' => some (S'.keep L M)
  | none => none
attribute [simp] V.frzC V.frz eraseK mapK AS.freeze AS.freezeK

section
variable {P : Program} {D : Nat → Prop} {w0 : Bs} {w : World} {N0 : Nat → Prop} {μ : Mu} {S : AS} {a : Act} {Q : Exit → AS → Prop}

theorem RelM.frzC (h : RelM D w0 N0 μ S a w) {d : Nat} {o : Ob} (ho : get S.objs d = some o) (hp : o.es.all V.pureE = true) {N' : Nat → Prop} (hsub : ∀ b, b < w.heap.size → N' b → Own N0 μ S b)
    (hd : ∀ g c, μ d o.v = some (some (g, c)) → ¬ N' g) {x : Value} {v : V} (hx : Enc w (Own N0 μ S) μ x v) : Enc w N' μ x (v.frzC d o.v o.sz o.es) := by
  have other : Enc w N' μ x v := hx.keep (Keeps.refl _ _) hsub (fun _ _ _ hh => hh)
  have key : ∀ (v : V) (es : List V), Enc w (Own N0 μ S) μ x v → S.elems v = some (o.sz, es) → es.all V.pureE = true → (∃ off len, v = .ss d o.v o.sz off len ∨ v = .sl d o.v o.sz len) → Enc w N' μ x (.ro o.sz es) := by
    intro v es hx hes hp hform
    refine .pur ?_
    obtain ⟨A, c, rfl, hlc, hrest⟩ := h.elems hx hes
    by_cases hne : es = []
    · subst hne
      have hc : c ≤ maxLen := by
        obtain ⟨off, len, rfl | rfl⟩ := hform
        · cases hx with
          | pur hx => cases hx
          | ss _ _ _ _ _ g c' cap A' h1 h2 h3 => exact h2
        · cases hx with
          | pur hx => cases hx
          | slr _ _ _ _ g cap h1 h2 h3 => exact h3
          | slv => simp [maxLen]
      exact .ro A ⟨0, 0, none⟩ 0 c _ [] (fun _ _ => undef) rfl hlc hc (fun h0 => absurd h0 (by simp)) (by simp) (by simp) (by simp)
    · obtain ⟨hf, ad, vs, rfl, hvl, hvc, hrow⟩ := hrest hne
      have hblk : ad.block < w.heap.size ∧ ¬ N' ad.block ∧ c ≤ maxLen := by
        have hpos := List.length_pos_iff.2 hne
        obtain ⟨off, len, rfl | rfl⟩ := hform
        · simp only [AS.elems, ho] at hes
          split at hes
          case isFalse => cases hes
          rename_i hb
          obtain ⟨_, _, hb3⟩ := hb
          simp only [Option.some.injEq, Prod.mk.injEq, true_and] at hes
          subst hes
          have hl' : ((o.es.drop off).take len).length = len := by simp; omega
          rw [hl'] at hpos hx
          cases hx with
          | pur hx => cases hx
          | ss _ _ _ _ _ g c' cap A' h1 h2 h3 =>
            obtain ⟨hm, hA⟩ := h3 hpos
            injection hA with hA
            subst hA
            exact ⟨h.block_lt ho hm, hd _ _ hm, h2⟩
        · simp only [AS.elems, ho] at hes
          split at hes
          case isFalse => cases hes
          rename_i hb
          obtain ⟨_, _, hb3⟩ := hb
          simp only [Option.some.injEq, Prod.mk.injEq, true_and] at hes
          subst hes
          rw [hb3] at hpos hx
          cases hx with
          | pur hx => cases hx
          | slr _ _ _ _ g cap hm h2 h3 => exact ⟨h.block_lt ho hm, hd _ _ hm, h3⟩
          | slv => exact absurd hpos (by simp)
      have hat : ∀ (k : Nat) e (j : Nat) c, es[k]? = some e → e.cells[j]? = some c → ∃ y, vs[k * o.sz + j]? = some y ∧ Enc w (Own N0 μ S) μ y c := by
        intro k e j c hk hj
        have hfl := flat_get hf hk hj
        have hlt : k * o.sz + j < vs.length := by rw [hrow.1]; exact (List.getElem?_eq_some_iff.1 hfl).1
        exact ⟨_, List.getElem?_eq_getElem hlt, hrow.2 _ _ c (List.getElem?_eq_getElem hlt) hfl⟩
      refine .ro _ ad es.length c o.sz es (fun k j => (vs[k * o.sz + j]?).getD undef) rfl hlc hblk.2.2 (fun _ => ⟨rfl, hblk.1, hblk.2.1⟩) hf (fun k e j c hk hj => ?_) (fun k e j c hk hj => ?_)
      · obtain ⟨y, hy, _⟩ := hat k e j c hk hj
        simp only [hy, Option.getD_some]
        exact hvc _ _ hy
      · obtain ⟨y, hy, hey⟩ := hat k e j c hk hj
        simp only [hy, Option.getD_some]
        have hpc : c.pureC = true := List.all_eq_true.1 (List.all_eq_true.1 hp e (List.mem_of_getElem? hk)) c (List.mem_of_getElem? hj)
        exact (hey.pureC hpc).keep (Keeps.refl _ _) hsub
  unfold V.frzC
  split
  · split
    · rename_i d' v' sz' len hc
      obtain ⟨rfl, rfl, rfl, hl⟩ := hc
      exact key _ o.es hx (by simp [AS.elems, ho, hl]) hp ⟨0, len, .inr rfl⟩
    · exact other
  · split
    · rename_i d' v' sz' off len hc
      obtain ⟨rfl, rfl, rfl, hl⟩ := hc
      refine key _ _ hx (by simp [AS.elems, ho, hl]) ?_ ⟨off, len, .inl rfl⟩
      rw [List.all_eq_true] at hp ⊢
      exact fun e he => hp e (List.mem_of_mem_drop (List.mem_of_mem_take he))
    · exact other
  · split
    · rename_i d' v' sz' k off hc
      obtain ⟨rfl, rfl, rfl, rfl⟩ := hc
      split
      · rename_i e he
        rw [nth_eq] at he
        cases hx with
        | pur hx => cases hx
        | bp _ _ _ _ _ g cap hm =>
          obtain ⟨l, hl, hob⟩ := h.objs d' o ho
          rw [hm] at hl
          injection hl with hl
          subst hl
          obtain ⟨b1, b2, b3, b4, arr, b5, b6, b7⟩ := hob
          have hpe := List.all_eq_true.1 hp e (List.mem_of_getElem? he)
          have hcell : ∀ j, w.cell? ((⟨g, k * o.sz + 0, none⟩ : Addr).add j) = arr[k * o.sz + j]? := by
            intro j
            rw [Addr.add_lit, Nat.add_zero]
            simp [World.cell?, b5]
          refine .pur (.rp ⟨g, k * o.sz + 0, none⟩ o.sz e (fun j => (arr[k * o.sz + j]?).getD undef) (h.block_lt ho hm) (hd _ _ hm) (b4 e (List.mem_of_getElem? he)) (fun j c hj => ?_) (fun j c hj => ?_))
          · obtain ⟨y, hy, _⟩ := b7 k e j c he hj
            rw [hcell, hy]; rfl
          · obtain ⟨y, hy, hey⟩ := b7 k e j c he hj
            simp only [hy, Option.getD_some]
            exact (hey.pureC (List.all_eq_true.1 hpe c (List.mem_of_getElem? hj))).keep (Keeps.refl _ _) hsub
      · exact other
    · exact other
  · exact other

theorem frzC_cell (d v sz : Nat) (es : List V) {c : V} (h : c.isCell = true) : (c.frzC d v sz es).isCell = true := by
  unfold V.frzC
  split
  · split <;> first | rfl | exact h
  · split <;> first | rfl | exact h
  · split
    · split <;> rfl
    · exact h
  · exact h
theorem frz_cells (d v sz : Nat) (es : List V) (e : V) : (e.frz d v sz es).cells = e.cells.map (V.frzC d v sz es) := by
  cases e with
  | agg cs => rfl
  | sl d' v' sz' len => simp only [V.frz, V.frzC, V.cells, List.map_cons, List.map_nil]; by_cases hc : d' = d ∧ v' = v ∧ sz' = sz ∧ es.length = len <;> simp [hc]
  | ss d' v' sz' off len => simp only [V.frz, V.frzC, V.cells, List.map_cons, List.map_nil]; by_cases hc : d' = d ∧ v' = v ∧ sz' = sz ∧ off + len ≤ es.length <;> simp [hc]
  | bp d' v' sz' k off =>
    simp only [V.frz, V.frzC, V.cells, List.map_cons, List.map_nil]
    by_cases hc : d' = d ∧ v' = v ∧ sz' = sz ∧ off = 0
    · simp only [if_pos hc]; cases nth es k <;> rfl
    · simp only [if_neg hc]
  | _ => rfl

theorem RelM.frz (h : RelM D w0 N0 μ S a w) {d : Nat} {o : Ob} (ho : get S.objs d = some o) (hp : o.es.all V.pureE = true) {N' : Nat → Prop} (hsub : ∀ b, b < w.heap.size → N' b → Own N0 μ S b)
    (hd : ∀ g c, μ d o.v = some (some (g, c)) → ¬ N' g) {x : Value} {v : V} (hx : Enc w (Own N0 μ S) μ x v) : Enc w N' μ x (v.frz d o.v o.sz o.es) := by
  cases v with
  | agg cs =>
    have key : ∀ xs : List Value, xs.length = cs.length → (∀ c ∈ cs, c.isCell = true) → (∀ (i : Nat) x c, xs[i]? = some x → cs[i]? = some c → Enc w (Own N0 μ S) μ x c) → Enc w N' μ (.agg xs.toArray) (.agg (cs.map (V.frzC d o.v o.sz o.es))) := by
      intro xs hl hc hh
      refine .agg xs _ (by simp [hl]) (fun c hc' => ?_) (fun i x c hx' hc' => ?_)
      · simp only [List.mem_map] at hc'
        obtain ⟨c0, hc0, rfl⟩ := hc'
        exact frzC_cell _ _ _ _ (hc c0 hc0)
      · simp only [List.getElem?_map, Option.map_eq_some_iff] at hc'
        obtain ⟨c0, hc0, rfl⟩ := hc'
        exact h.frzC ho hp hsub hd (hh i x c0 hx' hc0)
    cases hx with
    | pur hx => cases hx with
      | agg xs _ hl hc hh => exact key xs hl hc (fun i x c a b => .pur (hh i x c a b))
    | agg xs _ hl hc hh => exact key xs hl hc hh
  | _ => exact h.frzC ho hp hsub hd hx

theorem le_freeze {d : Nat} {S' : AS} (hs : S.freeze d = some S') : S.le S' := by
  rintro w0 N0 a w ⟨μ, h⟩
  unfold AS.freeze at hs
  split at hs
  case h_2 => cases hs
  rename_i o ho
  split at hs
  case isFalse => cases hs
  rename_i hp
  injection hs with hs
  subst hs
  generalize hS' : ({ S with env := mapK (V.frz d o.v o.sz o.es) S.env, objs := mapK (fun q => { q with es := q.es.map (V.frz d o.v o.sz o.es) }) (eraseK d S.objs) } : AS) = S'
  have hob : ∀ d1 o1, get S'.objs d1 = some o1 → d1 ≠ d ∧ ∃ q, get S.objs d1 = some q ∧ o1 = { q with es := q.es.map (V.frz d o.v o.sz o.es) } := by
    subst hS'
    intro d1 o1 h1
    obtain ⟨q, h2, h3⟩ := get_mapK _ _ _ _ h1
    obtain ⟨h4, h5⟩ := get_eraseK _ _ _ _ h2
    exact ⟨h4, q, h5, h3.symm⟩
  have hsub : ∀ b, b < w.heap.size → Own N0 μ S' b → Own N0 μ S b := by
    rintro b hb (h0 | ⟨d1, o1, c, h1, h2⟩)
    · exact .inl h0
    · obtain ⟨_, q, h3, rfl⟩ := hob d1 o1 h1
      exact .inr ⟨d1, q, c, h3, h2⟩
  have hd : ∀ g c, μ d o.v = some (some (g, c)) → ¬ Own N0 μ S' g := by
    rintro g c hm (h0 | ⟨d1, o1, c1, h1, h2⟩)
    · have := h.n0.1 g h0
      obtain ⟨l, hl, hobl⟩ := h.objs d o ho
      rw [hm] at hl
      injection hl with hl
      subst hl
      exact hobl.1.elim (fun h => by have := this.1; omega) this.2
    · obtain ⟨hne, q, h3, rfl⟩ := hob d1 o1 h1
      exact hne (h.inj _ _ _ _ _ _ _ h3 ho h2 hm)
  refine ⟨μ, h.defers, by subst hS'; exact h.size, h.below, h.n0, by subst hS'; exact h.fresh, fun d1 o1 h1 => ?_, fun d1 o1 d2 o2 g c c' h1 h2 h3 h4 => ?_, fun t v hv => ?_⟩
  · obtain ⟨_, q, h3, rfl⟩ := hob d1 o1 h1
    obtain ⟨l, hl, hobl⟩ := h.objs d1 q h3
    refine ⟨l, hl, ?_⟩
    cases l with
    | none =>
      have : q.es = [] := hobl
      show q.es.map _ = []
      rw [this]; rfl
    | some gc =>
      obtain ⟨b1, b2, b3, b4, arr, b5, b6, b7⟩ := hobl
      refine ⟨b1, by simpa using b2, b3, fun e he => ?_, arr, b5, b6, fun k e j c he hj => ?_⟩
      · simp only [List.mem_map] at he
        obtain ⟨e0, he0, rfl⟩ := he
        have hf := b4 e0 he0
        refine ⟨by rw [frz_cells, List.length_map]; exact hf.1, fun c hc => ?_⟩
        rw [frz_cells] at hc
        simp only [List.mem_map] at hc
        obtain ⟨c0, hc0, rfl⟩ := hc
        exact frzC_cell _ _ _ _ (hf.2 c0 hc0)
      · simp only [List.getElem?_map, Option.map_eq_some_iff] at he
        obtain ⟨e0, he0, rfl⟩ := he
        rw [frz_cells, List.getElem?_map, Option.map_eq_some_iff] at hj
        obtain ⟨c0, hc0, rfl⟩ := hj
        obtain ⟨x, hx, hex⟩ := b7 k e0 j c0 he0 hc0
        exact ⟨x, hx, h.frzC ho hp hsub hd hex⟩
  · obtain ⟨_, q1, h5, rfl⟩ := hob d1 o1 h1
    obtain ⟨_, q2, h6, rfl⟩ := hob d2 o2 h2
    exact h.inj _ _ _ _ _ _ _ h5 h6 h3 h4
  · have hv' : get (mapK (V.frz d o.v o.sz o.es) S.env) t = some v := by subst hS'; exact hv
    obtain ⟨u, h1, rfl⟩ := get_mapK _ _ _ _ hv'
    obtain ⟨h2, h3⟩ := h.env t u h1
    exact ⟨by subst hS'; exact h2, h.frz ho hp hsub hd h3⟩

theorem aw_freeze {c : Code} {S' : AS} (d : Nat) (L M : List Nat) (hS : S.freezeK d L M = some S') (h : AW P w0 N0 c Q S') : AW P w0 N0 c Q S := by
  unfold AS.freezeK at hS
  split at hS
  case h_2 => cases hS
  rename_i S1 h1
  injection hS with hS
  exact aw_le (le_freeze h1) (aw_keep L M hS h)
/-- A state in which the row d is read. -/
theorem le_frz {S1 S' : AS} (d : Nat) (L M : List Nat) (hS : S.freezeK d L M = some S1) (he : S1.env = S'.env) (ho : S1.objs = S'.objs) (hn : S'.nt = S1.nt) (hx : S1.nx ≤ S'.nx) : S.le S' := by
  unfold AS.freezeK at hS
  split at hS
  case h_2 => cases hS
  rename_i S2 h1
  injection hS with hS
  subst hS
  exact AS.le_trans (le_freeze h1) (AS.le_trans (le_keep _ L M) (le_nx he ho hn hx))
end
end Go.Eng

/- Operations whose guard is false are passed over. No condition. -/
set_option linter.unusedSimpArgs false
namespace Go.Eng
open Go.RowKit

section
variable {P : Program} {w0 : Bs} {N0 : Nat → Prop} {Q : Exit → AS → Prop} {S : AS}

theorem awl_skip {ops : List Oper} {i : Nat} {o : Oper} {rest : List Oper} {S' : AS} (hg : S.gv ops o = some false) (hs : S.putv o.dst (.whn false (.bool true)) = some S') (h : AWL P w0 N0 ops Q (i + 1) rest S') : AWL P w0 N0 ops Q i (o :: rest) S := by
  rintro D a w hD ⟨μ, hr⟩
  refine wpList_step fun K hK => ?_
  have hw : Region.wanted o (yielded ops.toArray a.tmps) = false := by
    unfold AS.gv at hg
    split at hg
    · cases hg
    · rename_i j want hgn; exact gd_spec hr hgn hg
  rw [hw, if_neg (by simp)]
  exact hK _ _ (h D _ w (fun j hj => Nat.lt_succ_of_lt (hD j hj)) ⟨μ, hr.putv hs (.whn _ _ _ (fun hf => by cases hf) (fun _ => rfl))⟩)

/-- Operations none of which runs. -/
def skipOps (ops : List Oper) : List Oper → AS → Option AS
  | [], S => some S
  | o :: r, S => match S.gv ops o with
    | some false => (match S.putv o.dst (.whn false (.bool true)) with
      | some S' => skipOps ops r S'
      | none => none)
    | _ => none
attribute [simp] skipOps

theorem awl_skipl {ops : List Oper} : ∀ {l1 l2 : List Oper} {i : Nat} {S S1 : AS}, skipOps ops l1 S = some S1 → AWL P w0 N0 ops Q (i + l1.length) l2 S1 → AWL P w0 N0 ops Q i (l1 ++ l2) S
  | [], l2, i, S, S1, hs, h => by
    simp only [skipOps, Option.some.injEq] at hs
    subst hs
    exact h
  | o :: r, l2, i, S, S1, hs, h => by
    simp only [skipOps] at hs
    split at hs
    case h_2 => cases hs
    rename_i hg
    split at hs
    case h_2 => cases hs
    rename_i S' hp
    refine awl_skip hg hp (awl_skipl hs ?_)
    rw [show i + 1 + r.length = i + (o :: r).length by simp; omega]
    exact h

/-- The first n operations of what is left are passed over. -/
theorem awl_skips {ops l : List Oper} {i : Nat} {S1 : AS} (n : Nat) (hs : skipOps ops (l.take n) S = some S1) (h : AWL P w0 N0 ops Q (i + (l.take n).length) (l.drop n) S1) : AWL P w0 N0 ops Q i l S := by
  have := awl_skipl (Q := Q) (P := P) (w0 := w0) (N0 := N0) hs h
  rwa [List.take_append_drop] at this
end
end Go.Eng

/- Ways that come together in one of a family of states. No condition. -/
set_option linter.unusedSimpArgs false
namespace Go.Eng
open Go.RowKit

/-- A part of a body each way of which ends in a state st a with I a, or leaves. -/
theorem aw_viaE {P : Program} {w0 : Bs} {N0 : Nat → Prop} {Q : Exit → AS → Prop} {S : AS} {x y : Code} {α : Type} (st : α → AS) (I : α → Prop) (h1 : AW P w0 N0 x (ethen (fun T => ∃ a, I a ∧ T.le (st a)) Q) S) (h2 : ∀ a, I a → AW P w0 N0 y Q (st a)) : AW P w0 N0 (.seq x y) Q S :=
  aw_seq (h1.mono fun e T hT => by
    cases e with
    | normal =>
      obtain ⟨a, ha, hle⟩ := hT
      exact aw_le hle (h2 a ha)
    | _ => exact hT)
end Go.Eng
