/- Lengths of lists that are read are bounded. No condition. -/
import Derived.Test.YtepkalebaaidcaaEng26
set_option linter.unusedSimpArgs false
namespace Go.Eng
open Go.RowKit

theorem Pur.ro_len {w : World} {N : Nat → Prop} {x : Value} {sz : Nat} {es : List V} (h : Pur w N x (.ro sz es)) : es.length ≤ maxLen := by
  cases h with
  | ro A ad n cap _ _ g hn hcap hmax _ _ _ _ => omega
theorem ac_lenR {P : Program} {f : FuncId} {args : List V} {R : V → Prop} (i : Nat) {sz : Nat} {es : List V} (h : args[i]? = some (.ro sz es)) (k : es.length ≤ maxLen → AC P f args R) : AC P f args R := by
  intro w N xs h1 h2 h3
  have hi : i < xs.length := by rw [h2]; exact (List.getElem?_eq_some_iff.1 h).1
  exact k (h3 i xs[i] _ (List.getElem?_eq_getElem hi) h).ro_len w N xs h1 h2 h3
theorem ac_lenC {P : Program} {f : FuncId} {args : List V} {R : V → Prop} (i j : Nat) {sz : Nat} {cs es : List V} (h : args[i]? = some (.agg cs)) (hj : cs[j]? = some (.ro sz es)) (k : es.length ≤ maxLen → AC P f args R) : AC P f args R := by
  intro w N xs h1 h2 h3
  have hi : i < xs.length := by rw [h2]; exact (List.getElem?_eq_some_iff.1 h).1
  have hp := h3 i xs[i] _ (List.getElem?_eq_getElem hi) h
  refine k ?_ w N xs h1 h2 h3
  generalize xs[i] = x at hp
  cases hp with
  | agg ys _ hl _ hh =>
    have hlt : j < ys.length := by rw [hl]; exact (List.getElem?_eq_some_iff.1 hj).1
    exact (hh j ys[j] _ (List.getElem?_eq_getElem hlt) hj).ro_len
theorem aw_len {P : Program} {w0 : World} {N0 : Nat → Prop} {Q : Exit → AS → Prop} {S : AS} {c : Code} (t : Nat) {sz : Nat} {es : List V} (h : get S.env t = some (.ro sz es)) (k : es.length ≤ maxLen → AW P w0 N0 c Q S) : AW P w0 N0 c Q S := by
  rintro a w ⟨μ, hr⟩
  have := (hr.env t _ h).2
  refine k ?_ a w ⟨μ, hr⟩
  generalize a.tmps.getD t undef = x at this
  cases this with
  | pur hp => exact hp.ro_len
theorem acO_lenR {P : Program} {f : FuncId} {args : List V} {sz' : Nat} {ty : TypeId} {R : (Nat → Nat → V) → List V → Prop} (i : Nat) {sz : Nat} {es : List V} (h : args[i]? = some (.ro sz es)) (k : es.length ≤ maxLen → ACO P f args sz' ty R) : ACO P f args sz' ty R := by
  intro w N xs h1 h2 h3
  have hi : i < xs.length := by rw [h2]; exact (List.getElem?_eq_some_iff.1 h).1
  exact k (h3 i xs[i] _ (List.getElem?_eq_getElem hi) h).ro_len w N xs h1 h2 h3

/-- A row of zeros whose first k elements are filled from l. -/
def fillK (l : List V) (z : V) (k : Nat) : List V := l.take k ++ List.replicate (l.length - k) z
theorem fillK_zero (l : List V) (z : V) : fillK l z 0 = List.replicate l.length z := by simp [fillK]
theorem fillK_all (l : List V) (z : V) (k : Nat) (h : l.length ≤ k) : fillK l z k = l := by
  rw [fillK, List.take_of_length_le h, show l.length - k = 0 by omega]; simp
theorem fillK_len (l : List V) (z : V) (k : Nat) (h : k ≤ l.length) : (fillK l z k).length = l.length := by simp [fillK]; omega
theorem fillK_nth (l : List V) (z : V) (k : Nat) (h : k < l.length) : nth (fillK l z k) k = some z := by
  rw [nth_eq, fillK, List.getElem?_append_right (by simp; omega)]
  rw [List.getElem?_replicate, List.length_take, Nat.min_eq_left (Nat.le_of_lt h), if_pos (by omega)]
theorem fillK_set (l : List V) (z : V) (k : Nat) (h : k < l.length) {x : V} (hx : l[k]? = some x) : (fillK l z k).set k x = fillK l z (k + 1) := by
  have hx' : l[k] = x := by rw [List.getElem?_eq_getElem h] at hx; injection hx
  unfold fillK
  rw [List.set_append_right _ _ (by simp; omega), List.take_succ_eq_append_getElem h, hx']
  simp only [List.length_take, Nat.min_eq_left (Nat.le_of_lt h), Nat.sub_self]
  rw [show l.length - k = (l.length - (k + 1)) + 1 by omega, List.replicate_succ, List.set_cons_zero]
  simp
theorem nth_set {l : List V} {k : Nat} {x : V} (h : k < l.length) : nth (l.set k x) k = some x := by rw [nth_eq]; simp [h]
theorem nth_append_len {l : List V} {x : V} : nth (l ++ [x]) l.length = some x := by rw [nth_eq]; simp
end Go.Eng
