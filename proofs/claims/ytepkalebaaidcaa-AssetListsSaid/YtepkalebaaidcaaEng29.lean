/- Operations whose guard is false are passed over. No condition. -/
import Derived.Test.YtepkalebaaidcaaEng28
set_option linter.unusedSimpArgs false
namespace Go.Eng
open Go.RowKit

section
variable {P : Program} {w0 : World} {N0 : Nat → Prop} {Q : Exit → AS → Prop} {S : AS}

theorem awl_skip {ops : List Oper} {i : Nat} {o : Oper} {rest : List Oper} {S' : AS} (hg : S.gv ops o = some false) (hs : S.putv o.dst (.whn false (.bool true)) = some S') (h : AWL P w0 N0 ops Q (i + 1) rest S') : AWL P w0 N0 ops Q i (o :: rest) S := by
  rintro D a w hD ⟨μ, hr⟩
  refine wpList_step fun K hK => ?_
  have hw : Region.wanted o (yielded ops.toArray a.tmps) = false := by
    unfold AS.gv at hg
    split at hg
    · cases hg
    · rename_i j want hgn; exact gd_spec hr hgn hg
  rw [hw, if_neg (by simp)]
  exact hK _ _ (h D _ w (fun j hj => Nat.lt_succ_of_lt (hD j hj)) ⟨μ, hr.putv hs (.whn _ _ _ (fun hf => by cases hf) (fun _ => rfl))⟩)

/-- Operations none of which runs. -/
def skipOps (ops : List Oper) : List Oper → AS → Option AS
  | [], S => some S
  | o :: r, S => match S.gv ops o with
    | some false => (match S.putv o.dst (.whn false (.bool true)) with
      | some S' => skipOps ops r S'
      | none => none)
    | _ => none
attribute [simp] skipOps

theorem awl_skipl {ops : List Oper} : ∀ {l1 l2 : List Oper} {i : Nat} {S S1 : AS}, skipOps ops l1 S = some S1 → AWL P w0 N0 ops Q (i + l1.length) l2 S1 → AWL P w0 N0 ops Q i (l1 ++ l2) S
  | [], l2, i, S, S1, hs, h => by
    simp only [skipOps, Option.some.injEq] at hs
    subst hs
    exact h
  | o :: r, l2, i, S, S1, hs, h => by
    simp only [skipOps] at hs
    split at hs
    case h_2 => cases hs
    rename_i hg
    split at hs
    case h_2 => cases hs
    rename_i S' hp
    refine awl_skip hg hp (awl_skipl hs ?_)
    rw [show i + 1 + r.length = i + (o :: r).length by simp; omega]
    exact h

/-- The first n operations of what is left are passed over. -/
theorem awl_skips {ops l : List Oper} {i : Nat} {S1 : AS} (n : Nat) (hs : skipOps ops (l.take n) S = some S1) (h : AWL P w0 N0 ops Q (i + (l.take n).length) (l.drop n) S1) : AWL P w0 N0 ops Q i l S := by
  have := awl_skipl (Q := Q) (P := P) (w0 := w0) (N0 := N0) hs h
  rwa [List.take_append_drop] at this
end
end Go.Eng
