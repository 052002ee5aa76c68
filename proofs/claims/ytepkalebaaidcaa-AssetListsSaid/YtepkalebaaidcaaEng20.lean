/- Comparing a slice with nil: the answer is known only of a slice that has elements. No condition. -/
import Derived.Test.YtepkalebaaidcaaEng19
set_option linter.unusedSimpArgs false
namespace Go.Eng
open Go.RowKit

def V.slen : V → Option Nat
  | .ro _ es => some es.length
  | .nils => some 0
  | .sl _ _ _ n => some n
  | .ss _ _ _ _ n => some n
  | _ => none
attribute [simp] V.slen
def tslice (P : Program) (t : TypeId) : Bool := match P.underlying t with | some (.slice _) => true | _ => false

section
variable {P : Program} {w0 : World} {N0 : Nat → Prop} {Q : Exit → AS → Prop} {S : AS}

theorem Enc.slen {w : World} {N : Nat → Prop} {μ : Mu} {x : Value} {v : V} {n : Nat} (h : Enc w N μ x v) (hn : v.slen = some n) : ∃ A l c, x = .slice A l c ∧ (A = none → n = 0) := by
  cases h with
  | pur h =>
    cases h with
    | ro A ad m cap sz es g h1 h2 h3 h4 =>
      simp only [V.slen, Option.some.injEq] at hn
      refine ⟨A, m, cap, rfl, fun hA => ?_⟩
      rcases Nat.eq_zero_or_pos m with h0 | h0
      · omega
      · have := (h4 h0).1; rw [hA] at this; cases this
    | nils A => simp only [V.slen, Option.some.injEq] at hn; exact ⟨A, 0, 0, rfl, fun _ => hn.symm⟩
    | _ => simp [V.slen] at hn
  | slr d v sz len g cap h1 h2 h3 => exact ⟨_, _, _, rfl, fun hA => by cases hA⟩
  | slv d v sz A h1 => simp only [V.slen, Option.some.injEq] at hn; exact ⟨A, 0, 0, rfl, fun _ => hn.symm⟩
  | ss d v sz off len g c cap A h1 h2 h3 =>
    simp only [V.slen, Option.some.injEq] at hn
    refine ⟨A, len, c, rfl, fun hA => ?_⟩
    rcases Nat.eq_zero_or_pos len with h0 | h0
    · omega
    · have := (h3 h0).2; rw [hA] at this; cases this
  | _ => simp [V.slen] at hn

theorem run_equal_nil {t e : TypeId} {w : World} (hty : P.underlying t = some (.slice e)) (A : Option Addr) (m c l c' : Nat) : ∀ d, (Op.equalIn (d + 1) t (.slice A m c) (.slice none l c')).run P w = .ok A.isNone w := by
  intro d
  have hu := run_underlying (w := w) hty
  cases A with
  | none => simp [Op.equalIn, hu]
  | some ad => simp [Op.equalIn, hu]

theorem awl_isnil {ops : List Oper} {i : Nat} {o : Oper} {rest : List Oper} {x : Operand} {t t' : TypeId} {v : V} {n l c : Nat} (hg : o.guard = none) (ho : o.op = .binOp .eql t x (.const (.slice none l c)) t') (hx : S.evc true x = some v) (hn : v.slen = some n) (ht : tslice P t = true)
    (h : ∀ b : Bool, (b = true → n = 0) → ∃ S', S.putv o.dst (.bool b) = some S' ∧ AWL P w0 N0 ops Q (i + 1) rest S') : AWL P w0 N0 ops Q i (o :: rest) S := by
  rintro D a w hD ⟨μ, hr⟩
  refine wpList_plain hg fun K hK => ?_
  obtain ⟨A, m, cc, he, hA⟩ := (hr.evc hx rfl).slen hn
  obtain ⟨S', hs, hrest⟩ := h A.isNone (fun hb => hA (by simpa using hb))
  have hty : ∃ e, P.underlying t = some (.slice e) := by
    unfold tslice at ht
    split at ht
    · exact ⟨_, by assumption⟩
    · cases ht
  obtain ⟨e, hty⟩ := hty
  unfold Oper.wp
  have hrun : (execOp a.eval o).run P w = .ok (.value (.bool A.isNone)) w := by
    unfold execOp
    rw [ho]
    have hq := run_equal_nil (w := w) hty A m cc l c 9999
    have hb : (binOp .eql t (.slice A m cc) (.slice none l c) : Sem Value) = (do pure (.bool (← Op.equalIn (9999 + 1) t (.slice A m cc) (.slice none l c)))) := rfl
    have he2 : a.eval (.const (.slice none l c)) = .slice none l c := rfl
    have hgd : (eqGuard .eql t x (.const (.slice none l c)) (.slice A m cc) (.slice none l c) : Sem Unit) = pure () := rfl
    simp only [he, he2, hgd, hb, Sem.run_bind, Sem.run_pure, Result.andThen_ok, hq]
  rw [hrun]
  exact hK _ _ (hrest D _ w (fun j hj => Nat.lt_succ_of_lt (hD j hj)) ⟨μ, hr.putv hs (.pur (.bool _))⟩)
end
end Go.Eng
