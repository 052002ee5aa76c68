/- Ways that come together in one state. No condition. -/
import Derived.Test.YtepkalebaaidcaaEng23
set_option linter.unusedSimpArgs false
namespace Go.Eng
open Go.RowKit

/-- A part of a body whose ways all end in a state that says no less than S1. -/
theorem aw_viale {P : Program} {w0 : World} {N0 : Nat → Prop} {Q : Exit → AS → Prop} {S : AS} {x y : Code} (S1 : AS) (h1 : AW P w0 N0 x (fun e T => e = .normal ∧ T.le S1) S) (h2 : AW P w0 N0 y Q S1) : AW P w0 N0 (.seq x y) Q S :=
  aw_seq (h1.mono fun e T ⟨he, hT⟩ => by subst he; exact aw_le hT h2)
/-- The same, where some ways leave. -/
theorem aw_viax {P : Program} {w0 : World} {N0 : Nat → Prop} {Q : Exit → AS → Prop} {S : AS} {x y : Code} (S1 : AS) (h1 : AW P w0 N0 x (ethen (fun T => T.le S1) Q) S) (h2 : AW P w0 N0 y Q S1) : AW P w0 N0 (.seq x y) Q S :=
  aw_seq (h1.mono fun e T hT => by
    cases e with
    | normal => exact aw_le hT h2
    | _ => exact hT)
theorem le_to {S S' : AS} (L M : List Nat) (he : (S.keep L M).env = S'.env) (ho : (S.keep L M).objs = S'.objs) (hn : S'.nt = S.nt) (hx : S.nx ≤ S'.nx) : S.le S' :=
  AS.le_trans (le_keep S L M) (le_of_get hn hx (fun t v h => by rw [he]; exact h) (fun d o h => by rw [ho]; exact h))
theorem le_nx {S S' : AS} (he : S.env = S'.env) (ho : S.objs = S'.objs) (hn : S'.nt = S.nt) (hx : S.nx ≤ S'.nx) : S.le S' :=
  le_of_get hn hx (fun t v h => by rw [he]; exact h) (fun d o h => by rw [ho]; exact h)
end Go.Eng
