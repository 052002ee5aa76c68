/- Ways that come together in one of a family of states. No condition. -/
import Derived.Test.YtepkalebaaidcaaEng29
set_option linter.unusedSimpArgs false
namespace Go.Eng
open Go.RowKit

/-- A part of a body each way of which ends in a state st a with I a, or leaves. -/
theorem aw_viaE {P : Program} {w0 : World} {N0 : Nat → Prop} {Q : Exit → AS → Prop} {S : AS} {x y : Code} {α : Type} (st : α → AS) (I : α → Prop) (h1 : AW P w0 N0 x (ethen (fun T => ∃ a, I a ∧ T.le (st a)) Q) S) (h2 : ∀ a, I a → AW P w0 N0 y Q (st a)) : AW P w0 N0 (.seq x y) Q S :=
  aw_seq (h1.mono fun e T hT => by
    cases e with
    | normal =>
      obtain ⟨a, ha, hle⟩ := hT
      exact aw_le hle (h2 a ha)
    | _ => exact hT)
end Go.Eng
