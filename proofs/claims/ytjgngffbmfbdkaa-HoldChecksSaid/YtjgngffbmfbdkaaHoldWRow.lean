/- Hold: HoldChecks, the given statement. No condition. -/
import Derived.Test.YtjgngffbmfbdkaaHoldW
import Derived.Test.YtjgngffbmfbdkaaHoldR
set_option linter.unusedSimpArgs false
namespace Go.Proofs.Ytjgngffbmfbdkaa
open Go.Eng Go.ChangeShapes Go.WideShapes Go.ChangeAt Go.RowKit

set_option maxRecDepth 100000 in
theorem holdChecksLifted (os : Os) (started : os.Started) (H : Type) (enc : TypeId × Value → H) :
    ReturnsInHanded {} Try.checked os 4 .any (Rows.holdChecksSpec.pre6 enc Try.prog Try.f4 Rows.holdChecksRow.domain false) (Rows.holdChecksSpec.post enc Try.prog Try.f4 false true false false) := by
  refine returnsInHanded_of_change (C := Try.checked) own started (by kernel_rfl) Try.func4
    (ChangeSpec.witness6 (enc := enc) (C := Try.checked) false ⟨#[], #[.agg #[.int .i64 0, .int .i64 0, .int .i64 0, .slice none 0 0]], []⟩ 8 (by kernel_rfl) (by kernel_rfl) (by kernel_rfl) (by kernel_rfl)) ?_
  intro W base args ds gs before hval hW _ _
  refine row_contract (n := 8) (tb := 4) (ts := [24]) (by rw [Try.params4]) (by kernel_rfl) laidOut rfl Try.underlying4 rfl (fun ds hl => ?_) (fun vs hvs => ?_) hval hW
  · match ds, hl with
    | [d1], _ => rfl
  · obtain ⟨v0, r0, rfl, h0, rfl⟩ := hvs
    obtain ⟨s, m, l, hs, rfl⟩ := rd_release h0
    exact holdChecks_ac s m l hs _ rfl

theorem holdChecksOver : Rows.holdChecksRow.holds Try.pinned (OpenSpec.ofChange Rows.holdChecksSpec) :=
  OpenClaim.holds_of_wide 4 Try.f4 rfl rfl rfl rfl rfl rfl rfl ⟨rfl, rfl, rfl, rfl, rfl⟩ rfl rfl rfl rfl rfl (by kernel_rfl) Try.func4 (by kernel_rfl)
    (of_decide_eq_true (by kernel_rfl)) (by unfold Func.isWrapper; first | (rw [if_pos (by decide +kernel)]; kernel_rfl) | (rw [if_neg (by decide +kernel)]; exact ⟨rfl, rfl⟩))
    (fun os started H enc _ => holdChecksLifted os started H enc)

theorem holdChecksProved : Rows.HoldChecksSaid := holdChecksOver
#print axioms holdChecksProved
end Go.Proofs.Ytjgngffbmfbdkaa
