/- Hold: HoldLifts, the given statement. No condition. -/
import Derived.Test.YtjgngffbmfbdkaaHoldL
import Derived.Test.YtjgngffbmfbdkaaHoldR
set_option linter.unusedSimpArgs false
namespace Go.Proofs.Ytjgngffbmfbdkaa
open Go.Eng Go.ChangeShapes Go.WideShapes Go.ChangeAt Go.RowKit

set_option maxRecDepth 100000 in
theorem holdLiftsLifted (os : Os) (started : os.Started) (H : Type) (enc : TypeId × Value → H) :
    ReturnsInHanded {} Try.checked os 5 .any (Rows.holdLiftsSpec.pre6 enc Try.prog Try.f5 Rows.holdLiftsRow.domain false) (Rows.holdLiftsSpec.post enc Try.prog Try.f5 false true false false) := by
  refine returnsInHanded_of_change (C := Try.checked) own started (by kernel_rfl) Try.func5
    (ChangeSpec.witness6 (enc := enc) (C := Try.checked) false ⟨#[], #[.agg #[.int .i64 0, .int .i64 0, .int .i64 0, .slice none 0 0], .int .i64 0, .int .i64 0], []⟩ 8 (by kernel_rfl) (by kernel_rfl) (by kernel_rfl) (by kernel_rfl)) ?_
  intro W base args ds gs before hval hW _ _
  refine row_contract (n := 8) (tb := 4) (ts := [24, 3, 3]) (by rw [Try.params5]) (by kernel_rfl) laidOut rfl Try.underlying4 rfl (fun ds hl => ?_) (fun vs hvs => ?_) hval hW
  · match ds, hl with
    | [d1, d2, d3], _ => rfl
  · obtain ⟨v0, r0, rfl, h0, v1, r1, rfl, h1, v2, r2, rfl, h2, rfl⟩ := hvs
    obtain ⟨s, m, l, hs, rfl⟩ := rd_release h0
    obtain ⟨a, rfl, _⟩ := rd_num h1
    obtain ⟨b, rfl, _⟩ := rd_num h2
    exact holdLifts_ac s m l a b hs _ rfl

theorem holdLiftsOver : Rows.holdLiftsRow.holds Try.pinned (OpenSpec.ofChange Rows.holdLiftsSpec) :=
  OpenClaim.holds_of_wide 5 Try.f5 rfl rfl rfl rfl rfl rfl rfl ⟨rfl, rfl, rfl, rfl, rfl⟩ rfl rfl rfl rfl rfl (by kernel_rfl) Try.func5 (by kernel_rfl)
    (of_decide_eq_true (by kernel_rfl)) (by unfold Func.isWrapper; first | (rw [if_pos (by decide +kernel)]; kernel_rfl) | (rw [if_neg (by decide +kernel)]; exact ⟨rfl, rfl⟩))
    (fun os started H enc _ => holdLiftsLifted os started H enc)

theorem holdLiftsProved : Rows.HoldLiftsSaid := holdLiftsOver
#print axioms holdLiftsProved
end Go.Proofs.Ytjgngffbmfbdkaa
