/- Hold: HoldPublishes, the given statement. No condition. -/
import Derived.Test.YtjgngffbmfbdkaaHoldY
import Derived.Test.YtjgngffbmfbdkaaHoldR
set_option linter.unusedSimpArgs false
namespace Go.Proofs.Ytjgngffbmfbdkaa
open Go.Eng Go.ChangeShapes Go.WideShapes Go.ChangeAt Go.RowKit

set_option maxRecDepth 100000 in
theorem holdPublishesLifted (os : Os) (started : os.Started) (H : Type) (enc : TypeId × Value → H) :
    ReturnsInHanded {} Try.checked os 6 .any (Rows.holdPublishesSpec.pre6 enc Try.prog Try.f6 Rows.holdPublishesRow.domain false) (Rows.holdPublishesSpec.post enc Try.prog Try.f6 false true false false) := by
  refine returnsInHanded_of_change (C := Try.checked) own started (by kernel_rfl) Try.func6
    (ChangeSpec.witness6 (enc := enc) (C := Try.checked) false ⟨#[], #[.agg #[.int .i64 0, .int .i64 0, .int .i64 0, .slice none 0 0], .int .i64 0], []⟩ 8 (by kernel_rfl) (by kernel_rfl) (by kernel_rfl) (by kernel_rfl)) ?_
  intro W base args ds gs before hval hW _ _
  refine row_contract (n := 8) (tb := 4) (ts := [24, 3]) (by rw [Try.params6]) (by kernel_rfl) laidOut rfl Try.underlying4 rfl (fun ds hl => ?_) (fun vs hvs => ?_) hval hW
  · match ds, hl with
    | [d1, d2], _ => rfl
  · obtain ⟨v0, r0, rfl, h0, v1, r1, rfl, h1, rfl⟩ := hvs
    obtain ⟨s, m, l, hs, rfl⟩ := rd_release h0
    obtain ⟨a, rfl, _⟩ := rd_num h1
    exact holdPublishes_ac s m l a hs _ rfl

theorem holdPublishesOver : Rows.holdPublishesRow.holds Try.pinned (OpenSpec.ofChange Rows.holdPublishesSpec) :=
  OpenClaim.holds_of_wide 6 Try.f6 rfl rfl rfl rfl rfl rfl rfl ⟨rfl, rfl, rfl, rfl, rfl⟩ rfl rfl rfl rfl rfl (by kernel_rfl) Try.func6 (by kernel_rfl)
    (of_decide_eq_true (by kernel_rfl)) (by unfold Func.isWrapper; first | (rw [if_pos (by decide +kernel)]; kernel_rfl) | (rw [if_neg (by decide +kernel)]; exact ⟨rfl, rfl⟩))
    (fun os started H enc _ => holdPublishesLifted os started H enc)

theorem holdPublishesProved : Rows.HoldPublishesSaid := holdPublishesOver
#print axioms holdPublishesProved
end Go.Proofs.Ytjgngffbmfbdkaa
