/- Hold: HoldBlocks, the given statement. No condition. -/
import Derived.Test.YtjgngffbmfbdkaaHoldN
import Derived.Test.YtjgngffbmfbdkaaHoldR
set_option linter.unusedSimpArgs false
namespace Go.Proofs.Ytjgngffbmfbdkaa
open Go.Eng Go.ChangeShapes Go.WideShapes Go.ChangeAt Go.RowKit
theorem rd_deed {vs : List V} {n : Nat} (h : Rd Try.prog n 43 vs) : ∃ x : H3, vs = [.int .i64 x.r, .int .i64 x.f, .int .i64 x.u] := by
  obtain ⟨u0, w0, rfl, h0, u1, w1, rfl, h1, u2, w2, rfl, h2, rfl⟩ := rd_struct Try.underlying43 h
  obtain ⟨a, rfl, _⟩ := rd_int Try.underlying3 h0
  obtain ⟨b, rfl, _⟩ := rd_int Try.underlying3 h1
  obtain ⟨c, rfl, _⟩ := rd_int Try.underlying3 h2
  exact ⟨⟨a, b, c⟩, rfl⟩
/-- What a list of deeds that comes in looks like. -/
theorem rd_deeds {v : V} {n : Nat} (h : RdV Try.prog n 40 v) : ∃ ds, v = .ro 3 (List.map H3.v ds) := by
  obtain ⟨vs, hr, rfl⟩ := h
  obtain ⟨es, rfl, _, hes⟩ := rd_slice Try.underlying40 hr
  obtain ⟨hs, he, _⟩ := map_map_of (g := mkV (tagg Try.prog 43)) (f' := H3.v) (fun x hx => rd_deed (hes x hx)) (fun y => by rw [tyA43]; rfl)
  refine ⟨hs, ?_⟩
  rw [he, tyA40, show Try.prog.cellsOf 43 = 3 by kernel_rfl]
  rfl

set_option maxRecDepth 100000 in
theorem holdBlocksLifted (os : Os) (started : os.Started) (H : Type) (enc : TypeId × Value → H) :
    ReturnsInHanded {} Try.checked os 7 .any (Rows.holdBlocksSpec.pre6 enc Try.prog Try.f7 Rows.holdBlocksRow.domain false) (Rows.holdBlocksSpec.post enc Try.prog Try.f7 false true false false) := by
  refine returnsInHanded_of_change (C := Try.checked) own started (by kernel_rfl) Try.func7
    (ChangeSpec.witness6 (enc := enc) (C := Try.checked) false ⟨#[], #[.slice none 0 0], []⟩ 8 (by kernel_rfl) (by kernel_rfl) (by kernel_rfl) (by kernel_rfl)) ?_
  intro W base args ds gs before hval hW _ _
  refine row_contract (n := 8) (tb := 4) (ts := [40]) (by rw [Try.params7]) (by kernel_rfl) laidOut rfl Try.underlying4 rfl (fun ds hl => ?_) (fun vs hvs => ?_) hval hW
  · match ds, hl with
    | [d1], _ => rfl
  · obtain ⟨v0, r0, rfl, h0, rfl⟩ := hvs
    obtain ⟨ds, rfl⟩ := rd_deeds h0
    exact holdBlocks_ac ds _ rfl

theorem holdBlocksOver : Rows.holdBlocksRow.holds Try.pinned (OpenSpec.ofChange Rows.holdBlocksSpec) :=
  OpenClaim.holds_of_wide 7 Try.f7 rfl rfl rfl rfl rfl rfl rfl ⟨rfl, rfl, rfl, rfl, rfl⟩ rfl rfl rfl rfl rfl (by kernel_rfl) Try.func7 (by kernel_rfl)
    (of_decide_eq_true (by kernel_rfl)) (by unfold Func.isWrapper; first | (rw [if_pos (by decide +kernel)]; kernel_rfl) | (rw [if_neg (by decide +kernel)]; exact ⟨rfl, rfl⟩))
    (fun os started H enc _ => holdBlocksLifted os started H enc)

theorem holdBlocksProved : Rows.HoldBlocksSaid := holdBlocksOver
#print axioms holdBlocksProved
end Go.Proofs.Ytjgngffbmfbdkaa
