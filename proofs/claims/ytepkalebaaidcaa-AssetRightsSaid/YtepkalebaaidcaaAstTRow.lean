/- Asset: AssetRights, the given statement. No condition. -/
import Derived.Test.YtepkalebaaidcaaAstT
import Derived.Test.YtepkalebaaidcaaRows
set_option linter.unusedSimpArgs false
namespace Go.Proofs.Ytepkalebaaidcaa
open Go.Eng Go.ChangeShapes Go.WideShapes Go.ChangeAt Go.RowKit

theorem own : ownKnob Try.prog.godebug = none := by kernel_rfl
theorem laidOut : laidOutB Try.prog = true := by kernel_rfl

theorem rd_asset {vs : List V} {n : Nat} (h : Rd Try.prog n 23 vs) : ∃ x : As, vs = [.int .i64 x.id, .int .i64 x.by_, .str x.alt, .int .i64 x.fr, .int .i64 x.un] ∧ (Lit.int .i64 x.fr).wf = true ∧ (Lit.int .i64 x.un).wf = true := by
  obtain ⟨u0, w0, rfl, h0, u1, w1, rfl, h1, u2, w2, rfl, h2, u3, w3, rfl, h3, u4, w4, rfl, h4, rfl⟩ := rd_struct Try.underlying23 h
  obtain ⟨a, rfl, _⟩ := rd_int Try.underlying3 h0
  obtain ⟨b, rfl, _⟩ := rd_int Try.underlying3 h1
  obtain ⟨c, rfl, _⟩ := rd_str Try.underlying9 h2
  obtain ⟨d, rfl, hd⟩ := rd_int Try.underlying3 h3
  obtain ⟨e, rfl, he⟩ := rd_int Try.underlying3 h4
  exact ⟨⟨a, b, c, d, e⟩, rfl, hd, he⟩
theorem rd_as {v : V} {n : Nat} (h : RdV Try.prog n 23 v) : ∃ x : As, v = x.v := by
  obtain ⟨vs, hr, rfl⟩ := h
  obtain ⟨x, rfl, _⟩ := rd_asset hr
  exact ⟨x, by rw [tyA23]; rfl⟩
theorem rd_num {v : V} {n : Nat} (h : RdV Try.prog n 3 v) : ∃ a, v = .int .i64 a ∧ (Lit.int .i64 a).wf = true := by
  obtain ⟨vs, hr, rfl⟩ := h
  obtain ⟨a, rfl, hw⟩ := rd_int Try.underlying3 hr
  exact ⟨a, by rw [tyA3]; rfl, hw⟩

set_option maxRecDepth 100000 in
theorem rightsLifted (os : Os) (started : os.Started) (H : Type) (enc : TypeId × Value → H) :
    ReturnsInHanded {} Try.checked os 7 .any (Rows.assetRightsSpec.pre6 enc Try.prog Try.f7 Rows.assetRightsRow.domain false) (Rows.assetRightsSpec.post enc Try.prog Try.f7 false true false false) := by
  refine returnsInHanded_of_change (C := Try.checked) own started (by kernel_rfl) Try.func7
    (ChangeSpec.witness6 (enc := enc) (C := Try.checked) false ⟨#[], #[.agg #[.int .i64 0, .int .i64 0, .string (ByteArray.mk #[]), .int .i64 0, .int .i64 0], .int .i64 0, .int .i64 0, .int .i64 0], []⟩ 8 (by kernel_rfl) (by kernel_rfl) (by kernel_rfl) (by kernel_rfl)) ?_
  intro W base args ds gs before hval hW _ _
  refine row_contract (n := 8) (tb := 4) (ts := [23, 3, 3, 3]) (by rw [Try.params7]) (by kernel_rfl) laidOut rfl Try.underlying4 rfl (fun ds hl => ?_) (fun vs hvs => ?_) hval hW
  · match ds, hl with
    | [d1, d2, d3, d4], _ => rfl
  · obtain ⟨v0, r0, rfl, h0, v1, r1, rfl, h1, v2, r2, rfl, h2, v3, r3, rfl, h3, rfl⟩ := hvs
    obtain ⟨x, rfl⟩ := rd_as h0
    obtain ⟨b, rfl, _⟩ := rd_num h1
    obtain ⟨c, rfl, _⟩ := rd_num h2
    obtain ⟨d, rfl, _⟩ := rd_num h3
    exact assetRights_ac x b c d

theorem assetRightsOver : Rows.assetRightsRow.holds Try.pinned (OpenSpec.ofChange Rows.assetRightsSpec) :=
  OpenClaim.holds_of_wide 7 Try.f7 rfl rfl rfl rfl rfl rfl rfl ⟨rfl, rfl, rfl, rfl, rfl⟩ rfl rfl rfl rfl rfl (by kernel_rfl) Try.func7 (by kernel_rfl)
    (of_decide_eq_true (by kernel_rfl)) (by unfold Func.isWrapper; first | (rw [if_pos (by decide +kernel)]; kernel_rfl) | (rw [if_neg (by decide +kernel)]; exact ⟨rfl, rfl⟩))
    (fun os started H enc _ => rightsLifted os started H enc)

theorem assetRightsProved : Rows.AssetRightsSaid := assetRightsOver
#print axioms assetRightsProved
end Go.Proofs.Ytepkalebaaidcaa
