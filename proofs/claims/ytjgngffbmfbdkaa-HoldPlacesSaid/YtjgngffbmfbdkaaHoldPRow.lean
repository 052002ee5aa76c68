/- Hold: HoldPlaces, the given statement. No condition. -/
import Derived.Test.YtjgngffbmfbdkaaHoldP
import Derived.Test.YtjgngffbmfbdkaaRows
set_option linter.unusedSimpArgs false
namespace Go.Proofs.Ytjgngffbmfbdkaa
open Go.Eng Go.ChangeShapes Go.WideShapes Go.ChangeAt Go.RowKit

theorem own : ownKnob Try.prog.godebug = none := by kernel_rfl
theorem laidOut : laidOutB Try.prog = true := by kernel_rfl

theorem rd_three {vs : List V} {n : Nat} (h : Rd Try.prog n 30 vs) : ∃ x : H3, vs = [.int .i64 x.r, .int .i64 x.f, .int .i64 x.u] := by
  obtain ⟨u0, w0, rfl, h0, u1, w1, rfl, h1, u2, w2, rfl, h2, rfl⟩ := rd_struct Try.underlying30 h
  obtain ⟨a, rfl, _⟩ := rd_int Try.underlying3 h0
  obtain ⟨b, rfl, _⟩ := rd_int Try.underlying3 h1
  obtain ⟨c, rfl, _⟩ := rd_int Try.underlying3 h2
  exact ⟨⟨a, b, c⟩, rfl⟩
/-- What a release record that comes in looks like. -/
theorem rd_release {v : V} {n : Nat} (h : RdV Try.prog n 24 v) : ∃ s m l hs, v = rel s m l (.ro 3 (List.map H3.v hs)) := by
  obtain ⟨vs, hr, rfl⟩ := h
  obtain ⟨u0, w0, rfl, h0, u1, w1, rfl, h1, u2, w2, rfl, h2, u3, w3, rfl, h3, rfl⟩ := rd_struct Try.underlying24 hr
  obtain ⟨a, rfl, _⟩ := rd_int Try.underlying3 h0
  obtain ⟨b, rfl, _⟩ := rd_int Try.underlying3 h1
  obtain ⟨c, rfl, _⟩ := rd_int Try.underlying3 h2
  obtain ⟨es, rfl, _, hes⟩ := rd_slice Try.underlying22 h3
  obtain ⟨hs, he, _⟩ := map_map_of (g := mkV (tagg Try.prog 30)) (f' := H3.v) (fun x hx => rd_three (hes x hx)) (fun y => by rw [tyA30]; rfl)
  refine ⟨a, b, c, hs, ?_⟩
  rw [he, tyA24, show Try.prog.cellsOf 30 = 3 by kernel_rfl]
  rfl
theorem rd_num {v : V} {n : Nat} (h : RdV Try.prog n 3 v) : ∃ a, v = .int .i64 a ∧ (Lit.int .i64 a).wf = true := by
  obtain ⟨vs, hr, rfl⟩ := h
  obtain ⟨a, rfl, hw⟩ := rd_int Try.underlying3 hr
  exact ⟨a, by rw [tyA3]; rfl, hw⟩

set_option maxRecDepth 100000 in
theorem placesLifted (os : Os) (started : os.Started) (H : Type) (enc : TypeId × Value → H) :
    ReturnsInHanded {} Try.checked os 3 .any (Rows.holdPlacesSpec.pre6 enc Try.prog Try.f3 Rows.holdPlacesRow.domain false) (Rows.holdPlacesSpec.post enc Try.prog Try.f3 false true false false) := by
  refine returnsInHanded_of_change (C := Try.checked) own started (by kernel_rfl) Try.func3
    (ChangeSpec.witness6 (enc := enc) (C := Try.checked) false ⟨#[], #[.agg #[.int .i64 0, .int .i64 0, .int .i64 0, .slice none 0 0], .int .i64 0, .int .i64 0], []⟩ 8 (by kernel_rfl) (by kernel_rfl) (by kernel_rfl) (by kernel_rfl)) ?_
  intro W base args ds gs before hval hW _ _
  refine row_contract (n := 8) (tb := 4) (ts := [24, 3, 3]) (by rw [Try.params3]) (by kernel_rfl) laidOut rfl Try.underlying4 rfl (fun ds hl => ?_) (fun vs hvs => ?_) hval hW
  · match ds, hl with
    | [d1, d2, d3], _ => rfl
  · obtain ⟨v0, r0, rfl, h0, v1, r1, rfl, h1, v2, r2, rfl, h2, rfl⟩ := hvs
    obtain ⟨s, m, l, hs, rfl⟩ := rd_release h0
    obtain ⟨a, rfl, _⟩ := rd_num h1
    obtain ⟨b, rfl, _⟩ := rd_num h2
    exact holdPlaces_ac s m l a b hs _ rfl

theorem holdPlacesOver : Rows.holdPlacesRow.holds Try.pinned (OpenSpec.ofChange Rows.holdPlacesSpec) :=
  OpenClaim.holds_of_wide 3 Try.f3 rfl rfl rfl rfl rfl rfl rfl ⟨rfl, rfl, rfl, rfl, rfl⟩ rfl rfl rfl rfl rfl (by kernel_rfl) Try.func3 (by kernel_rfl)
    (of_decide_eq_true (by kernel_rfl)) (by unfold Func.isWrapper; first | (rw [if_pos (by decide +kernel)]; kernel_rfl) | (rw [if_neg (by decide +kernel)]; exact ⟨rfl, rfl⟩))
    (fun os started H enc _ => placesLifted os started H enc)

theorem holdPlacesProved : Rows.HoldPlacesSaid := holdPlacesOver
#print axioms holdPlacesProved
end Go.Proofs.Ytjgngffbmfbdkaa
