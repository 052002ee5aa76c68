/- Hold: what comes in, as the rows read it. No condition. -/
import Derived.Test.YtjgngffbmfbdkaaHoldD
import Derived.Test.YtjgngffbmfbdkaaEng21
import Derived.Test.YtjgngffbmfbdkaaRows
set_option linter.unusedSimpArgs false
namespace Go.Proofs.Ytjgngffbmfbdkaa
open Go.Eng Go.ChangeShapes Go.WideShapes Go.ChangeAt Go.RowKit

theorem own : ownKnob Try.prog.godebug = none := by kernel_rfl
theorem laidOut : laidOutB Try.prog = true := by kernel_rfl

theorem rd_three {vs : List V} {n : Nat} (h : Rd Try.prog n 30 vs) : ∃ x : H3, vs = [.int .i64 x.r, .int .i64 x.f, .int .i64 x.u] := by
  obtain ⟨u0, w0, rfl, h0, u1, w1, rfl, h1, u2, w2, rfl, h2, rfl⟩ := rd_struct Try.underlying30 h
  obtain ⟨a, rfl, _⟩ := rd_int Try.underlying3 h0
  obtain ⟨b, rfl, _⟩ := rd_int Try.underlying3 h1
  obtain ⟨c, rfl, _⟩ := rd_int Try.underlying3 h2
  exact ⟨⟨a, b, c⟩, rfl⟩
/-- What a release record that comes in looks like. -/
theorem rd_release {v : V} {n : Nat} (h : RdV Try.prog n 24 v) : ∃ s m l hs, v = rel s m l (.ro 3 (List.map H3.v hs)) := by
  obtain ⟨vs, hr, rfl⟩ := h
  obtain ⟨u0, w0, rfl, h0, u1, w1, rfl, h1, u2, w2, rfl, h2, u3, w3, rfl, h3, rfl⟩ := rd_struct Try.underlying24 hr
  obtain ⟨a, rfl, _⟩ := rd_int Try.underlying3 h0
  obtain ⟨b, rfl, _⟩ := rd_int Try.underlying3 h1
  obtain ⟨c, rfl, _⟩ := rd_int Try.underlying3 h2
  obtain ⟨es, rfl, _, hes⟩ := rd_slice Try.underlying22 h3
  obtain ⟨hs, he, _⟩ := map_map_of (g := mkV (tagg Try.prog 30)) (f' := H3.v) (fun x hx => rd_three (hes x hx)) (fun y => by rw [tyA30]; rfl)
  refine ⟨a, b, c, hs, ?_⟩
  rw [he, tyA24, show Try.prog.cellsOf 30 = 3 by kernel_rfl]
  rfl
theorem rd_num {v : V} {n : Nat} (h : RdV Try.prog n 3 v) : ∃ a, v = .int .i64 a ∧ (Lit.int .i64 a).wf = true := by
  obtain ⟨vs, hr, rfl⟩ := h
  obtain ⟨a, rfl, hw⟩ := rd_int Try.underlying3 hr
  exact ⟨a, by rw [tyA3]; rfl, hw⟩

end Go.Proofs.Ytjgngffbmfbdkaa
