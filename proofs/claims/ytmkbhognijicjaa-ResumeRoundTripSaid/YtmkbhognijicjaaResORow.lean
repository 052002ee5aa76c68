/- Resume: ResumeRoundTrip, the given statement. No condition. -/
import Derived.Test.YtmkbhognijicjaaResO
import Derived.Test.YtmkbhognijicjaaRows
set_option linter.unusedSimpArgs false
namespace Go.Proofs.Ytmkbhognijicjaa
open Go.Eng Go.ChangeShapes Go.WideShapes Go.ChangeAt Go.RowKit

theorem own : ownKnob Try.prog.godebug = none := by kernel_rfl
theorem laidOut : laidOutB Try.prog = true := by kernel_rfl

theorem rd_one {vs : List V} {n : Nat} (h : Rd Try.prog n 3 vs) : ∃ x : Int, vs = [.int .i64 x] := by
  obtain ⟨a, rfl, _⟩ := rd_int Try.underlying3 h
  exact ⟨a, rfl⟩
theorem rd_ints {vs : List V} {n : Nat} (h : Rd Try.prog n 26 vs) : ∃ l : List Int, vs = [.ro 1 (nums l)] := by
  obtain ⟨es, rfl, _, hes⟩ := rd_slice Try.underlying26 h
  obtain ⟨l, he, _⟩ := map_map_of (g := mkV (tagg Try.prog 3)) (f' := V.int .i64) (fun x hx => rd_one (hes x hx)) (fun y => by rw [tyA3]; rfl)
  refine ⟨l, ?_⟩
  rw [he, show Try.prog.cellsOf 3 = 1 by kernel_rfl]
  rfl
theorem rd_event {v : V} (h : RdW Try.prog 32 v) : ∃ e : Ev, v = e.v := by
  obtain ⟨n, vs, hr, rfl⟩ := h
  obtain ⟨u0, w0, rfl, h0, u1, w1, rfl, h1, u2, w2, rfl, h2, u3, w3, rfl, h3, rfl⟩ := rd_struct Try.underlying32 hr
  obtain ⟨kind, rfl⟩ := rd_one h0
  obtain ⟨time, rfl⟩ := rd_one h1
  obtain ⟨a0, b0, rfl, g0, a1, b1, rfl, g1, a2, b2, rfl, g2, a3, b3, rfl, g3, a4, b4, rfl, g4, rfl⟩ := rd_struct Try.underlying28 h2
  obtain ⟨item, rfl⟩ := rd_one g0
  obtain ⟨ch, rfl⟩ := rd_ints g1
  obtain ⟨value, rfl⟩ := rd_one g2
  obtain ⟨text, rfl, _⟩ := rd_str Try.underlying9 g3
  obtain ⟨om, rfl⟩ := rd_bool Try.underlying4 g4
  obtain ⟨a5, b5, rfl, g5, a6, b6, rfl, g6, a7, b7, rfl, g7, a8, b8, rfl, g8, rfl⟩ := rd_struct Try.underlying30 h3
  obtain ⟨ik, rfl⟩ := rd_one g5
  obtain ⟨it, rfl⟩ := rd_one g6
  obtain ⟨il, rfl⟩ := rd_one g7
  obtain ⟨ig, rfl⟩ := rd_one g8
  refine ⟨⟨kind, time, item, ch, value, text, om, ik, it, il, ig⟩, ?_⟩
  rw [tyA32]
  rfl

set_option maxRecDepth 100000 in
theorem resumeRoundTripLifted (os : Os) (started : os.Started) (H : Type) (enc : TypeId × Value → H) :
    ReturnsInHanded {} Try.checked os 4 .any (Rows.resumeRoundTripSpec.pre6 enc Try.prog Try.f4 Rows.resumeRoundTripRow.domain false) (Rows.resumeRoundTripSpec.post enc Try.prog Try.f4 false true false false) := by
  refine returnsInHanded_of_change (C := Try.checked) own started (by kernel_rfl) Try.func4
    (ChangeSpec.witness6 (enc := enc) (C := Try.checked) false ⟨#[], #[.agg #[.int .i64 0, .int .i64 0, .int .i64 0, .slice none 0 0, .int .i64 0, .string ⟨#[]⟩, .bool false, .int .i64 0, .int .i64 0, .int .i64 0, .int .i64 0], .agg #[.int .i64 0, .int .i64 0, .int .i64 0, .slice none 0 0, .int .i64 0, .string ⟨#[]⟩, .bool false, .int .i64 0, .int .i64 0, .int .i64 0, .int .i64 0]], []⟩ 8 (by kernel_rfl) (by kernel_rfl) (by kernel_rfl) (by kernel_rfl)) ?_
  intro W base args ds gs before hval hW _ _
  refine row_contractL (L := [32, 3, 28, 30, 26, 9, 4]) (tb := 4) (ts := [32, 32]) (by rw [Try.params4]) (by kernel_rfl) (by kernel_rfl) laidOut rfl Try.underlying4 rfl (fun ds hl => ?_) (fun vs hvs => ?_) hval hW
  · match ds, hl with
    | [d1, d2], _ => rfl
  · obtain ⟨v0, r0, rfl, h0, v1, r1, rfl, h1, rfl⟩ := hvs
    obtain ⟨e, rfl⟩ := rd_event h0
    obtain ⟨o, rfl⟩ := rd_event h1
    exact resumeRoundTrip_ac e o

theorem resumeRoundTripOver : Rows.resumeRoundTripRow.holds Try.pinned (OpenSpec.ofChange Rows.resumeRoundTripSpec) :=
  OpenClaim.holds_of_wide 4 Try.f4 rfl rfl rfl rfl rfl rfl rfl ⟨rfl, rfl, rfl, rfl, rfl⟩ rfl rfl rfl rfl rfl (by kernel_rfl) Try.func4 (by kernel_rfl)
    (of_decide_eq_true (by kernel_rfl)) (by unfold Func.isWrapper; first | (rw [if_pos (by decide +kernel)]; kernel_rfl) | (rw [if_neg (by decide +kernel)]; exact ⟨rfl, rfl⟩))
    (fun os started H enc _ => resumeRoundTripLifted os started H enc)

theorem resumeRoundTripProved : Rows.ResumeRoundTripSaid := resumeRoundTripOver
#print axioms resumeRoundTripProved
end Go.Proofs.Ytmkbhognijicjaa
