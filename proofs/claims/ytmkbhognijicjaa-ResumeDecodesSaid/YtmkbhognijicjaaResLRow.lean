/- Resume: ResumeDecodes, the given statement. No condition. -/
import Derived.Test.YtmkbhognijicjaaResL
import Derived.Test.YtmkbhognijicjaaRows
set_option linter.unusedSimpArgs false
namespace Go.Proofs.Ytmkbhognijicjaa
open Go.Eng Go.ChangeShapes Go.WideShapes Go.ChangeAt Go.RowKit

theorem own : ownKnob Try.prog.godebug = none := by kernel_rfl
theorem laidOut : laidOutB Try.prog = true := by kernel_rfl

def Nd.cs : Nd → List V
  | .mk t k n s ks => [.int .i64 t, .int .i64 k, .int .i64 n, .str s, .ro 5 (ks.map Nd.v)]
theorem rd_node : ∀ (m n : Nat) (vs : List V), n < m → Rd Try.prog n 24 vs → ∃ x : Nd, vs = x.cs := by
  intro m
  induction m with
  | zero => intro n vs h; omega
  | succ m ih =>
  intro n vs hn h
  cases n with
  | zero => exact h.elim
  | succ n =>
  obtain ⟨u0, w0, rfl, h0, u1, w1, rfl, h1, u2, w2, rfl, h2, u3, w3, rfl, h3, u4, w4, rfl, h4, rfl⟩ := rd_struct Try.underlying24 h
  obtain ⟨a, rfl, _⟩ := rd_int Try.underlying3 h0
  obtain ⟨b, rfl, _⟩ := rd_int Try.underlying3 h1
  obtain ⟨c, rfl, _⟩ := rd_int Try.underlying2 h2
  obtain ⟨s, rfl, _⟩ := rd_str Try.underlying9 h3
  obtain ⟨es, rfl, _, hes⟩ := rd_slice Try.underlying22 h4
  obtain ⟨ks, he, _⟩ := map_map_of (g := mkV (tagg Try.prog 24)) (f' := Nd.v) (fun x hx => ih _ x (by omega) (hes x hx)) (fun y => by obtain ⟨t, k, n, s, l⟩ := y; rw [tyA24, Nd.v]; rfl)
  refine ⟨.mk a b c s ks, ?_⟩
  rw [he, show Try.prog.cellsOf 24 = 5 by kernel_rfl]
  rfl
theorem rd_nodeV {v : V} (h : RdW Try.prog 24 v) : ∃ x : Nd, v = x.v := by
  obtain ⟨n, vs, hr, rfl⟩ := h
  obtain ⟨x, rfl⟩ := rd_node _ n vs (Nat.lt_succ_self _) hr
  refine ⟨x, ?_⟩
  obtain ⟨t, k, n, s, l⟩ := x
  rw [tyA24, Nd.v]
  rfl

set_option maxRecDepth 100000 in
theorem resumeDecodesLifted (os : Os) (started : os.Started) (H : Type) (enc : TypeId × Value → H) :
    ReturnsInHanded {} Try.checked os 3 .any (Rows.resumeDecodesSpec.pre6 enc Try.prog Try.f3 Rows.resumeDecodesRow.domain false) (Rows.resumeDecodesSpec.post enc Try.prog Try.f3 false true false false) := by
  refine returnsInHanded_of_change (C := Try.checked) own started (by kernel_rfl) Try.func3
    (ChangeSpec.witness6 (enc := enc) (C := Try.checked) false ⟨#[], #[.agg #[.int .i64 0, .int .i64 0, .int .i64 0, .string ⟨#[]⟩, .slice none 0 0]], []⟩ 8 (by kernel_rfl) (by kernel_rfl) (by kernel_rfl) (by kernel_rfl)) ?_
  intro W base args ds gs before hval hW _ _
  refine row_contractL (L := [24, 3, 2, 9, 22]) (tb := 4) (ts := [24]) (by rw [Try.params3]) (by kernel_rfl) (by kernel_rfl) laidOut rfl Try.underlying4 rfl (fun ds hl => ?_) (fun vs hvs => ?_) hval hW
  · match ds, hl with
    | [d1], _ => rfl
  · obtain ⟨v0, r0, rfl, h0, rfl⟩ := hvs
    obtain ⟨x, rfl⟩ := rd_nodeV h0
    exact resumeDecodes_ac x

theorem resumeDecodesOver : Rows.resumeDecodesRow.holds Try.pinned (OpenSpec.ofChange Rows.resumeDecodesSpec) :=
  OpenClaim.holds_of_wide 3 Try.f3 rfl rfl rfl rfl rfl rfl rfl ⟨rfl, rfl, rfl, rfl, rfl⟩ rfl rfl rfl rfl rfl (by kernel_rfl) Try.func3 (by kernel_rfl)
    (of_decide_eq_true (by kernel_rfl)) (by unfold Func.isWrapper; first | (rw [if_pos (by decide +kernel)]; kernel_rfl) | (rw [if_neg (by decide +kernel)]; exact ⟨rfl, rfl⟩))
    (fun os started H enc _ => resumeDecodesLifted os started H enc)

theorem resumeDecodesProved : Rows.ResumeDecodesSaid := resumeDecodesOver
#print axioms resumeDecodesProved
end Go.Proofs.Ytmkbhognijicjaa
