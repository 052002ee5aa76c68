/- Asset: AssetRules. No condition. -/
import Derived.Test.YtepkalebaaidcaaAstW
set_option linter.unusedSimpArgs false
namespace Go.Proofs.Ytepkalebaaidcaa
open Go.Eng

set_option maxHeartbeats 1000000 in
theorem assetRules_ac (a : As) (day : Int) : AC Try.prog 3 [a.v, .int .i64 day] (fun r => r = .bool true) := by
  have hv := valid_ac a
  have hv2 := refValid_ac a
  have hu := usable_ac a day
  have hu2 := refUsable_ac a day
  generalize vA a = va at hv hv2
  generalize uA a day = ua at hu hu2
  obtain ⟨ai, ab, aa, af, au⟩ := a
  simp only [As.v] at hv hv2 hu hu2 ⊢
  refine ac_intro Try.func3 rfl (by show (2 : Nat) ≤ 22; omega) (fun w0 N0 => ?_)
  refine aw_step [1, 2] [2] (by simp [Try.ntmps3] <;> rfl) ?_   -- law.go:62
  refine aw_seq (aw_draw [(0, []), (1, []), (2, []), (3, []), (4, []), (5, []), (7, []), (10, []), (6, []), (8, []), (9, []), (11, []), (12, []), (13, []), (14, []), (15, []), (16, []), (17, [])] hmix (by kernel_rfl) ?_)   -- law.go:63
  refine awo_go 1 (by simp <;> rfl) ?_
  refine awo_call (fun hg => hv) Try.func8 rfl (by kernel_rfl) rfl rfl (by simp <;> rfl) rfl rfl (by simp <;> rfl) (by simp) (by simp <;> rfl) ?_
  refine awo_go 1 (by simp <;> rfl) ?_
  refine awo_call (fun hg => hv2) Try.func9 rfl (by kernel_rfl) rfl rfl (by simp <;> rfl) rfl rfl (by simp <;> rfl) (by simp) (by simp <;> rfl) ?_
  refine awo_go 5 (by simp <;> rfl) ?_
  refine awo_call (fun hg => hu) Try.func10 rfl (by kernel_rfl) rfl rfl (by simp <;> rfl) rfl rfl (by simp <;> rfl) (by simp) (by simp <;> rfl) ?_
  refine awo_go 1 (by simp <;> rfl) ?_
  refine awo_call (fun hg => hu2) Try.func11 rfl (by kernel_rfl) rfl rfl (by simp <;> rfl) rfl rfl (by simp <;> rfl) (by simp) (by simp <;> rfl) ?_
  refine awo_go 3 (by simp <;> rfl) ?_
  refine awo_call (fun hg => awake_ac) Try.func12 rfl (by kernel_rfl) rfl rfl (by simp <;> rfl) rfl rfl (by simp <;> rfl) (by simp) (by simp <;> rfl) ?_
  refine awo_end [4] [] (by simp <;> rfl) ?_
  exact aw_ret (ends_ret (by simp [Try.results3] <;> rfl) rfl)
end Go.Proofs.Ytepkalebaaidcaa
