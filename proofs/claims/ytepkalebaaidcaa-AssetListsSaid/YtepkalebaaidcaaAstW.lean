/- Asset: awake. No condition. -/
import Derived.Test.YtepkalebaaidcaaAstN
set_option linter.unusedSimpArgs false
namespace Go.Proofs.Ytepkalebaaidcaa
open Go.Eng

def sA : As := ⟨3, 500, [65, 32, 109, 97, 112], 10, 20⟩
def lateA : As := ⟨3, 500, [65, 32, 109, 97, 112], 10, 9⟩
theorem s1 : AC Try.prog 24 [] (fun r => r = .agg [.int .i64 3, .int .i64 500, .str [65, 32, 109, 97, 112], .int .i64 10, .int .i64 20]) := sample_ac
theorem s2 : AC Try.prog 14 [.ro 5 [.agg [.int .i64 3, .int .i64 500, .str [65, 32, 109, 97, 112], .int .i64 10, .int .i64 20]], .int .i64 3] (fun r => r = .tup [.agg [.int .i64 3, .int .i64 500, .str [65, 32, 109, 97, 112], .int .i64 10, .int .i64 20], .bool true]) := find_ac [sA] 3
theorem s3 : AC Try.prog 8 [.agg [.int .i64 3, .int .i64 500, .str [65, 32, 109, 97, 112], .int .i64 10, .int .i64 20]] (fun r => r = .int .i64 0) := by
  have h := valid_ac sA
  rw [show vA sA = 0 by decide] at h
  exact h
theorem s4 : AC Try.prog 8 [.agg [.int .i64 3, .int .i64 500, .str [65, 32, 109, 97, 112], .int .i64 10, .int .i64 9]] (fun r => r = .int .i64 15) := by
  have h := valid_ac lateA
  rw [show vA lateA = 15 by decide] at h
  exact h
theorem s5 : AC Try.prog 10 [.agg [.int .i64 3, .int .i64 500, .str [65, 32, 109, 97, 112], .int .i64 10, .int .i64 20], .int .i64 20] (fun r => r = .int .i64 0) := by
  have h := usable_ac sA 20
  rw [show uA sA 20 = 0 by decide] at h
  exact h
theorem s6 : AC Try.prog 10 [.agg [.int .i64 3, .int .i64 500, .str [65, 32, 109, 97, 112], .int .i64 10, .int .i64 20], .int .i64 21] (fun r => r = .int .i64 17) := by
  have h := usable_ac sA 21
  rw [show uA sA 21 = 17 by decide] at h
  exact h
theorem s7 : ACO Try.prog 17 [.ro 1 [.int .i64 5, .int .i64 3, .int .i64 5], .ro 5 [.agg [.int .i64 3, .int .i64 500, .str [65, 32, 109, 97, 112], .int .i64 10, .int .i64 20]], .int .i64 21] 1 3 (fun F es' => (F = fun d q => .sl d q 1 2) ∧ es' = [.int .i64 3, .int .i64 5]) := by
  have h := missing_ac [5, 3, 5] [sA] 21 (by decide)
  have h1 : misL [sA] 21 [5, 3, 5] = [5, 3, 5] := by decide
  have h2 : sortI [5, 3, 5] = [3, 5, 5] := by simp [sortI, List.mergeSort, List.MergeSort.Internal.splitInTwo, List.merge]
  have h3 : misF [sA] 21 [5, 3, 5] = [3, 5] := by
    unfold misF
    rw [h1, h2]
    decide
  rw [h3] at h
  exact h
theorem s8 : AC Try.prog 16 [.ro 1 [.int .i64 3, .int .i64 5], .ro 1 [.int .i64 3, .int .i64 5]] (fun r => r = .bool true) := equal_ac [3, 5] [3, 5]
theorem s9 : AC Try.prog 19 [.ro 1 [.int .i64 3, .int .i64 5, .int .i64 3], .ro 5 [.agg [.int .i64 3, .int .i64 500, .str [65, 32, 109, 97, 112], .int .i64 10, .int .i64 20]]] (fun r => r = .int .i64 500) := by
  have h := bytes_ac [3, 5, 3] [sA]
  rw [show bF [sA] [3, 5, 3] = 500 by decide] at h
  exact h
set_option maxHeartbeats 4000000 in
theorem awake_ac : AC Try.prog 12 [] (fun r => r = .bool true) := by
  refine ac_intro Try.func12 rfl (by show (0 : Nat) ≤ 53; omega) (fun w0 N0 => ?_)
  refine aw_step [] [] (by simp [Try.ntmps12] <;> rfl) ?_   -- law.go:53
  refine aw_seq (aw_region ?_)   -- law.go:54
  refine awl_call1 s1 Try.func24 rfl (by kernel_rfl) rfl rfl rfl rfl rfl (by simp <;> rfl) ?_
  refine awl_end [1] [6] (by simp <;> rfl) ?_
  refine aw_seq (aw_region ?_)   -- law.go:55
  refine awl_call1 s1 Try.func24 rfl (by kernel_rfl) rfl rfl rfl rfl rfl (by simp <;> rfl) ?_
  refine awl_end [1, 2] [6, 2] (by simp <;> rfl) ?_
  refine aw_step [1, 2] [6, 2] (by simp <;> rfl) ?_   -- law.go:56
  refine aw_seq (aw_region ?_)   -- law.go:57
  refine awl_go 1 (by simp <;> rfl) ?_
  refine awl_call1v s2 Try.func14 rfl (by kernel_rfl) rfl rfl rfl rfl (by simp <;> rfl) rfl (by simp <;> rfl) ?_
  refine awl_end [1, 2, 3, 4] [6, 2, 3] (by simp <;> rfl) ?_
  refine aw_seq (aw_drawX [29, 31, 36] hmix ?_)   -- law.go:58
  refine at_go [(0, []), (1, [])] (by kernel_rfl) (by simp <;> rfl) ?_
  refine at_call (i := 3) (ks := []) (by kernel_rfl) (fun _ => s1) Try.func24 rfl (by kernel_rfl) rfl (by simp) (by simp <;> rfl) rfl rfl (by simp <;> rfl) (by simp) (by simp <;> rfl) ?_
  refine at_go [(2, [41, 44, 48]), (4, []), (5, []), (6, []), (7, [41, 44, 48])] (by kernel_rfl) (by simp <;> rfl) ?_
  refine at_call (i := 8) (ks := []) (by kernel_rfl) (fun _ => s3) Try.func8 rfl (by kernel_rfl) rfl (by simp) (by simp <;> rfl) rfl rfl (by simp <;> rfl) (by simp) (by simp <;> rfl) ?_
  refine at_go [(9, []), (10, []), (11, []), (12, [41, 44, 48])] (by kernel_rfl) (by simp <;> rfl) ?_
  refine at_call (i := 13) (ks := []) (by kernel_rfl) (fun _ => s4) Try.func8 rfl (by kernel_rfl) rfl (by simp) (by simp <;> rfl) rfl rfl (by simp <;> rfl) (by simp) (by simp <;> rfl) ?_
  refine at_go [(14, []), (15, []), (16, []), (17, [41, 44, 48])] (by kernel_rfl) (by simp <;> rfl) ?_
  refine at_call (i := 18) (ks := []) (by kernel_rfl) (fun _ => s5) Try.func10 rfl (by kernel_rfl) rfl (by simp) (by simp <;> rfl) rfl rfl (by simp <;> rfl) (by simp) (by simp <;> rfl) ?_
  refine at_go [(19, []), (20, []), (21, []), (22, [41, 44, 48])] (by kernel_rfl) (by simp <;> rfl) ?_
  refine at_call (i := 23) (ks := []) (by kernel_rfl) (fun _ => s6) Try.func10 rfl (by kernel_rfl) rfl (by simp) (by simp <;> rfl) rfl rfl (by simp <;> rfl) (by simp) (by simp <;> rfl) ?_
  refine at_go [(24, []), (25, []), (26, []), (28, [])] (by kernel_rfl) (by simp <;> rfl) ?_
  refine at_fork [27, 30] (by kernel_rfl) ?_
  intro i hi
  simp only [List.mem_cons, List.not_mem_nil, or_false] at hi
  rcases hi with rfl | rfl
  · refine ⟨_, _, rfl, sx_act (by simp <;> rfl), ?_⟩
    refine at_fork [29, 30] (by kernel_rfl) ?_
    intro i hi
    simp only [List.mem_cons, List.not_mem_nil, or_false] at hi
    rcases hi with rfl | rfl
    · refine ⟨_, _, rfl, (sx_callO 43 (by simp) s7 Try.func17 rfl (by kernel_rfl) (by simp <;> rfl) rfl rfl (by simp <;> rfl) (by simp <;> rfl) (by simp <;> rfl)), ?_⟩
      refine at_step (i := 30) (ks := []) (by kernel_rfl) rfl (by simp) (sx_act (by simp <;> rfl)) ?_
      refine at_step (i := 31) (ks := []) (by kernel_rfl) rfl (by simp) (sx_callv (by simp) s8 Try.func16 rfl (by kernel_rfl) (by simp <;> rfl) rfl rfl (by simp <;> rfl) (by simp <;> rfl) rfl (by simp <;> rfl)) ?_
      refine at_go [(32, []), (33, []), (35, [])] (by kernel_rfl) (by simp <;> rfl) ?_
      refine at_step (i := 34) (ks := []) (by kernel_rfl) rfl (by simp) (sx_act (by simp <;> rfl)) ?_
      refine at_step (i := 36) (ks := []) (by kernel_rfl) rfl (by simp) (sx_callv (by simp) s9 Try.func19 rfl (by kernel_rfl) (by simp <;> rfl) rfl rfl (by simp <;> rfl) (by simp <;> rfl) rfl (by simp <;> rfl)) ?_
      refine at_go [(37, []), (38, []), (39, [])] (by kernel_rfl) (by simp <;> rfl) ?_
      refine at_end [0] [] (by kernel_rfl) (by simp <;> rfl) ?_
      exact aw_ret (ends_ret (by simp [Try.results12] <;> rfl) rfl)
    · refine ⟨_, _, rfl, sx_act (by simp <;> rfl), ?_⟩
      refine at_step (i := 29) (ks := []) (by kernel_rfl) rfl (by simp) (sx_callO 43 (by simp) s7 Try.func17 rfl (by kernel_rfl) (by simp <;> rfl) rfl rfl (by simp <;> rfl) (by simp <;> rfl) (by simp <;> rfl)) ?_
      refine at_step (i := 31) (ks := []) (by kernel_rfl) rfl (by simp) (sx_callv (by simp) s8 Try.func16 rfl (by kernel_rfl) (by simp <;> rfl) rfl rfl (by simp <;> rfl) (by simp <;> rfl) rfl (by simp <;> rfl)) ?_
      refine at_go [(32, []), (33, []), (35, [])] (by kernel_rfl) (by simp <;> rfl) ?_
      refine at_step (i := 34) (ks := []) (by kernel_rfl) rfl (by simp) (sx_act (by simp <;> rfl)) ?_
      refine at_step (i := 36) (ks := []) (by kernel_rfl) rfl (by simp) (sx_callv (by simp) s9 Try.func19 rfl (by kernel_rfl) (by simp <;> rfl) rfl rfl (by simp <;> rfl) (by simp <;> rfl) rfl (by simp <;> rfl)) ?_
      refine at_go [(37, []), (38, []), (39, [])] (by kernel_rfl) (by simp <;> rfl) ?_
      refine at_end [0] [] (by kernel_rfl) (by simp <;> rfl) ?_
      exact aw_ret (ends_ret (by simp [Try.results12] <;> rfl) rfl)
  · refine ⟨_, _, rfl, sx_act (by simp <;> rfl), ?_⟩
    refine at_step (i := 27) (ks := []) (by kernel_rfl) rfl (by simp) (sx_act (by simp <;> rfl)) ?_
    refine at_step (i := 29) (ks := []) (by kernel_rfl) rfl (by simp) (sx_callO 43 (by simp) s7 Try.func17 rfl (by kernel_rfl) (by simp <;> rfl) rfl rfl (by simp <;> rfl) (by simp <;> rfl) (by simp <;> rfl)) ?_
    refine at_step (i := 31) (ks := []) (by kernel_rfl) rfl (by simp) (sx_callv (by simp) s8 Try.func16 rfl (by kernel_rfl) (by simp <;> rfl) rfl rfl (by simp <;> rfl) (by simp <;> rfl) rfl (by simp <;> rfl)) ?_
    refine at_go [(32, []), (33, []), (35, [])] (by kernel_rfl) (by simp <;> rfl) ?_
    refine at_step (i := 34) (ks := []) (by kernel_rfl) rfl (by simp) (sx_act (by simp <;> rfl)) ?_
    refine at_step (i := 36) (ks := []) (by kernel_rfl) rfl (by simp) (sx_callv (by simp) s9 Try.func19 rfl (by kernel_rfl) (by simp <;> rfl) rfl rfl (by simp <;> rfl) (by simp <;> rfl) rfl (by simp <;> rfl)) ?_
    refine at_go [(37, []), (38, []), (39, [])] (by kernel_rfl) (by simp <;> rfl) ?_
    refine at_end [0] [] (by kernel_rfl) (by simp <;> rfl) ?_
    exact aw_ret (ends_ret (by simp [Try.results12] <;> rfl) rfl)
end Go.Proofs.Ytepkalebaaidcaa
