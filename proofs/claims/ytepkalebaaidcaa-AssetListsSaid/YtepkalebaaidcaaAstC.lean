/- Asset: few, has, join. No condition. -/
import Derived.Test.YtepkalebaaidcaaAstW
set_option linter.unusedSimpArgs false
namespace Go.Proofs.Ytepkalebaaidcaa
open Go.Eng

theorem few_ac (l : List Int) : AC Try.prog 13 [.ro 1 (nums l)] (fun r => r = .ro 1 (nums (l.take 40))) := by
  have hl := numsL l
  have ht : (nums l).take 40 = nums (l.take 40) := by simp [nums, List.map_take]
  have hs : l.length ≤ 40 → l.take 40 = l := fun h => List.take_of_length_le h
  refine ac_intro Try.func13 rfl (by show (1 : Nat) ≤ 9; omega) (fun w0 N0 => ?_)
  refine aw_step [0] [] (by simp [Try.ntmps13] <;> rfl) ?_   -- law.go:34
  refine aw_seq ?_
  refine aw_step [0, 5] [] (by simp <;> rfl) ?_   -- law.go:35
  refine aw_cond rfl (fun h1 => ?_) (fun h1 => aw_skip ?_)   -- if t5
  · have h40 : (40 : Int) ≤ ((nums l).length : Int) := by simp at h1; omega
    refine aw_step [2] [] (by simp [h40, ht] <;> rfl) ?_   -- law.go:36
    exact aw_ret (ends_ret (by simp [Try.results13] <;> rfl) rfl)
  refine aw_step [2] [] (by simp <;> rfl) ?_   -- law.go:38
  refine aw_ret (ends_ret (by simp [Try.results13] <;> rfl) ?_)
  rw [hs (by simp at h1; omega)]

set_option maxHeartbeats 1000000 in
theorem has_ac (l : List Int) (n : Int) : AC Try.prog 21 [.ro 1 (nums l), .int .i64 n] (fun r => r = .bool (decide (n ∈ l))) := by
  have hg := fun (k : Nat) (h : k < l.length) => nthI h
  have hl := numsL l
  generalize nums l = lv at hg hl
  refine ac_lenR 0 rfl (fun hmax => ?_)
  unfold maxLen at hmax
  refine ac_intro Try.func21 rfl (by show (2 : Nat) ≤ 17; omega) (fun w0 N0 => ?_)
  refine aw_step [0, 1] [] (by simp [Try.ntmps21] <;> rfl) ?_   -- law.go:24
  refine aw_seq ?_
  refine aw_step [1, 7, 8, 9] [] (by simp <;> rfl) ?_   -- law.go:25
  refine aw_block ?_
  refine aw_count (fun k nx => ⟨[(1, .int .i64 n), (7, .ro 1 lv), (8, .int .i64 lv.length), (9, .int .i64 k)], [], nx, 17⟩) (fun k => n ∉ l.take k) l.length _ (by simp) (AS.le_refl _) ?_
  intro k nx hk hI
  refine aw_step [1, 7, 8, 9, 10] [] (by simp <;> rfl) ?_   -- law.go:25
  refine aw_seq ?_
  refine aw_cond rfl (fun h1 => aw_skip ?_) (fun h1 => ?_)   -- if t10
  · have hlt : k < l.length := by simp at h1; omega
    have hlt' : k < lv.length := by omega
    have ga := hg k hlt
    have hw := wrap_succ (k := k) (by omega)
    refine aw_seq ?_
    refine aw_block ?_
    refine aw_step [1, 6, 7, 8, 9] [] (by simp [ga, hlt'] <;> rfl) ?_   -- law.go:25
    refine aw_step [1, 7, 8, 9, 15] [] (by simp <;> rfl) ?_   -- law.go:26
    refine aw_cond rfl (fun h2 => ?_) (fun h2 => aw_skip ?_)   -- if t15
    · refine aw_step [4] [] (by simp <;> rfl) ?_   -- law.go:27
      refine aw_ret (ends_ret (by simp [Try.results21] <;> rfl) ?_)
      congr 1
      symm
      apply decide_eq_true
      simp at h2
      rw [← h2]
      exact List.getElem_mem _
    refine aw_one [1, 7, 8, 9] [] (by simp [hw] <;> rfl) ?_   -- law.go:25
    refine ⟨hlt, ?_, _, AS.le_refl _⟩
    rw [List.take_succ_eq_append_getElem hlt]
    intro hm
    rcases List.mem_append.1 hm with h | h
    · exact hI h
    · simp at h h2
      exact h2 h.symm
  · refine aw_exit ?_
    refine aw_step [4] [] (by simp <;> rfl) ?_   -- law.go:30
    refine aw_ret (ends_ret (by simp [Try.results21] <;> rfl) ?_)
    have hkl : k = l.length := by simp at h1; omega
    congr 1
    symm
    apply decide_eq_false
    rw [hkl, List.take_length] at hI
    exact hI

theorem join_ac (a b : List Int) (hsm : a.length + b.length ≤ 1000) : ACO Try.prog 22 [.ro 1 (nums a), .ro 1 (nums b)] 1 3 (fun F es' => (F = fun d q => .sl d q 1 (nums (a ++ b)).length) ∧ es' = nums (a ++ b)) := by
  have hab : nums (a ++ b) = nums a ++ nums b := by simp [nums]
  have hfl := flatI (a ++ b)
  have ha := numsL a
  have hb := numsL b
  rw [hab] at hfl ⊢
  generalize nums a = av at *
  generalize nums b = bv at *
  have h1 : av.length ≤ maxLen ∧ av.length * 8 ≤ 140737488355328 := ⟨Nat.le_trans (show av.length ≤ 1000 by omega) (by decide), by omega⟩
  have h2 : av.length + bv.length ≤ maxLen ∧ (av.length + bv.length) * 8 ≤ 140737488355328 := ⟨Nat.le_trans (show av.length + bv.length ≤ 1000 by omega) (by decide), by omega⟩
  refine aco_intro Try.func22 rfl (by show (2 : Nat) ≤ 12; omega) (fun w0 N0 => ?_)
  refine aw_step [0, 1] [] (by simp [Try.ntmps22] <;> rfl) ?_   -- law.go:42
  refine aw_step [1, 5] [6] (by simp [h1] <;> rfl) ?_   -- law.go:43
  refine aw_step [4] [6] (by simp [h2] <;> rfl) ?_   -- law.go:44
  exact aw_ret (endso_row 6 (by simp <;> rfl) rfl rfl hfl (by simp [Try.results22] <;> rfl) ⟨by simp <;> rfl, rfl⟩)
end Go.Proofs.Ytepkalebaaidcaa
