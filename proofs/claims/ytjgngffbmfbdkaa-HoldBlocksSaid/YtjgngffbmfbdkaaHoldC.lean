/- Hold: the reference's functions, and same. No condition. -/
import Derived.Test.YtjgngffbmfbdkaaHoldB
set_option linter.unusedSimpArgs false
namespace Go.Proofs.Ytjgngffbmfbdkaa
open Go.Eng

theorem rsn_false {n : Int} : rsn n = false ↔ (decide (n < 1) || decide (5 < n)) = true := by
  simp only [rsn, Bool.and_eq_false_iff, Bool.or_eq_true, decide_eq_true_eq, decide_eq_false_iff_not]
  omega

set_option maxHeartbeats 1000000 in
theorem holds_ac (s v l : Int) (hs : List H3) (es : List V) (hes : es = hs.map H3.v) (hsm : hs.length ≤ 1000) : AC Try.prog 31 [rel s v l (.ro 3 es)] (fun r => r = .int .i64 (hsErr l hs)) := by
  have hlen : es.length = hs.length := by rw [hes]; simp
  refine ac_intro Try.func31 rfl (by show (1 : Nat) ≤ 57; omega) (fun w0 N0 => ?_)
  refine aw_step [1] [1] (by simp [Try.ntmps31, rel] <;> rfl) ?_   -- ref.go:12
  refine aw_seq ?_
  refine aw_step [1, 3] [1] (by simp <;> rfl) ?_   -- ref.go:13
  refine aw_block ?_
  refine aw_count (fun k nx => ⟨[(1, .bp 1 0 4 0 0), (3, .int .i64 k)], [(1, ⟨0, 4, 24, [.agg [.int .i64 s, .int .i64 v, .int .i64 l, .ro 3 es]]⟩)], nx, 57⟩) (fun k => hsErr l hs = hsErr l (hs.drop k)) hs.length 3 (by simp) (AS.le_refl _) ?_
  intro k nx hk hI
  refine aw_seq ?_
  refine aw_step [1, 3, 9] [1] (by simp <;> rfl) ?_   -- ref.go:13
  refine aw_cond rfl (fun h1 => aw_skip ?_) (fun h1 => ?_)   -- if t9
  · have hlt : k < hs.length := by simp at h1; omega
    have hlt' : k < es.length := by omega
    have hget : nth es k = some (H3.v hs[k]) := by rw [nth_eq, hes]; simp [hlt]
    have hw := wrap_succ (k := k) (by omega)
    have hd : hs.drop k = hs[k] :: hs.drop (k + 1) := List.drop_eq_getElem_cons hlt
    generalize hs[k] = h at hget hd
    rw [hd] at hI
    refine aw_seq ?_
    refine aw_block ?_
    refine aw_step [1, 3, 4] [1, 4] (by simp [hget, hlt', H3.v] <;> rfl) ?_   -- ref.go:14
    refine aw_seq ?_
    refine aw_step [1, 3, 4, 24] [1, 4] (by simp <;> rfl) ?_   -- ref.go:15
    refine aw_cond rfl (fun h2 => ?_) (fun h2 => aw_skip ?_)   -- if t24
    · refine aw_step [2] [] (by simp <;> rfl) ?_   -- ref.go:16
      refine aw_ret (ends_ret (by simp [Try.results31] <;> rfl) ?_)
      have e1 : hErr l h = 1 := by rw [hErr, if_pos (rsn_false.2 h2)]
      rw [hI, hsErr, e1]; rfl
    have h2' : ¬ rsn h.r = false := by rw [rsn_false, h2]; simp
    refine aw_seq ?_
    refine aw_step [1, 3, 4, 46] [1, 4] (by simp <;> rfl) ?_   -- ref.go:18
    refine aw_cond rfl (fun h3 => ?_) (fun h3 => aw_skip ?_)   -- if t46
    · refine aw_step [2] [] (by simp <;> rfl) ?_   -- ref.go:19
      refine aw_ret (ends_ret (by simp [Try.results31] <;> rfl) ?_)
      have e1 : hErr l h = 3 := by rw [hErr, if_neg h2', if_pos h3]
      rw [hI, hsErr, e1]; rfl
    refine aw_step [1, 3, 56] [1] (by simp <;> rfl) ?_   -- ref.go:21
    refine aw_cond rfl (fun h4 => ?_) (fun h4 => aw_skip ?_)   -- if t56
    · refine aw_step [2] [] (by simp <;> rfl) ?_   -- ref.go:22
      refine aw_ret (ends_ret (by simp [Try.results31] <;> rfl) ?_)
      have e1 : hErr l h = 15 := by rw [hErr, if_neg h2', if_neg (by rw [h3]; simp), if_pos h4]
      rw [hI, hsErr, e1]; rfl
    have e1 : hErr l h = 0 := by rw [hErr, if_neg h2', if_neg (by rw [h3]; simp), if_neg (by rw [h4]; simp)]
    refine aw_one [1, 3] [1] (by simp [hw] <;> rfl) ?_   -- ref.go:13
    exact ⟨hlt, by rw [hI, hsErr, e1, if_pos rfl], _, AS.le_refl _⟩
  · refine aw_exit ?_
    have hk' : k = hs.length := by simp at h1; omega
    subst hk'
    refine aw_step [2] [] (by simp <;> rfl) ?_   -- ref.go:25
    refine aw_ret (ends_ret (by simp [Try.results31] <;> rfl) ?_)
    rw [hI, List.drop_length]; rfl

set_option maxHeartbeats 1000000 in
theorem refValid_ac (s v l : Int) (hs : List H3) (es : List V) (hes : es = hs.map H3.v) : AC Try.prog 15 [rel s v l (.ro 3 es)] (fun r => r = .int .i64 (validF s v l hs)) := by
  have hlen : es.length = hs.length := by rw [hes]; simp
  refine ac_intro Try.func15 rfl (by show (1 : Nat) ≤ 67; omega) (fun w0 N0 => ?_)
  refine aw_step [1] [1] (by simp [Try.ntmps15, rel] <;> rfl) ?_   -- ref.go:29
  refine aw_seq ?_
  refine aw_step [1, 11] [1] (by simp <;> rfl) ?_   -- ref.go:30
  refine aw_cond rfl (fun h1 => ?_) (fun h1 => aw_skip ?_)   -- if t11
  · refine aw_step [2] [] (by simp <;> rfl) ?_   -- ref.go:31
    refine aw_ret (ends_ret (by simp [Try.results15] <;> rfl) ?_)
    rw [validF, if_pos h1]
  refine aw_seq ?_
  refine aw_step [1, 29] [1] (by simp <;> rfl) ?_   -- ref.go:33
  refine aw_cond rfl (fun h2 => ?_) (fun h2 => aw_skip ?_)   -- if t29
  · refine aw_step [2] [] (by simp <;> rfl) ?_   -- ref.go:34
    refine aw_ret (ends_ret (by simp [Try.results15] <;> rfl) ?_)
    rw [validF, if_neg (by rw [h1]; simp), if_pos h2]
  refine aw_seq ?_
  refine aw_step [1, 33] [1] (by simp <;> rfl) ?_   -- ref.go:36
  refine aw_cond rfl (fun h3 => ?_) (fun h3 => aw_skip ?_)   -- if t33
  · refine aw_step [2] [] (by simp <;> rfl) ?_   -- ref.go:37
    refine aw_ret (ends_ret (by simp [Try.results15] <;> rfl) ?_)
    rw [hlen] at h3
    rw [validF, if_neg (by rw [h1]; simp), if_neg (by rw [h2]; simp), if_pos h3]
  rw [hlen] at h3
  refine aw_seq (aw_region ?_)   -- ref.go:39
  refine awl_go 1 (by simp <;> rfl) ?_
  refine awl_call1 (holds_ac s v l hs es hes (by simp at h3; omega)) Try.func31 rfl (by kernel_rfl) rfl rfl rfl rfl rfl (by simp <;> rfl) ?_
  refine awl_end [1, 3] [1] (by simp <;> rfl) ?_
  refine aw_seq ?_
  refine aw_step [1, 3, 37] [1] (by simp <;> rfl) ?_   -- ref.go:40
  refine aw_cond rfl (fun h4 => ?_) (fun h4 => aw_skip ?_)   -- if t37
  · refine aw_step [2] [] (by simp <;> rfl) ?_   -- ref.go:41
    refine aw_ret (ends_ret (by simp [Try.results15] <;> rfl) ?_)
    rw [validF, if_neg (by rw [h1]; simp), if_neg (by rw [h2]; simp), if_neg (by rw [h3]; simp), if_pos (by simpa using h4)]
  have h4' : hsErr l hs = 0 := by simpa using h4
  refine aw_seq ?_
  refine aw_step [66] [] (by simp <;> rfl) ?_   -- ref.go:43
  refine aw_cond rfl (fun h5 => ?_) (fun h5 => aw_skip ?_)   -- if t66
  · refine aw_step [2] [] (by simp <;> rfl) ?_   -- ref.go:44
    refine aw_ret (ends_ret (by simp [Try.results15] <;> rfl) ?_)
    rw [validF, if_neg (by rw [h1]; simp), if_neg (by rw [h2]; simp), if_neg (by rw [h3]; simp), if_neg (by simpa using h4'), if_pos h5]
  refine aw_step [2] [] (by simp <;> rfl) ?_   -- ref.go:46
  refine aw_ret (ends_ret (by simp [Try.results15] <;> rfl) ?_)
  rw [validF, if_neg (by rw [h1]; simp), if_neg (by rw [h2]; simp), if_neg (by rw [h3]; simp), if_neg (by simpa using h4'), if_neg (by rw [h5]; simp)]

theorem change_ac (s v l t : Int) (es : List V) : AC Try.prog 35 [rel s v l (.ro 3 es), .int .i64 t] (fun r => r = .int .i64 (readyF s l t)) := by
  have e0 : decide (t < 1) = decide (t ≤ 0) := by
    rw [decide_eq_decide]; omega
  refine ac_intro Try.func35 rfl (by show (2 : Nat) ≤ 20; omega) (fun w0 N0 => ?_)
  refine aw_step [1, 2] [2] (by simp [Try.ntmps35, rel] <;> rfl) ?_   -- ref.go:50
  refine aw_seq ?_
  refine aw_step [2, 16] [2] (by simp <;> rfl) ?_   -- ref.go:51
  refine aw_cond rfl (fun h1 => ?_) (fun h1 => aw_skip ?_)   -- if t16
  · refine aw_step [4] [] (by simp <;> rfl) ?_   -- ref.go:52
    refine aw_ret (ends_ret (by simp [Try.results35] <;> rfl) ?_)
    rw [e0] at h1
    rw [readyF, if_pos h1]
  rw [e0] at h1
  refine aw_seq ?_
  refine aw_step [19] [] (by simp <;> rfl) ?_   -- ref.go:54
  refine aw_cond rfl (fun h2 => ?_) (fun h2 => aw_skip ?_)   -- if t19
  · refine aw_step [4] [] (by simp <;> rfl) ?_   -- ref.go:55
    refine aw_ret (ends_ret (by simp [Try.results35] <;> rfl) ?_)
    rw [readyF, if_neg (by rw [h1]; simp), if_pos h2]
  refine aw_step [4] [] (by simp <;> rfl) ?_   -- ref.go:57
  refine aw_ret (ends_ret (by simp [Try.results35] <;> rfl) ?_)
  rw [readyF, if_neg (by rw [h1]; simp), if_neg (by rw [h2]; simp)]

theorem about_ac (s v l r t : Int) (hs : List H3) (es : List V) (hes : es = hs.map H3.v) : AC Try.prog 28 [rel s v l (.ro 3 es), .int .i64 r, .int .i64 t] (fun x => x = .int .i64 (checkF s v l r t hs)) := by
  refine ac_intro Try.func28 rfl (by show (3 : Nat) ≤ 22; omega) (fun w0 N0 => ?_)
  refine aw_step [1, 2, 3] [3] (by simp [Try.ntmps28, rel] <;> rfl) ?_   -- ref.go:61
  refine aw_seq (aw_region ?_)   -- ref.go:62
  refine awl_go 1 (by simp <;> rfl) ?_
  refine awl_call1 (refValid_ac s v l hs es hes) Try.func15 rfl (by kernel_rfl) rfl rfl rfl rfl rfl (by simp <;> rfl) ?_
  refine awl_end [1, 2, 3, 7] [3] (by simp <;> rfl) ?_
  refine aw_seq ?_
  refine aw_step [1, 2, 3, 7, 11] [3] (by simp <;> rfl) ?_   -- ref.go:63
  refine aw_cond rfl (fun h1 => ?_) (fun h1 => aw_skip ?_)   -- if t11
  · refine aw_step [6] [] (by simp <;> rfl) ?_   -- ref.go:64
    refine aw_ret (ends_ret (by simp [Try.results28] <;> rfl) ?_)
    rw [checkF, if_pos (by simpa using h1)]
  have h1' : validF s v l hs = 0 := by simpa using h1
  refine aw_seq ?_
  refine aw_step [2, 3, 18] [3] (by simp <;> rfl) ?_   -- ref.go:66
  refine aw_cond rfl (fun h2 => ?_) (fun h2 => aw_skip ?_)   -- if t18
  · refine aw_step [6] [] (by simp <;> rfl) ?_   -- ref.go:67
    refine aw_ret (ends_ret (by simp [Try.results28] <;> rfl) ?_)
    rw [checkF, if_neg (by simpa using h1'), if_pos (rsn_false.2 h2)]
  refine aw_seq (aw_region ?_)   -- ref.go:69
  refine awl_go 2 (by simp <;> rfl) ?_
  refine awl_call1 (change_ac s v l t es) Try.func35 rfl (by kernel_rfl) rfl rfl rfl rfl rfl (by simp <;> rfl) ?_
  refine awl_end [6] [] (by simp <;> rfl) ?_
  refine aw_ret (ends_ret (by simp [Try.results28] <;> rfl) ?_)
  rw [checkF, if_neg (by simpa using h1'), if_neg (by rw [rsn_false, h2]; simp)]

set_option maxHeartbeats 1000000 in
theorem same_ac (s v l : Int) (hs : List H3) (es : List V) (hes : es = hs.map H3.v) (hsm : hs.length ≤ 1000) : AC Try.prog 11 [rel s v l (.ro 3 es), rel s v l (.ro 3 es)] (fun r => r = .bool true) := by
  have hlen : es.length = hs.length := by rw [hes]; simp
  refine ac_intro Try.func11 rfl (by show (2 : Nat) ≤ 52; omega) (fun w0 N0 => ?_)
  refine aw_step [2, 3] [2, 3] (by simp [Try.ntmps11, rel] <;> rfl) ?_   -- law.go:10
  refine aw_seq ?_
  refine aw_step [2, 3, 33] [2, 3] (by simp <;> rfl) ?_   -- law.go:11
  refine aw_cond rfl (fun h1 => by simp at h1) (fun h1 => aw_skip ?_)   -- if t33
  refine aw_seq ?_
  refine aw_step [2, 3, 5] [2, 3] (by simp <;> rfl) ?_   -- law.go:14
  refine aw_block ?_
  refine aw_count (fun k nx => ⟨[(2, .bp 2 0 4 0 0), (3, .bp 3 1 4 0 0), (5, .int .i64 k)], [(2, ⟨0, 4, 24, [.agg [.int .i64 s, .int .i64 v, .int .i64 l, .ro 3 es]]⟩), (3, ⟨1, 4, 24, [.agg [.int .i64 s, .int .i64 v, .int .i64 l, .ro 3 es]]⟩)], nx, 52⟩) (fun _ => True) hs.length 32 trivial (AS.le_refl _) ?_
  intro k nx hk hI
  refine aw_seq ?_
  refine aw_step [2, 3, 5, 38] [2, 3] (by simp <;> rfl) ?_   -- law.go:14
  refine aw_cond rfl (fun h2 => aw_skip ?_) (fun h2 => ?_)   -- if t38
  · have hlt : k < hs.length := by simp at h2; omega
    have hlt' : k < es.length := by omega
    have hget : nth es k = some (H3.v hs[k]) := by rw [nth_eq, hes]; simp [hlt]
    have hw := wrap_succ (k := k) (by omega)
    generalize hs[k] = h at hget
    refine aw_seq ?_
    refine aw_block ?_
    refine aw_dstep [(0, []), (1, []), (2, []), (3, []), (4, []), (5, []), (6, []), (7, []), (8, []), (9, []), (10, [])] [2, 3, 5, 51] [2, 3] hmix (by kernel_rfl) (by simp [hget, hlt', H3.v] <;> rfl) ?_   -- law.go:15
    refine aw_cond rfl (fun h3 => by simp at h3) (fun h3 => aw_skip ?_)   -- if t51
    refine aw_one [2, 3, 5] [2, 3] (by simp [hw] <;> rfl) ?_   -- law.go:14
    exact ⟨hlt, trivial, _, AS.le_refl _⟩
  · refine aw_exit ?_
    refine aw_step [4] [] (by simp <;> rfl) ?_   -- law.go:19
    exact aw_ret (ends_ret (by simp [Try.results11] <;> rfl) rfl)
end Go.Proofs.Ytjgngffbmfbdkaa
