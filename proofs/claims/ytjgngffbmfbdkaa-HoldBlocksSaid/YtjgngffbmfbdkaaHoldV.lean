/- Hold: the reference's reasons that stand; comparing two rows of numbers; a new record. No condition. -/
import Derived.Test.YtjgngffbmfbdkaaHoldU
set_option linter.unusedSimpArgs false
namespace Go.Proofs.Ytjgngffbmfbdkaa
open Go.Eng

theorem wrap_pred {j : Nat} (h : 0 < j) (h2 : j ≤ 1000) : IntKind.i64.wrap ((j : Int) - 1) = ((j - 1 : Nat) : Int) := by
  rw [IntKind.wrap_i64]; omega

set_option maxHeartbeats 2000000 in
theorem refOpen_ac (s v l : Int) (hs : List H3) (es : List V) (hes : es = hs.map H3.v) (hsm : es.length ≤ 200) : ACO Try.prog 18 [rel s v l (.ro 3 es)] 1 3 (fun F es' => (F = fun d q => .sl d q 1 (openF hs).length) ∧ es' = nums (openF hs)) := by
  have hlen : es.length = hs.length := by rw [hes]; simp
  have hnext := fun j hj => rises_next (openF_rises hs) j hj
  have hDl := openF_len hs
  generalize openF hs = D at hnext hDl
  refine aco_intro Try.func18 rfl (by show (1 : Nat) ≤ 58; omega) (fun w0 N0 => ?_)
  refine aw_step [1] [1] (by simp [Try.ntmps18, rel] <;> rfl) ?_   -- ref.go:154
  refine aw_step [1, 3] [1] (by simp <;> rfl) ?_   -- ref.go:155
  refine aw_adoptS 3 100 1 3 [1, 3] [1, 100] (by simp <;> rfl) (by simp <;> rfl) ?_
  refine aw_block ?_
  refine aw_loop (fun x : Nat × Nat × Nat => ⟨[(1, .bp 1 0 4 0 0), (3, .sl 100 x.2.1 1 x.1)], [(1, ⟨0, 4, 24, [.agg [.int .i64 s, .int .i64 v, .int .i64 l, .ro 3 es]]⟩), (100, ⟨x.2.1, 1, 3, nums (D.take x.1)⟩)], x.2.2, 58⟩)
    (fun x => x.1 ≤ D.length) (fun x => D.length - x.1) (0, 3, 4) (Nat.zero_le _) (AS.le_refl _) ?_
  rintro ⟨j, q, nx⟩ hj
  simp only at hj
  have hnx := hnext j hj
  have hrl : (nums (D.take j)).length = j := by rw [nums_len]; simp; omega
  have hlast : 0 < j → ∃ x, (D.take j).getLast? = some x ∧ nth (nums (D.take j)) (j - 1) = some (.int .i64 x) := by
    intro h0
    have h1 : j - 1 < D.length := by omega
    refine ⟨D[j - 1], ?_, ?_⟩
    · rw [List.getLast?_eq_getElem?]
      simp only [List.length_take, Nat.min_eq_left hj]
      rw [List.getElem?_take_of_lt (by omega)]
      exact List.getElem?_eq_getElem h1
    · rw [nth_eq, nums, List.getElem?_map, List.getElem?_take_of_lt (by omega), List.getElem?_eq_getElem h1]; rfl
  have hfirst : j = 0 → (D.take j).getLast? = none := by intro h0; subst h0; rfl
  have htake : ∀ x, D[j]? = some x → nums (D.take (j + 1)) = nums (D.take j) ++ [.int .i64 x] := by
    intro x hx
    have h1 : j < D.length := (List.getElem?_eq_some_iff.1 hx).1
    rw [List.take_succ_eq_append_getElem h1, nums, List.map_append]
    rw [List.getElem?_eq_getElem h1] at hx
    injection hx with hx
    rw [hx]; rfl
  generalize (D.take j).getLast? = last at hnx hlast hfirst
  obtain ⟨rj, hrj⟩ : ∃ rj, rj = nums (D.take j) := ⟨_, rfl⟩
  simp only [← hrj] at hrl hlast htake ⊢
  refine aw_block ?_
  refine aw_step [1, 3, 4, 5] [1, 100] (by simp <;> rfl) ?_   -- ref.go:157
  refine aw_seq ?_
  refine aw_step [1, 3, 4, 5, 6] [1, 100] (by simp <;> rfl) ?_   -- ref.go:158
  refine aw_block ?_
  refine aw_count (fun k nx => ⟨[(1, .bp 1 0 4 0 0), (3, .sl 100 q 1 j), (4, .int .i64 ((bestK last (hs.take k)).getD 0)), (5, .bool (bestK last (hs.take k)).isSome), (6, .int .i64 k)], [(1, ⟨0, 4, 24, [.agg [.int .i64 s, .int .i64 v, .int .i64 l, .ro 3 es]]⟩), (100, ⟨q, 1, 3, rj⟩)], nx, 58⟩) (fun _ => True) hs.length _ trivial (AS.le_refl _) ?_
  intro k nx hk _
  refine aw_seq ?_
  refine aw_step [1, 3, 4, 5, 6, 12] [1, 100] (by simp <;> rfl) ?_   -- ref.go:158
  refine aw_cond rfl (fun h1 => aw_skip ?_) (fun h1 => ?_)   -- if t12
  · have hlt : k < hs.length := by simp at h1; omega
    have hlt' : k < es.length := by omega
    have hget : nth es k = some (H3.v hs[k]) := by rw [nth_eq, hes]; simp [hlt]
    have hw := wrap_succ (k := k) (by omega)
    have hsu := bestK_succ last hs k hlt
    generalize hs[k] = h at hget hsu
    generalize bestK last (hs.take k) = acc at hsu
    generalize bestK last (hs.take (k + 1)) = acc' at hsu
    refine aw_seq ?_
    refine aw_block ?_
    refine aw_step [1, 3, 4, 5, 6, 7] [1, 7, 100] (by simp [hget, hlt', H3.v] <;> rfl) ?_   -- ref.go:159
    refine aw_via ⟨[(1, .bp 1 0 4 0 0), (3, .sl 100 q 1 j), (4, .int .i64 (acc.getD 0)), (5, .bool acc.isSome), (6, .int .i64 k), (7, .bp 7 (nx + 5 + 5) 3 0 0), (48, .bool (cand last h && lessO acc h.r))], [(1, ⟨0, 4, 24, [.agg [.int .i64 s, .int .i64 v, .int .i64 l, .ro 3 es]]⟩), (7, ⟨nx + 5 + 5, 3, 30, [.agg [.int .i64 h.r, .int .i64 h.f, .int .i64 h.u]]⟩), (100, ⟨q, 1, 3, rj⟩)], nx + 5 + 7 + 29, 58⟩ ?_ ?_
    · have hm1 : IntKind.i64.wrap (-1) = -1 := by rw [IntKind.wrap_i64]; omega
      rcases Nat.eq_zero_or_pos j with h0 | h0
      · have hl0 := hfirst h0
        subst h0
        subst hl0
        by_cases hu : h.u = 0
        · cases acc with
          | none => exact aw_done [(0, []), (1, []), (2, []), (3, []), (4, []), (5, []), (6, []), (7, []), (8, []), (10, []), (11, []), (12, []), (13, []), (14, []), (9, []), (15, []), (16, []), (17, []), (18, []), (19, []), (20, []), (21, []), (22, []), (23, []), (25, []), (24, []), (26, []), (27, []), (28, [])] [1, 3, 4, 5, 6, 7, 48] [1, 7, 100] hmix (by kernel_rfl) (by simp [hu, hm1, cand, lessO] <;> rfl) ⟨rfl, rfl⟩
          | some b => exact aw_done [(0, []), (1, []), (2, []), (3, []), (4, []), (5, []), (6, []), (7, []), (8, []), (10, []), (11, []), (12, []), (13, []), (14, []), (9, []), (15, []), (16, []), (17, []), (18, []), (19, []), (20, []), (21, []), (22, []), (23, []), (25, []), (24, []), (26, []), (27, []), (28, [])] [1, 3, 4, 5, 6, 7, 48] [1, 7, 100] hmix (by kernel_rfl) (by simp [hu, hm1, cand, lessO] <;> rfl) ⟨rfl, rfl⟩
        · exact aw_done [(0, []), (1, []), (2, []), (3, []), (4, []), (5, []), (6, []), (7, []), (8, []), (10, []), (11, []), (12, []), (13, []), (14, []), (9, []), (15, []), (16, []), (17, []), (18, []), (19, []), (20, []), (21, []), (22, []), (23, []), (25, []), (24, []), (26, []), (27, []), (28, [])] [1, 3, 4, 5, 6, 7, 48] [1, 7, 100] hmix (by kernel_rfl) (by simp [hu, hm1, cand, lessO] <;> rfl) ⟨rfl, rfl⟩
      · obtain ⟨x, hx1, hx2⟩ := hlast h0
        subst hx1
        have hj0 : ¬ j = 0 := by omega
        have hwp := wrap_pred h0 (by omega)
        have hjl : j - 1 < j := by omega
        by_cases hu : h.u = 0
        · cases acc with
          | none => exact aw_done [(0, []), (1, []), (2, []), (3, []), (4, []), (5, []), (6, []), (7, []), (8, []), (10, []), (11, []), (12, []), (13, []), (14, []), (9, []), (15, []), (16, []), (17, []), (18, []), (19, []), (20, []), (21, []), (22, []), (23, []), (25, []), (24, []), (26, []), (27, []), (28, [])] [1, 3, 4, 5, 6, 7, 48] [1, 7, 100] hmix (by kernel_rfl) (by simp [hu, hj0, hwp, hx2, hjl, hrl, cand, lessO] <;> rfl) ⟨rfl, rfl⟩
          | some b => exact aw_done [(0, []), (1, []), (2, []), (3, []), (4, []), (5, []), (6, []), (7, []), (8, []), (10, []), (11, []), (12, []), (13, []), (14, []), (9, []), (15, []), (16, []), (17, []), (18, []), (19, []), (20, []), (21, []), (22, []), (23, []), (25, []), (24, []), (26, []), (27, []), (28, [])] [1, 3, 4, 5, 6, 7, 48] [1, 7, 100] hmix (by kernel_rfl) (by simp [hu, hj0, hwp, hx2, hjl, hrl, cand, lessO] <;> rfl) ⟨rfl, rfl⟩
        · exact aw_done [(0, []), (1, []), (2, []), (3, []), (4, []), (5, []), (6, []), (7, []), (8, []), (10, []), (11, []), (12, []), (13, []), (14, []), (9, []), (15, []), (16, []), (17, []), (18, []), (19, []), (20, []), (21, []), (22, []), (23, []), (25, []), (24, []), (26, []), (27, []), (28, [])] [1, 3, 4, 5, 6, 7, 48] [1, 7, 100] hmix (by kernel_rfl) (by simp [hu, hj0, hwp, hx2, hjl, hrl, cand, lessO] <;> rfl) ⟨rfl, rfl⟩
    refine aw_cond rfl (fun h2 => ?_) (fun h2 => aw_skip ?_)   -- if t48
    · refine aw_one [1, 3, 4, 5, 6] [1, 100] (by simp <;> rfl) ?_   -- ref.go:161
      refine aw_one [1, 3, 4, 5, 6] [1, 100] (by simp [hw] <;> rfl) ?_   -- ref.go:158
      rw [nb, if_pos h2] at hsu
      exact ⟨hlt, trivial, _, by rw [hsu]; exact AS.le_refl _⟩
    refine aw_one [1, 3, 4, 5, 6] [1, 100] (by simp [hw] <;> rfl) ?_   -- ref.go:158
    rw [nb, if_neg (by rw [h2]; simp)] at hsu
    exact ⟨hlt, trivial, _, by rw [hsu]; exact AS.le_refl _⟩
  · refine aw_exit ?_
    have hk' : k = hs.length := by simp at h1; omega
    subst hk'
    rw [List.take_length, hnx]
    refine aw_seq ?_
    refine aw_step [1, 3, 4, 52] [1, 100] (by simp <;> rfl) ?_   -- ref.go:164
    refine aw_cond rfl (fun h3 => ?_) (fun h3 => aw_skip ?_)   -- if t52
    · have hjd : j = D.length := by simp at h3; omega
      refine aw_step [2] [100] (by simp <;> rfl) ?_   -- ref.go:165
      subst hjd
      rw [List.take_length] at hrj
      exact aw_ret (endso_row 100 (by simp <;> rfl) rfl rfl (by rw [hrj]; exact nums_flat D) (by simp [Try.results18] <;> rfl) ⟨rfl, hrj⟩)
    have hjd : j < D.length := by simp at h3; omega
    have hro : rj.length + 1 ≤ maxLen ∧ (rj.length + 1) * 8 ≤ 140737488355328 := ⟨Nat.le_trans (show rj.length + 1 ≤ 1000 by omega) (by decide), by omega⟩
    rw [hrl] at hro
    have ht := htake D[j] (List.getElem?_eq_getElem hjd)
    rw [List.getElem?_eq_getElem hjd]
    refine aw_one [1, 3] [1, 100] (by simp [hro, hrl] <;> rfl) ?_   -- ref.go:167
    exact ⟨(j + 1, _, _), hjd, by simp only; omega, by simp only [ht]; exact AS.le_refl _⟩
end Go.Proofs.Ytjgngffbmfbdkaa
