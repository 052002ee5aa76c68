/- Hold: the law HoldLifts. No condition. -/
import Derived.Test.YtjgngffbmfbdkaaHoldX
set_option linter.unusedSimpArgs false
namespace Go.Proofs.Ytjgngffbmfbdkaa
open Go.Eng

theorem same0_ac (s v l : Int) : AC Try.prog 11 [rel s v l (.ro 3 []), rel s v l .nils] (fun r => r = .bool true) := by
  refine ac_intro Try.func11 rfl (by show (2 : Nat) ≤ 52; omega) (fun w0 N0 => ?_)
  refine aw_step [2, 3] [2, 3] (by simp [Try.ntmps11, rel] <;> rfl) ?_   -- law.go:10
  refine aw_seq ?_
  refine aw_step [2, 3, 33] [2, 3] (by simp <;> rfl) ?_   -- law.go:11
  refine aw_cond rfl (fun h1 => by simp at h1) (fun h1 => aw_skip ?_)   -- if t33
  refine aw_seq ?_
  refine aw_step [2, 3, 5] [2, 3] (by simp <;> rfl) ?_   -- law.go:14
  refine aw_block ?_
  refine aw_count (fun k nx => ⟨[(2, .bp 2 0 4 0 0), (3, .bp 3 1 4 0 0), (5, .int .i64 k)], [(2, ⟨0, 4, 24, [.agg [.int .i64 s, .int .i64 v, .int .i64 l, .ro 3 []]]⟩), (3, ⟨1, 4, 24, [.agg [.int .i64 s, .int .i64 v, .int .i64 l, .nils]]⟩)], nx, 52⟩) (fun _ => True) 0 _ trivial (AS.le_refl _) ?_
  intro k nx hk hI
  refine aw_seq ?_
  refine aw_step [2, 3, 5, 38] [2, 3] (by simp <;> rfl) ?_   -- law.go:14
  refine aw_cond rfl (fun h2 => by simp at h2; omega) (fun h2 => ?_)   -- if t38
  refine aw_exit ?_
  refine aw_step [4] [] (by simp <;> rfl) ?_   -- law.go:19
  exact aw_ret (ends_ret (by simp [Try.results11] <;> rfl) rfl)

theorem ready_zero {s l t : Int} (h : readyF s l t = 0) : 0 < t ∧ l ≤ t ∧ t ≤ 1099511627776 ∧ s ≠ 4 := by
  unfold readyF at h
  split at h
  · cases h
  rename_i h1
  split at h
  · cases h
  rename_i h2
  simp at h1 h2
  omega
theorem check_zero {s v l r t : Int} {hs : List H3} (h : checkF s v l r t hs = 0) : validF s v l hs = 0 ∧ rsn r = true ∧ readyF s l t = 0 := by
  unfold checkF at h
  split at h
  · rename_i h1; exact absurd h h1
  rename_i h1
  split at h
  · cases h
  rename_i h2
  exact ⟨by simpa using h1, by simpa using h2, h⟩
theorem lift_zero {s v l r t : Int} {hs : List H3} (h : liftE s v l r t hs = 0) : checkF s v l r t hs = 0 ∧ hs.any (hit r) = true ∧ liftR s v l r t hs = ⟨s, v, t, hs.map (lift1 r t)⟩ := by
  have hR : liftR s v l r t hs = ⟨s, v, t, hs.map (lift1 r t)⟩ := by rw [liftR, if_neg (by rw [h]; simp)]
  unfold liftE at h
  split at h
  · rename_i h1; exact absurd h h1
  rename_i h1
  split at h
  · cases h
  rename_i h2
  exact ⟨by simpa using h1, by simpa using h2, hR⟩

theorem lifted_open {r t : Int} {hs : List H3} (ht : 0 < t) : r ∉ openF (hs.map (lift1 r t)) := by
  intro hm
  obtain ⟨h, hh, hu, hr⟩ := ((openF_rises _).2 r).1 hm
  simp only [List.mem_map] at hh
  obtain ⟨g, _, rfl⟩ := hh
  unfold lift1 at hu hr
  split at hu
  · simp only at hu; omega
  · rename_i h1
    rw [if_neg h1] at hr
    simp [hu, hr] at h1

set_option maxHeartbeats 4000000 in
theorem holdLifts_ac (s v l r t : Int) (hs : List H3) (es : List V) (hes : es = hs.map H3.v) : AC Try.prog 5 [rel s v l (.ro 3 es), .int .i64 r, .int .i64 t] (fun x => x = .bool true) := by
  have hlen : es.length = hs.length := by rw [hes]; simp
  refine ac_intro Try.func5 rfl (by show (3 : Nat) ≤ 111; omega) (fun w0 N0 => ?_)
  refine aw_step [1, 2, 3] [3] (by simp [Try.ntmps5, rel] <;> rfl) ?_   -- law.go:131
  refine aw_seq ?_
  refine aw_step [1, 2, 3, 17] [3] (by simp <;> rfl) ?_   -- law.go:132
  refine aw_cond rfl (fun h1 => ?_) (fun h1 => aw_skip ?_)   -- if t17
  · refine aw_step [6] [] (by simp <;> rfl) ?_   -- law.go:133
    exact aw_ret (ends_ret (by simp [Try.results5] <;> rfl) rfl)
  have hsm : es.length ≤ 200 := by simp at h1; omega
  have hc3 := lift_ac s v l r t hs es hes hsm
  by_cases hE : liftE s v l r t hs = 0
  · obtain ⟨hc0, hany, hR⟩ := lift_zero hE
    obtain ⟨hv0, _, hr0⟩ := check_zero hc0
    obtain ⟨ht0, _⟩ := ready_zero hr0
    have hne : hs.length ≠ 0 := by
      intro h0
      have := List.length_eq_zero_iff.1 h0
      subst this
      simp at hany
    have hnh : nHit r hs ≠ 0 := by rw [ne_eq, nHit_zero, hany]; simp
    rw [hR, hE] at hc3
    have hop := open_ac s v t (hs.map (lift1 r t)) _ rfl (by simp; omega)
    have hopl := openF_len (hs.map (lift1 r t))
    have hnot := lifted_open (r := r) (hs := hs) ht0
    have hpb := pureH (hs.map (lift1 r t))
    have hlb : ((hs.map (lift1 r t)).map H3.v).length = hs.length := by simp
    have hgb : ∀ (k : Nat) (hk : k < hs.length), nth ((hs.map (lift1 r t)).map H3.v) k = some (H3.v (lift1 r t hs[k])) := by
      intro k hk; rw [nth_eq]; simp [hk]
    rw [List.length_map] at hopl
    replace hc3 : ACO Try.prog 12 [rel s v l (.ro 3 es), .int .i64 r, .int .i64 t] 3 30 (fun F es' => F = (fun d q => .tup [.agg [.int .i64 s, .int .i64 v, .int .i64 t, .sl d q 3 hs.length], .int .i64 0]) ∧ es' = (hs.map (lift1 r t)).map H3.v) := hc3.mono fun F es' ⟨h, h'⟩ => ⟨by rw [h]; funext d q; simp [recF, rel], h'⟩
    generalize (hs.map (lift1 r t)).map H3.v = rb at hc3 hop hpb hlb hgb
    have hol := nums_len (openF (hs.map (lift1 r t)))
    generalize openF (hs.map (lift1 r t)) = D at hop hopl hnot hol
    have hnv : nums D = D.map (V.int .i64) := rfl
    generalize nums D = rd at hop hol hnv
    refine aw_seq (aw_region ?_)   -- law.go:135
    refine awl_go 3 (by simp <;> rfl) ?_
    refine awl_callO1 103 hc3 Try.func12 rfl (by kernel_rfl) rfl rfl rfl rfl (by simp <;> rfl) (by simp [rel] <;> rfl) ?_
    refine awl_end [1, 2, 3, 7, 8] [3, 7, 103] (by simp <;> rfl) ?_
    refine aw_seq ?_
    refine aw_step [1, 2, 3, 7, 26] [3, 7, 103] (by simp <;> rfl) ?_   -- law.go:136
    refine aw_cond rfl (fun h2 => by simp at h2) (fun h2 => aw_skip ?_)   -- if t26
    refine aw_seq ?_
    refine aw_step [1, 2, 3, 7, 62] [3, 7, 103] (by simp [hlen, hne] <;> rfl) ?_   -- law.go:139
    refine aw_cond rfl (fun h3 => by simp at h3) (fun h3 => aw_skip ?_)   -- if t62
    refine aw_step [1, 2, 3, 7, 9] [3, 7, 103] (by simp <;> rfl) ?_   -- law.go:142
    refine aw_seq ?_
    refine aw_step [1, 2, 3, 7, 9, 10] [3, 7, 103] (by simp <;> rfl) ?_   -- law.go:143
    refine aw_block ?_
    refine aw_count (fun k nx => ⟨[(1, .int .i64 r), (2, .int .i64 t), (3, .bp 3 0 4 0 0), (7, .bp 7 13 4 0 0), (9, .int .i64 (nHit r (hs.take k))), (10, .int .i64 k)], [(3, ⟨0, 4, 24, [.agg [.int .i64 s, .int .i64 v, .int .i64 l, .ro 3 es]]⟩), (7, ⟨13, 4, 24, [.agg [.int .i64 s, .int .i64 v, .int .i64 t, .sl 103 9 3 hs.length]]⟩), (103, ⟨9, 3, 30, rb⟩)], nx, 111⟩) (fun _ => True) hs.length _ trivial (AS.le_refl _) ?_
    intro k nx hk _
    refine aw_seq ?_
    refine aw_step [1, 2, 3, 7, 9, 10, 67] [3, 7, 103] (by simp <;> rfl) ?_   -- law.go:143
    refine aw_cond rfl (fun h4 => aw_skip ?_) (fun h4 => ?_)   -- if t67
    · have hlt : k < hs.length := by simp at h4; omega
      have hlt' : k < es.length := by omega
      have hget : nth es k = some (H3.v hs[k]) := by rw [nth_eq, hes]; simp [hlt]
      have hgk := hgb k hlt
      have hw := wrap_succ (k := k) (by omega)
      have hcnt := nHit_succ r hs k hlt
      have hw2 := wrap_succ (k := nHit r (hs.take k)) (by have := nHit_le r hs k; omega)
      generalize hs[k] = h at hget hgk hcnt
      refine aw_seq ?_
      refine aw_block ?_
      refine aw_step [1, 2, 3, 7, 9, 10, 11] [3, 7, 11, 103] (by simp [hget, hlt', H3.v] <;> rfl) ?_   -- law.go:144
      refine aw_seq ?_
      refine aw_step [1, 2, 3, 7, 9, 10, 11, 83] [3, 7, 11, 103] (by simp <;> rfl) ?_   -- law.go:145
      refine aw_cond rfl (fun h5 => ?_) (fun h5 => aw_skip ?_)   -- if t83
      · rw [show lift1 r t h = ⟨h.r, h.f, t⟩ by rw [lift1, if_pos h5]] at hgk
        rw [if_pos (show hit r h = true from h5)] at hcnt
        refine aw_step [1, 2, 3, 7, 9, 10, 11] [3, 7, 11, 103] (by simp <;> rfl) ?_   -- law.go:146
        refine aw_one [1, 2, 3, 7, 9, 10, 11] [3, 7, 11, 103] (by simp [hw2] <;> rfl) ?_   -- law.go:147
        refine aw_dstep [(0, []), (2, []), (1, []), (3, []), (4, []), (5, []), (6, [])] [1, 2, 3, 7, 9, 10, 94] [3, 7, 103] hmix (by kernel_rfl) (by simp [hgk, hlb, hlt, H3.v] <;> rfl) ?_   -- law.go:149
        refine aw_cond rfl (fun h6 => by simp at h6) (fun h6 => aw_skip ?_)   -- if t94
        refine aw_one [1, 2, 3, 7, 9, 10] [3, 7, 103] (by simp [hw] <;> rfl) ?_   -- law.go:143
        exact ⟨hlt, trivial, _, by rw [hcnt]; exact AS.le_refl _⟩
      rw [show lift1 r t h = h by rw [lift1, if_neg (by rw [h5]; simp)]] at hgk
      rw [if_neg (by rw [show hit r h = false from h5]; simp), Nat.add_zero] at hcnt
      refine aw_dstep [(0, []), (2, []), (1, []), (3, []), (4, []), (5, []), (6, [])] [1, 2, 3, 7, 9, 10, 94] [3, 7, 103] hmix (by kernel_rfl) (by simp [hgk, hlb, hlt, H3.v] <;> rfl) ?_   -- law.go:149
      refine aw_cond rfl (fun h7 => by simp at h7) (fun h7 => aw_skip ?_)   -- if t94
      refine aw_one [1, 2, 3, 7, 9, 10] [3, 7, 103] (by simp [hw] <;> rfl) ?_   -- law.go:143
      exact ⟨hlt, trivial, _, by rw [hcnt]; exact AS.le_refl _⟩
    · refine aw_exit ?_
      have hk' : k = hs.length := by simp at h4; omega
      subst hk'
      rw [List.take_length]
      generalize nHit r hs = cnt at hnh
      refine aw_seq (aw_region ?_)   -- law.go:153
      refine awl_go 1 (by simp <;> rfl) ?_
      refine awl_callO1 105 hop Try.func17 rfl (by kernel_rfl) rfl rfl rfl rfl (by simp [hpb, hlb, rel] <;> rfl) (by simp <;> rfl) ?_
      refine awl_end [1, 9, 12] [105] (by simp <;> rfl) ?_
      refine aw_seq ?_
      refine aw_step [1, 9, 12, 13] [105] (by simp <;> rfl) ?_   -- law.go:154
      refine aw_block ?_
      refine aw_count (fun j nx1 => ⟨[(1, .int .i64 r), (9, .int .i64 cnt), (12, .sl 105 (nx + 5 + 1) 1 D.length), (13, .int .i64 j)], [(105, ⟨nx + 5 + 1, 1, 3, rd⟩)], nx1, 111⟩) (fun _ => True) D.length _ trivial (AS.le_refl _) ?_
      intro j nx1 hj _
      refine aw_seq ?_
      refine aw_step [1, 9, 12, 13, 100] [105] (by simp <;> rfl) ?_   -- law.go:154
      refine aw_cond rfl (fun h8 => aw_skip ?_) (fun h8 => ?_)   -- if t100
      · have hlt : j < D.length := by simp at h8; omega
        have hgj : nth rd j = some (.int .i64 D[j]) := by rw [nth_eq, hnv]; simp [hlt]
        have hw := wrap_succ (k := j) (by omega)
        have hnj : ¬ D[j] = r := fun e => hnot (e ▸ List.getElem_mem hlt)
        generalize D[j] = x at hgj hnj
        refine aw_seq ?_
        refine aw_block ?_
        refine aw_step [1, 9, 12, 13, 108] [105] (by simp [hol, hlt, hgj] <;> rfl) ?_   -- law.go:155
        refine aw_cond rfl (fun h9 => absurd (by simpa using h9) hnj) (fun h9 => aw_skip ?_)   -- if t108
        refine aw_one [1, 9, 12, 13] [105] (by simp [hw] <;> rfl) ?_   -- law.go:154
        exact ⟨hlt, trivial, _, AS.le_refl _⟩
      · refine aw_exit ?_
        refine aw_step [6] [] (by simp <;> rfl) ?_   -- law.go:159
        refine aw_ret (ends_ret (by simp [Try.results5] <;> rfl) ?_)
        have : 0 < cnt := by omega
        simp [this]
  · have hR : liftR s v l r t hs = zeroR := by rw [liftR, if_pos hE]
    rw [hR] at hc3
    replace hc3 : ACO Try.prog 12 [rel s v l (.ro 3 es), .int .i64 r, .int .i64 t] 3 30 (fun F es' => F = (fun d q => .tup [.agg [.int .i64 0, .int .i64 0, .int .i64 0, .sl d q 3 0], .int .i64 (liftE s v l r t hs)]) ∧ es' = []) := hc3
    refine aw_seq (aw_region ?_)   -- law.go:135
    refine awl_go 3 (by simp <;> rfl) ?_
    refine awl_callO1 103 hc3 Try.func12 rfl (by kernel_rfl) rfl rfl rfl rfl (by simp <;> rfl) (by simp [rel] <;> rfl) ?_
    refine awl_end [1, 2, 3, 7, 8] [3, 7, 103] (by simp <;> rfl) ?_
    refine aw_seq ?_
    refine aw_step [1, 2, 3, 7, 26] [3, 7, 103] (by simp <;> rfl) ?_   -- law.go:136
    refine aw_cond rfl (fun h2 => ?_) (fun h2 => absurd (by simpa using h2) hE)   -- if t26
    refine aw_seq (aw_region ?_)   -- law.go:137
    refine awl_go 2 (by simp <;> rfl) ?_
    refine awl_call1v (same0_ac 0 0 0) Try.func11 rfl (by kernel_rfl) rfl rfl rfl rfl (by simp [rel] <;> rfl) rfl (by simp <;> rfl) ?_
    refine awl_end [6] [] (by simp <;> rfl) ?_
    exact aw_ret (ends_ret (by simp [Try.results5] <;> rfl) rfl)
end Go.Proofs.Ytjgngffbmfbdkaa
