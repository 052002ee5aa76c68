import Derived.Test.YtliogkkhofhfcaaGreatDoorGQ
/- Query: QueryRoundTrip, the walk. No condition. -/
set_option linter.unusedSimpArgs false
set_option maxRecDepth 10000
namespace Go.Proofs.YtliogkkhofhfcaaGreatDoor
open Go.Eng

theorem Qy.agg6 (p : Qy) : ∃ k c n f s kv, p.v = .agg [.int .i64 k, .int .i64 c, .int .i64 n, .str f, .str s, .ro 6 kv] := by
  obtain ⟨k, c, n, f, s, ks⟩ := p
  exact ⟨k, c, n, f, s, _, by rw [Qy.v]⟩
theorem same_zero : AC Tryz.prog 14 [q0.v, .agg [.int .i64 0, .int .i64 0, .int .i64 0, .str [], .str [], .nils]] (fun r => r = .bool true) := by
  have h := same_ac _ q0 q0 (Nat.lt_succ_self _)
  rw [sameQ_self] at h
  refine h.argsR (.cons (.refl _) (.cons ?_ .nil))
  simp only [q0, Qy.v, List.map_nil]
  exact Relax.agg (.cons (.refl _) (.cons (.refl _) (.cons (.refl _) (.cons (.refl _) (.cons (.refl _) (.cons (.nils 6) .nil))))))

set_option maxHeartbeats 8000000 in
theorem round_acq (q : Qy) (s : List UInt8) : ACQ gv Tryz.prog 4 [q.v, .str s] (fun r => r = .bool true) := by
  have hAw := awake_acq
  have hpr := print_acq q
  have hva := valid_acq q
  have hpq : canonB q = true → ACQ gv Tryz.prog 13 [.str (canonT q)] (fun r => r = .tup [q.v, .int .i64 0, .int .i64 0]) := fun h => by
    have := parse_acq (canonT q)
    rwa [parseV_ok (parse_canon h)] at this
  have hsm := same_ac _ q q (Nat.lt_succ_self _)
  rw [sameQ_self] at hsm
  have hcT : canonB q = false → canonT q = [] := fun h => by unfold canonT; rw [if_neg (by rw [h]; simp)]
  generalize canonT q = tx at hpr hpq hcT
  generalize canonB q = cb at hpr hva hpq hcT
  obtain ⟨qk, qc, qn, qf, qs, qv, vv⟩ := q.agg6
  rw [vv] at hpr hva hpq hsm ⊢
  have hps := parse_acq s
  refine acq_intro Tryz.func4 rfl (by show (2 : Nat) ≤ 115; omega) (fun w0 N0 hG => ?_)
  refine aw_step [1, 2] [2] (by simp [Tryz.ntmps4] <;> rfl) ?_   -- law.go:80
  refine aw_seq (aw_region ?_)   -- law.go:81
  refine awl_go 1 (by simp <;> rfl) ?_
  refine awl_callQ hG hpr Tryz.func8 rfl (by kernel_rfl) (by simp) rfl rfl rfl (by simp <;> rfl) (by simp [V.pureV, V.pureE]) (by simp <;> rfl) ?_
  refine awl_end [1, 2, 5, 6] [2] (by simp <;> rfl) ?_
  refine aw_seq ?_
  refine aw_seq (aw_region ?_)   -- law.go:82
  refine awl_go 3 (by simp <;> rfl) ?_
  refine awl_callQ hG hva Tryz.func10 rfl (by kernel_rfl) (by simp) rfl rfl rfl (by simp <;> rfl) (by simp [V.pureV, V.pureE]) (by simp <;> rfl) ?_
  refine awl_end [1, 2, 5, 6, 27] [2] (by simp <;> rfl) ?_
  refine aw_cond rfl (fun h1 => (by cases cb <;> simp at h1)) (fun h1 => aw_skip ?_)   -- if t27
  refine aw_viale ⟨[(1, .str s)], [], 1000, 115⟩ ?_ ?_
  · refine aw_step [1, 2, 5, 6, 29] [2] (by simp <;> rfl) ?_   -- law.go:85
    cases cb with
    | true =>
      have hpq := hpq rfl
      refine aw_cond rfl (fun h2 => ?_) (fun h2 => by simp at h2)   -- if t29
      refine aw_seq (aw_region ?_)   -- law.go:86
      refine awl_go 1 (by simp <;> rfl) ?_
      refine awl_callQ hG hpq Tryz.func13 rfl (by kernel_rfl) (by simp) rfl rfl rfl (by simp <;> rfl) (by simp) (by simp <;> rfl) ?_
      refine awl_end [1, 2, 7, 8, 9] [2, 7] (by simp <;> rfl) ?_
      refine aw_seq (aw_region ?_)   -- law.go:87
      refine awl_go 2 (by simp <;> rfl) ?_
      refine awl_call1 hsm Tryz.func14 rfl (by kernel_rfl) rfl rfl rfl (by simp <;> rfl) (by simp [V.pureV, V.pureE]) (by simp <;> rfl) ?_
      refine awl_end [1, 47] [] (by simp <;> rfl) ?_
      refine aw_cond rfl (fun h3 => by simp at h3) (fun h3 => aw_skip ?_)   -- if t47
      exact ⟨rfl, le_to [1] [] rfl rfl rfl (by simp only; omega)⟩
    | false =>
      have hcT := hcT rfl
      subst hcT
      refine aw_cond rfl (fun h2 => by simp at h2) (fun h2 => ?_)   -- if t29
      refine aw_step [1, 53] [] (by simp <;> rfl) ?_   -- law.go:90
      refine aw_cond rfl (fun h5 => by simp at h5) (fun h5 => aw_skip ?_)   -- if t53
      exact ⟨rfl, le_to [1] [] rfl rfl rfl (by simp only; omega)⟩
  clear hpr hva hpq hsm hcT vv
  cases hP : parseP s with
  | error y =>
    obtain ⟨a, e⟩ := y
    have he := parse_err hP
    have ha := parse_place hP
    rw [parseV_err hP] at hps
    have hsz := same_zero
    obtain ⟨zk, zc, zn, zf, zs, zv, vz⟩ := q0.agg6
    rw [vz] at hps hsz
    have ha0 : (0 : Int) ≤ (a : Int) ∧ (a : Int) ≤ s.length := by omega
    refine aw_seq (aw_region ?_)   -- law.go:93
    refine awl_go 1 (by simp <;> rfl) ?_
    refine awl_callQ hG hps Tryz.func13 rfl (by kernel_rfl) (by simp) rfl rfl rfl (by simp <;> rfl) (by simp) (by simp <;> rfl) ?_
    refine awl_end [1, 10, 11, 12] [10] (by simp <;> rfl) ?_
    refine aw_seq ?_
    refine aw_step [1, 10, 11, 61] [10] (by simp <;> rfl) ?_   -- law.go:94
    refine aw_cond rfl (fun h4 => ?_) (fun h4 => by simp at h4; exact absurd h4 he)   -- if t61
    refine aw_seq (aw_region ?_)   -- law.go:95
    refine awl_go 2 (by simp <;> rfl) ?_
    refine awl_call1 hsz Tryz.func14 rfl (by kernel_rfl) rfl rfl rfl (by simp <;> rfl) (by simp [V.pureV, V.pureE]) (by simp <;> rfl) ?_
    refine awl_go 11 (by simp [ha] <;> rfl) ?_
    refine awl_gcallQ hG (fun hg => hAw) Tryz.func12 rfl (by kernel_rfl) (by simp <;> rfl) rfl rfl (by simp <;> rfl) (by simp) (by simp <;> rfl) ?_
    refine awl_end [4] [] (by simp <;> rfl) ?_
    exact aw_ret (ends_ret (by simp [Tryz.results4] <;> rfl) rfl)
  | ok p =>
    have hv := parse_valid hP
    rw [parseV_ok hP] at hps
    have hpr := print_acq p
    have hva := valid_acq p
    have hpq := parse_acq (canonT p)
    rw [parseV_ok (parse_canon hv)] at hpq
    have hsm := same_ac _ p p (Nat.lt_succ_self _)
    rw [sameQ_self] at hsm
    rw [hv] at hpr hva
    generalize canonT p = tp at hpr hpq
    obtain ⟨pk, pc, pn, pf, ps, pv, vp⟩ := p.agg6
    rw [vp] at hps hpr hva hpq hsm
    refine aw_seq (aw_region ?_)   -- law.go:93
    refine awl_go 1 (by simp <;> rfl) ?_
    refine awl_callQ hG hps Tryz.func13 rfl (by kernel_rfl) (by simp) rfl rfl rfl (by simp <;> rfl) (by simp) (by simp <;> rfl) ?_
    refine awl_end [1, 10, 11, 12] [10] (by simp <;> rfl) ?_
    refine aw_seq ?_
    refine aw_step [1, 10, 11, 61] [10] (by simp <;> rfl) ?_   -- law.go:94
    refine aw_cond rfl (fun h4 => by simp at h4) (fun h4 => aw_skip ?_)   -- if t61
    refine aw_seq (aw_region ?_)   -- law.go:97
    refine awl_go 1 (by simp <;> rfl) ?_
    refine awl_callQ hG hpr Tryz.func8 rfl (by kernel_rfl) (by simp) rfl rfl rfl (by simp <;> rfl) (by simp [V.pureV, V.pureE]) (by simp <;> rfl) ?_
    refine awl_end [10, 11, 13, 14] [10] (by simp <;> rfl) ?_
    refine aw_seq (aw_region ?_)   -- law.go:98
    refine awl_go 1 (by simp <;> rfl) ?_
    refine awl_callQ hG hpq Tryz.func13 rfl (by kernel_rfl) (by simp) rfl rfl rfl (by simp <;> rfl) (by simp) (by simp <;> rfl) ?_
    refine awl_end [10, 11, 14, 15, 16, 17] [10, 15] (by simp <;> rfl) ?_
    refine aw_seq (aw_region ?_)   -- law.go:99
    refine awl_go 4 (by simp <;> rfl) ?_
    refine awl_gcallQ hG (fun hg => hva) Tryz.func10 rfl (by kernel_rfl) (by simp <;> rfl) rfl rfl (by simp <;> rfl) (by simp [V.pureV, V.pureE]) (by simp <;> rfl) ?_
    refine awl_go 8 (by simp <;> rfl) ?_
    refine awl_gcall (fun hg => hsm) Tryz.func14 rfl (by kernel_rfl) (by simp <;> rfl) rfl rfl (by simp <;> rfl) (by simp [V.pureV, V.pureE]) (by simp <;> rfl) ?_
    refine awl_go 10 (by simp <;> rfl) ?_
    refine awl_gcallQ hG (fun hg => hAw) Tryz.func12 rfl (by kernel_rfl) (by simp <;> rfl) rfl rfl (by simp <;> rfl) (by simp) (by simp <;> rfl) ?_
    refine awl_end [4] [] (by simp <;> rfl) ?_
    exact aw_ret (ends_ret (by simp [Tryz.results4] <;> rfl) rfl)
end Go.Proofs.YtliogkkhofhfcaaGreatDoor
