import Derived.Test.YtliogkkhofhfcaaGreatDoorGK
/- Query: QueryBoolean, the walk. Printed by mkBool.py. No condition. -/
set_option linter.unusedSimpArgs false
set_option maxRecDepth 10000
namespace Go.Proofs.YtliogkkhofhfcaaGreatDoor
open Go.Eng

theorem sm_not {p : Qy} (h : SmQ p) : SmQ (notQy p) := .mk (by simp) (by simp) (by simpa using h)
theorem sm_and {p q : Qy} (h : SmQ p) (k : SmQ q) : SmQ (andQy p q) := .mk (by simp) (by simp) (by simpa using ⟨h, k⟩)
theorem sm_or {p q : Qy} (h : SmQ p) (k : SmQ q) : SmQ (orQy p q) := .mk (by simp) (by simp) (by simpa using ⟨h, k⟩)
theorem m_not (bk : Bk) (e : En) (p : Qy) : matchQ bk e (notQy p) = !matchQ bk e p := by simp [notQy, matchQ, notQ]
theorem m_and (bk : Bk) (e : En) (p q : Qy) : matchQ bk e (andQy p q) = (matchQ bk e p && matchQ bk e q) := by simp [andQy, matchQ, allQ]
theorem m_or (bk : Bk) (e : En) (p q : Qy) : matchQ bk e (orQy p q) = (matchQ bk e p || matchQ bk e q) := by simp [orQy, matchQ, anyQ]

set_option maxHeartbeats 16000000 in
theorem boolean_acq (bk : Bk) (e : En) (p q : Qy) (hst : ∀ it ∈ e.vers, it.stem.length ≤ 2000000) (hp : SmQ p) (hq : SmQ q) :
    ACQ gv Tryz.prog 5 [bk.v, e.v, p.v, q.v] (fun r => r = .bool true) := by
  have hm := fun x (hx : SmQ x) => match_acq bk e hst _ x (Nat.lt_succ_self _) hx
  have hAw := awake_acq
  obtain ⟨pk, pc, pn, pf, ps, pv, vP⟩ : ∃ k c n f s kv, p.v = .agg [.int .i64 k, .int .i64 c, .int .i64 n, .str f, .str s, .ro 6 kv] := by
    obtain ⟨k, c, n, f, s, ks⟩ := p
    exact ⟨k, c, n, f, s, _, by rw [Qy.v]⟩
  obtain ⟨qk, qc, qn, qf, qs, qv, vQ⟩ : ∃ k c n f s kv, q.v = .agg [.int .i64 k, .int .i64 c, .int .i64 n, .str f, .str s, .ro 6 kv] := by
    obtain ⟨k, c, n, f, s, ks⟩ := q
    exact ⟨k, c, n, f, s, _, by rw [Qy.v]⟩
  obtain ⟨kNP, vNP⟩ : ∃ kv, (notQy p).v = .agg [.int .i64 3, .int .i64 0, .int .i64 0, .str [], .str [], .ro 6 kv] := ⟨_, by rw [notQy, Qy.v]⟩
  obtain ⟨kNQ, vNQ⟩ : ∃ kv, (notQy q).v = .agg [.int .i64 3, .int .i64 0, .int .i64 0, .str [], .str [], .ro 6 kv] := ⟨_, by rw [notQy, Qy.v]⟩
  obtain ⟨kNNP, vNNP⟩ : ∃ kv, (notQy (notQy p)).v = .agg [.int .i64 3, .int .i64 0, .int .i64 0, .str [], .str [], .ro 6 kv] := ⟨_, by rw [notQy, Qy.v]⟩
  obtain ⟨kAPQ, vAPQ⟩ : ∃ kv, (andQy p q).v = .agg [.int .i64 1, .int .i64 0, .int .i64 0, .str [], .str [], .ro 6 kv] := ⟨_, by rw [andQy, Qy.v]⟩
  obtain ⟨kOPQ, vOPQ⟩ : ∃ kv, (orQy p q).v = .agg [.int .i64 2, .int .i64 0, .int .i64 0, .str [], .str [], .ro 6 kv] := ⟨_, by rw [orQy, Qy.v]⟩
  obtain ⟨kNAPQ, vNAPQ⟩ : ∃ kv, (notQy (andQy p q)).v = .agg [.int .i64 3, .int .i64 0, .int .i64 0, .str [], .str [], .ro 6 kv] := ⟨_, by rw [notQy, Qy.v]⟩
  obtain ⟨kONN, vONN⟩ : ∃ kv, (orQy (notQy p) (notQy q)).v = .agg [.int .i64 2, .int .i64 0, .int .i64 0, .str [], .str [], .ro 6 kv] := ⟨_, by rw [orQy, Qy.v]⟩
  obtain ⟨kNOPQ, vNOPQ⟩ : ∃ kv, (notQy (orQy p q)).v = .agg [.int .i64 3, .int .i64 0, .int .i64 0, .str [], .str [], .ro 6 kv] := ⟨_, by rw [notQy, Qy.v]⟩
  obtain ⟨kANN, vANN⟩ : ∃ kv, (andQy (notQy p) (notQy q)).v = .agg [.int .i64 1, .int .i64 0, .int .i64 0, .str [], .str [], .ro 6 kv] := ⟨_, by rw [andQy, Qy.v]⟩
  obtain ⟨kAQP, vAQP⟩ : ∃ kv, (andQy q p).v = .agg [.int .i64 1, .int .i64 0, .int .i64 0, .str [], .str [], .ro 6 kv] := ⟨_, by rw [andQy, Qy.v]⟩
  obtain ⟨kOQP, vOQP⟩ : ∃ kv, (orQy q p).v = .agg [.int .i64 2, .int .i64 0, .int .i64 0, .str [], .str [], .ro 6 kv] := ⟨_, by rw [orQy, Qy.v]⟩
  obtain ⟨kOPA, vOPA⟩ : ∃ kv, (orQy p (andQy p q)).v = .agg [.int .i64 2, .int .i64 0, .int .i64 0, .str [], .str [], .ro 6 kv] := ⟨_, by rw [orQy, Qy.v]⟩
  obtain ⟨kAPO, vAPO⟩ : ∃ kv, (andQy p (orQy p q)).v = .agg [.int .i64 1, .int .i64 0, .int .i64 0, .str [], .str [], .ro 6 kv] := ⟨_, by rw [andQy, Qy.v]⟩
  have nP := not_ac p
  have nQ := not_ac q
  have nNP := not_ac (notQy p)
  have nAPQ := not_ac (andQy p q)
  have nOPQ := not_ac (orQy p q)
  have aPQ := and_ac p q
  have aNN := and_ac (notQy p) (notQy q)
  have aQP := and_ac q p
  have aPO := and_ac p (orQy p q)
  have oPQ := or_ac p q
  have oNN := or_ac (notQy p) (notQy q)
  have oQP := or_ac q p
  have oPA := or_ac p (andQy p q)
  have mP := hm (p) (by repeat' first | exact hp | exact hq | apply sm_not | apply sm_and | apply sm_or)
  have mQ := hm (q) (by repeat' first | exact hp | exact hq | apply sm_not | apply sm_and | apply sm_or)
  have mNP := hm (notQy p) (by repeat' first | exact hp | exact hq | apply sm_not | apply sm_and | apply sm_or)
  have mNNP := hm (notQy (notQy p)) (by repeat' first | exact hp | exact hq | apply sm_not | apply sm_and | apply sm_or)
  have mAPQ := hm (andQy p q) (by repeat' first | exact hp | exact hq | apply sm_not | apply sm_and | apply sm_or)
  have mOPQ := hm (orQy p q) (by repeat' first | exact hp | exact hq | apply sm_not | apply sm_and | apply sm_or)
  have mNAPQ := hm (notQy (andQy p q)) (by repeat' first | exact hp | exact hq | apply sm_not | apply sm_and | apply sm_or)
  have mONN := hm (orQy (notQy p) (notQy q)) (by repeat' first | exact hp | exact hq | apply sm_not | apply sm_and | apply sm_or)
  have mNOPQ := hm (notQy (orQy p q)) (by repeat' first | exact hp | exact hq | apply sm_not | apply sm_and | apply sm_or)
  have mANN := hm (andQy (notQy p) (notQy q)) (by repeat' first | exact hp | exact hq | apply sm_not | apply sm_and | apply sm_or)
  have mAQP := hm (andQy q p) (by repeat' first | exact hp | exact hq | apply sm_not | apply sm_and | apply sm_or)
  have mOQP := hm (orQy q p) (by repeat' first | exact hp | exact hq | apply sm_not | apply sm_and | apply sm_or)
  have mOPA := hm (orQy p (andQy p q)) (by repeat' first | exact hp | exact hq | apply sm_not | apply sm_and | apply sm_or)
  have mAPO := hm (andQy p (orQy p q)) (by repeat' first | exact hp | exact hq | apply sm_not | apply sm_and | apply sm_or)
  simp only [m_not, m_and, m_or] at mP mQ mNP mNNP mAPQ mOPQ mNAPQ mONN mNOPQ mANN mAQP mOQP mOPA mAPO
  simp only [vP, vQ, vNP, vNQ, vNNP, vAPQ, vOPQ, vNAPQ, vONN, vNOPQ, vANN, vAQP, vOQP, vOPA, vAPO] at nP nQ nNP nAPQ nOPQ aPQ aNN aQP aPO oPQ oNN oQP oPA mP mQ mNP mNNP mAPQ mOPQ mNAPQ mONN mNOPQ mANN mAQP mOQP mOPA mAPO ⊢
  rw [Bk.v, En.v] at mP mQ mNP mNNP mAPQ mOPQ mNAPQ mONN mNOPQ mANN mAQP mOQP mOPA mAPO ⊢
  generalize bk.ents.map En.v = entsV at mP mQ mNP mNNP mAPQ mOPQ mNAPQ mONN mNOPQ mANN mAQP mOQP mOPA mAPO ⊢
  generalize bk.enem.map prV = emV at mP mQ mNP mNNP mAPQ mOPQ mNAPQ mONN mNOPQ mANN mAQP mOQP mOPA mAPO ⊢
  generalize e.vers.map It.v = vv at mP mQ mNP mNNP mAPQ mOPQ mNAPQ mONN mNOPQ mANN mAQP mOQP mOPA mAPO ⊢
  generalize matchQ bk e p = x at mP mQ mNP mNNP mAPQ mOPQ mNAPQ mONN mNOPQ mANN mAQP mOQP mOPA mAPO
  generalize matchQ bk e q = y at mP mQ mNP mNNP mAPQ mOPQ mNAPQ mONN mNOPQ mANN mAQP mOQP mOPA mAPO
  clear hm hp hq
  cases x <;> cases y <;> simp only [Bool.not_true, Bool.not_false, Bool.and_true, Bool.and_false, Bool.true_and, Bool.false_and, Bool.or_true, Bool.or_false, Bool.true_or, Bool.false_or, Bool.and_self, Bool.or_self] at mP mQ mNP mNNP mAPQ mOPQ mNAPQ mONN mNOPQ mANN mAQP mOQP mOPA mAPO
  all_goals
    refine acq_intro Tryz.func5 rfl (by show (4 : Nat) ≤ 145; omega) (fun w0 N0 hG => ?_)
    refine aw_step [4, 5, 6, 7] [4, 5, 6, 7] (by simp [Tryz.ntmps5] <;> rfl) ?_   -- law.go:103
    refine aw_seq (aw_region ?_)   -- law.go:104
    refine awl_go 3 (by simp <;> rfl) ?_
    refine awl_callQ hG mP Tryz.func15 rfl (by kernel_rfl) (by simp) rfl rfl rfl (by simp <;> rfl) (by simp [V.pureV, V.pureE]) (by simp <;> rfl) ?_
    refine awl_end [4, 5, 6, 7, 9] [4, 5, 6, 7] (by simp <;> rfl) ?_
    refine aw_seq (aw_region ?_)   -- law.go:105
    refine awl_go 3 (by simp <;> rfl) ?_
    refine awl_callQ hG mQ Tryz.func15 rfl (by kernel_rfl) (by simp) rfl rfl rfl (by simp <;> rfl) (by simp [V.pureV, V.pureE]) (by simp <;> rfl) ?_
    refine awl_end [4, 5, 6, 7, 9, 10] [4, 5, 6, 7] (by simp <;> rfl) ?_
    refine aw_seq ?_
    refine aw_seq (aw_draw [(5, []), (0, []), (1, []), (2, []), (3, []), (4, []), (6, []), (7, []), (14, []), (8, []), (9, []), (10, []), (11, []), (12, []), (13, []), (15, []), (16, []), (17, []), (24, []), (18, []), (19, []), (20, []), (21, []), (22, []), (23, []), (25, []), (26, []), (27, []), (28, []), (29, []), (30, []), (37, []), (31, []), (32, []), (33, []), (34, []), (35, []), (36, []), (38, []), (39, []), (40, []), (41, []), (42, [])] hmix (by kernel_rfl) ?_)   -- law.go:106
    refine awo_go 4 (by simp <;> rfl) ?_
    refine awo_call (fun _ => nP) Tryz.func16 rfl (by kernel_rfl) rfl rfl (by simp <;> rfl) rfl rfl (by simp <;> rfl) (by simp [V.pureV, V.pureE]) (by simp <;> rfl) ?_
    refine awo_callQ hG (fun _ => mNP) Tryz.func15 rfl (by kernel_rfl) rfl rfl (by simp <;> rfl) rfl rfl (by simp <;> rfl) (by simp [V.pureV, V.pureE]) (by simp <;> rfl) ?_
    refine awo_go 6 (by simp <;> rfl) ?_
    refine awo_call (fun _ => nP) Tryz.func16 rfl (by kernel_rfl) rfl rfl (by simp <;> rfl) rfl rfl (by simp <;> rfl) (by simp [V.pureV, V.pureE]) (by simp <;> rfl) ?_
    refine awo_call (fun _ => nNP) Tryz.func16 rfl (by kernel_rfl) rfl rfl (by simp <;> rfl) rfl rfl (by simp <;> rfl) (by simp [V.pureV, V.pureE]) (by simp <;> rfl) ?_
    refine awo_callQ hG (fun _ => mNNP) Tryz.func15 rfl (by kernel_rfl) rfl rfl (by simp <;> rfl) rfl rfl (by simp <;> rfl) (by simp [V.pureV, V.pureE]) (by simp <;> rfl) ?_
    refine awo_go 8 (by simp <;> rfl) ?_
    refine awo_call (fun _ => aPQ) Tryz.func17 rfl (by kernel_rfl) rfl rfl (by simp <;> rfl) rfl rfl (by simp <;> rfl) (by simp [V.pureV, V.pureE]) (by simp <;> rfl) ?_
    refine awo_callQ hG (fun _ => mAPQ) Tryz.func15 rfl (by kernel_rfl) rfl rfl (by simp <;> rfl) rfl rfl (by simp <;> rfl) (by simp [V.pureV, V.pureE]) (by simp <;> rfl) ?_
    refine awo_go 11 (by simp <;> rfl) ?_
    refine awo_call (fun _ => oPQ) Tryz.func18 rfl (by kernel_rfl) rfl rfl (by simp <;> rfl) rfl rfl (by simp <;> rfl) (by simp [V.pureV, V.pureE]) (by simp <;> rfl) ?_
    refine awo_callQ hG (fun _ => mOPQ) Tryz.func15 rfl (by kernel_rfl) rfl rfl (by simp <;> rfl) rfl rfl (by simp <;> rfl) (by simp [V.pureV, V.pureE]) (by simp <;> rfl) ?_
    refine awo_end [4, 5, 6, 7, 9, 10, 61] [4, 5, 6, 7] (by simp <;> rfl) ?_
    refine aw_cond rfl (fun h => by simp at h) (fun _ => aw_skip ?_)
    refine aw_seq ?_
    refine aw_seq (aw_draw [(0, []), (1, []), (2, []), (3, []), (4, []), (5, []), (6, []), (7, []), (8, []), (9, []), (10, []), (11, []), (12, []), (13, []), (14, []), (15, []), (16, []), (17, []), (18, []), (19, []), (20, []), (21, []), (22, []), (23, []), (24, []), (25, []), (26, []), (27, []), (28, []), (29, []), (30, []), (31, []), (32, []), (33, [])] hmix (by kernel_rfl) ?_)   -- law.go:109
    refine awo_go 4 (by simp <;> rfl) ?_
    refine awo_call (fun _ => aPQ) Tryz.func17 rfl (by kernel_rfl) rfl rfl (by simp <;> rfl) rfl rfl (by simp <;> rfl) (by simp [V.pureV, V.pureE]) (by simp <;> rfl) ?_
    refine awo_call (fun _ => nAPQ) Tryz.func16 rfl (by kernel_rfl) rfl rfl (by simp <;> rfl) rfl rfl (by simp <;> rfl) (by simp [V.pureV, V.pureE]) (by simp <;> rfl) ?_
    refine awo_callQ hG (fun _ => mNAPQ) Tryz.func15 rfl (by kernel_rfl) rfl rfl (by simp <;> rfl) rfl rfl (by simp <;> rfl) (by simp [V.pureV, V.pureE]) (by simp <;> rfl) ?_
    refine awo_go 3 (by simp <;> rfl) ?_
    refine awo_call (fun _ => nP) Tryz.func16 rfl (by kernel_rfl) rfl rfl (by simp <;> rfl) rfl rfl (by simp <;> rfl) (by simp [V.pureV, V.pureE]) (by simp <;> rfl) ?_
    refine awo_go 1 (by simp <;> rfl) ?_
    refine awo_call (fun _ => nQ) Tryz.func16 rfl (by kernel_rfl) rfl rfl (by simp <;> rfl) rfl rfl (by simp <;> rfl) (by simp [V.pureV, V.pureE]) (by simp <;> rfl) ?_
    refine awo_call (fun _ => oNN) Tryz.func18 rfl (by kernel_rfl) rfl rfl (by simp <;> rfl) rfl rfl (by simp <;> rfl) (by simp [V.pureV, V.pureE]) (by simp <;> rfl) ?_
    refine awo_callQ hG (fun _ => mONN) Tryz.func15 rfl (by kernel_rfl) rfl rfl (by simp <;> rfl) rfl rfl (by simp <;> rfl) (by simp [V.pureV, V.pureE]) (by simp <;> rfl) ?_
    refine awo_go 6 (by simp <;> rfl) ?_
    refine awo_call (fun _ => oPQ) Tryz.func18 rfl (by kernel_rfl) rfl rfl (by simp <;> rfl) rfl rfl (by simp <;> rfl) (by simp [V.pureV, V.pureE]) (by simp <;> rfl) ?_
    refine awo_call (fun _ => nOPQ) Tryz.func16 rfl (by kernel_rfl) rfl rfl (by simp <;> rfl) rfl rfl (by simp <;> rfl) (by simp [V.pureV, V.pureE]) (by simp <;> rfl) ?_
    refine awo_callQ hG (fun _ => mNOPQ) Tryz.func15 rfl (by kernel_rfl) rfl rfl (by simp <;> rfl) rfl rfl (by simp <;> rfl) (by simp [V.pureV, V.pureE]) (by simp <;> rfl) ?_
    refine awo_go 3 (by simp <;> rfl) ?_
    refine awo_call (fun _ => nP) Tryz.func16 rfl (by kernel_rfl) rfl rfl (by simp <;> rfl) rfl rfl (by simp <;> rfl) (by simp [V.pureV, V.pureE]) (by simp <;> rfl) ?_
    refine awo_go 1 (by simp <;> rfl) ?_
    refine awo_call (fun _ => nQ) Tryz.func16 rfl (by kernel_rfl) rfl rfl (by simp <;> rfl) rfl rfl (by simp <;> rfl) (by simp [V.pureV, V.pureE]) (by simp <;> rfl) ?_
    refine awo_call (fun _ => aNN) Tryz.func17 rfl (by kernel_rfl) rfl rfl (by simp <;> rfl) rfl rfl (by simp <;> rfl) (by simp [V.pureV, V.pureE]) (by simp <;> rfl) ?_
    refine awo_callQ hG (fun _ => mANN) Tryz.func15 rfl (by kernel_rfl) rfl rfl (by simp <;> rfl) rfl rfl (by simp <;> rfl) (by simp [V.pureV, V.pureE]) (by simp <;> rfl) ?_
    refine awo_end [4, 5, 6, 7, 9, 10, 95] [4, 5, 6, 7] (by simp <;> rfl) ?_
    refine aw_cond rfl (fun h => by simp at h) (fun _ => aw_skip ?_)
    refine aw_seq ?_
    refine aw_seq (aw_draw [(6, []), (0, []), (1, []), (2, []), (3, []), (4, []), (5, []), (7, []), (8, []), (9, []), (10, []), (11, []), (18, []), (12, []), (13, []), (14, []), (15, []), (16, []), (17, []), (19, []), (20, []), (21, []), (22, []), (23, [])] hmix (by kernel_rfl) ?_)   -- law.go:112
    refine awo_go 5 (by simp <;> rfl) ?_
    refine awo_call (fun _ => aQP) Tryz.func17 rfl (by kernel_rfl) rfl rfl (by simp <;> rfl) rfl rfl (by simp <;> rfl) (by simp [V.pureV, V.pureE]) (by simp <;> rfl) ?_
    refine awo_callQ hG (fun _ => mAQP) Tryz.func15 rfl (by kernel_rfl) rfl rfl (by simp <;> rfl) rfl rfl (by simp <;> rfl) (by simp [V.pureV, V.pureE]) (by simp <;> rfl) ?_
    refine awo_go 10 (by simp <;> rfl) ?_
    refine awo_call (fun _ => oQP) Tryz.func18 rfl (by kernel_rfl) rfl rfl (by simp <;> rfl) rfl rfl (by simp <;> rfl) (by simp [V.pureV, V.pureE]) (by simp <;> rfl) ?_
    refine awo_callQ hG (fun _ => mOQP) Tryz.func15 rfl (by kernel_rfl) rfl rfl (by simp <;> rfl) rfl rfl (by simp <;> rfl) (by simp [V.pureV, V.pureE]) (by simp <;> rfl) ?_
    refine awo_end [4, 5, 6, 7, 9, 119] [4, 5, 6, 7] (by simp <;> rfl) ?_
    refine aw_cond rfl (fun h => by simp at h) (fun _ => aw_skip ?_)
    refine aw_seq (aw_draw [(8, []), (0, []), (1, []), (2, []), (3, []), (4, []), (5, []), (6, []), (7, []), (9, []), (10, []), (19, []), (11, []), (12, []), (13, []), (14, []), (15, []), (16, []), (17, []), (18, []), (20, []), (21, []), (22, []), (23, []), (24, []), (25, [])] hmix (by kernel_rfl) ?_)   -- law.go:115
    refine awo_go 6 (by simp <;> rfl) ?_
    refine awo_call (fun _ => aPQ) Tryz.func17 rfl (by kernel_rfl) rfl rfl (by simp <;> rfl) rfl rfl (by simp <;> rfl) (by simp [V.pureV, V.pureE]) (by simp <;> rfl) ?_
    refine awo_call (fun _ => oPA) Tryz.func18 rfl (by kernel_rfl) rfl rfl (by simp <;> rfl) rfl rfl (by simp <;> rfl) (by simp [V.pureV, V.pureE]) (by simp <;> rfl) ?_
    refine awo_callQ hG (fun _ => mOPA) Tryz.func15 rfl (by kernel_rfl) rfl rfl (by simp <;> rfl) rfl rfl (by simp <;> rfl) (by simp [V.pureV, V.pureE]) (by simp <;> rfl) ?_
    refine awo_go 8 (by simp <;> rfl) ?_
    refine awo_call (fun _ => oPQ) Tryz.func18 rfl (by kernel_rfl) rfl rfl (by simp <;> rfl) rfl rfl (by simp <;> rfl) (by simp [V.pureV, V.pureE]) (by simp <;> rfl) ?_
    refine awo_call (fun _ => aPO) Tryz.func17 rfl (by kernel_rfl) rfl rfl (by simp <;> rfl) rfl rfl (by simp <;> rfl) (by simp [V.pureV, V.pureE]) (by simp <;> rfl) ?_
    refine awo_callQ hG (fun _ => mAPO) Tryz.func15 rfl (by kernel_rfl) rfl rfl (by simp <;> rfl) rfl rfl (by simp <;> rfl) (by simp [V.pureV, V.pureE]) (by simp <;> rfl) ?_
    refine awo_go 3 (by simp <;> rfl) ?_
    refine awo_callQ hG (fun _ => hAw) Tryz.func12 rfl (by kernel_rfl) rfl rfl (by simp <;> rfl) rfl rfl (by simp <;> rfl) (by simp [V.pureV, V.pureE]) (by simp <;> rfl) ?_
    refine awo_end [8] [] (by simp <;> rfl) ?_
    exact aw_ret (ends_ret (by simp [Tryz.results5] <;> rfl) rfl)
end Go.Proofs.YtliogkkhofhfcaaGreatDoor
