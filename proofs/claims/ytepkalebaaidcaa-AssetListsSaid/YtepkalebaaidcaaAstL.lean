/- Asset: AssetLists. No condition. -/
import Derived.Test.YtepkalebaaidcaaAstK
set_option linter.unusedSimpArgs false
namespace Go.Proofs.Ytepkalebaaidcaa
open Go.Eng

set_option maxHeartbeats 2000000 in
theorem assetLists_ac (refs : List Int) (l : List As) (day : Int) (hsm : refs.length ≤ 17592186044416) : AC Try.prog 4 [.ro 1 (nums refs), .ro 5 (l.map As.v), .int .i64 day] (fun r => r = .bool true) := by
  have hfew := few_ac refs
  have hxl : (refs.take 40).length ≤ 40 := by simp; omega
  have hpr := pureI refs
  have hpl := pureAs l
  have hf1 := fun id => find_ac l id
  have hf2 := fun id => refFind_ac l id
  have hm1 := missing_ac refs l day hsm
  have hm2 := refMissing_ac refs l day hsm
  rw [← numsL (misF l day refs)] at hm1
  have heq := equal_ac (misF l day refs) (misF l day refs)
  rw [decide_eq_true rfl] at heq
  have hpm := pureI (misF l day refs)
  have hb1 := bytes_ac refs l
  have hb2 := refBytes_ac refs l
  have hlx := numsL (refs.take 40)
  have hpx := pureI (refs.take 40)
  have hgx := fun (k : Nat) (h : k < (day :: refs.take 40).length) => nthI h
  have hcx : nums (day :: refs.take 40) = .int .i64 day :: nums (refs.take 40) := rfl
  rw [hcx] at hgx
  generalize bF l refs = bb at *
  generalize nums (misF l day refs) = mv at *
  generalize nums refs = rv at *
  generalize nums (refs.take 40) = xv at *
  generalize refs.take 40 = x at *
  have hv : ∀ id, ∃ ai ab aa af au ok, AC Try.prog 14 [.ro 5 (l.map As.v), .int .i64 id] (fun r => r = .tup [.agg [.int .i64 ai, .int .i64 ab, .str aa, .int .i64 af, .int .i64 au], .bool ok]) ∧
      AC Try.prog 15 [.ro 5 (l.map As.v), .int .i64 id] (fun r => r = .tup [.agg [.int .i64 ai, .int .i64 ab, .str aa, .int .i64 af, .int .i64 au], .bool ok]) := fun id =>
    ⟨_, _, _, _, _, _, hf1 id, hf2 id⟩
  clear hf1 hf2
  generalize l.map As.v = lv at *
  have hro : 1 + xv.length ≤ maxLen ∧ (1 + xv.length) * 8 ≤ 140737488355328 := ⟨Nat.le_trans (show 1 + xv.length ≤ 1000 by omega) (by decide), by omega⟩
  have hro' : xv.length + 1 ≤ maxLen ∧ (xv.length + 1) * 8 ≤ 140737488355328 := by rw [Nat.add_comm]; exact hro
  refine ac_intro Try.func4 rfl (by show (3 : Nat) ≤ 65; omega) (fun w0 N0 => ?_)
  refine aw_step [0, 1, 2] [] (by simp [Try.ntmps4] <;> rfl) ?_   -- law.go:67
  refine aw_seq ?_
  refine aw_seq (aw_region ?_)   -- law.go:68
  refine awl_go 3 (by simp <;> rfl) ?_
  refine awl_call1 hfew Try.func13 rfl (by kernel_rfl) rfl rfl rfl rfl (by simp [hpr]) (by simp <;> rfl) ?_
  refine awl_end [0, 1, 2, 17, 18, 19] [14] (by simp [hro, hro'] <;> rfl) ?_
  have hcm : xv.length + 1 = 1 + xv.length := Nat.add_comm _ _
  refine aw_freeze 14 [0, 1, 2, 17, 18, 19] [] (by simp [hpx, hcm] <;> rfl) ?_
  generalize hxx : (V.int .i64 day :: xv) = yv at *
  have hyl : yv.length = xv.length + 1 := by rw [← hxx]; simp
  refine aw_block ?_
  refine aw_count (fun k nx => ⟨[(0, .ro 1 rv), (1, .ro 5 lv), (2, .int .i64 day), (17, .ro 1 yv), (18, .int .i64 yv.length), (19, .int .i64 k)], [], nx, 65⟩) (fun k => True) yv.length 8 trivial (by rw [show (1 + (xv.length : Int)) = (yv.length : Int) by omega]; exact AS.le_refl _) ?_
  intro k nx hk _
  refine aw_step [0, 1, 2, 17, 18, 19, 20] [] (by simp <;> rfl) ?_   -- law.go:68
  refine aw_seq ?_
  refine aw_cond rfl (fun h1 => aw_skip ?_) (fun h1 => ?_)   -- if t20
  · have hlt : k < yv.length := by simpa using h1
    have hget := hgx k (by simp; omega)
    have hw := wrap_succ (k := k) (by omega)
    obtain ⟨ai, ab, aa, af, au, ok, h14, h15⟩ := hv ((day :: x)[k]'(by simp; omega))
    generalize (day :: x)[k]'(by simp; omega) = id at *
    refine aw_seq ?_
    refine aw_block ?_
    refine aw_step [0, 1, 2, 8, 17, 18, 19] [] (by simp [hget, hlt] <;> rfl) ?_   -- law.go:68
    refine aw_seq (aw_region ?_)   -- law.go:69
    refine awl_go 2 (by simp <;> rfl) ?_
    refine awl_call1 h14 Try.func14 rfl (by kernel_rfl) rfl rfl rfl rfl (by simp [hpl]) (by simp <;> rfl) ?_
    refine awl_end [0, 1, 2, 8, 9, 10, 17, 18, 19] [9] (by simp <;> rfl) ?_
    refine aw_seq (aw_region ?_)   -- law.go:70
    refine awl_go 2 (by simp <;> rfl) ?_
    refine awl_call1 h15 Try.func15 rfl (by kernel_rfl) rfl rfl rfl rfl (by simp [hpl]) (by simp <;> rfl) ?_
    refine awl_end [0, 1, 2, 9, 10, 11, 12, 17, 18, 19] [9, 11] (by simp <;> rfl) ?_
    refine aw_step [0, 1, 2, 17, 18, 19, 42] [] (by simp <;> rfl) ?_   -- law.go:71
    refine aw_cond rfl (fun h2 => absurd h2 (by simp)) (fun h2 => aw_skip ?_)   -- if t42
    refine aw_one [0, 1, 2, 17, 18, 19] [] (by simp [hw] <;> rfl) ?_   -- law.go:68
    exact ⟨hlt, trivial, _, AS.le_refl _⟩
  · refine aw_exit ?_
    refine aw_seq (aw_region ?_)   -- law.go:75
    refine awl_go 3 (by simp <;> rfl) ?_
    refine awl_callO1 47 hm1 Try.func17 rfl (by kernel_rfl) rfl rfl rfl rfl (by simp [hpr, hpl] <;> rfl) (by simp <;> rfl) ?_
    refine awl_go 3 (by simp <;> rfl) ?_
    refine awl_callO1 51 hm2 Try.func18 rfl (by kernel_rfl) rfl rfl rfl rfl (by simp [hpr, hpl] <;> rfl) (by simp <;> rfl) ?_
    refine awl_call1v heq Try.func16 rfl (by kernel_rfl) rfl rfl rfl rfl (by simp [hpm] <;> rfl) rfl (by simp <;> rfl) ?_
    refine awl_go 3 (by simp <;> rfl) ?_
    refine awl_gcall (fun hg => hb1) Try.func19 rfl (by kernel_rfl) (by simp <;> rfl) rfl rfl (by simp <;> rfl) (by simp [hpr, hpl]) (by simp <;> rfl) ?_
    refine awl_go 2 (by simp <;> rfl) ?_
    refine awl_gcall (fun hg => hb2) Try.func20 rfl (by kernel_rfl) (by simp <;> rfl) rfl rfl (by simp <;> rfl) (by simp [hpr, hpl]) (by simp <;> rfl) ?_
    refine awl_go 3 (by simp <;> rfl) ?_
    refine awl_gcall (fun hg => awake_ac) Try.func12 rfl (by kernel_rfl) (by simp <;> rfl) rfl rfl (by simp <;> rfl) (by simp) (by simp <;> rfl) ?_
    refine awl_end [6] [] (by simp <;> rfl) ?_
    exact aw_ret (ends_ret (by simp [Try.results4] <;> rfl) rfl)
end Go.Proofs.Ytepkalebaaidcaa
