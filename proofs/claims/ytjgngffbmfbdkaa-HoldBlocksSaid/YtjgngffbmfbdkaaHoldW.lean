/- Hold: the law HoldChecks. No condition. -/
import Derived.Test.YtjgngffbmfbdkaaHoldV
import Derived.Test.YtjgngffbmfbdkaaEng23
set_option linter.unusedSimpArgs false
namespace Go.Proofs.Ytjgngffbmfbdkaa
open Go.Eng

theorem openP_ac (s v l : Int) (hs : List H3) (es : List V) (hes : es = hs.map H3.v) (hsm : es.length ≤ 200) : AC Try.prog 17 [rel s v l (.ro 3 es)] (fun r => r = .ro 1 (nums (openF hs))) :=
  (open_ac s v l hs es hes hsm).ac fun F es' ⟨h1, h2⟩ => by
    subst h1; subst h2
    exact ⟨_, by simp [nums_len, nums_pure] <;> rfl, rfl⟩
theorem refOpenP_ac (s v l : Int) (hs : List H3) (es : List V) (hes : es = hs.map H3.v) (hsm : es.length ≤ 200) : AC Try.prog 18 [rel s v l (.ro 3 es)] (fun r => r = .ro 1 (nums (openF hs))) :=
  (refOpen_ac s v l hs es hes hsm).ac fun F es' ⟨h1, h2⟩ => by
    subst h1; subst h2
    exact ⟨_, by simp [nums_len, nums_pure] <;> rfl, rfl⟩

theorem ints_ac (zs : List Int) (es : List V) (hes : es = nums zs) (hsm : es.length ≤ 1000) : AC Try.prog 16 [.ro 1 es, .ro 1 es] (fun r => r = .bool true) := by
  have hlen : es.length = zs.length := by rw [hes, nums_len]
  refine ac_intro Try.func16 rfl (by show (2 : Nat) ≤ 26; omega) (fun w0 N0 => ?_)
  refine aw_step [0, 1] [] (by simp [Try.ntmps16] <;> rfl) ?_   -- law.go:22
  refine aw_seq ?_
  refine aw_step [0, 1, 10] [] (by simp <;> rfl) ?_   -- law.go:23
  refine aw_cond rfl (fun h1 => by simp at h1) (fun h1 => aw_skip ?_)   -- if t10
  refine aw_seq ?_
  refine aw_step [0, 1, 5] [] (by simp <;> rfl) ?_   -- law.go:26
  refine aw_block ?_
  refine aw_count (fun k nx => ⟨[(0, .ro 1 es), (1, .ro 1 es), (5, .int .i64 k)], [], nx, 26⟩) (fun _ => True) es.length _ trivial (AS.le_refl _) ?_
  intro k nx hk _
  refine aw_seq ?_
  refine aw_step [0, 1, 5, 14] [] (by simp <;> rfl) ?_   -- law.go:26
  refine aw_cond rfl (fun h2 => aw_skip ?_) (fun h2 => ?_)   -- if t14
  · have hlt : k < es.length := by simp at h2; omega
    obtain ⟨z, hget⟩ : ∃ z, nth es k = some (.int .i64 z) := by
      rw [nth_eq, hes, nums, List.getElem?_map, List.getElem?_eq_getElem (show k < zs.length by omega)]; exact ⟨_, rfl⟩
    have hw := wrap_succ (k := k) (by omega)
    refine aw_seq ?_
    refine aw_block ?_
    refine aw_dstep [(0, []), (1, []), (2, []), (4, []), (5, []), (6, []), (3, []), (7, []), (8, [])] [0, 1, 5, 25] [] hmix (by kernel_rfl) (by simp [hlt, hget] <;> rfl) ?_   -- law.go:27
    refine aw_cond rfl (fun h3 => by simp at h3) (fun h3 => aw_skip ?_)   -- if t25
    refine aw_one [0, 1, 5] [] (by simp [hw] <;> rfl) ?_   -- law.go:26
    exact ⟨hlt, trivial, _, AS.le_refl _⟩
  · refine aw_exit ?_
    refine aw_step [4] [] (by simp <;> rfl) ?_   -- law.go:31
    exact aw_ret (ends_ret (by simp [Try.results16] <;> rfl) rfl)

theorem new_ac : AC Try.prog 19 [] (fun r => r = rel 1 0 0 .nils) := by
  refine ac_intro Try.func19 rfl (by show (0 : Nat) ≤ 2; omega) (fun w0 N0 => ?_)
  refine aw_step [0] [0] (by simp [Try.ntmps19] <;> rfl) ?_   -- hold.go:11
  refine aw_step [0] [0] (by simp <;> rfl) ?_   -- hold.go:12
  exact aw_ret (ends_ret (by simp [Try.results19] <;> rfl) rfl)
theorem refNew_ac : AC Try.prog 20 [] (fun r => r = rel 1 0 0 .nils) := by
  refine ac_intro Try.func20 rfl (by show (0 : Nat) ≤ 2; omega) (fun w0 N0 => ?_)
  refine aw_step [0] [0] (by simp [Try.ntmps20] <;> rfl) ?_   -- ref.go:9
  refine aw_step [0] [0] (by simp <;> rfl) ?_   -- ref.go:9
  exact aw_ret (ends_ret (by simp [Try.results20] <;> rfl) rfl)

theorem sameNil_ac (s v l : Int) : AC Try.prog 11 [rel s v l .nils, rel s v l .nils] (fun r => r = .bool true) := by
  refine ac_intro Try.func11 rfl (by show (2 : Nat) ≤ 52; omega) (fun w0 N0 => ?_)
  refine aw_step [2, 3] [2, 3] (by simp [Try.ntmps11, rel] <;> rfl) ?_   -- law.go:10
  refine aw_seq ?_
  refine aw_step [2, 3, 33] [2, 3] (by simp <;> rfl) ?_   -- law.go:11
  refine aw_cond rfl (fun h1 => by simp at h1) (fun h1 => aw_skip ?_)   -- if t33
  refine aw_seq ?_
  refine aw_step [2, 3, 5] [2, 3] (by simp <;> rfl) ?_   -- law.go:14
  refine aw_block ?_
  refine aw_count (fun k nx => ⟨[(2, .bp 2 0 4 0 0), (3, .bp 3 1 4 0 0), (5, .int .i64 k)], [(2, ⟨0, 4, 24, [.agg [.int .i64 s, .int .i64 v, .int .i64 l, .nils]]⟩), (3, ⟨1, 4, 24, [.agg [.int .i64 s, .int .i64 v, .int .i64 l, .nils]]⟩)], nx, 52⟩) (fun _ => True) 0 _ trivial (AS.le_refl _) ?_
  intro k nx hk hI
  refine aw_seq ?_
  refine aw_step [2, 3, 5, 38] [2, 3] (by simp <;> rfl) ?_   -- law.go:14
  refine aw_cond rfl (fun h2 => by simp at h2; omega) (fun h2 => ?_)   -- if t38
  refine aw_exit ?_
  refine aw_step [4] [] (by simp <;> rfl) ?_   -- law.go:19
  exact aw_ret (ends_ret (by simp [Try.results11] <;> rfl) rfl)

set_option maxHeartbeats 2000000 in
theorem holdChecks_ac (s v l : Int) (hs : List H3) (es : List V) (hes : es = hs.map H3.v) : AC Try.prog 4 [rel s v l (.ro 3 es)] (fun r => r = .bool true) := by
  refine ac_intro Try.func4 rfl (by show (1 : Nat) ≤ 29; omega) (fun w0 N0 => ?_)
  refine aw_step [1] [1] (by simp [Try.ntmps4, rel] <;> rfl) ?_   -- law.go:35
  refine aw_seq ?_
  refine aw_step [1, 6] [1] (by simp <;> rfl) ?_   -- law.go:36
  refine aw_cond rfl (fun h1 => ?_) (fun h1 => aw_skip ?_)   -- if t6
  · refine aw_seq (aw_draw [(0, []), (1, []), (2, []), (3, []), (4, []), (5, [])] hmix (by kernel_rfl) ?_)   -- law.go:37
    refine awo_go 1 (by simp <;> rfl) ?_
    refine awo_call (fun hg => valid_ac s v l hs es hes) Try.func14 rfl (by kernel_rfl) rfl rfl (by simp <;> rfl) rfl rfl (by simp <;> rfl) (by simp) (by simp <;> rfl) ?_
    refine awo_go 1 (by simp <;> rfl) ?_
    refine awo_call (fun hg => refValid_ac s v l hs es hes) Try.func15 rfl (by kernel_rfl) rfl rfl (by simp <;> rfl) rfl rfl (by simp <;> rfl) (by simp [rel]) (by simp <;> rfl) ?_
    refine awo_end [2] [] (by simp <;> rfl) ?_
    exact aw_ret (ends_ret (by simp [Try.results4] <;> rfl) (by simp))
  have hsm : es.length ≤ 200 := by simp at h1; omega
  have hDl := openF_len hs
  have hlen : es.length = hs.length := by rw [hes]; simp
  have ci := ints_ac (openF hs) _ rfl (by rw [nums_len]; omega)
  refine aw_seq (aw_draw [(0, []), (1, []), (2, []), (3, []), (4, []), (5, []), (6, []), (7, []), (8, []), (9, []), (10, []), (11, []), (12, []), (13, []), (14, []), (15, []), (16, []), (17, [])] hmix (by kernel_rfl) ?_)   -- law.go:39
  refine awo_go 1 (by simp <;> rfl) ?_
  refine awo_call (fun hg => valid_ac s v l hs es hes) Try.func14 rfl (by kernel_rfl) rfl rfl (by simp <;> rfl) rfl rfl (by simp <;> rfl) (by simp) (by simp <;> rfl) ?_
  refine awo_go 1 (by simp <;> rfl) ?_
  refine awo_call (fun hg => refValid_ac s v l hs es hes) Try.func15 rfl (by kernel_rfl) rfl rfl (by simp <;> rfl) rfl rfl (by simp <;> rfl) (by simp [rel]) (by simp <;> rfl) ?_
  refine awo_go 3 (by simp <;> rfl) ?_
  refine awo_call (fun hg => openP_ac s v l hs es hes hsm) Try.func17 rfl (by kernel_rfl) rfl rfl (by simp <;> rfl) rfl rfl (by simp <;> rfl) (by simp [rel]) (by simp <;> rfl) ?_
  refine awo_go 1 (by simp <;> rfl) ?_
  refine awo_call (fun hg => refOpenP_ac s v l hs es hes hsm) Try.func18 rfl (by kernel_rfl) rfl rfl (by simp <;> rfl) rfl rfl (by simp <;> rfl) (by simp [rel]) (by simp <;> rfl) ?_
  refine awo_call (fun hg => ci) Try.func16 rfl (by kernel_rfl) rfl rfl (by simp <;> rfl) rfl rfl (by simp <;> rfl) (by simp) (by simp <;> rfl) ?_
  refine awo_go 2 (by simp <;> rfl) ?_
  refine awo_call (fun hg => new_ac) Try.func19 rfl (by kernel_rfl) rfl rfl (by simp <;> rfl) rfl rfl (by simp <;> rfl) (by simp) (by simp <;> rfl) ?_
  refine awo_call (fun hg => refNew_ac) Try.func20 rfl (by kernel_rfl) rfl rfl (by simp <;> rfl) rfl rfl (by simp <;> rfl) (by simp) (by simp <;> rfl) ?_
  refine awo_call (fun hg => sameNil_ac 1 0 0) Try.func11 rfl (by kernel_rfl) rfl rfl (by simp <;> rfl) rfl rfl (by simp <;> rfl) (by simp [rel]) (by simp <;> rfl) ?_
  refine awo_end [2] [] (by simp <;> rfl) ?_
  exact aw_ret (ends_ret (by simp [Try.results4] <;> rfl) (by simp))
end Go.Proofs.Ytjgngffbmfbdkaa
