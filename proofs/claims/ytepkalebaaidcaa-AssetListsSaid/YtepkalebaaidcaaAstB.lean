/- Asset: Find, and small functions of the laws. No condition. -/
import Derived.Test.YtepkalebaaidcaaAstA
set_option linter.unusedSimpArgs false
namespace Go.Proofs.Ytepkalebaaidcaa
open Go.Eng

/-- The first asset with a number. -/
def fA (l : List As) (id : Int) : Option As := l.find? (fun a => decide (a.id = id))
theorem nthA {l : List As} {k : Nat} (h : k < l.length) : nth (l.map As.v) k = some l[k].v := by rw [nth_eq]; simp [h]
theorem As.v_pure (a : As) : a.v.pureE = true := rfl
theorem pureAs (l : List As) : (l.map As.v).all V.pureE = true := by
  rw [List.all_eq_true]; intro x hx; simp only [List.mem_map] at hx; obtain ⟨y, _, rfl⟩ := hx; rfl
def nums (l : List Int) : List V := l.map (V.int .i64)
theorem numsL (l : List Int) : (nums l).length = l.length := by simp [nums]
theorem nthI {l : List Int} {k : Nat} (h : k < l.length) : nth (nums l) k = some (.int .i64 l[k]) := by rw [nth_eq]; simp [nums, h]
theorem pureI (l : List Int) : (nums l).all V.pureE = true := by
  rw [List.all_eq_true]; intro x hx; simp only [nums, List.mem_map] at hx; obtain ⟨n, _, rfl⟩ := hx; rfl
theorem flatI (l : List Int) : (nums l).all flatE = true := by
  rw [List.all_eq_true]; intro x hx; simp only [nums, List.mem_map] at hx; obtain ⟨n, _, rfl⟩ := hx; rfl


set_option maxHeartbeats 1000000 in
theorem find_ac (l : List As) (id : Int) : AC Try.prog 14 [.ro 5 (l.map As.v), .int .i64 id] (fun r => r = .tup [((fA l id).getD zA).v, .bool (fA l id).isSome]) := by
  have hg := fun (k : Nat) (h : k < l.length) => nthA h
  have hl : (l.map As.v).length = l.length := by simp
  generalize l.map As.v = lv at hg hl
  refine ac_lenR 0 rfl (fun hmax => ?_)
  unfold maxLen at hmax
  refine ac_intro Try.func14 rfl (by show (2 : Nat) ≤ 21; omega) (fun w0 N0 => ?_)
  refine aw_step [0, 1, 4] [4] (by simp [Try.ntmps14] <;> rfl) ?_   -- asset.go:32
  refine aw_seq ?_
  refine aw_step [1, 4, 8, 9, 10] [4] (by simp <;> rfl) ?_   -- asset.go:33
  refine aw_block ?_
  refine aw_count (fun k nx => ⟨[(1, .int .i64 id), (4, .bp 4 0 5 0 0), (8, .ro 5 lv), (9, .int .i64 lv.length), (10, .int .i64 k)], [(4, ⟨0, 5, 23, [.agg [.int .i64 0, .int .i64 0, .str [], .int .i64 0, .int .i64 0]]⟩)], nx, 21⟩) (fun k => fA l id = fA (l.drop k) id) l.length _ (by simp) (AS.le_refl _) ?_
  intro k nx hk hI
  refine aw_step [1, 4, 8, 9, 10, 11] [4] (by simp <;> rfl) ?_   -- asset.go:33
  refine aw_seq ?_
  refine aw_cond rfl (fun h1 => aw_skip ?_) (fun h1 => ?_)   -- if t11
  · have hlt : k < l.length := by simp at h1; omega
    have hlt' : k < lv.length := by omega
    have ga := hg k hlt
    have hw := wrap_succ (k := k) (by omega)
    have hd : fA (l.drop k) id = if decide (l[k].id = id) = true then some l[k] else fA (l.drop (k + 1)) id := by
      rw [List.drop_eq_getElem_cons hlt, fA, List.find?_cons]
      by_cases e : l[k].id = id <;> simp [e, fA]
    rw [hd] at hI
    generalize l[k] = a at ga hI
    obtain ⟨ai, ab, aa, af, au⟩ := a
    simp only [As.v] at ga
    simp only at hI
    refine aw_seq ?_
    refine aw_block ?_
    refine aw_step [1, 4, 7, 8, 9, 10] [4, 7] (by simp [ga, hlt'] <;> rfl) ?_   -- asset.go:33
    refine aw_step [1, 4, 7, 8, 9, 10, 17] [4, 7] (by simp <;> rfl) ?_   -- asset.go:34
    refine aw_cond rfl (fun h2 => ?_) (fun h2 => aw_skip ?_)   -- if t17
    · refine aw_step [4, 5] [4] (by simp <;> rfl) ?_   -- asset.go:35
      refine aw_ret (ends_ret (by simp [Try.results14] <;> rfl) ?_)
      rw [hI, if_pos h2]
      rfl
    refine aw_one [1, 4, 8, 9, 10] [4] (by simp [hw] <;> rfl) ?_   -- asset.go:33
    exact ⟨hlt, by rw [hI, if_neg (by rw [h2]; simp)], _, AS.le_refl _⟩
  · refine aw_exit ?_
    refine aw_step [4, 5] [4] (by simp <;> rfl) ?_   -- asset.go:38
    refine aw_ret (ends_ret (by simp [Try.results14] <;> rfl) ?_)
    have hkl : k = l.length := by simp at h1; omega
    rw [hI, hkl, List.drop_length]
    rfl


set_option maxHeartbeats 1000000 in
theorem refFind_ac (l : List As) (id : Int) : AC Try.prog 15 [.ro 5 (l.map As.v), .int .i64 id] (fun r => r = .tup [((fA l id).getD zA).v, .bool (fA l id).isSome]) := by
  have hg := fun (k : Nat) (h : k < l.length) => nthA h
  have hl : (l.map As.v).length = l.length := by simp
  generalize l.map As.v = lv at hg hl
  refine ac_lenR 0 rfl (fun hmax => ?_)
  unfold maxLen at hmax
  refine ac_intro Try.func15 rfl (by show (2 : Nat) ≤ 21; omega) (fun w0 N0 => ?_)
  refine aw_step [0, 1, 4] [4] (by simp [Try.ntmps15] <;> rfl) ?_   -- asset.go:32
  refine aw_seq ?_
  refine aw_step [1, 4, 8, 9, 10] [4] (by simp <;> rfl) ?_   -- asset.go:33
  refine aw_block ?_
  refine aw_count (fun k nx => ⟨[(1, .int .i64 id), (4, .bp 4 0 5 0 0), (8, .ro 5 lv), (9, .int .i64 lv.length), (10, .int .i64 k)], [(4, ⟨0, 5, 23, [.agg [.int .i64 0, .int .i64 0, .str [], .int .i64 0, .int .i64 0]]⟩)], nx, 21⟩) (fun k => fA l id = fA (l.drop k) id) l.length _ (by simp) (AS.le_refl _) ?_
  intro k nx hk hI
  refine aw_step [1, 4, 8, 9, 10, 11] [4] (by simp <;> rfl) ?_   -- asset.go:33
  refine aw_seq ?_
  refine aw_cond rfl (fun h1 => aw_skip ?_) (fun h1 => ?_)   -- if t11
  · have hlt : k < l.length := by simp at h1; omega
    have hlt' : k < lv.length := by omega
    have ga := hg k hlt
    have hw := wrap_succ (k := k) (by omega)
    have hd : fA (l.drop k) id = if decide (l[k].id = id) = true then some l[k] else fA (l.drop (k + 1)) id := by
      rw [List.drop_eq_getElem_cons hlt, fA, List.find?_cons]
      by_cases e : l[k].id = id <;> simp [e, fA]
    rw [hd] at hI
    generalize l[k] = a at ga hI
    obtain ⟨ai, ab, aa, af, au⟩ := a
    simp only [As.v] at ga
    simp only at hI
    refine aw_seq ?_
    refine aw_block ?_
    refine aw_step [1, 4, 7, 8, 9, 10] [4, 7] (by simp [ga, hlt'] <;> rfl) ?_   -- asset.go:33
    refine aw_step [1, 4, 7, 8, 9, 10, 17] [4, 7] (by simp <;> rfl) ?_   -- asset.go:34
    refine aw_cond rfl (fun h2 => ?_) (fun h2 => aw_skip ?_)   -- if t17
    · refine aw_step [4, 5] [4] (by simp <;> rfl) ?_   -- asset.go:35
      refine aw_ret (ends_ret (by simp [Try.results15] <;> rfl) ?_)
      rw [hI, if_pos h2]
      rfl
    refine aw_one [1, 4, 8, 9, 10] [4] (by simp [hw] <;> rfl) ?_   -- asset.go:33
    exact ⟨hlt, by rw [hI, if_neg (by rw [h2]; simp)], _, AS.le_refl _⟩
  · refine aw_exit ?_
    refine aw_step [4, 5] [4] (by simp <;> rfl) ?_   -- asset.go:38
    refine aw_ret (ends_ret (by simp [Try.results15] <;> rfl) ?_)
    have hkl : k = l.length := by simp at h1; omega
    rw [hI, hkl, List.drop_length]
    rfl


set_option maxHeartbeats 1000000 in
theorem equal_ac (a b : List Int) : AC Try.prog 16 [.ro 1 (nums a), .ro 1 (nums b)] (fun r => r = .bool (decide (a = b))) := by
  have hga := fun (k : Nat) (h : k < a.length) => nthI h
  have hgb := fun (k : Nat) (h : k < b.length) => nthI h
  have hla := numsL a
  have hlb := numsL b
  generalize nums a = av at hga hla
  generalize nums b = bv at hgb hlb
  refine ac_lenR 0 rfl (fun hmax => ?_)
  unfold maxLen at hmax
  refine ac_intro Try.func16 rfl (by show (2 : Nat) ≤ 26; omega) (fun w0 N0 => ?_)
  refine aw_step [0, 1] [] (by simp [Try.ntmps16] <;> rfl) ?_   -- law.go:11
  refine aw_seq ?_
  refine aw_step [0, 1, 10] [] (by simp <;> rfl) ?_   -- law.go:12
  refine aw_cond rfl (fun h1 => ?_) (fun h1 => aw_skip ?_)   -- if t10
  · refine aw_step [4] [] (by simp <;> rfl) ?_   -- law.go:13
    refine aw_ret (ends_ret (by simp [Try.results16] <;> rfl) ?_)
    congr 1
    symm
    apply decide_eq_false
    rintro rfl
    simp at h1
    omega
  have hll : a.length = b.length := by simp at h1; omega
  refine aw_seq ?_
  refine aw_step [0, 1, 12, 13] [] (by simp <;> rfl) ?_   -- law.go:15
  refine aw_block ?_
  refine aw_count (fun k nx => ⟨[(0, .ro 1 av), (1, .ro 1 bv), (12, .int .i64 av.length), (13, .int .i64 k)], [], nx, 26⟩) (fun k => ∀ (j : Nat) (h1 : j < a.length) (h2 : j < b.length), j < k → a[j] = b[j]) a.length _ (by intro j _ _ h; omega) (AS.le_refl _) ?_
  intro k nx hk hI
  refine aw_step [0, 1, 12, 13, 14] [] (by simp <;> rfl) ?_   -- law.go:15
  refine aw_seq ?_
  refine aw_cond rfl (fun h2 => aw_skip ?_) (fun h2 => ?_)   -- if t14
  · have hlt : k < a.length := by simp at h2; omega
    have hltb : k < b.length := by omega
    have hlt' : k < av.length := by omega
    have hltb' : k < bv.length := by omega
    have ga := hga k hlt
    have gb := hgb k hltb
    have hw := wrap_succ (k := k) (by omega)
    refine aw_seq ?_
    refine aw_block ?_
    refine aw_step [0, 1, 5, 12, 13] [] (by simp <;> rfl) ?_   -- law.go:15
    refine aw_dstep [(0, []), (1, []), (2, []), (4, []), (5, []), (6, []), (3, []), (7, []), (8, [])] [0, 1, 12, 13, 24] [] hmix (by kernel_rfl) (by simp [ga, gb, hlt', hltb'] <;> rfl) ?_   -- law.go:16
    refine aw_cond rfl (fun h3 => ?_) (fun h3 => aw_skip ?_)   -- if t24
    · refine aw_step [4] [] (by simp <;> rfl) ?_   -- law.go:17
      refine aw_ret (ends_ret (by simp [Try.results16] <;> rfl) ?_)
      congr 1
      symm
      apply decide_eq_false
      rintro rfl
      simp at h3
    refine aw_one [0, 1, 12, 13] [] (by simp [hw] <;> rfl) ?_   -- law.go:15
    refine ⟨hlt, fun j h4 h5 h6 => ?_, _, AS.le_refl _⟩
    by_cases e : j = k
    · subst e
      simpa using h3
    · exact hI j h4 h5 (by omega)
  · refine aw_exit ?_
    refine aw_step [4] [] (by simp <;> rfl) ?_   -- law.go:20
    refine aw_ret (ends_ret (by simp [Try.results16] <;> rfl) ?_)
    have hkl : k = a.length := by simp at h2; omega
    congr 1
    symm
    exact decide_eq_true (List.ext_getElem hll (fun j h4 h5 => hI j h4 h5 (by omega)))

theorem sample_ac : AC Try.prog 24 [] (fun r => r = As.v ⟨3, 500, [65, 32, 109, 97, 112], 10, 20⟩) := by
  refine ac_intro Try.func24 rfl (by show (0 : Nat) ≤ 2; omega) (fun w0 N0 => ?_)
  refine aw_step [0] [0] (by simp [Try.ntmps24] <;> rfl) ?_   -- law.go:48
  refine aw_step [0] [0] (by simp <;> rfl) ?_   -- law.go:49
  exact aw_ret (ends_ret (by simp [Try.results24] <;> rfl) rfl)
end Go.Proofs.Ytepkalebaaidcaa
