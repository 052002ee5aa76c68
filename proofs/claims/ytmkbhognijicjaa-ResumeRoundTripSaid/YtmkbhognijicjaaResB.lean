/- Resume: equality and copies of trees. No condition. -/
import Derived.Test.YtmkbhognijicjaaResA
set_option linter.unusedSimpArgs false
namespace Go.Proofs.Ytmkbhognijicjaa
open Go.Eng

open Classical in
noncomputable def eqN (a b : Nd) : Bool := decide (a = b)
open Classical in
noncomputable def eqNs (a b : List Nd) : Bool := decide (a = b)
theorem eqN_iff {a b : Nd} : eqN a b = true ↔ a = b := by simp [eqN]
theorem eqNs_iff {a b : List Nd} : eqNs a b = true ↔ a = b := by simp [eqNs]
theorem eqNs_false {a b : List Nd} : eqNs a b = false ↔ a ≠ b := by simp [eqNs]
theorem eqN_false {a b : Nd} : eqN a b = false ↔ a ≠ b := by simp [eqN]

theorem ext_of {la lb : List Nd} (hl : la.length = lb.length) (h : ∀ (j : Nat) (h1 : j < la.length) (h2 : j < lb.length), la[j] = lb[j]) : la = lb := List.ext_getElem hl h

set_option maxHeartbeats 1000000 in
theorem eqf_ac (la lb : List Nd) (hh : ∀ x ∈ la, ∀ y, AC Try.prog 11 [x.v, y.v] (fun r => r = .bool (eqN x y))) :
    AC Try.prog 21 [.ro 5 (la.map Nd.v), .ro 5 (lb.map Nd.v), .fn 11] (fun r => r = .bool (eqNs la lb)) := by
  have hga := fun (k : Nat) (h : k < la.length) => nthN h
  have hgb := fun (k : Nat) (h : k < lb.length) => nthN h
  have hla : (la.map Nd.v).length = la.length := by simp
  have hlb : (lb.map Nd.v).length = lb.length := by simp
  generalize la.map Nd.v = av at hga hla
  generalize lb.map Nd.v = bv at hgb hlb
  refine ac_lenR 0 rfl (fun hmax => ?_)
  unfold maxLen at hmax
  refine ac_intro Try.func21 rfl (by show (3 : Nat) ≤ 32; omega) (fun w0 N0 => ?_)
  refine aw_step [0, 1, 2] [] (by simp [Try.ntmps21] <;> rfl) ?_   -- slices.go:37
  refine aw_seq ?_
  refine aw_step [0, 1, 2, 14] [] (by simp <;> rfl) ?_   -- slices.go:38
  refine aw_cond rfl (fun h1 => ?_) (fun h1 => aw_skip ?_)   -- if t14
  · refine aw_step [6] [] (by simp <;> rfl) ?_   -- slices.go:39
    refine aw_ret (ends_ret (by simp [Try.results21] <;> rfl) ?_)
    congr 1
    symm
    rw [eqNs_false]
    rintro rfl
    simp at h1
    omega
  have hll : la.length = lb.length := by simp at h1; omega
  refine aw_seq ?_
  refine aw_step [1, 2, 15, 16, 17] [] (by simp <;> rfl) ?_   -- slices.go:41
  refine aw_block ?_
  refine aw_count (fun k nx => ⟨[(1, .ro 5 bv), (2, .fn 11), (15, .ro 5 av), (16, .int .i64 av.length), (17, .int .i64 k)], [], nx, 32⟩) (fun k => ∀ (j : Nat) (h1 : j < la.length) (h2 : j < lb.length), j < k → la[j] = lb[j]) la.length _ (by intro j _ _ h; omega) (AS.le_refl _) ?_
  intro k nx hk hI
  refine aw_step [1, 2, 15, 16, 17, 18] [] (by simp <;> rfl) ?_   -- slices.go:41
  refine aw_seq ?_
  refine aw_cond rfl (fun h2 => aw_skip ?_) (fun h2 => ?_)   -- if t18
  · have hlt : k < la.length := by simp at h2; omega
    have hltb : k < lb.length := by omega
    have hlt' : k < av.length := by omega
    have hltb' : k < bv.length := by omega
    have ga := hga k hlt
    have gb := hgb k hltb
    have hc := hh la[k] (List.getElem_mem hlt) lb[k]
    rcases hka : la[k] with ⟨t1, k1, n1, s1, ks1⟩
    rcases hkb : lb[k] with ⟨t2, k2, n2, s2, ks2⟩
    rw [hka] at ga hc
    rw [hkb] at gb hc
    obtain ⟨q, hq⟩ : ∃ q, eqN (Nd.mk t1 k1 n1 s1 ks1) (Nd.mk t2 k2 n2 s2 ks2) = q := ⟨_, rfl⟩
    rw [hq] at hc
    rw [Nd.v] at ga
    rw [Nd.v] at gb
    rw [Nd.v, Nd.v] at hc
    generalize ks1.map Nd.v = kv1 at ga hc
    generalize ks2.map Nd.v = kv2 at gb hc
    have hw := wrap_succ (k := k) (by omega)
    refine aw_seq ?_
    refine aw_block ?_
    refine aw_step [1, 2, 7, 8, 15, 16, 17] [8] (by simp [ga, hlt'] <;> rfl) ?_   -- slices.go:41
    refine aw_step [1, 2, 8, 9, 15, 16, 17] [8, 9] (by simp [gb, hltb'] <;> rfl) ?_   -- slices.go:42
    refine aw_seq (aw_region ?_)   -- slices.go:43
    refine awl_go 3 (by simp <;> rfl) ?_
    refine awl_call1 hc Try.func11 rfl (by kernel_rfl) rfl rfl rfl rfl rfl (by simp <;> rfl) ?_
    refine awl_end [1, 2, 15, 16, 17, 30] [] (by simp <;> rfl) ?_
    refine aw_cond rfl (fun h3 => ?_) (fun h3 => aw_skip ?_)   -- if t30
    · refine aw_step [6] [] (by simp <;> rfl) ?_   -- slices.go:44
      refine aw_ret (ends_ret (by simp [Try.results21] <;> rfl) ?_)
      have hqf : q = false := by simpa using h3
      rw [hqf, eqN_false, ← hka, ← hkb] at hq
      congr 1
      symm
      rw [eqNs_false]
      rintro rfl
      exact hq rfl
    refine aw_one [1, 2, 15, 16, 17] [] (by simp [hw] <;> rfl) ?_   -- slices.go:41
    refine ⟨hlt, fun j h4 h5 h6 => ?_, _, AS.le_refl _⟩
    by_cases e : j = k
    · subst e
      have hqt : q = true := by simpa using h3
      rw [hqt, eqN_iff, ← hka, ← hkb] at hq
      exact hq
    · exact hI j h4 h5 (by omega)
  · refine aw_exit ?_
    refine aw_step [6] [] (by simp <;> rfl) ?_   -- slices.go:47
    refine aw_ret (ends_ret (by simp [Try.results21] <;> rfl) ?_)
    congr 1
    symm
    rw [eqNs_iff]
    have hkl : k = la.length := by simp at h2; omega
    exact ext_of hll (fun j h4 h5 => hI j h4 h5 (by omega))

set_option maxHeartbeats 1000000 in
theorem equal_ac (b : Nd) (a : Nd) : AC Try.prog 11 [a.v, b.v] (fun r => r = .bool (eqN a b)) := by
  suffices h : ∀ (m : Nat) (a b : Nd), SizeOf.sizeOf a < m → AC Try.prog 11 [a.v, b.v] (fun r => r = .bool (eqN a b)) from h _ a b (Nat.lt_succ_self _)
  intro m
  induction m with
  | zero => intro a b h; omega
  | succ m ih =>
  intro a b hm
  obtain ⟨t1, k1, n1, s1, ks1⟩ := a
  obtain ⟨t2, k2, n2, s2, ks2⟩ := b
  have hc := eqf_ac ks1 ks2 (fun x hx y => ih x y (by have := Nd.kid_lt (t := t1) (k := k1) (n := n1) (s := s1) hx; omega))
  have hp1 := pureN ks1
  have hp2 := pureN ks2
  have hE : eqN (Nd.mk t1 k1 n1 s1 ks1) (Nd.mk t2 k2 n2 s2 ks2) = (decide (t1 = t2) && decide (k1 = k2) && decide (n1 = n2) && decide (s1 = s2) && eqNs ks1 ks2) := by
    rw [Bool.eq_iff_iff]
    simp [eqN, eqNs, and_assoc]
  rw [hE]
  rw [Nd.v, Nd.v]
  generalize ks1.map Nd.v = kv1 at hc hp1
  generalize ks2.map Nd.v = kv2 at hc hp2
  generalize eqNs ks1 ks2 = q at hc
  refine ac_intro Try.func11 rfl (by show (2 : Nat) ≤ 38; omega) (fun w0 N0 => ?_)
  refine aw_step [2, 3] [2, 3] (by simp [Try.ntmps11] <;> rfl) ?_   -- codec.go:93
  refine aw_seq (aw_region ?_)   -- codec.go:94
  refine awl_go 31 (by simp <;> rfl) ?_
  refine awl_gcall (fun hg => hc) Try.func21 rfl (by kernel_rfl) (by simp <;> rfl) rfl rfl (by simp <;> rfl) (by simp [hp1, hp2]) (by simp <;> rfl) ?_
  refine awl_end [4] [] (by simp <;> rfl) ?_
  refine aw_ret (ends_ret (by simp [Try.results11] <;> rfl) ?_)
  simp

set_option maxHeartbeats 1000000 in
theorem refEqual_ac (b : Nd) (a : Nd) : AC Try.prog 15 [a.v, b.v] (fun r => r = .bool (eqN a b)) := by
  suffices h : ∀ (m : Nat) (a b : Nd), SizeOf.sizeOf a < m → AC Try.prog 15 [a.v, b.v] (fun r => r = .bool (eqN a b)) from h _ a b (Nat.lt_succ_self _)
  intro m
  induction m with
  | zero => intro a b h; omega
  | succ m ih =>
  intro a b hm
  obtain ⟨t1, k1, n1, s1, la⟩ := a
  obtain ⟨t2, k2, n2, s2, lb⟩ := b
  have hh : ∀ x ∈ la, ∀ y, AC Try.prog 15 [x.v, y.v] (fun r => r = .bool (eqN x y)) := fun x hx y => ih x y (by have := Nd.kid_lt (t := t1) (k := k1) (n := n1) (s := s1) hx; omega)
  have hE : eqN (Nd.mk t1 k1 n1 s1 la) (Nd.mk t2 k2 n2 s2 lb) = (decide (t1 = t2) && decide (k1 = k2) && decide (n1 = n2) && decide (s1 = s2) && eqNs la lb) := by
    rw [Bool.eq_iff_iff]
    simp [eqN, eqNs, and_assoc]
  rw [hE, Nd.v, Nd.v]
  have hga := fun (k : Nat) (h : k < la.length) => nthN h
  have hgb := fun (k : Nat) (h : k < lb.length) => nthN h
  have hla : (la.map Nd.v).length = la.length := by simp
  have hlb : (lb.map Nd.v).length = lb.length := by simp
  generalize la.map Nd.v = av at hga hla
  generalize lb.map Nd.v = bv at hgb hlb
  refine ac_lenC 0 4 rfl rfl (fun hmax => ?_)
  unfold maxLen at hmax
  refine ac_intro Try.func15 rfl (by show (2 : Nat) ≤ 60; omega) (fun w0 N0 => ?_)
  refine aw_step [2, 3] [2, 3] (by simp [Try.ntmps15] <;> rfl) ?_   -- ref.go:100
  refine aw_seq ?_
  refine aw_step [2, 3, 40] [2, 3] (by simp <;> rfl) ?_   -- ref.go:101
  refine aw_cond rfl (fun h1 => ?_) (fun h1 => aw_skip ?_)   -- if t40
  · refine aw_step [4] [] (by simp <;> rfl) ?_   -- ref.go:102
    refine aw_ret (ends_ret (by simp [Try.results15] <;> rfl) ?_)
    congr 1
    symm
    rw [Bool.eq_false_iff]
    intro hc
    simp only [Bool.and_eq_true, decide_eq_true_eq, eqNs_iff] at hc
    obtain ⟨⟨⟨⟨rfl, rfl⟩, rfl⟩, rfl⟩, rfl⟩ := hc
    simp at h1
    omega
  have h1' : t1 = t2 ∧ k1 = k2 ∧ n1 = n2 ∧ s1 = s2 ∧ la.length = lb.length := by
    simp at h1
    refine ⟨h1.1.1.1.1, h1.1.1.1.2, h1.1.1.2, h1.1.2, ?_⟩
    omega
  obtain ⟨rfl, rfl, rfl, rfl, hll⟩ := h1'
  have hE2 : (decide (t1 = t1) && decide (k1 = k1) && decide (n1 = n1) && decide (s1 = s1) && eqNs la lb) = eqNs la lb := by simp
  rw [hE2]
  refine aw_seq ?_
  refine aw_step [2, 3, 5] [2, 3] (by simp <;> rfl) ?_   -- ref.go:104
  refine aw_block ?_
  refine aw_count (fun k nx => ⟨[(2, .bp 2 0 5 0 0), (3, .bp 3 1 5 0 0), (5, .int .i64 k)], [(2, ⟨0, 5, 24, [.agg [.int .i64 t1, .int .i64 k1, .int .i64 n1, .str s1, .ro 5 av]]⟩), (3, ⟨1, 5, 24, [.agg [.int .i64 t1, .int .i64 k1, .int .i64 n1, .str s1, .ro 5 bv]]⟩)], nx, 60⟩) (fun k => ∀ (j : Nat) (h1 : j < la.length) (h2 : j < lb.length), j < k → la[j] = lb[j]) la.length _ (by intro j _ _ h; omega) (AS.le_refl _) ?_
  intro k nx hk hI
  refine aw_seq ?_
  refine aw_step [2, 3, 5, 45] [2, 3] (by simp <;> rfl) ?_   -- ref.go:104
  refine aw_cond rfl (fun h2 => aw_skip ?_) (fun h2 => ?_)   -- if t45
  · have hlt : k < la.length := by simp at h2; omega
    have hltb : k < lb.length := by omega
    have hlt' : k < av.length := by omega
    have hltb' : k < bv.length := by omega
    have ga := hga k hlt
    have gb := hgb k hltb
    have hc := hh la[k] (List.getElem_mem hlt) lb[k]
    rcases hka : la[k] with ⟨t2, k2, n2, s2, ks2⟩
    rcases hkb : lb[k] with ⟨t3, k3, n3, s3, ks3⟩
    rw [hka] at ga hc
    rw [hkb] at gb hc
    obtain ⟨q, hq⟩ : ∃ q, eqN (Nd.mk t2 k2 n2 s2 ks2) (Nd.mk t3 k3 n3 s3 ks3) = q := ⟨_, rfl⟩
    rw [hq] at hc
    rw [Nd.v] at ga
    rw [Nd.v] at gb
    rw [Nd.v, Nd.v] at hc
    generalize ks2.map Nd.v = kv1 at ga hc
    generalize ks3.map Nd.v = kv2 at gb hc
    have hw := wrap_succ (k := k) (by omega)
    refine aw_seq ?_
    refine aw_block ?_
    refine aw_seq (aw_draw [(0, []), (2, []), (5, []), (7, []), (1, []), (3, []), (4, []), (6, []), (8, []), (9, []), (10, []), (11, [])] hmix (by kernel_rfl) ?_)   -- ref.go:105
    refine awo_go 10 (by simp [ga, gb, hlt', hltb'] <;> rfl) ?_
    refine awo_call (fun hg => hc) Try.func15 rfl (by kernel_rfl) rfl rfl (by simp <;> rfl) rfl rfl (by simp <;> rfl) (by simp) (by simp <;> rfl) ?_
    refine awo_end [2, 3, 5, 59] [2, 3] (by simp <;> rfl) ?_
    refine aw_cond rfl (fun h3 => ?_) (fun h3 => aw_skip ?_)   -- if t59
    · refine aw_step [4] [] (by simp <;> rfl) ?_   -- ref.go:106
      refine aw_ret (ends_ret (by simp [Try.results15] <;> rfl) ?_)
      have hqf : q = false := by simpa using h3
      rw [hqf, eqN_false, ← hka, ← hkb] at hq
      congr 1
      symm
      rw [eqNs_false]
      rintro rfl
      exact hq rfl
    refine aw_one [2, 3, 5] [2, 3] (by simp [hw] <;> rfl) ?_   -- ref.go:104
    refine ⟨hlt, fun j h4 h5 h6 => ?_, _, AS.le_refl _⟩
    by_cases e : j = k
    · subst e
      have hqt : q = true := by simpa using h3
      rw [hqt, eqN_iff, ← hka, ← hkb] at hq
      exact hq
    · exact hI j h4 h5 (by omega)
  · refine aw_exit ?_
    refine aw_step [4] [] (by simp <;> rfl) ?_   -- ref.go:109
    refine aw_ret (ends_ret (by simp [Try.results15] <;> rfl) ?_)
    congr 1
    symm
    rw [eqNs_iff]
    have hkl : k = la.length := by simp at h2; omega
    exact ext_of hll (fun j h4 h5 => hI j h4 h5 (by omega))
end Go.Proofs.Ytmkbhognijicjaa
