/- Asset: the reference's insert. No condition. -/
import Derived.Test.YtepkalebaaidcaaAstQ
set_option linter.unusedSimpArgs false
set_option linter.unnecessarySimpa false
namespace Go.Proofs.Ytepkalebaaidcaa
open Go.Eng

def insS (n : Int) (s : List Int × Bool) (x : Int) : List Int × Bool :=
  if (!s.2 && decide (n ≤ x)) = true then (if decide (n < x) = true then (s.1 ++ [n] ++ [x], true) else (s.1 ++ [x], true)) else (s.1 ++ [x], s.2)
def insK (n : Int) (l : List Int) : List Int × Bool := l.foldl (insS n) ([], false)
def insF (l : List Int) (n : Int) : List Int := if (insK n l).2 = true then (insK n l).1 else (insK n l).1 ++ [n]
theorem insK_succ (n : Int) (l : List Int) (k : Nat) (h : k < l.length) : insK n (l.take (k + 1)) = insS n (insK n (l.take k)) l[k] := by
  rw [List.take_succ_eq_append_getElem h, insK, List.foldl_append]; rfl
theorem insK_len (n : Int) (l : List Int) : ∀ k, k ≤ l.length → (insK n (l.take k)).1.length ≤ k + (if (insK n (l.take k)).2 = true then 1 else 0)
  | 0, _ => by simp [insK]
  | k + 1, h => by
    have ih := insK_len n l k (by omega)
    rw [insK_succ n l k (by omega)]
    unfold insS
    cases hb : (insK n (l.take k)).2 with
    | true =>
      rw [hb] at ih
      simp at ih ⊢
      omega
    | false =>
      rw [hb] at ih
      simp at ih
      split
      · split <;> simp <;> omega
      · simp; omega

set_option maxHeartbeats 1000000 in
theorem insert_ac (l : List Int) (n : Int) (hsm : l.length + 1 ≤ 17592186044416) : ACO Try.prog 27 [.ro 1 (nums l), .int .i64 n] 1 3 (fun F es' => (F = fun d q => .sl d q 1 (nums (insF l n)).length) ∧ es' = nums (insF l n)) := by
  have hg := fun (k : Nat) (h : k < l.length) => nthI h
  have hl := numsL l
  generalize nums l = lv at hg hl
  have hmx : 17592186044416 ≤ maxLen := by decide
  have nums_app : ∀ a b, nums (a ++ b) = nums a ++ nums b := fun a b => by simp [nums]
  have nums_one : ∀ z, nums [z] = [.int .i64 z] := fun z => rfl
  refine aco_intro Try.func27 rfl (by show (2 : Nat) ≤ 41; omega) (fun w0 N0 => ?_)
  refine aw_step [0, 1] [] (by simp [Try.ntmps27] <;> rfl) ?_   -- ref.go:52
  refine aw_step [0, 1, 5] [] (by simp <;> rfl) ?_   -- ref.go:53
  refine aw_step [0, 1, 5, 6] [] (by simp <;> rfl) ?_   -- ref.go:54
  refine aw_seq ?_
  refine aw_step [1, 5, 6, 9, 10, 11] [] (by simp <;> rfl) ?_   -- ref.go:55
  refine aw_adoptS 5 100 1 3 [1, 5, 6, 9, 10, 11] [100] (by simp <;> rfl) (by simp <;> rfl) ?_
  refine aw_block ?_
  refine aw_loop (fun z : Nat × Nat × Nat => ⟨[(1, .int .i64 n), (5, .sl 100 z.2.1 1 (nums (insK n (l.take z.1)).1).length), (6, .bool (insK n (l.take z.1)).2), (9, .ro 1 lv), (10, .int .i64 lv.length), (11, .int .i64 z.1)], [(100, ⟨z.2.1, 1, 3, nums (insK n (l.take z.1)).1⟩)], z.2.2, 41⟩)
    (fun z => z.1 ≤ l.length) (fun z => l.length - z.1) (0, _, _) (Nat.zero_le _) (AS.le_refl _) ?_
  rintro ⟨k, q, nx⟩ hk
  simp only at hk
  refine aw_step [1, 5, 6, 9, 10, 11, 12] [100] (by simp <;> rfl) ?_   -- ref.go:55
  refine aw_seq ?_
  refine aw_cond rfl (fun h1 => aw_skip ?_) (fun h1 => ?_)   -- if t12
  · have hlt : k < l.length := by simp at h1; omega
    have hlt' : k < lv.length := by omega
    have hget := hg k hlt
    have hw := wrap_succ (k := k) (by omega)
    have hsu := insK_succ n l k hlt
    have hkl := insK_len n l k hk
    generalize l[k] = x at hget hsu
    generalize insK n (l.take k) = s at hsu hkl
    obtain ⟨r, dn⟩ := s
    simp only at hkl
    unfold insS at hsu
    simp only at hsu
    have hrl := numsL r
    have hna := nums_app r [n]
    have hna2 : nums (r ++ [n, x]) = nums r ++ [.int .i64 n, .int .i64 x] := nums_app r [n, x]
    have hna3 := nums_app r [x]
    rw [nums_one] at hna3
    have hle : (nums r).length ≤ k + 1 := by rw [hrl]; split at hkl <;> omega
    have hle0 : dn = false → (nums r).length ≤ k := fun h => by rw [hrl]; rw [h] at hkl; simpa using hkl
    generalize nums r = rk at *
    have hro : rk.length + 1 ≤ maxLen ∧ (rk.length + 1) * 8 ≤ 140737488355328 := ⟨by omega, by omega⟩
    have hro2 : dn = false → rk.length + 1 + 1 ≤ maxLen ∧ (rk.length + 1 + 1) * 8 ≤ 140737488355328 := fun h => by have := hle0 h; exact ⟨by omega, by omega⟩
    refine aw_seq ?_
    refine aw_block ?_
    refine aw_step [1, 5, 6, 8, 9, 10, 11] [100] (by simp [hget, hlt'] <;> rfl) ?_   -- ref.go:55
    refine aw_seq ?_
    refine aw_step [1, 5, 6, 8, 9, 10, 11, 21] [100] (by simp <;> rfl) ?_   -- ref.go:56
    refine aw_cond rfl (fun h2 => ?_) (fun h2 => aw_skip ?_)   -- if t21
    · have hc : (!dn && decide (n ≤ x)) = true := by cases dn <;> simpa using h2
      have hdn : dn = false := by cases dn <;> simp_all
      have hro2 := hro2 hdn
      rw [if_pos hc] at hsu
      refine aw_seq ?_
      refine aw_step [1, 5, 8, 9, 10, 11, 24] [100] (by simp <;> rfl) ?_   -- ref.go:57
      refine aw_cond rfl (fun h3 => ?_) (fun h3 => aw_skip ?_)   -- if t24
      · rw [if_pos h3] at hsu
        refine aw_one [1, 5, 8, 9, 10, 11] [100] (by simp [hro] <;> rfl) ?_   -- ref.go:58
        refine aw_one [1, 5, 6, 8, 9, 10, 11] [100] (by simp <;> rfl) ?_   -- ref.go:60
        refine aw_one [1, 5, 6, 9, 10, 11] [100] (by simp [hro2] <;> rfl) ?_   -- ref.go:62
        refine aw_one [1, 5, 6, 9, 10, 11] [100] (by simp [hw] <;> rfl) ?_   -- ref.go:55
        exact ⟨(k + 1, _, _), hlt, by simp only; omega, by simp only [hsu, hna2, List.length_append, List.length_cons, List.length_nil, List.append_assoc, List.singleton_append, List.cons_append, List.nil_append]; exact AS.le_refl _⟩
      rw [if_neg (by rw [h3]; simp)] at hsu
      refine aw_one [1, 5, 6, 8, 9, 10, 11] [100] (by simp <;> rfl) ?_   -- ref.go:60
      refine aw_one [1, 5, 6, 9, 10, 11] [100] (by simp [hro] <;> rfl) ?_   -- ref.go:62
      refine aw_one [1, 5, 6, 9, 10, 11] [100] (by simp [hw] <;> rfl) ?_   -- ref.go:55
      exact ⟨(k + 1, _, _), hlt, by simp only; omega, by simp only [hsu, hna3, List.length_append, List.length_cons, List.length_nil]; exact AS.le_refl _⟩
    have hc : ¬ (!dn && decide (n ≤ x)) = true := by cases dn <;> simpa using h2
    rw [if_neg hc] at hsu
    refine aw_one [1, 5, 6, 9, 10, 11] [100] (by simp [hro] <;> rfl) ?_   -- ref.go:62
    refine aw_one [1, 5, 6, 9, 10, 11] [100] (by simp [hw] <;> rfl) ?_   -- ref.go:55
    exact ⟨(k + 1, _, _), hlt, by simp only; omega, by simp only [hsu, hna3, List.length_append, List.length_cons, List.length_nil]; exact AS.le_refl _⟩
  · refine aw_exit ?_
    have hk' : k = l.length := by simp at h1; omega
    subst hk'
    have hkl := insK_len n l l.length (Nat.le_refl _)
    simp only [List.take_length] at hkl ⊢
    have hfl := flatI (insF l n)
    unfold insF at hfl ⊢
    generalize insK n l = s at hkl hfl
    obtain ⟨r, dn⟩ := s
    simp only at hkl hfl ⊢
    have hrl := numsL r
    have hna := nums_app r [n]
    rw [nums_one] at hna
    refine aw_seq ?_
    refine aw_step [1, 5, 35] [100] (by simp <;> rfl) ?_   -- ref.go:64
    refine aw_cond rfl (fun h4 => ?_) (fun h4 => aw_skip ?_)   -- if t35
    · have hdn : dn = false := by cases dn <;> simp_all
      subst hdn
      simp only [Bool.false_eq_true, if_false] at hfl hkl ⊢
      rw [hna] at hfl ⊢
      generalize nums r = rk at *
      have hro : rk.length + 1 ≤ maxLen ∧ (rk.length + 1) * 8 ≤ 140737488355328 := ⟨by omega, by omega⟩
      refine aw_one [5] [100] (by simp [hro] <;> rfl) ?_   -- ref.go:65
      refine aw_step [4] [100] (by simp <;> rfl) ?_   -- ref.go:67
      exact aw_ret (endso_row 100 (by simp <;> rfl) rfl rfl hfl (by simp [Try.results27] <;> rfl) ⟨by simp <;> rfl, rfl⟩)
    have hdn : dn = true := by cases dn <;> simp_all
    subst hdn
    simp only [if_true] at hfl ⊢
    refine aw_step [4] [100] (by simp <;> rfl) ?_   -- ref.go:67
    exact aw_ret (endso_row 100 (by simp <;> rfl) rfl rfl hfl (by simp [Try.results27] <;> rfl) ⟨rfl, rfl⟩)
end Go.Proofs.Ytepkalebaaidcaa
