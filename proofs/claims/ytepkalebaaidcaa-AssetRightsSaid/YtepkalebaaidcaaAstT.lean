/- Asset: AssetRights. No condition. -/
import Derived.Test.YtepkalebaaidcaaAstW
set_option linter.unusedSimpArgs false
namespace Go.Proofs.Ytepkalebaaidcaa
open Go.Eng

theorem vA_good {a : As} (h : vA a = 0) : 0 ≤ a.fr ∧ a.fr ≤ 9999999 ∧ 0 ≤ a.un ∧ a.un ≤ 9999999 ∧ a.fr ≤ a.un := by
  unfold vA at h
  split at h
  · cases h
  · rename_i h1
    split at h
    · cases h
    · split at h
      · cases h
      · split at h
        · cases h
        · rename_i h2
          simp [inR] at h1 h2
          omega

set_option maxHeartbeats 2000000 in
theorem assetRights_ac (a : As) (first day last : Int) : AC Try.prog 7 [a.v, .int .i64 first, .int .i64 day, .int .i64 last] (fun r => r = .bool true) := by
  have hv := valid_ac a
  have hu := fun d => usable_ac a d
  have hbad : vA a ≠ 0 → ∀ d, AC Try.prog 10 [a.v, .int .i64 d] (fun r => r = .int .i64 (vA a)) := fun h d => by
    have := hu d
    rw [uA, if_pos h] at this
    exact this
  have hgood : vA a = 0 → AC Try.prog 10 [a.v, .int .i64 a.fr] (fun r => r = .int .i64 0) ∧ AC Try.prog 10 [a.v, .int .i64 a.un] (fun r => r = .int .i64 0) ∧
      AC Try.prog 10 [a.v, .int .i64 (a.fr - 1)] (fun r => r = .int .i64 17) ∧ AC Try.prog 10 [a.v, .int .i64 (a.un + 1)] (fun r => r = .int .i64 17) ∧ IntKind.i64.wrap (a.fr - 1) = a.fr - 1 ∧ IntKind.i64.wrap (a.un + 1) = a.un + 1 ∧ ∀ d, uA a d = 0 ∨ uA a d = 17 := by
    intro h
    obtain ⟨g1, g2, g3, g4, g5⟩ := vA_good h
    have e : ∀ d, uA a d = if inR d a.fr a.un = false then 17 else 0 := fun d => by rw [uA, if_neg (by simp [h])]
    have e0 : uA a a.fr = 0 := by rw [e, if_neg (by simp [inR]; omega)]
    have e1 : uA a a.un = 0 := by rw [e, if_neg (by simp [inR]; omega)]
    have e2 : uA a (a.fr - 1) = 17 := by rw [e, if_pos (by simp [inR]; omega)]
    have e3 : uA a (a.un + 1) = 17 := by rw [e, if_pos (by simp [inR]; omega)]
    have f0 := hu a.fr
    have f1 := hu a.un
    have f2 := hu (a.fr - 1)
    have f3 := hu (a.un + 1)
    rw [e0] at f0
    rw [e1] at f1
    rw [e2] at f2
    rw [e3] at f3
    exact ⟨f0, f1, f2, f3, wrap_in (by omega) (by omega), wrap_in (by omega) (by omega), fun d => by rw [e]; split <;> simp⟩
  have hmid : ¬ ((((uA a first = 0 ∧ uA a last = 0) ∧ first ≤ day) ∧ day ≤ last) ∧ ¬ uA a day = 0) := by
    rintro ⟨⟨⟨⟨h1, h2⟩, h3⟩, h4⟩, h5⟩
    apply h5
    unfold uA at h1 h2 ⊢
    by_cases hz : vA a = 0
    · rw [if_neg (by simp [hz])] at h1 h2 ⊢
      have k1 : inR first a.fr a.un = true := by
        cases h : inR first a.fr a.un with
        | true => rfl
        | false => rw [if_pos h] at h1; cases h1
      have k2 : inR last a.fr a.un = true := by
        cases h : inR last a.fr a.un with
        | true => rfl
        | false => rw [if_pos h] at h2; cases h2
      rw [if_neg]
      simp [inR] at k1 k2 ⊢
      omega
    · rw [if_pos hz] at h1
      exact absurd h1 hz
  generalize vA a = va at hv hbad hgood
  generalize huu : uA a = ua at hu hgood hmid
  clear huu
  obtain ⟨ai, ab, aa, af, au⟩ := a
  simp only [As.v] at hv hu hbad hgood ⊢
  refine ac_intro Try.func7 rfl (by show (4 : Nat) ≤ 97; omega) (fun w0 N0 => ?_)
  refine aw_step [1, 2, 3, 4] [4] (by simp [Try.ntmps7] <;> rfl) ?_   -- law.go:131
  refine aw_seq (aw_region ?_)   -- law.go:132
  refine awl_go 1 (by simp <;> rfl) ?_
  refine awl_call1 hv Try.func8 rfl (by kernel_rfl) rfl rfl rfl rfl rfl (by simp <;> rfl) ?_
  refine awl_end [1, 2, 3, 4, 9] [4] (by simp <;> rfl) ?_
  refine aw_seq ?_
  refine aw_step [1, 2, 3, 4, 9, 14] [4] (by simp <;> rfl) ?_   -- law.go:133
  refine aw_cond rfl (fun h1 => ?_) (fun h1 => aw_skip ?_)   -- if t14
  · have hb := hbad (by simpa using h1)
    refine aw_seq (aw_region ?_)   -- law.go:134
    refine awl_go 2 (by simp <;> rfl) ?_
    refine awl_call1 (hb day) Try.func10 rfl (by kernel_rfl) rfl rfl rfl rfl rfl (by simp <;> rfl) ?_
    refine awl_go 6 (by simp <;> rfl) ?_
    refine awl_gcall (fun hg => hb af) Try.func10 rfl (by kernel_rfl) (by simp <;> rfl) rfl rfl (by simp <;> rfl) (by simp) (by simp <;> rfl) ?_
    refine awl_go 4 (by simp <;> rfl) ?_
    refine awl_gcall (fun hg => awake_ac) Try.func12 rfl (by kernel_rfl) (by simp <;> rfl) rfl rfl (by simp <;> rfl) (by simp) (by simp <;> rfl) ?_
    refine awl_end [8] [] (by simp <;> rfl) ?_
    exact aw_ret (ends_ret (by simp [Try.results7] <;> rfl) rfl)
  have hz : va = 0 := by simpa using h1
  obtain ⟨h0, h00, hm, hp, hw1, hw2, h17⟩ := hgood hz
  refine aw_seq ?_
  refine aw_seq (aw_region ?_)   -- law.go:136
  refine awl_go 3 (by simp <;> rfl) ?_
  refine awl_call1 (h0) Try.func10 rfl (by kernel_rfl) rfl rfl rfl rfl rfl (by simp <;> rfl) ?_
  refine awl_go 5 (by simp <;> rfl) ?_
  refine awl_gcall (fun hg => h00) Try.func10 rfl (by kernel_rfl) (by simp <;> rfl) rfl rfl (by simp <;> rfl) (by simp) (by simp <;> rfl) ?_
  refine awl_go 7 (by simp [hw1] <;> rfl) ?_
  refine awl_gcall (fun hg => hm) Try.func10 rfl (by kernel_rfl) (by simp <;> rfl) rfl rfl (by simp <;> rfl) (by simp) (by simp <;> rfl) ?_
  refine awl_go 7 (by simp [hw2] <;> rfl) ?_
  refine awl_gcall (fun hg => hp) Try.func10 rfl (by kernel_rfl) (by simp <;> rfl) rfl rfl (by simp <;> rfl) (by simp) (by simp <;> rfl) ?_
  refine awl_end [1, 2, 3, 4, 58] [4] (by simp <;> rfl) ?_
  refine aw_cond rfl (fun h2 => ?_) (fun h2 => aw_skip ?_)   -- if t58
  · exact absurd h2 (by simp)
  refine aw_seq ?_
  refine aw_seq (aw_region ?_)   -- law.go:139
  refine awl_go 2 (by simp <;> rfl) ?_
  refine awl_call1 (hu first) Try.func10 rfl (by kernel_rfl) rfl rfl rfl rfl rfl (by simp <;> rfl) ?_
  refine awl_go 4 (by simp <;> rfl) ?_
  refine awl_gcall (fun hg => hu last) Try.func10 rfl (by kernel_rfl) (by simp <;> rfl) rfl rfl (by simp <;> rfl) (by simp) (by simp <;> rfl) ?_
  refine awl_go 15 (by simp <;> rfl) ?_
  refine awl_gcall (fun hg => hu day) Try.func10 rfl (by kernel_rfl) (by simp <;> rfl) rfl rfl (by simp <;> rfl) (by simp) (by simp <;> rfl) ?_
  refine awl_end [2, 4, 84] [4] (by simp <;> rfl) ?_
  refine aw_cond rfl (fun h3 => ?_) (fun h3 => aw_skip ?_)   -- if t84
  · exfalso
    simp at h3
    exact hmid h3
  refine aw_seq (aw_region ?_)   -- law.go:142
  refine awl_go 2 (by simp <;> rfl) ?_
  refine awl_call1 (hu day) Try.func10 rfl (by kernel_rfl) rfl rfl rfl rfl rfl (by simp <;> rfl) ?_
  refine awl_end [10] [] (by simp <;> rfl) ?_
  refine aw_seq (aw_region ?_)   -- law.go:143
  refine awl_go 7 (by simp <;> rfl) ?_
  refine awl_gcall (fun hg => awake_ac) Try.func12 rfl (by kernel_rfl) (by simp <;> rfl) rfl rfl (by simp <;> rfl) (by simp) (by simp <;> rfl) ?_
  refine awl_end [8] [] (by simp <;> rfl) ?_
  refine aw_ret (ends_ret (by simp [Try.results7] <;> rfl) ?_)
  have := h17 day
  rcases this with h | h <;> simp [h]
end Go.Proofs.Ytepkalebaaidcaa
