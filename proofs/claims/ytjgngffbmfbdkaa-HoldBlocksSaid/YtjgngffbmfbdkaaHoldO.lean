/- Hold: the reasons of the holds that stand. No condition. -/
import Derived.Test.YtjgngffbmfbdkaaHoldS
set_option linter.unusedSimpArgs false
namespace Go.Proofs.Ytjgngffbmfbdkaa
open Go.Eng

def openL (hs : List H3) : List Int := (hs.filter fun h => decide (h.u = 0)).map H3.r
def openF (hs : List H3) : List Int := Lib.compact (sortI (openL hs))
theorem openL_len (hs : List H3) : (openL hs).length ≤ hs.length := by
  simp only [openL, List.length_map]; exact List.length_filter_le _ _
theorem openL_succ (hs : List H3) (k : Nat) (h : k < hs.length) : openL (hs.take (k + 1)) = openL (hs.take k) ++ (if decide (hs[k].u = 0) = true then [hs[k].r] else []) := by
  rw [List.take_succ_eq_append_getElem h, openL, openL, List.filter_append, List.map_append]
  congr 1
  by_cases h0 : hs[k].u = 0 <;> simp [h0]

set_option maxHeartbeats 1000000 in
theorem open_ac (s v l : Int) (hs : List H3) (es : List V) (hes : es = hs.map H3.v) (hsm : es.length ≤ 200) : ACO Try.prog 17 [rel s v l (.ro 3 es)] 1 3 (fun F es' => (F = fun d q => .sl d q 1 (openF hs).length) ∧ es' = nums (openF hs)) := by
  have hlen : es.length = hs.length := by rw [hes]; simp
  refine aco_intro Try.func17 rfl (by show (1 : Nat) ≤ 26; omega) (fun w0 N0 => ?_)
  refine aw_step [1] [1] (by simp [Try.ntmps17, rel] <;> rfl) ?_   -- hold.go:122
  refine aw_step [1, 3] [1] (by simp <;> rfl) ?_   -- hold.go:123
  refine aw_seq ?_
  refine aw_step [3, 7, 8, 9] [] (by simp <;> rfl) ?_   -- hold.go:124
  refine aw_adoptS 3 100 1 3 [3, 7, 8, 9] [100] (by simp <;> rfl) (by simp <;> rfl) ?_
  refine aw_block ?_
  refine aw_loop (fun x : Nat × Nat × Nat => ⟨[(3, .sl 100 x.2.1 1 (nums (openL (hs.take x.1))).length), (7, .ro 3 es), (8, .int .i64 es.length), (9, .int .i64 x.1)], [(100, ⟨x.2.1, 1, 3, nums (openL (hs.take x.1))⟩)], x.2.2, 26⟩)
    (fun x => x.1 ≤ hs.length) (fun x => hs.length - x.1) (0, 7, 8) (Nat.zero_le _) (AS.le_refl _) ?_
  rintro ⟨k, q, nx⟩ hk
  simp only at hk
  refine aw_step [3, 7, 8, 9, 10] [100] (by simp <;> rfl) ?_   -- hold.go:124
  refine aw_seq ?_
  refine aw_cond rfl (fun h1 => aw_skip ?_) (fun h1 => ?_)   -- if t10
  · have hlt : k < hs.length := by simp at h1; omega
    have hlt' : k < es.length := by omega
    have hget : nth es k = some (H3.v hs[k]) := by rw [nth_eq, hes]; simp [hlt]
    have hw := wrap_succ (k := k) (by omega)
    have hsu := openL_succ hs k hlt
    have hkl : (nums (openL (hs.take k))).length ≤ k := by rw [nums_len]; exact Nat.le_trans (openL_len _) (by simp; omega)
    generalize hs[k] = h at hget hsu
    have hnu : nums (openL (hs.take (k + 1))) = nums (openL (hs.take k)) ++ (if decide (h.u = 0) = true then [.int .i64 h.r] else []) := by
      rw [hsu]; by_cases h0 : h.u = 0 <;> simp [nums, h0]
    generalize nums (openL (hs.take k)) = rk at hkl hnu
    have hro : rk.length + 1 ≤ maxLen ∧ (rk.length + 1) * 8 ≤ 140737488355328 := ⟨Nat.le_trans (show rk.length + 1 ≤ 1000 by omega) (by decide), by omega⟩
    refine aw_seq ?_
    refine aw_block ?_
    refine aw_step [3, 5, 7, 8, 9] [5, 100] (by simp [hget, hlt', H3.v] <;> rfl) ?_   -- hold.go:124
    refine aw_step [3, 5, 7, 8, 9, 15] [5, 100] (by simp <;> rfl) ?_   -- hold.go:125
    refine aw_cond rfl (fun h2 => ?_) (fun h2 => aw_skip ?_)   -- if t15
    · refine aw_one [3, 7, 8, 9] [100] (by simp [hro] <;> rfl) ?_   -- hold.go:126
      refine aw_one [3, 7, 8, 9] [100] (by simp [hw] <;> rfl) ?_   -- hold.go:124
      rw [if_pos h2] at hnu
      exact ⟨(k + 1, _, _), hlt, by simp only; omega, by simp only [hnu, List.length_append, List.length_cons, List.length_nil]; exact AS.le_refl _⟩
    refine aw_one [3, 7, 8, 9] [100] (by simp [hw] <;> rfl) ?_   -- hold.go:124
    rw [if_neg (by rw [h2]; simp), List.append_nil] at hnu
    exact ⟨(k + 1, _, _), hlt, by simp only; omega, by simp only [hnu]; exact AS.le_refl _⟩
  · refine aw_exit ?_
    have hk' : k = hs.length := by simp at h1; omega
    subst hk'
    have hol := openL_len hs
    simp only [List.take_length]
    have hcs := sort_aci (openL hs) (by omega)
    have hsl : (sortI (openL hs)).length = (openL hs).length := by simp [sortI]
    have hcc := compact_aci (sortI (openL hs)) (by omega)
    have hl1 : (nums (openL hs)).length = (nums (sortI (openL hs))).length := by rw [nums_len, nums_len, hsl]
    have hf1 := nums_flat (openL hs)
    have hf2 := nums_flat (sortI (openL hs))
    have hf3 := nums_flat (openF hs)
    change ACI Try.prog 33 1 3 _ (nums (openF hs)) (fun d v => .sl d v 1 (openF hs).length) at hcc
    generalize nums (openL hs) = r1 at hcs hl1 hf1
    generalize nums (sortI (openL hs)) = r2 at hcs hcc hl1 hf2
    refine aw_seq (aw_region ?_)   -- hold.go:129
    refine awl_go 1 (by simp <;> rfl) ?_
    refine awl_callI (d := 100) (v := q) hcs hf1 hf2 Try.func32 rfl (by kernel_rfl) rfl rfl rfl (by simp <;> rfl) (by simp <;> rfl) (by simp <;> rfl) ?_
    refine awl_end [3] [100] (by simp <;> rfl) ?_
    rw [hl1]
    refine aw_seq (aw_region ?_)   -- hold.go:130
    refine awl_go 1 (by simp <;> rfl) ?_
    refine awl_callI (d := 100) (v := q) hcc hf2 hf3 Try.func33 rfl (by kernel_rfl) rfl rfl rfl (by simp <;> rfl) (by simp <;> rfl) (by simp <;> rfl) ?_
    refine awl_end [2] [100] (by simp <;> rfl) ?_
    exact aw_ret (endso_row 100 (by simp <;> rfl) rfl rfl hf3 (by simp [Try.results17] <;> rfl) ⟨rfl, rfl⟩)
end Go.Proofs.Ytjgngffbmfbdkaa
