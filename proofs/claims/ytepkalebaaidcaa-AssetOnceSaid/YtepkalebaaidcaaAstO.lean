/- Asset: AssetOnce. No condition. -/
import Derived.Test.YtepkalebaaidcaaAstP
set_option linter.unusedSimpArgs false
namespace Go.Proofs.Ytepkalebaaidcaa
open Go.Eng

def comL (y x : List Int) : List Int := x.filter fun r => decide (r ∈ y)
theorem comL_succ (y x : List Int) (k : Nat) (h : k < x.length) : comL y (x.take (k + 1)) = comL y (x.take k) ++ (if decide (x[k] ∈ y) = true then [x[k]] else []) := by
  rw [List.take_succ_eq_append_getElem h, comL, comL, List.filter_append]
  congr 1
  by_cases h0 : x[k] ∈ y <;> simp [List.filter, h0]

set_option maxHeartbeats 2000000 in
theorem assetOnce_ac (a b : List Int) (l : List As) : AC Try.prog 5 [.ro 1 (nums a), .ro 1 (nums b), .ro 5 (l.map As.v)] (fun r => r = .bool true) := by
  have hfa := few_ac a
  have hfb := few_ac b
  have hpa := pureI a
  have hpb := pureI b
  have hxl : (a.take 40).length ≤ 40 := by simp; omega
  have hyl : (b.take 40).length ≤ 40 := by simp; omega
  generalize nums a = av at *
  generalize nums b = bv at *
  generalize a.take 40 = x at *
  generalize b.take 40 = y at *
  obtain ⟨e1, e2, e3, e4, e5, e6, e7, e8, e9, e10, e11, e12, e13⟩ := once_plain l x y hxl hyl
  have hpx := pureI x
  have hpy := pureI y
  have hhas := fun n => has_ac y n
  have hgx := fun (k : Nat) (h : k < x.length) => nthI h
  have hlx := numsL x
  have hjxx := join_ac x x (by omega)
  have hjxy := join_ac x y (by omega)
  have hjyx := join_ac y x (by omega)
  have hpl := pureAs l
  have hbx := bytes_ac x l
  have hby := bytes_ac y l
  have hbxx := bytes_ac (x ++ x) l
  have hbxy := bytes_ac (x ++ y) l
  have hbyx := bytes_ac (y ++ x) l
  have hb0 := (bytes_ac [] l).argsR (args := [.nils, .ro 5 (l.map As.v)]) (.cons (Relax.nils 1) (.cons (Relax.refl _) .nil))
  have hbc := bytes_ac (comL y x) l
  have hfc := pureI (comL y x)
  have hfxx := pureI (x ++ x)
  have hfxy := pureI (x ++ y)
  have hfyx := pureI (y ++ x)
  rw [e1] at hbxx
  rw [e3] at hb0
  rw [← e4] at hbyx
  change bF l x + bF l y = bF l (x ++ y) + bF l (comL y x) at e6
  change 0 ≤ bF l (comL y x) at e12
  change bF l (comL y x) ≤ 1000000000 at e13
  generalize bF l x = nx0 at *
  generalize bF l y = ny0 at *
  generalize bF l (x ++ y) = nb0 at *
  generalize bF l (comL y x) = nc0 at *
  generalize l.map As.v = lv at *
  generalize hxv : nums x = xv at *
  generalize nums y = yv at *
  generalize nums (x ++ x) = xxv at *
  generalize nums (x ++ y) = xyv at *
  generalize nums (y ++ x) = yxv at *
  have hw1 : IntKind.i64.wrap (nx0 + ny0) = nb0 + nc0 := by rw [wrap_in (by omega) (by omega)]; exact e6
  have hw2 : IntKind.i64.wrap (nb0 + nc0) = nb0 + nc0 := wrap_in (by omega) (by omega)
  refine ac_intro Try.func5 rfl (by show (3 : Nat) ≤ 82; omega) (fun w0 N0 => ?_)
  refine aw_step [0, 1, 2] [] (by simp [Try.ntmps5] <;> rfl) ?_   -- law.go:79
  refine aw_seq (aw_region ?_)   -- law.go:80
  refine awl_go 1 (by simp <;> rfl) ?_
  refine awl_call1 hfa Try.func13 rfl (by kernel_rfl) rfl rfl rfl rfl (by simp [hpa]) (by simp <;> rfl) ?_
  refine awl_end [1, 2, 7] [] (by simp <;> rfl) ?_
  refine aw_seq (aw_region ?_)   -- law.go:81
  refine awl_go 1 (by simp <;> rfl) ?_
  refine awl_call1 hfb Try.func13 rfl (by kernel_rfl) rfl rfl rfl rfl (by simp [hpb]) (by simp <;> rfl) ?_
  refine awl_end [2, 7, 8] [] (by simp <;> rfl) ?_
  refine aw_step [2, 7, 8, 9] [] (by simp <;> rfl) ?_   -- law.go:82
  refine aw_seq ?_
  refine aw_step [2, 7, 8, 9, 18, 19, 20] [] (by simp <;> rfl) ?_   -- law.go:83
  refine aw_adoptS 9 100 1 3 [2, 7, 8, 9, 18, 19, 20] [100] (by simp <;> rfl) (by simp <;> rfl) ?_
  refine aw_block ?_
  refine aw_loop (fun z : Nat × Nat × Nat => ⟨[(2, .ro 5 lv), (7, .ro 1 xv), (8, .ro 1 yv), (9, .sl 100 z.2.1 1 (nums (comL y (x.take z.1))).length), (18, .ro 1 xv), (19, .int .i64 xv.length), (20, .int .i64 z.1)], [(100, ⟨z.2.1, 1, 3, nums (comL y (x.take z.1))⟩)], z.2.2, 82⟩)
    (fun z => z.1 ≤ x.length) (fun z => x.length - z.1) (0, _, _) (Nat.zero_le _) (AS.le_refl _) ?_
  rintro ⟨k, q, nx⟩ hk
  simp only at hk
  refine aw_step [2, 7, 8, 9, 18, 19, 20, 21] [100] (by simp <;> rfl) ?_   -- law.go:83
  refine aw_seq ?_
  refine aw_cond rfl (fun h1 => aw_skip ?_) (fun h1 => ?_)   -- if t21
  · have hlt : k < x.length := by simp at h1; omega
    have hlt' : k < xv.length := by omega
    have hget := hgx k hlt
    have hw := wrap_succ (k := k) (by omega)
    have hsu := comL_succ y x k hlt
    have hkl : (nums (comL y (x.take k))).length ≤ k := by rw [numsL]; exact Nat.le_trans (List.length_filter_le _ _) (by simp; omega)
    generalize x[k] = h at hget hsu
    have hh := hhas h
    have hnu : nums (comL y (x.take (k + 1))) = nums (comL y (x.take k)) ++ (if decide (h ∈ y) = true then [.int .i64 h] else []) := by
      rw [hsu]; by_cases h0 : h ∈ y <;> simp [nums, h0]
    generalize nums (comL y (x.take k)) = rk at hkl hnu
    have hro : rk.length + 1 ≤ maxLen ∧ (rk.length + 1) * 8 ≤ 140737488355328 := ⟨Nat.le_trans (show rk.length + 1 ≤ 1000 by omega) (by decide), by omega⟩
    generalize decide (h ∈ y) = u at hh hnu
    refine aw_seq ?_
    refine aw_block ?_
    refine aw_step [2, 7, 8, 9, 11, 18, 19, 20] [100] (by simp [hget, hlt'] <;> rfl) ?_   -- law.go:83
    refine aw_seq (aw_region ?_)   -- law.go:84
    refine awl_go 2 (by simp <;> rfl) ?_
    refine awl_call1 hh Try.func21 rfl (by kernel_rfl) rfl rfl rfl rfl (by simp [hpy]) (by simp <;> rfl) ?_
    refine awl_end [2, 7, 8, 9, 11, 18, 19, 20, 26] [100] (by simp <;> rfl) ?_
    refine aw_cond rfl (fun h2 => ?_) (fun h2 => aw_skip ?_)   -- if t26
    · refine aw_one [2, 7, 8, 9, 18, 19, 20] [100] (by simp [hro] <;> rfl) ?_   -- law.go:85
      refine aw_one [2, 7, 8, 9, 18, 19, 20] [100] (by simp [hw] <;> rfl) ?_   -- law.go:83
      rw [if_pos h2] at hnu
      exact ⟨(k + 1, _, _), hlt, by simp only; omega, by simp only [hnu, List.length_append, List.length_cons, List.length_nil]; exact AS.le_refl _⟩
    refine aw_one [2, 7, 8, 9, 18, 19, 20] [100] (by simp [hw] <;> rfl) ?_   -- law.go:83
    rw [if_neg (by rw [h2]; simp), List.append_nil] at hnu
    exact ⟨(k + 1, _, _), hlt, by simp only; omega, by simp only [hnu]; exact AS.le_refl _⟩
  · refine aw_exit ?_
    have hk' : k = x.length := by simp at h1; omega
    subst hk'
    simp only [List.take_length]
    generalize nums (comL y x) = cv at *
    refine aw_seq (aw_region ?_)   -- law.go:88
    refine awl_go 2 (by simp <;> rfl) ?_
    refine awl_call1 hbx Try.func19 rfl (by kernel_rfl) rfl rfl rfl rfl (by simp [hpx, hpl]) (by simp <;> rfl) ?_
    refine awl_end [2, 7, 8, 9, 12] [100] (by simp <;> rfl) ?_
    refine aw_seq ?_
    refine aw_seq (aw_region ?_)   -- law.go:89
    refine awl_go 2 (by simp <;> rfl) ?_
    refine awl_callO1 37 hjxx Try.func22 rfl (by kernel_rfl) rfl rfl rfl rfl (by simp [hpx] <;> rfl) (by simp <;> rfl) ?_
    refine awl_go 1 (by simp <;> rfl) ?_
    refine awl_call1v hbxx Try.func19 rfl (by kernel_rfl) rfl rfl rfl rfl (by simp [hfxx, hpl] <;> rfl) rfl (by simp <;> rfl) ?_
    have hnn : ¬ nx0 < 0 := by omega
    refine awl_go 8 (by simp [hnn] <;> rfl) ?_
    refine awl_gcall (fun hg => hb0) Try.func19 rfl (by kernel_rfl) (by simp <;> rfl) rfl rfl (by simp <;> rfl) (by simp [hpl]) (by simp <;> rfl) ?_
    refine awl_end [2, 7, 8, 9, 12, 50] [100] (by simp <;> rfl) ?_
    refine aw_cond rfl (fun h3 => ?_) (fun h3 => aw_skip ?_)   -- if t50
    · exact absurd h3 (by simp)
    refine aw_seq (aw_region ?_)   -- law.go:92
    refine awl_go 2 (by simp <;> rfl) ?_
    refine awl_callO1 53 hjxy Try.func22 rfl (by kernel_rfl) rfl rfl rfl rfl (by simp [hpx, hpy] <;> rfl) (by simp <;> rfl) ?_
    refine awl_go 1 (by simp <;> rfl) ?_
    refine awl_call1v hbxy Try.func19 rfl (by kernel_rfl) rfl rfl rfl rfl (by simp [hfxy, hpl] <;> rfl) rfl (by simp <;> rfl) ?_
    refine awl_end [2, 7, 8, 9, 12, 13] [100] (by simp <;> rfl) ?_
    refine aw_seq ?_
    refine aw_seq (aw_region ?_)   -- law.go:93
    refine awl_go 3 (by simp <;> rfl) ?_
    refine awl_callO1 59 hjyx Try.func22 rfl (by kernel_rfl) rfl rfl rfl rfl (by simp [hpx, hpy] <;> rfl) (by simp <;> rfl) ?_
    refine awl_go 1 (by simp <;> rfl) ?_
    refine awl_call1v hbyx Try.func19 rfl (by kernel_rfl) rfl rfl rfl rfl (by simp [hfyx, hpl] <;> rfl) rfl (by simp <;> rfl) ?_
    refine awl_end [2, 8, 9, 12, 13, 67] [100] (by simp <;> rfl) ?_
    refine aw_cond rfl (fun h4 => ?_) (fun h4 => aw_skip ?_)   -- if t67
    · exfalso
      simp at h4
      omega
    refine aw_seq (aw_region ?_)   -- law.go:96
    refine awl_go 3 (by simp <;> rfl) ?_
    refine awl_call1 hby Try.func19 rfl (by kernel_rfl) rfl rfl rfl rfl (by simp [hpy, hpl]) (by simp <;> rfl) ?_
    refine awl_go 4 (by simp [hw1] <;> rfl) ?_
    refine awl_call1v hbc Try.func19 rfl (by kernel_rfl) rfl rfl rfl rfl (by simp [hfc, hpl] <;> rfl) rfl (by simp <;> rfl) ?_
    refine awl_go 3 (by simp [hw2] <;> rfl) ?_
    refine awl_gcall (fun hg => awake_ac) Try.func12 rfl (by kernel_rfl) (by simp <;> rfl) rfl rfl (by simp <;> rfl) (by simp) (by simp <;> rfl) ?_
    refine awl_end [6] [] (by simp <;> rfl) ?_
    exact aw_ret (ends_ret (by simp [Try.results5] <;> rfl) rfl)
end Go.Proofs.Ytepkalebaaidcaa
