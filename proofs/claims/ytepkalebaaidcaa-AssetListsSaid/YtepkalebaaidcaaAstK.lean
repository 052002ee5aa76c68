/- Asset: the reference's Missing and Bytes. No condition. -/
import Derived.Test.YtepkalebaaidcaaAstJ
set_option linter.unusedSimpArgs false
set_option linter.unnecessarySimpa false
namespace Go.Proofs.Ytepkalebaaidcaa
open Go.Eng

set_option maxHeartbeats 2000000 in
theorem refMissing_ac (refs : List Int) (l : List As) (day : Int) (hsm : refs.length ≤ 17592186044416) : ACO Try.prog 18 [.ro 1 (nums refs), .ro 5 (l.map As.v), .int .i64 day] 1 3 (fun F es' => (F = fun d q => .sl d q 1 (nums (misF l day refs)).length) ∧ es' = nums (misF l day refs)) := by
  rw [← rM_eq]
  have hgr := fun (k : Nat) (h : k < refs.length) => nthI h
  have hlr := numsL refs
  have hpl := pureAs l
  have hfind := fun id => refFind_ac l id
  have husable := fun s => refUsable_ac s day
  have hfl := flatI (rM l day refs)
  generalize l.map As.v = lv at *
  generalize nums refs = rv at hgr hlr
  refine aco_intro Try.func18 rfl (by show (3 : Nat) ≤ 37; omega) (fun w0 N0 => ?_)
  refine aw_step [0, 1, 2] [] (by simp [Try.ntmps18] <;> rfl) ?_   -- ref.go:71
  refine aw_step [0, 1, 2, 7] [] (by simp <;> rfl) ?_   -- ref.go:72
  refine aw_seq ?_
  refine aw_step [1, 2, 7, 12, 13, 14] [] (by simp <;> rfl) ?_   -- ref.go:73
  refine aw_adoptS 7 100 1 3 [1, 2, 7, 12, 13, 14] [100] (by simp <;> rfl) (by simp <;> rfl) ?_
  refine aw_block ?_
  refine aw_loop (fun z : Nat × Nat × Nat => ⟨[(1, .ro 5 lv), (2, .int .i64 day), (7, .sl 100 z.2.1 1 (nums (rM l day (refs.take z.1))).length), (12, .ro 1 rv), (13, .int .i64 rv.length), (14, .int .i64 z.1)], [(100, ⟨z.2.1, 1, 3, nums (rM l day (refs.take z.1))⟩)], z.2.2, 37⟩)
    (fun z => z.1 ≤ refs.length) (fun z => refs.length - z.1) (0, _, _) (Nat.zero_le _) (AS.le_refl _) ?_
  rintro ⟨k, q, nx⟩ hk
  simp only at hk
  refine aw_step [1, 2, 7, 12, 13, 14, 15] [100] (by simp <;> rfl) ?_   -- ref.go:73
  refine aw_seq ?_
  refine aw_cond rfl (fun h1 => aw_skip ?_) (fun h1 => ?_)   -- if t15
  · have hlt : k < refs.length := by simp at h1; omega
    have hlt' : k < rv.length := by omega
    have hget := hgr k hlt
    have hw := wrap_succ (k := k) (by omega)
    have hsu := rM_succ l day refs k hlt
    have hkl := rM_len l day refs k hk
    generalize refs[k] = id at hget hsu
    generalize rM l day (refs.take k) = m at hsu hkl
    unfold rMs at hsu
    have hins := insert_ac m id (by omega)
    have hpm := pureI m
    have hf := hfind id
    refine aw_seq ?_
    refine aw_block ?_
    refine aw_step [1, 2, 7, 9, 12, 13, 14] [100] (by simp [hget, hlt'] <;> rfl) ?_   -- ref.go:73
    cases hfa' : fA l id with
    | none =>
      have hu : (!usb l day id) = true := by simp [usb, hfa']
      rw [if_pos hu] at hsu
      rw [hfa'] at hf
      simp only [Option.getD_none, Option.isSome_none, zA_v] at hf
      have hus0 := husable zA
      rw [zA_v] at hus0
      refine aw_seq (aw_region ?_)   -- ref.go:74
      refine awl_go 2 (by simp <;> rfl) ?_
      refine awl_call1 hf Try.func15 rfl (by kernel_rfl) rfl rfl rfl rfl (by simp [hpl]) (by simp <;> rfl) ?_
      refine awl_end [1, 2, 7, 9, 10, 11, 12, 13, 14] [10, 100] (by simp <;> rfl) ?_
      refine aw_seq (aw_region ?_)   -- ref.go:75
      refine awl_go 5 (by simp <;> rfl) ?_
      refine awl_gcall (fun hg => hus0) Try.func11 rfl (by kernel_rfl) (by simp <;> rfl) rfl rfl (by simp <;> rfl) (by simp) (by simp <;> rfl) ?_
      refine awl_end [1, 2, 7, 9, 12, 13, 14, 31] [100] (by simp <;> rfl) ?_
      refine aw_cond rfl (fun h2 => ?_) (fun h2 => absurd h2 (by simp))   -- if t31
      refine aw_region ?_   -- ref.go:76
      refine awl_go 2 (by simp <;> rfl) ?_
      refine awl_callO1 100 hins Try.func27 rfl (by kernel_rfl) rfl rfl rfl rfl (by simp [hpm] <;> rfl) (by simp <;> rfl) ?_
      refine awl_end [1, 2, 7, 12, 13, 14] [100] (by simp <;> rfl) ?_
      refine aw_one [1, 2, 7, 12, 13, 14] [100] (by simp [hw] <;> rfl) ?_   -- ref.go:73
      exact ⟨(k + 1, _, _), hlt, by simp only; omega, by simp only [hsu]; exact AS.le_refl _⟩
    | some s =>
      have hu : usb l day id = decide (uA s day = 0) := by simp [usb, hfa']
      rw [hu] at hsu
      have hus0 := husable s
      rw [hfa'] at hf
      simp only [Option.getD_some, Option.isSome_some] at hf
      generalize uA s day = us at *
      obtain ⟨ai, ab, aa, af, au⟩ := s
      simp only [As.v] at hf hus0
      refine aw_seq (aw_region ?_)   -- ref.go:74
      refine awl_go 2 (by simp <;> rfl) ?_
      refine awl_call1 hf Try.func15 rfl (by kernel_rfl) rfl rfl rfl rfl (by simp [hpl]) (by simp <;> rfl) ?_
      refine awl_end [1, 2, 7, 9, 10, 11, 12, 13, 14] [10, 100] (by simp <;> rfl) ?_
      refine aw_seq (aw_region ?_)   -- ref.go:75
      refine awl_go 5 (by simp <;> rfl) ?_
      refine awl_gcall (fun hg => hus0) Try.func11 rfl (by kernel_rfl) (by simp <;> rfl) rfl rfl (by simp <;> rfl) (by simp) (by simp <;> rfl) ?_
      by_cases h0 : us = 0
      · subst h0
        rw [if_neg (by simp)] at hsu
        refine awl_end [1, 2, 7, 9, 12, 13, 14, 31] [100] (by simp <;> rfl) ?_
        refine aw_cond rfl (fun h2 => absurd h2 (by simp)) (fun h2 => aw_skip ?_)   -- if t31
        refine aw_one [1, 2, 7, 12, 13, 14] [100] (by simp [hw] <;> rfl) ?_   -- ref.go:73
        exact ⟨(k + 1, _, _), hlt, by simp only; omega, by simp only [hsu]; exact AS.le_refl _⟩
      · rw [if_pos (by simp [h0])] at hsu
        refine awl_end [1, 2, 7, 9, 12, 13, 14, 31] [100] (by simp [h0] <;> rfl) ?_
        refine aw_cond rfl (fun h2 => ?_) (fun h2 => absurd h2 (by simp))   -- if t31
        refine aw_region ?_   -- ref.go:76
        refine awl_go 2 (by simp <;> rfl) ?_
        refine awl_callO1 100 hins Try.func27 rfl (by kernel_rfl) rfl rfl rfl rfl (by simp [hpm] <;> rfl) (by simp <;> rfl) ?_
        refine awl_end [1, 2, 7, 12, 13, 14] [100] (by simp <;> rfl) ?_
        refine aw_one [1, 2, 7, 12, 13, 14] [100] (by simp [hw] <;> rfl) ?_   -- ref.go:73
        exact ⟨(k + 1, _, _), hlt, by simp only; omega, by simp only [hsu]; exact AS.le_refl _⟩
  · refine aw_exit ?_
    have hk' : k = refs.length := by simp at h1; omega
    subst hk'
    simp only [List.take_length]
    refine aw_step [6] [100] (by simp <;> rfl) ?_   -- ref.go:79
    exact aw_ret (endso_row 100 (by simp <;> rfl) rfl rfl hfl (by simp [Try.results18] <;> rfl) ⟨rfl, rfl⟩)

set_option maxHeartbeats 2000000 in
theorem refBytes_ac (refs : List Int) (l : List As) : AC Try.prog 20 [.ro 1 (nums refs), .ro 5 (l.map As.v)] (fun r => r = .int .i64 (bF l refs)) := by
  have ht1 : (nums refs).take 1024 = nums (refs.take 1024) := by simp [nums, List.map_take]
  have hs1 : refs.length ≤ 1024 → refs.take 1024 = refs := fun h => List.take_of_length_le h
  have ht2 : (l.map As.v).take 1024 = (l.take 1024).map As.v := by simp [List.map_take]
  have hs2 : l.length ≤ 1024 → l.take 1024 = l := fun h => List.take_of_length_le h
  have hl1 := numsL refs
  have hl2 : (l.map As.v).length = l.length := by simp
  have hs3 : l.length ≤ 1024 → (l.take 1024).map As.v = l.map As.v := fun h => by rw [hs2 h]
  unfold bF
  generalize hlv1 : (l.take 1024).map As.v = lv1 at *
  generalize l.map As.v = lv0 at *
  have hR : (refs.take 1024).length ≤ 1024 := by simp; omega
  refine ac_intro Try.func20 rfl (by show (2 : Nat) ≤ 57; omega) (fun w0 N0 => ?_)
  refine aw_step [0, 1] [] (by simp [Try.ntmps20] <;> rfl) ?_   -- ref.go:83
  refine aw_viale ⟨[(0, .ro 1 (nums (refs.take 1024))), (1, .ro 5 lv0)], [], 1000, 57⟩ ?_ ?_
  · refine aw_step [0, 1, 15] [] (by simp <;> rfl) ?_   -- ref.go:84
    refine aw_cond rfl (fun h1 => ?_) (fun h1 => aw_skip ?_)   -- if t15
    · have h40 : (1024 : Int) ≤ ((nums refs).length : Int) := by simp at h1; omega
      refine aw_one [0, 1] [] (by simp [h40, ht1] <;> rfl) ?_   -- ref.go:85
      exact ⟨rfl, le_to [0, 1] [] (by simp <;> rfl) (by simp <;> rfl) rfl (by simp only; omega)⟩
    · rw [hs1 (by simp at h1; omega)]
      exact ⟨rfl, le_to [0, 1] [] (by simp <;> rfl) (by simp <;> rfl) rfl (by simp only; omega)⟩
  refine aw_viale ⟨[(0, .ro 1 (nums (refs.take 1024))), (1, .ro 5 lv1)], [], 2000, 57⟩ ?_ ?_
  · refine aw_step [0, 1, 20] [] (by simp <;> rfl) ?_   -- ref.go:87
    refine aw_cond rfl (fun h1 => ?_) (fun h1 => aw_skip ?_)   -- if t20
    · have h40 : (1024 : Int) ≤ (lv0.length : Int) := by simp at h1; omega
      refine aw_one [0, 1] [] (by simp [h40, ht2] <;> rfl) ?_   -- ref.go:88
      exact ⟨rfl, le_to [0, 1] [] (by simp <;> rfl) (by simp <;> rfl) rfl (by simp only; omega)⟩
    · rw [hs3 (by simp at h1; omega)]
      exact ⟨rfl, le_to [0, 1] [] (by simp <;> rfl) (by simp <;> rfl) rfl (by simp only; omega)⟩
  subst hlv1
  clear ht1 hs1 ht2 hs2 hl1 hl2 hs3
  generalize refs.take 1024 = R at *
  generalize l.take 1024 = L at *
  rw [← onc_sum]
  have hgr := fun (k : Nat) (h : k < R.length) => nthI h
  have hlr := numsL R
  have hpl := pureAs L
  have hfind := fun id => refFind_ac L id
  have hval := fun s => refValid_ac s
  have hby : ∀ a : As, vA a = 0 → 1 ≤ a.by_ ∧ a.by_ ≤ 1048576 := fun a => vA_by
  generalize L.map As.v = lv at *
  generalize nums R = rv at hgr hlr
  refine aw_step [0, 1, 5] [] (by simp <;> rfl) ?_   -- ref.go:90
  refine aw_seq ?_
  refine aw_step [1, 5, 23, 24, 25] [] (by simp <;> rfl) ?_   -- ref.go:91
  refine aw_adoptS 5 100 1 3 [1, 5, 23, 24, 25] [100] (by simp <;> rfl) (by simp <;> rfl) ?_
  refine aw_block ?_
  refine aw_loop (fun z : Nat × Nat × Nat => ⟨[(1, .ro 5 lv), (5, .sl 100 z.2.1 1 (nums (onc (R.take z.1))).length), (23, .ro 1 rv), (24, .int .i64 rv.length), (25, .int .i64 z.1)], [(100, ⟨z.2.1, 1, 3, nums (onc (R.take z.1))⟩)], z.2.2, 57⟩)
    (fun z => z.1 ≤ R.length) (fun z => R.length - z.1) (0, _, _) (Nat.zero_le _) (AS.le_refl _) ?_
  rintro ⟨k, q, nx⟩ hk
  simp only at hk
  refine aw_step [1, 5, 23, 24, 25, 26] [100] (by simp <;> rfl) ?_   -- ref.go:91
  refine aw_seq ?_
  refine aw_cond rfl (fun h3 => aw_skip ?_) (fun h3 => ?_)   -- if t26
  · have hlt : k < R.length := by simp at h3; omega
    have hlt' : k < rv.length := by omega
    have hget := hgr k hlt
    have hw := wrap_succ (k := k) (by omega)
    have hsu := onc_succ R k hlt
    have hkl := (onc_spec R k hk).2.2
    generalize R[k] = id at hget hsu
    generalize onc (R.take k) = m at hsu hkl
    have hins := insert_ac m id (by omega)
    have hpm := pureI m
    refine aw_seq ?_
    refine aw_block ?_
    refine aw_step [1, 5, 7, 23, 24, 25] [100] (by simp [hget, hlt'] <;> rfl) ?_   -- ref.go:91
    refine aw_region ?_   -- ref.go:92
    refine awl_go 2 (by simp <;> rfl) ?_
    refine awl_callO1 100 hins Try.func27 rfl (by kernel_rfl) rfl rfl rfl rfl (by simp [hpm] <;> rfl) (by simp <;> rfl) ?_
    refine awl_end [1, 5, 23, 24, 25] [100] (by simp <;> rfl) ?_
    refine aw_one [1, 5, 23, 24, 25] [100] (by simp [hw] <;> rfl) ?_   -- ref.go:91
    exact ⟨(k + 1, _, _), hlt, by simp only; omega, by simp only [hsu]; exact AS.le_refl _⟩
  · refine aw_exit ?_
    have hk' : k = R.length := by simp at h3; omega
    subst hk'
    have hol := (onc_spec R R.length (Nat.le_refl _)).2.2
    simp only [List.take_length] at hol ⊢
    have hgo := fun (k : Nat) (h : k < (onc R).length) => nthI h
    have hlo := numsL (onc R)
    have hpo := pureI (onc R)
    have hsum := fun k h => sumF_succ (wt L) (onc R) k h
    have hbd := fun k h => sumF_bound L (onc R) k h
    have hfin : sumF (wt L) ((onc R).take (onc R).length) = sumF (wt L) (onc R) := by rw [List.take_length]
    generalize nums (onc R) = ov at *
    generalize onc R = O at *
    refine aw_freeze 100 [1, 5] [] (by simp [hpo] <;> rfl) ?_
    refine aw_step [1, 5, 8] [] (by simp <;> rfl) ?_   -- ref.go:94
    refine aw_seq ?_
    refine aw_step [1, 8, 33, 34, 35] [] (by simp <;> rfl) ?_   -- ref.go:95
    refine aw_block ?_
    refine aw_count (fun k nx => ⟨[(1, .ro 5 lv), (8, .int .i64 (sumF (wt L) (O.take k))), (33, .ro 1 ov), (34, .int .i64 ov.length), (35, .int .i64 k)], [], nx, 57⟩) (fun k => True) O.length _ trivial (AS.le_refl _) ?_
    clear hk h3 nx
    intro k nx hk _
    refine aw_step [1, 8, 33, 34, 35, 36] [] (by simp <;> rfl) ?_   -- ref.go:95
    refine aw_seq ?_
    refine aw_cond rfl (fun h4 => aw_skip ?_) (fun h4 => ?_)   -- if t36
    · have hlt : k < O.length := by simp at h4; omega
      have hlt' : k < ov.length := by omega
      have hget := hgo k hlt
      have hw := wrap_succ (k := k) (by omega)
      have hsu := hsum k hlt
      have hle := hbd k hk
      generalize O[k] = h at *
      have hf := hfind h
      have hwt : wt L h = match fA L h with | some a => if vA a = 0 then a.by_ else 0 | none => 0 := rfl
      generalize sumF (wt L) (O.take k) = t at *
      generalize wt L h = wth at hsu hwt
      generalize fA L h = fa at hf hwt
      have hz : ∃ x, fa.getD zA = x := ⟨_, rfl⟩
      obtain ⟨a, hz1⟩ := hz
      rw [hz1] at hf
      have hva := hval a
      have hbya := hby a
      have hwt' : wth = if (fa.isSome && decide (vA a = 0)) = true then a.by_ else 0 := by
        rw [hwt]
        cases fa with
        | none => rfl
        | some a' => simp at hz1; subst hz1; simp
      generalize fa.isSome = ok at hf hwt'
      generalize vA a = va at hva hbya hwt'
      obtain ⟨ai, ab, aa, af, au⟩ := a
      simp only [As.v] at hf hva hbya hwt'
      refine aw_seq ?_
      refine aw_block ?_
      refine aw_step [1, 8, 10, 33, 34, 35] [] (by simp [hget, hlt'] <;> rfl) ?_   -- ref.go:95
      refine aw_seq (aw_region ?_)   -- ref.go:96
      refine awl_go 2 (by simp <;> rfl) ?_
      refine awl_call1 hf Try.func15 rfl (by kernel_rfl) rfl rfl rfl rfl (by simp [hpl]) (by simp <;> rfl) ?_
      refine awl_end [1, 8, 11, 12, 33, 34, 35] [11] (by simp <;> rfl) ?_
      refine aw_seq (aw_region ?_)   -- ref.go:97
      refine awl_go 3 (by simp <;> rfl) ?_
      refine awl_gcall (fun hg => hva) Try.func9 rfl (by kernel_rfl) (by simp <;> rfl) rfl rfl (by simp <;> rfl) (by simp) (by simp <;> rfl) ?_
      refine awl_end [1, 8, 11, 33, 34, 35, 50] [11] (by simp <;> rfl) ?_
      refine aw_cond rfl (fun h5 => ?_) (fun h5 => aw_skip ?_)   -- if t50
      · have hc : (ok && decide (va = 0)) = true := by
          cases ok <;> simpa using h5
        rw [if_pos hc] at hwt'
        have hb2 := hbya (by simp at hc; exact hc.2)
        have hw2 : IntKind.i64.wrap (t + ab) = t + ab := wrap_in (by omega) (by omega)
        refine aw_one [1, 8, 33, 34, 35] [] (by simp [hw2] <;> rfl) ?_   -- ref.go:98
        refine aw_one [1, 8, 33, 34, 35] [] (by simp [hw] <;> rfl) ?_   -- ref.go:95
        exact ⟨hlt, trivial, _, by rw [hsu, hwt']; exact AS.le_refl _⟩
      have hc : ¬ (ok && decide (va = 0)) = true := by
        cases ok <;> simpa using h5
      rw [if_neg hc] at hwt'
      refine aw_one [1, 8, 33, 34, 35] [] (by simp [hw] <;> rfl) ?_   -- ref.go:95
      exact ⟨hlt, trivial, _, by rw [hsu, hwt', Int.add_zero]; exact AS.le_refl _⟩
    · refine aw_exit ?_
      have hk' : k = O.length := by simp at h4; omega
      subst hk'
      rw [hfin]
      refine aw_step [4] [] (by simp <;> rfl) ?_   -- ref.go:101
      exact aw_ret (ends_ret (by simp [Try.results20] <;> rfl) rfl)
end Go.Proofs.Ytepkalebaaidcaa
