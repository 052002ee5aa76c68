import Derived.Test.YtmkbhognijicjaaGreatDoorGN
/- Journals: both Events. No condition. -/
set_option linter.unusedSimpArgs false
set_option maxRecDepth 4000
namespace Go.Proofs.YtmkbhognijicjaaGreatDoor
open Go.Eng

theorem evL_bad {ns : List Nd} {k : Nat} {acc : List Ev} (hk : k < ns.length) (_hacc : acc.length = k) (h : acc ++ (evL (ns.drop k)).1 = (evL ns).1 ∧ (evL (ns.drop k)).2 = (evL ns).2) (hd : decB (gP ns[k]) ns[k] = true) :
    (evL ns).1 = acc ∧ (evL ns).2 = false := by
  rw [List.drop_eq_getElem_cons hk, evL, if_pos hd] at h
  exact ⟨by rw [← h.1]; simp, h.2.symm⟩
theorem evL_good {ns : List Nd} {k : Nat} {acc : List Ev} (hk : k < ns.length) (h : acc ++ (evL (ns.drop k)).1 = (evL ns).1 ∧ (evL (ns.drop k)).2 = (evL ns).2) (hd : decB (gP ns[k]) ns[k] = false) :
    (acc ++ [gP ns[k]]) ++ (evL (ns.drop (k + 1))).1 = (evL ns).1 ∧ (evL (ns.drop (k + 1))).2 = (evL ns).2 := by
  rw [List.drop_eq_getElem_cons hk, evL, if_neg (by rw [hd]; simp)] at h
  exact ⟨by rw [← h.1]; simp, h.2⟩
theorem evL_all {ns : List Nd} {acc : List Ev} (h : acc ++ (evL (ns.drop ns.length)).1 = (evL ns).1 ∧ (evL (ns.drop ns.length)).2 = (evL ns).2) : (evL ns).1 = acc ∧ (evL ns).2 = true := by
  rw [List.drop_length, evL] at h
  exact ⟨by rw [← h.1]; simp, h.2.symm⟩

set_option maxHeartbeats 4000000 in
theorem events_acg (l : List UInt8) (hlen : l.length ≤ 2 ^ 40) : ACG 0 errT Tryz.prog 7 [.ro 1 (bys l)] (fun r => r = evV (evR l)) := by
  have hrd := read_acg l hlen
  have hrun : ∃ s, Run l (rdJ0 l).2.1 s (rdJ0 l).1 := by rw [rdK0_rdJ]; exact ⟨_, rdK0_run l⟩
  obtain ⟨s0, hrun⟩ := hrun
  obtain ⟨hc1, hc2, hc3⟩ := hrun.canon
  have h300 := hrun.le.2
  have hle := hrun.le.1
  have hp := bys_pure l
  have hnth := fun (k : Nat) (h : k < (rdJ0 l).1.length) => nthN h
  have hnl : ((rdJ0 l).1.map Nd.v).length = (rdJ0 l).1.length := by simp
  have hlg := fun (n : Nat) (hn : n ≤ (rdJ0 l).1.length) => length_ac l hlen n (by omega) (fun k => szs ((rdJ0 l).1.take k)) (by simp [szs]) (fun k hk => by
    obtain ⟨g1, g2⟩ := hc3 k (by omega)
    refine ⟨by omega, ?_, ?_⟩
    · rw [g2, szs_take (by omega)]
    · rw [g2]; exact (hc2 _ (List.getElem_mem (by omega))).2)
  have hdec := fun (k : Nat) (h : k < (rdJ0 l).1.length) => evDecode_ac (rdJ0 l).1[k]
  have hpn := pureNd (rdJ0 l).1
  unfold jV at hrd
  generalize hev : evR l = er
  unfold evR at hev
  generalize (rdJ0 l).2.2 = cd at *
  generalize (rdJ0 l).2.1 = at_ at *
  generalize (rdJ0 l).1 = ns at *
  generalize ns.map Nd.v = nv at *
  generalize bys l = lv at *
  refine acg_intro Tryz.func7 rfl (by show (1 : Nat) ≤ 45; omega) (fun w0 N0 hG => ?_)
  refine aw_step [0] [] (by simp [Tryz.ntmps7] <;> rfl) ?_   -- resume.go:129
  refine aw_seq (aw_region ?_)   -- resume.go:130
  refine awl_go 1 (by simp <;> rfl) ?_
  refine awl_call1G hG hrd Tryz.func16 rfl (by kernel_rfl) rfl rfl rfl rfl (by simp [hp]) (by simp <;> rfl) ?_
  refine awl_end [0, 5, 6, 7] [] (by simp <;> rfl) ?_
  refine aw_step [0, 5, 6, 7, 8] [] (by simp <;> rfl) ?_   -- resume.go:131
  refine aw_adoptS 8 100 11 29 [0, 5, 6, 7, 8] [100] (by simp <;> rfl) (by simp <;> rfl) ?_
  refine aw_seq ?_
  refine aw_step [0, 6, 7, 8, 19, 20, 21] [100] (by simp <;> rfl) ?_   -- resume.go:132
  refine aw_block ?_
  refine aw_loop (fun p : Nat × List Ev × Nat × Nat => ⟨[(0, .ro 1 lv), (6, .int .i64 at_), (7, .int .i64 cd), (8, .sl 100 p.2.2.1 11 (p.2.1.map Ev.v).length), (19, .ro 5 nv), (20, .int .i64 nv.length), (21, .int .i64 p.1)], [(100, ⟨p.2.2.1, 11, 29, p.2.1.map Ev.v⟩)], p.2.2.2, 45⟩)
    (fun p => p.1 ≤ ns.length ∧ p.2.1.length = p.1 ∧ (p.2.1 ++ (evL (ns.drop p.1)).1 = (evL ns).1 ∧ (evL (ns.drop p.1)).2 = (evL ns).2)) (fun p => ns.length - p.1) (0, [], _, _) ⟨Nat.zero_le _, rfl, by simp⟩ (by simp; exact AS.le_refl _) ?_
  rintro ⟨k, acc, vr, nx⟩ ⟨hk, hacc, hI⟩
  simp only at hk hacc hI
  have hpacc := pureEv acc
  have hal : (acc.map Ev.v).length = k := by simpa using hacc
  simp only
  generalize hav : acc.map Ev.v = av at hpacc hal
  refine aw_step [0, 6, 7, 8, 19, 20, 21, 22] [100] (by simp <;> rfl) ?_   -- resume.go:132
  refine aw_seq ?_
  refine aw_cond rfl (fun h1 => aw_skip ?_) (fun h1 => ?_)   -- if t22
  · have hlt : k < ns.length := by simp at h1; omega
    have hlt' : k < nv.length := by omega
    have ga := hnth k hlt
    have hd := hdec k hlt
    have hwk := wrap_succ (k := k) (by omega)
    have hbad := fun h => evL_bad hlt hacc hI h
    have hgood := fun h => evL_good hlt hI h
    have hb1 : k + 1 ≤ maxLen := by simp [maxLen]; omega
    have hb2 : (k + 1) * 112 ≤ 140737488355328 := by omega
    have hpx := Nd.v_pure ns[k]
    rw [decV] at hd
    generalize hdb : decB (gP ns[k]) ns[k] = db at hd hbad hgood
    generalize hgx : gP ns[k] = g at hd hgood
    rcases hxx : ns[k] with ⟨xt, xk, xn, xs, xks⟩
    rw [hxx] at ga hd hpx
    rw [Nd.v] at ga hd hpx
    have hpk := pureNd xks
    generalize xks.map Nd.v = xkv at ga hd hpx hpk
    refine aw_seq ?_
    refine aw_block ?_
    refine aw_step [0, 6, 7, 8, 9, 10, 19, 20, 21] [10, 100] (by simp [ga, hlt'] <;> rfl) ?_   -- resume.go:132
    refine aw_seq (aw_region ?_)   -- resume.go:133
    refine awl_go 1 (by simp <;> rfl) ?_
    cases db with
    | true =>
      obtain ⟨hb1', hb2'⟩ := hbad rfl
      rw [if_pos rfl, zE_v] at hd
      have hlg' := hlg k hk
      refine awl_call1 hd Tryz.func17 rfl (by kernel_rfl) rfl rfl rfl rfl (by simp) (by simp <;> rfl) ?_
      refine awl_end [0, 6, 7, 8, 9, 11, 12, 19, 20, 21] [11, 100] (by simp <;> rfl) ?_
      refine aw_seq ?_
      refine aw_step [0, 6, 7, 8, 9, 11, 19, 20, 21, 32] [11, 100] (by simp <;> rfl) ?_   -- resume.go:134
      refine aw_cond rfl (fun h2 => ?_) (fun h2 => by simp at h2)   -- if t32
      refine aw_freeze 100 [0, 8, 9] [] (by simp [hpacc] <;> rfl) ?_
      refine aw_seq (aw_region ?_)   -- resume.go:135
      refine awl_go 3 (by simp <;> rfl) ?_
      refine awl_call1 hlg' Tryz.func18 rfl (by kernel_rfl) rfl rfl rfl rfl (by simp [hp]) (by simp <;> rfl) ?_
      refine awl_end [2, 3, 4] [] (by simp <;> rfl) ?_
      refine aw_ret (ends_ret (by simp [Tryz.results7, hpacc] <;> rfl) ?_)
      rw [← hev, hb2', hb1', if_neg (by simp), evV]
      simp [hav, hacc]
    | false =>
      have hg2 := hgood rfl
      rw [if_neg (by simp)] at hd
      have hgv : g.v = .agg [.int .i64 g.kind, .int .i64 g.time, .int .i64 g.item, .ro 1 (nums g.ch), .int .i64 g.value, .str g.text, .bool g.om, .int .i64 g.ik, .int .i64 g.it, .int .i64 g.il, .int .i64 g.ig] := rfl
      rw [hgv] at hd
      have hpc := pureI g.ch
      generalize hcv : nums g.ch = cv at hd hpc hgv
      refine awl_call1 hd Tryz.func17 rfl (by kernel_rfl) rfl rfl rfl rfl (by simp) (by simp <;> rfl) ?_
      refine awl_end [0, 6, 7, 8, 9, 11, 12, 19, 20, 21] [11, 100] (by simp <;> rfl) ?_
      refine aw_seq ?_
      refine aw_step [0, 6, 7, 8, 9, 11, 19, 20, 21, 32] [11, 100] (by simp <;> rfl) ?_   -- resume.go:134
      refine aw_cond rfl (fun h2 => by simp at h2) (fun h2 => aw_skip ?_)   -- if t32
      refine aw_one [0, 6, 7, 8, 19, 20, 21] [100] (by simp [hal, hb1, hb2] <;> rfl) ?_   -- resume.go:137
      refine aw_one [0, 6, 7, 8, 19, 20, 21] [100] (by simp [hwk] <;> rfl) ?_   -- resume.go:132
      refine ⟨(k + 1, acc ++ [g], nx + 1 + 6 + 8 + 2 + 3, nx + 1 + 6 + 8 + 2 + 5 + 2), ⟨hlt, by simp [hacc], hg2⟩, by simp only; omega, ?_⟩
      have hcc : ((k + 1 : Nat) : Int) = (k : Int) + 1 := by omega
      simp only [hcc, List.map_append, hav, List.map_cons, List.map_nil, hgv, List.length_append, List.length_cons, List.length_nil, hal]
      exact AS.le_refl _
  · have hkl : k = ns.length := by simp at h1; omega
    subst hkl
    obtain ⟨g1, g2⟩ := evL_all hI
    refine aw_exit ?_
    refine aw_freeze 100 [6, 7, 8] [] (by simp [hpacc] <;> rfl) ?_
    refine aw_step [2, 3, 4] [] (by simp <;> rfl) ?_   -- resume.go:139
    refine aw_ret (ends_ret (by simp [Tryz.results7, hpacc] <;> rfl) ?_)
    rw [← hev, g2, g1, if_pos rfl, evV]
    simp [hav]

set_option maxHeartbeats 4000000 in
theorem refEvents_ac (l : List UInt8) (hlen : l.length ≤ 2 ^ 40) : AC Tryz.prog 8 [.ro 1 (bys l)] (fun r => r = evV (evR l)) := by
  have hrd := read19_form l hlen
  have hrun : ∃ s, Run l (rdJ0 l).2.1 s (rdJ0 l).1 := by rw [rdK0_rdJ]; exact ⟨_, rdK0_run l⟩
  obtain ⟨s0, hrun⟩ := hrun
  obtain ⟨hc1, hc2, hc3⟩ := hrun.canon
  have h300 := hrun.le.2
  have hle := hrun.le.1
  have hp := bys_pure l
  have hnth := fun (k : Nat) (h : k < (rdJ0 l).1.length) => nthN h
  have hnl : ((rdJ0 l).1.map Nd.v).length = (rdJ0 l).1.length := by simp
  have hsz := fun (k : Nat) (h : k < (rdJ0 l).1.length) => refSize_ac (rdJ0 l).1[k] (hc2 _ (List.getElem_mem h)).1 (hc2 _ (List.getElem_mem h)).2
  have hdec := fun (k : Nat) (h : k < (rdJ0 l).1.length) => refDecode_ac (rdJ0 l).1[k] (fun y hy => by
    have hf := (hc2 _ (List.getElem_mem h)).1
    rcases hx : (rdJ0 l).1[k] with ⟨t, k', n, s, ks⟩
    rw [hx, Fit] at hf
    rw [hx, kids_mk] at hy
    have hfy := hf.2.2.2.2 y hy
    rcases y with ⟨t2, k2, n2, s2, ks2⟩
    rw [Fit] at hfy
    rw [kids_mk]
    rcases hfy.2.2.2.1 with h | h | h
    · rw [h.2.2]; simp
    · rw [h.2.2.1]; simp
    · exact h.2.2.2)
  have hpn := pureNd (rdJ0 l).1
  unfold jV at hrd
  generalize hev : evR l = er
  unfold evR at hev
  generalize (rdJ0 l).2.2 = cd at *
  generalize (rdJ0 l).2.1 = at_ at *
  generalize (rdJ0 l).1 = ns at *
  generalize ns.map Nd.v = nv at *
  generalize bys l = lv at *
  refine ac_intro Tryz.func8 rfl (by show (1 : Nat) ≤ 51; omega) (fun w0 N0 => ?_)
  refine aw_step [0] [] (by simp [Tryz.ntmps8] <;> rfl) ?_   -- ref.go:107
  refine aw_seq (aw_region ?_)   -- ref.go:108
  refine awl_go 1 (by simp <;> rfl) ?_
  refine awl_call1 hrd Tryz.func19 rfl (by kernel_rfl) rfl rfl rfl rfl (by simp [hp]) (by simp <;> rfl) ?_
  refine awl_end [5, 7] [] (by simp <;> rfl) ?_
  refine aw_step [5, 7, 8] [] (by simp <;> rfl) ?_   -- ref.go:109
  refine aw_adoptS 8 100 11 29 [5, 7, 8] [100] (by simp <;> rfl) (by simp <;> rfl) ?_
  refine aw_step [5, 7, 8, 9] [100] (by simp <;> rfl) ?_   -- ref.go:110
  refine aw_seq ?_
  refine aw_step [5, 7, 8, 9, 10] [100] (by simp <;> rfl) ?_   -- ref.go:111
  refine aw_block ?_
  refine aw_loop (fun p : Nat × List Ev × Nat × Nat × Nat => ⟨[(5, .ro 5 nv), (7, .int .i64 cd), (8, .sl 100 p.2.2.2.1 11 (p.2.1.map Ev.v).length), (9, .int .i64 p.2.2.1), (10, .int .i64 p.1)], [(100, ⟨p.2.2.2.1, 11, 29, p.2.1.map Ev.v⟩)], p.2.2.2.2, 51⟩)
    (fun p => p.1 ≤ ns.length ∧ p.2.1.length = p.1 ∧ p.2.2.1 = szs (ns.take p.1) ∧ (p.2.1 ++ (evL (ns.drop p.1)).1 = (evL ns).1 ∧ (evL (ns.drop p.1)).2 = (evL ns).2)) (fun p => ns.length - p.1) (0, [], 0, _, _) ⟨Nat.zero_le _, rfl, by simp [szs], by simp⟩ (by simp; exact AS.le_refl _) ?_
  rintro ⟨k, acc, sz, vr, nx⟩ ⟨hk, hacc, hszk, hI⟩
  simp only at hk hacc hszk hI
  have hpacc := pureEv acc
  have hal : (acc.map Ev.v).length = k := by simpa using hacc
  simp only
  generalize hav : acc.map Ev.v = av at hpacc hal
  refine aw_seq ?_
  refine aw_step [5, 7, 8, 9, 10, 22] [100] (by simp <;> rfl) ?_   -- ref.go:111
  refine aw_cond rfl (fun h1 => aw_skip ?_) (fun h1 => ?_)   -- if t22
  · have hlt : k < ns.length := by simp at h1; omega
    have hlt' : k < nv.length := by omega
    have ga := hnth k hlt
    have hd := hdec k hlt
    have hs := hsz k hlt
    have hst := szs_take hlt
    obtain ⟨q1, _⟩ := hc3 k hlt
    rw [← dec_same] at hd
    have hwk := wrap_succ (k := k) (by omega)
    have hbad := fun h => evL_bad hlt hacc hI h
    have hgood := fun h => evL_good hlt hI h
    have hb1 : k + 1 ≤ maxLen := by simp [maxLen]; omega
    have hb2 : (k + 1) * 112 ≤ 140737488355328 := by omega
    have hpx := Nd.v_pure ns[k]
    rw [decV] at hd
    rw [← hszk] at hst q1
    generalize hdb : decB (gP ns[k]) ns[k] = db at hd hbad hgood
    generalize hgx : gP ns[k] = g at hd hgood
    have hsx : sz + (12 + (byN ns[k]).length) ≤ l.length := by omega
    generalize 12 + (byN ns[k]).length = sx at hs hst hsx
    obtain ⟨sw, hsw, hsw'⟩ : ∃ sw : Int, IntKind.i64.wrap ((sz : Int) + sx) = sw ∧ sw = ((sz + sx : Nat) : Int) := ⟨_, rfl, by rw [wrap_in (by omega) (by omega)]; omega⟩
    rcases hxx : ns[k] with ⟨xt, xk, xn, xs, xks⟩
    rw [hxx] at ga hd hpx hs
    rw [Nd.v] at ga hd hpx hs
    have hpk := pureNd xks
    generalize xks.map Nd.v = xkv at ga hd hpx hpk hs
    refine aw_seq ?_
    refine aw_block ?_
    refine aw_seq (aw_region ?_)   -- ref.go:112
    refine awl_go 4 (by simp [ga, hlt'] <;> rfl) ?_
    cases db with
    | true =>
      obtain ⟨hb1', hb2'⟩ := hbad rfl
      rw [if_pos rfl, zE_v] at hd
      refine awl_call1 hd Tryz.func20 rfl (by kernel_rfl) rfl rfl rfl rfl (by simp [hpk]) (by simp <;> rfl) ?_
      refine awl_end [5, 7, 8, 9, 10, 11, 12] [11, 100] (by simp <;> rfl) ?_
      refine aw_seq ?_
      refine aw_step [5, 7, 8, 9, 10, 11, 34] [11, 100] (by simp <;> rfl) ?_   -- ref.go:113
      refine aw_cond rfl (fun h2 => ?_) (fun h2 => by simp at h2)   -- if t34
      refine aw_freeze 100 [8, 9] [] (by simp [hpacc] <;> rfl) ?_
      refine aw_step [2, 3, 4] [] (by simp <;> rfl) ?_   -- ref.go:114
      refine aw_ret (ends_ret (by simp [Tryz.results8, hpacc] <;> rfl) ?_)
      rw [← hev, hb2', hb1', if_neg (by simp), evV]
      simp [hav, hacc, hszk]
    | false =>
      have hg2 := hgood rfl
      rw [if_neg (by simp)] at hd
      have hgv : g.v = .agg [.int .i64 g.kind, .int .i64 g.time, .int .i64 g.item, .ro 1 (nums g.ch), .int .i64 g.value, .str g.text, .bool g.om, .int .i64 g.ik, .int .i64 g.it, .int .i64 g.il, .int .i64 g.ig] := rfl
      rw [hgv] at hd
      have hpc := pureI g.ch
      generalize hcv : nums g.ch = cv at hd hpc hgv
      refine awl_call1 hd Tryz.func20 rfl (by kernel_rfl) rfl rfl rfl rfl (by simp [hpk]) (by simp <;> rfl) ?_
      refine awl_end [5, 7, 8, 9, 10, 11, 12] [11, 100] (by simp <;> rfl) ?_
      refine aw_seq ?_
      refine aw_step [5, 7, 8, 9, 10, 11, 34] [11, 100] (by simp <;> rfl) ?_   -- ref.go:113
      refine aw_cond rfl (fun h2 => by simp at h2) (fun h2 => aw_skip ?_)   -- if t34
      refine aw_step [5, 7, 8, 9, 10] [100] (by simp [hal, hb1, hb2] <;> rfl) ?_   -- ref.go:116
      refine aw_region ?_   -- ref.go:117
      refine awl_go 5 (by simp [ga, hlt'] <;> rfl) ?_
      refine awl_call1 hs Tryz.func21 rfl (by kernel_rfl) rfl rfl rfl rfl (by simp [hpk]) (by simp <;> rfl) ?_
      refine awl_end [5, 7, 8, 9, 10] [100] (by simp [hsw] <;> rfl) ?_
      refine aw_one [5, 7, 8, 9, 10] [100] (by simp [hwk] <;> rfl) ?_   -- ref.go:111
      refine ⟨(k + 1, acc ++ [g], sz + sx, nx + 4 + 11 + 2 + 3, nx + 4 + 11 + 2 + 5 + 8 + 3), ⟨hlt, by simp [hacc], hst.symm, hg2⟩, by simp only; omega, ?_⟩
      have hcc : ((k + 1 : Nat) : Int) = (k : Int) + 1 := by omega
      simp only [hcc, hsw', List.map_append, hav, List.map_cons, List.map_nil, hgv, List.length_append, List.length_cons, List.length_nil, hal]
      exact AS.le_refl _
  · have hkl : k = ns.length := by simp at h1; omega
    subst hkl
    obtain ⟨g1, g2⟩ := evL_all hI
    rw [List.take_length, ← hc1] at hszk
    refine aw_exit ?_
    refine aw_freeze 100 [7, 8, 9] [] (by simp [hpacc] <;> rfl) ?_
    refine aw_step [2, 3, 4] [] (by simp <;> rfl) ?_   -- ref.go:119
    refine aw_ret (ends_ret (by simp [Tryz.results8, hpacc] <;> rfl) ?_)
    rw [← hev, g2, g1, if_pos rfl, evV]
    simp [hav, hszk]

set_option maxHeartbeats 2000000 in
theorem lawEvents_ac (a b : List Ev) : AC Tryz.prog 9 [.ro 11 (a.map Ev.v), .ro 11 (b.map Ev.v)] (fun r => r = .bool (decide (a = b))) := by
  refine ac_lenR 0 rfl (fun hmax => ?_)
  unfold maxLen at hmax
  have hla : (a.map Ev.v).length = a.length := by simp
  have hlb : (b.map Ev.v).length = b.length := by simp
  have hna : ∀ k (h : k < a.length), nth (a.map Ev.v) k = some a[k].v := fun k h => by rw [nth_eq]; simp [h]
  have hnb : ∀ k (h : k < b.length), nth (b.map Ev.v) k = some b[k].v := fun k h => by rw [nth_eq]; simp [h]
  have hsm := fun (k : Nat) (h : k < a.length) (h' : k < b.length) => same_ac a[k] b[k]
  generalize a.map Ev.v = av at hla hna hmax
  generalize b.map Ev.v = bv at hlb hnb
  refine ac_intro Tryz.func9 rfl (by show (2 : Nat) ≤ 27; omega) (fun w0 N0 => ?_)
  refine aw_step [0, 1] [] (by simp [Tryz.ntmps9] <;> rfl) ?_   -- law.go:37
  refine aw_seq ?_
  refine aw_step [0, 1, 10] [] (by simp <;> rfl) ?_   -- law.go:38
  refine aw_cond rfl (fun h1 => ?_) (fun h1 => aw_skip ?_)   -- if t10
  · have h1' : ¬ a = b := by rintro rfl; simp at h1; omega
    refine aw_step [4] [] (by simp <;> rfl) ?_   -- law.go:39
    exact aw_ret (ends_ret (by simp [Tryz.results9] <;> rfl) (by simp [h1']))
  have h1' : a.length = b.length := by simp at h1; omega
  refine aw_seq ?_
  refine aw_step [0, 1, 5] [] (by simp <;> rfl) ?_   -- law.go:41
  refine aw_block ?_
  refine aw_count (fun k nx => ⟨[(0, .ro 11 av), (1, .ro 11 bv), (5, .int .i64 k)], [], nx, 27⟩) (fun k => a.take k = b.take k) a.length _ rfl (AS.le_refl _) ?_
  intro k nx hk hI
  refine aw_seq ?_
  refine aw_step [0, 1, 5, 14] [] (by simp <;> rfl) ?_   -- law.go:41
  refine aw_cond rfl (fun h2 => aw_skip ?_) (fun h2 => ?_)   -- if t14
  · have hka : k < a.length := by simp at h2; omega
    have hkb : k < b.length := by omega
    have ha := hna k hka
    have hb := hnb k hkb
    have hs := hsm k hka hkb
    have hwk : IntKind.i64.wrap ((k : Int) + 1) = ((k + 1 : Nat) : Int) := by rw [wrap_in (by omega) (by omega)]; omega
    have hka' : k < av.length := by omega
    have hkb' : k < bv.length := by omega
    have hta := List.take_succ_eq_append_getElem (l := a) (i := k) hka
    have htb := List.take_succ_eq_append_getElem (l := b) (i := k) hkb
    have hne : a[k] ≠ b[k] → ¬ a = b := by rintro h rfl; exact h rfl
    generalize a[k] = x at *
    generalize b[k] = y at *
    have hpx := pureI x.ch
    have hpy := pureI y.ch
    unfold Ev.v at ha hb hs
    generalize nums x.ch = xv at *
    generalize nums y.ch = yv at *
    refine aw_seq ?_
    refine aw_block ?_
    refine aw_seq (aw_draw [(0, []), (1, []), (2, []), (4, []), (5, []), (6, []), (3, []), (7, []), (8, []), (9, [])] hmix (by kernel_rfl) ?_)   -- law.go:42
    refine awo_go 8 (by simp [ha, hb, hka', hkb'] <;> rfl) ?_
    refine awo_call (fun hg => hs) Tryz.func22 rfl (by kernel_rfl) rfl rfl (by simp <;> rfl) rfl rfl (by simp <;> rfl) (by simp [hpx, hpy]) (by simp <;> rfl) ?_
    refine awo_end [0, 1, 5, 26] [] (by simp <;> rfl) ?_
    refine aw_cond rfl (fun h3 => ?_) (fun h3 => aw_skip ?_)   -- if t26
    · have h3' : ¬ a = b := hne (by simpa using h3)
      refine aw_step [4] [] (by simp <;> rfl) ?_   -- law.go:43
      exact aw_ret (ends_ret (by simp [Tryz.results9] <;> rfl) (by simp [h3']))
    have h3' : x = y := by simpa using h3
    refine aw_one [0, 1, 5] [] (by simp [hwk] <;> rfl) ?_   -- law.go:41
    exact ⟨hka, by rw [hta, htb, hI, h3'], _, AS.le_refl _⟩
  · have hke : k = a.length := by simp at h2; omega
    have hab : a = b := by
      subst hke
      rw [List.take_length, h1', List.take_length] at hI
      exact hI
    refine aw_exit ?_
    refine aw_step [4] [] (by simp <;> rfl) ?_   -- law.go:46
    exact aw_ret (ends_ret (by simp [Tryz.results9] <;> rfl) (by simp [hab]))
end Go.Proofs.YtmkbhognijicjaaGreatDoor

/- Journals: the law's contract. No condition. -/
set_option linter.unusedSimpArgs false
set_option maxRecDepth 4000
namespace Go.Proofs.YtmkbhognijicjaaGreatDoor
open Go.Eng

set_option maxHeartbeats 4000000 in
theorem law_acg (a b : List UInt8) (e : Ev) (ho : EvOk e) : ACG 0 errT Tryz.prog 3 [.ro 1 (bys a), .ro 1 (bys b), e.v] (fun r => r = .bool true) := by
  have hla := bysL a
  have hlb := bysL b
  have hpa := bys_pure a
  have hpb := bys_pure b
  have hpe := pureI e.ch
  have hw := fun h => write_acg a e h
  have hrw := fun h => refWrite52_ac a e ho h
  have hev := fun h => events_acg a h
  have hrev := fun h => refEvents_ac a h
  have hj := fun h h' => join_acg a b h h'
  have hrj := fun h h' => refJoin_ac a b h h'
  have hb1 := bytes_ac (wrR a e).1 (wrR a e).1
  have hb2 := bytes_ac (joinR a b).1 (joinR a b).1
  have hle := lawEvents_ac (evR a).1 (evR a).1
  rw [decide_eq_true rfl] at hb1 hb2 hle
  have hp1 := bys_pure (wrR a e).1
  have hp2 := bys_pure (joinR a b).1
  have hp3 := pureEv (evR a).1
  unfold bcV at hw hrw hj hrj
  unfold evV at hev hrev
  unfold Ev.v at hw hrw ⊢
  generalize bys (wrR a e).1 = wv at *
  generalize (wrR a e).2 = wc at *
  generalize bys (joinR a b).1 = jv at *
  generalize (joinR a b).2 = jc at *
  have hEv : ∀ x : Ev, x.v = .agg [.int .i64 x.kind, .int .i64 x.time, .int .i64 x.item, .ro 1 (nums x.ch), .int .i64 x.value, .str x.text, .bool x.om, .int .i64 x.ik, .int .i64 x.it, .int .i64 x.il, .int .i64 x.ig] := fun _ => rfl
  generalize (evR a).2.2 = ec at *
  generalize (evR a).2.1 = ea at *
  generalize List.map _ (evR a).1 = ev at *
  generalize nums e.ch = cv at *
  generalize bys a = av at *
  generalize bys b = bv at *
  refine acg_intro Tryz.func3 rfl (by show (3 : Nat) ≤ 90; omega) (fun w0 N0 hG => ?_)
  refine aw_step [0, 1, 5] [5] (by simp [Tryz.ntmps3] <;> rfl) ?_   -- law.go:84
  refine aw_seq ?_
  refine aw_step [0, 1, 5, 22] [5] (by simp <;> rfl) ?_   -- law.go:85
  refine aw_cond rfl (fun h1 => ?_) (fun h1 => aw_skip ?_)   -- if t22
  · refine aw_step [6] [] (by simp <;> rfl) ?_   -- law.go:86
    exact aw_ret (ends_ret (by simp [Tryz.results3] <;> rfl) rfl)
  have h1' : a.length ≤ 5000 ∧ b.length ≤ 5000 := by simp at h1; omega
  have hw := hw (by omega)
  have hrw := hrw (by omega)
  have hev := hev (by omega)
  have hrev := hrev (by omega)
  have hj := hj (by omega) (by omega)
  have hrj := hrj (by omega) (by omega)
  refine aw_seq (aw_region ?_)   -- law.go:88
  refine awl_go 2 (by simp <;> rfl) ?_
  refine awl_call1G hG hw Tryz.func4 rfl (by kernel_rfl) rfl rfl rfl rfl (by simp [hpa, hpe]) (by simp <;> rfl) ?_
  refine awl_end [0, 1, 5, 7, 8] [5] (by simp <;> rfl) ?_
  refine aw_seq (aw_region ?_)   -- law.go:89
  refine awl_go 2 (by simp <;> rfl) ?_
  refine awl_call1 hrw Tryz.func5 rfl (by kernel_rfl) rfl rfl rfl rfl (by simp [hpa, hpe]) (by simp <;> rfl) ?_
  refine awl_end [0, 1, 7, 8, 9, 10] [] (by simp <;> rfl) ?_
  refine aw_seq ?_
  refine aw_seq (aw_region ?_)   -- law.go:90
  refine awl_go 6 (by simp <;> rfl) ?_
  refine awl_gcall (c := true) (fun hg => hb1) Tryz.func6 rfl (by kernel_rfl) (by simp) rfl rfl (by simp <;> rfl) (by simp [hp1]) (by simp <;> rfl) ?_
  refine awl_end [0, 1, 43] [] (by simp <;> rfl) ?_
  refine aw_cond rfl (fun h2 => by simp at h2) (fun h2 => aw_skip ?_)   -- if t43
  refine aw_seq (aw_region ?_)   -- law.go:93
  refine awl_go 1 (by simp <;> rfl) ?_
  refine awl_call1G hG hev Tryz.func7 rfl (by kernel_rfl) rfl rfl rfl rfl (by simp [hpa]) (by simp <;> rfl) ?_
  refine awl_end [0, 1, 8, 11, 12] [] (by simp <;> rfl) ?_
  refine aw_seq (aw_region ?_)   -- law.go:94
  refine awl_go 1 (by simp <;> rfl) ?_
  refine awl_call1 hrev Tryz.func8 rfl (by kernel_rfl) rfl rfl rfl rfl (by simp [hpa]) (by simp <;> rfl) ?_
  refine awl_end [0, 1, 8, 10, 11, 12, 13, 14] [] (by simp <;> rfl) ?_
  refine aw_seq ?_
  refine aw_seq (aw_region ?_)   -- law.go:95
  refine awl_go 11 (by simp <;> rfl) ?_
  refine awl_gcall (c := true) (fun hg => hle) Tryz.func9 rfl (by kernel_rfl) (by simp) rfl rfl (by simp <;> rfl) (by simp [hp3]) (by simp <;> rfl) ?_
  refine awl_end [0, 1, 69] [] (by simp <;> rfl) ?_
  refine aw_cond rfl (fun h3 => by simp at h3) (fun h3 => aw_skip ?_)   -- if t69
  refine aw_seq (aw_region ?_)   -- law.go:98
  refine awl_go 2 (by simp <;> rfl) ?_
  refine awl_call1G hG hj Tryz.func10 rfl (by kernel_rfl) rfl rfl rfl rfl (by simp [hpa, hpb]) (by simp <;> rfl) ?_
  refine awl_end [0, 1, 7, 8] [] (by simp <;> rfl) ?_
  refine aw_seq (aw_region ?_)   -- law.go:99
  refine awl_go 2 (by simp <;> rfl) ?_
  refine awl_call1 hrj Tryz.func11 rfl (by kernel_rfl) rfl rfl rfl rfl (by simp [hpa, hpb]) (by simp <;> rfl) ?_
  refine awl_end [7, 8, 9, 10] [] (by simp <;> rfl) ?_
  refine aw_seq (aw_region ?_)   -- law.go:100
  refine awl_go 6 (by simp <;> rfl) ?_
  refine awl_gcall (c := true) (fun hg => hb2) Tryz.func6 rfl (by kernel_rfl) (by simp) rfl rfl (by simp <;> rfl) (by simp [hp2]) (by simp <;> rfl) ?_
  refine awl_end [6] [] (by simp <;> rfl) ?_
  exact aw_ret (ends_ret (by simp [Tryz.results3] <;> rfl) rfl)
end Go.Proofs.YtmkbhognijicjaaGreatDoor
