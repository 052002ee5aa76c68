/- Hold: the law HoldBlocks. No condition. -/
import Derived.Test.YtjgngffbmfbdkaaHoldK
import Derived.Test.YtjgngffbmfbdkaaEng24
set_option linter.unusedSimpArgs false
namespace Go.Proofs.Ytjgngffbmfbdkaa
open Go.Eng

theorem u64_nn (x : Int) : ¬ IntKind.u64.wrap x < 0 := by
  rw [IntKind.wrap_u64]; omega

set_option maxHeartbeats 4000000 in
theorem holdBlocks_ac (ds : List H3) (dv : List V) (hdv : dv = ds.map H3.v) : AC Try.prog 7 [.ro 3 dv] (fun x => x = .bool true) := by
  have hdl : dv.length = ds.length := by rw [hdv]; simp
  have hv0 : validF 1 0 0 [] = 0 := by decide
  refine ac_intro Try.func7 rfl (by show (1 : Nat) ≤ 99; omega) (fun w0 N0 => ?_)
  refine aw_step [0] [] (by simp [Try.ntmps7] <;> rfl) ?_   -- law.go:96
  refine aw_seq (aw_region ?_)   -- law.go:97
  refine awl_call1 newP_ac Try.func19 rfl (by kernel_rfl) rfl rfl rfl rfl rfl (by simp [rel] <;> rfl) ?_
  refine awl_end [0, 3] [3] (by simp <;> rfl) ?_
  refine aw_seq ?_
  refine aw_step [0, 3, 12] [3] (by simp <;> rfl) ?_   -- law.go:98
  refine aw_cond rfl (fun h1 => by simp at h1) (fun h1 => aw_skip ?_)   -- if t12
  refine aw_step [0, 3, 4, 5] [3] (by simp <;> rfl) ?_   -- law.go:101
  refine aw_seq ?_
  refine aw_step [0, 3, 4, 5, 6] [3] (by simp <;> rfl) ?_   -- law.go:102
  refine aw_block ?_
  refine aw_loop (fun x : Nat × Rec × Nat => ⟨[(0, .ro 3 dv), (3, .bp 3 2 4 0 0), (4, .int .i64 (stB x.2.1.hs)), (5, .int .i64 x.2.1.v), (6, .int .i64 x.1)], [(3, ⟨2, 4, 24, [.agg [.int .i64 x.2.1.s, .int .i64 x.2.1.v, .int .i64 x.2.1.l, .ro 3 (x.2.1.hs.map H3.v)]]⟩)], x.2.2, 99⟩)
    (fun x => x.1 ≤ ds.length ∧ validF x.2.1.s x.2.1.v x.2.1.l x.2.1.hs = 0) (fun x => ds.length - x.1) (0, ⟨1, 0, 0, []⟩, _) ⟨Nat.zero_le _, hv0⟩ (AS.le_refl _) ?_
  rintro ⟨k, R, nx⟩ ⟨hk, hV⟩
  simp only at hk hV
  have hRl := (valid_iff.1 hV).2.2.2.2.2.2.1
  have hRv := (valid_iff.1 hV).2.2.2.1
  have hRv0 := (valid_iff.1 hV).2.2.1
  have hdo := fun a b c => do_ac R a b c _ rfl (by simp; omega)
  have hkeep := fun a b c => do_keep (R := R) (k := a) (r := b) (t := c)
  have hbit := fun a b c h => do_bits (R := R) (k := a) (r := b) (t := c) h hV
  have hzer := fun a b c => do_zero (R := R) (k := a) (r := b) (t := c)
  obtain ⟨rr, hrr⟩ : ∃ rr, rr = R.hs.map H3.v := ⟨_, rfl⟩
  simp only [← hrr] at hdo ⊢
  obtain ⟨b0, hb0⟩ : ∃ b0, b0 = stB R.hs := ⟨_, rfl⟩
  simp only [← hb0] at hbit ⊢
  refine aw_seq ?_
  refine aw_step [0, 3, 4, 5, 6, 20] [3] (by simp <;> rfl) ?_   -- law.go:102
  refine aw_cond rfl (fun h2 => aw_skip ?_) (fun h2 => ?_)   -- if t20
  · have hlt : k < ds.length ∧ k < 60 := by simp at h2; omega
    have hlt' : k < dv.length := by omega
    have hget : nth dv k = some (H3.v ds[k]) := by rw [nth_eq, hdv]; simp [hlt.1]
    have hw := wrap_succ (k := k) (by omega)
    generalize ds[k] = d at hget
    have hc := hdo d.r d.f d.u
    have hkp := hkeep d.r d.f d.u
    have hbt := hbit d.r d.f d.u
    have hzr := hzer d.r d.f d.u
    generalize doR R d.r d.f d.u = B at hc hkp hbt hzr
    generalize doE R d.r d.f d.u = eb at hc hkp hbt hzr
    simp only [recP, rel] at hc
    have hpb := pureH B.hs
    have hbl : (B.hs.map H3.v).length = B.hs.length := by simp
    have hop := fun h => openP_ac B.s B.v B.l B.hs _ rfl h
    have hsz := fun h : B = zeroR => show AC Try.prog 11 [rel B.s B.v B.l (.ro 3 (B.hs.map H3.v)), rel 0 0 0 .nils] (fun r => r = .bool true) by subst h; exact same0_ac 0 0 0
    obtain ⟨rb, hrb⟩ : ∃ rb, rb = B.hs.map H3.v := ⟨_, rfl⟩
    simp only [← hrb] at hc hpb hbl hop hsz
    refine aw_seq ?_
    refine aw_block ?_
    refine aw_seq (aw_draw [(1, []), (2, []), (3, []), (0, [7]), (4, [7]), (5, []), (6, []), (7, []), (8, []), (9, []), (10, []), (11, [])] hmix (by kernel_rfl) ?_)   -- law.go:103
    refine awo_go 5 (by simp [hget, hlt', H3.v] <;> rfl) ?_
    refine awo_call (fun hg => hc) Try.func25 rfl (by kernel_rfl) rfl rfl (by simp <;> rfl) rfl rfl (by simp <;> rfl) (by simp) (by simp <;> rfl) ?_
    refine awo_end [0, 3, 4, 5, 6, 7, 8] [3, 7] (by simp <;> rfl) ?_
    refine aw_seq ?_
    refine aw_step [0, 3, 4, 5, 6, 7, 33] [3, 7] (by simp <;> rfl) ?_   -- law.go:104
    refine aw_cond rfl (fun h3 => ?_) (fun h3 => aw_skip ?_)   -- if t33
    · have hz := hsz (hzr (by simpa using h3))
      simp only [rel] at hz
      refine aw_seq ?_
      refine aw_seq (aw_region ?_)   -- law.go:105
      refine awl_go 2 (by simp <;> rfl) ?_
      refine awl_call1 hz Try.func11 rfl (by kernel_rfl) rfl rfl rfl rfl rfl (by simp <;> rfl) ?_
      refine awl_end [0, 3, 4, 5, 6, 37] [3] (by simp <;> rfl) ?_
      refine aw_cond rfl (fun h4 => by simp at h4) (fun h4 => aw_skip ?_)   -- if t37
      refine aw_exit ?_
      refine aw_one [0, 3, 4, 5, 6] [3] (by simp [hw] <;> rfl) ?_   -- law.go:102
      exact ⟨(k + 1, R, _), ⟨hlt.1, hV⟩, by simp only; omega, by simp only [← hrr, ← hb0]; exact AS.le_refl _⟩
    have he0 : eb = 0 := by simpa using h3
    obtain ⟨k1, k2, k3, k4, k5⟩ := hkp he0
    obtain ⟨b1, b2, b3⟩ := hbt he0
    have hBl := (valid_iff.1 k1).2.2.2.2.2.2.1
    have hBh := (valid_iff.1 k1).2.2.2.2.2.2.2.1
    have hop := hop (by omega)
    simp only [rel] at hop
    have hz0 := stB_zero hBh
    have hwv : IntKind.i64.wrap (R.v + 1) = R.v + 1 := by rw [IntKind.wrap_i64]; omega
    -- the three ifs
    refine aw_viale ⟨[(0, .ro 3 dv), (3, .bp 3 2 4 0 0), (4, .int .i64 (if d.r = 0 then bits .or .i64 b0 (shB d.f) else b0)), (5, .int .i64 R.v), (6, .int .i64 k), (7, .bp 7 (nx + 8 + 9) 4 0 0)], [(3, ⟨2, 4, 24, [.agg [.int .i64 R.s, .int .i64 R.v, .int .i64 R.l, .ro 3 rr]]⟩), (7, ⟨nx + 8 + 9, 4, 24, [.agg [.int .i64 B.s, .int .i64 B.v, .int .i64 B.l, .ro 3 rb]]⟩)], nx + 1000, 99⟩ ?_ ?_
    · refine aw_step [0, 3, 4, 5, 6, 7, 43] [3, 7] (by simp [hget, hlt', H3.v] <;> rfl) ?_   -- law.go:110
      refine aw_cond rfl (fun h5 => ?_) (fun h5 => aw_skip ?_)   -- if t43
      · have h5 : d.r = 0 := by simpa using h5
        refine aw_one [0, 3, 4, 5, 6, 7] [3, 7] (by simp [hget, hlt', H3.v, u64_nn] <;> rfl) ?_   -- law.go:111
        refine ⟨rfl, ?_⟩
        rw [if_pos h5]
        exact le_to [0, 3, 4, 5, 6, 7] [3, 7] (by simp <;> rfl) (by simp <;> rfl) rfl (by simp only; omega)
      · have h5 : ¬ d.r = 0 := by simpa using h5
        refine ⟨rfl, ?_⟩
        rw [if_neg h5]
        exact le_to [0, 3, 4, 5, 6, 7] [3, 7] (by simp <;> rfl) (by simp <;> rfl) rfl (by simp only; omega)
    obtain ⟨c0, hc0⟩ : ∃ c0, c0 = if d.r = 0 then bits .or .i64 b0 (shB d.f) else b0 := ⟨_, rfl⟩
    rw [← hc0]
    refine aw_viale ⟨[(0, .ro 3 dv), (3, .bp 3 2 4 0 0), (4, .int .i64 (if d.r = 1 then bits .andNot .i64 c0 (shB d.f) else c0)), (5, .int .i64 R.v), (6, .int .i64 k), (7, .bp 7 (nx + 8 + 9) 4 0 0)], [(3, ⟨2, 4, 24, [.agg [.int .i64 R.s, .int .i64 R.v, .int .i64 R.l, .ro 3 rr]]⟩), (7, ⟨nx + 8 + 9, 4, 24, [.agg [.int .i64 B.s, .int .i64 B.v, .int .i64 B.l, .ro 3 rb]]⟩)], nx + 2000, 99⟩ ?_ ?_
    · refine aw_step [0, 3, 4, 5, 6, 7, 59] [3, 7] (by simp [hget, hlt', H3.v] <;> rfl) ?_   -- law.go:113
      refine aw_cond rfl (fun h5 => ?_) (fun h5 => aw_skip ?_)   -- if t59
      · have h5 : d.r = 1 := by simpa using h5
        refine aw_one [0, 3, 4, 5, 6, 7] [3, 7] (by simp [hget, hlt', H3.v, u64_nn] <;> rfl) ?_   -- law.go:114
        refine ⟨rfl, ?_⟩
        rw [if_pos h5]
        exact le_to [0, 3, 4, 5, 6, 7] [3, 7] (by simp <;> rfl) (by simp <;> rfl) rfl (by simp only; omega)
      · have h5 : ¬ d.r = 1 := by simpa using h5
        refine ⟨rfl, ?_⟩
        rw [if_neg h5]
        exact le_to [0, 3, 4, 5, 6, 7] [3, 7] (by simp <;> rfl) (by simp <;> rfl) rfl (by simp only; omega)
    have hc1 : (if d.r = 1 then bits .andNot .i64 c0 (shB d.f) else c0) = stB B.hs := by
      rw [← b1, hc0, bitsK]
      by_cases e0 : d.r = 0
      · rw [if_neg (show ¬ d.r = 1 by omega), if_pos e0, if_pos e0]
      · rw [if_neg e0, if_neg e0]
    have hsb : d.r = 2 → stB B.hs = 0 := fun h => by rw [← b1, bitsK, if_neg (by omega), if_neg (by omega)]; exact (b3 h).1
    rw [hc1]
    obtain ⟨c1, hcc⟩ : ∃ c1, c1 = stB B.hs := ⟨_, rfl⟩
    rw [← hcc] at hsb hz0 ⊢
    refine aw_viale ⟨[(0, .ro 3 dv), (3, .bp 3 2 4 0 0), (4, .int .i64 c1), (5, .int .i64 B.v), (6, .int .i64 k), (7, .bp 7 (nx + 8 + 9) 4 0 0)], [(3, ⟨2, 4, 24, [.agg [.int .i64 R.s, .int .i64 R.v, .int .i64 R.l, .ro 3 rr]]⟩), (7, ⟨nx + 8 + 9, 4, 24, [.agg [.int .i64 B.s, .int .i64 B.v, .int .i64 B.l, .ro 3 rb]]⟩)], nx + 3000, 99⟩ ?_ ?_
    · refine aw_step [0, 3, 4, 5, 6, 7, 75] [3, 7] (by simp [hget, hlt', H3.v] <;> rfl) ?_   -- law.go:116
      refine aw_cond rfl (fun h7 => ?_) (fun h7 => aw_skip ?_)   -- if t75
      · have h7 : d.r = 2 := by simpa using h7
        have hs4 := (b3 h7).2
        have hc10 := hsb h7
        refine aw_seq ?_
        refine aw_step [0, 3, 4, 5, 6, 7, 82] [3, 7] (by simp [hc10] <;> rfl) ?_   -- law.go:117
        refine aw_cond rfl (fun h8 => by simp [hs4] at h8) (fun h8 => aw_skip ?_)   -- if t82
        refine aw_one [0, 3, 4, 5, 6, 7] [3, 7] (by simp [hwv] <;> rfl) ?_   -- law.go:120
        refine ⟨rfl, ?_⟩
        rw [b2, verK, if_pos h7, hc10]
        exact le_to [0, 3, 4, 5, 6, 7] [3, 7] (by simp <;> rfl) (by simp <;> rfl) rfl (by simp only; omega)
      · have h7 : ¬ d.r = 2 := by simpa using h7
        refine ⟨rfl, ?_⟩
        rw [b2, verK, if_neg h7]
        exact le_to [0, 3, 4, 5, 6, 7] [3, 7] (by simp <;> rfl) (by simp <;> rfl) rfl (by simp only; omega)
    have hnl : (nums (openF B.hs)).length = (openF B.hs).length := by simp [nums]
    have hiff : nums (openF B.hs) = [] ↔ c1 = 0 := by
      rw [hz0, ← List.length_eq_zero_iff, ← List.length_eq_zero_iff, hnl]
    have hpo : (nums (openF B.hs)).all V.pureE = true := by
      rw [List.all_eq_true]; intro x hx; simp only [nums, List.mem_map] at hx; obtain ⟨n, _, rfl⟩ := hx; rfl
    generalize nums (openF B.hs) = ob at hop hiff hpo
    refine aw_seq ?_
    refine aw_seq (aw_region ?_)   -- law.go:122
    refine awl_go 6 (by simp <;> rfl) ?_
    refine awl_gcall (fun hg => hop) Try.func17 rfl (by kernel_rfl) (by simp <;> rfl) rfl rfl (by simp <;> rfl) (by simp [hpb]) (by simp <;> rfl) ?_
    refine awl_end [0, 3, 4, 5, 6, 7, 97] [3, 7] (by simp [hiff] <;> rfl) ?_
    refine aw_cond rfl (fun h10 => by simp [hiff] at h10) (fun h10 => aw_skip ?_)   -- if t97
    refine aw_one [0, 3, 4, 5, 6] [3] (by simp <;> rfl) ?_   -- law.go:125
    refine aw_one [0, 3, 4, 5, 6] [3] (by simp [hw] <;> rfl) ?_   -- law.go:102
    exact ⟨(k + 1, B, _), ⟨hlt.1, k1⟩, by simp only; omega, by simp only [← hrb, ← hcc]; exact AS.le_refl _⟩
  · refine aw_exit ?_
    refine aw_step [2] [] (by simp <;> rfl) ?_   -- law.go:127
    exact aw_ret (ends_ret (by simp [Try.results7] <;> rfl) rfl)
end Go.Proofs.Ytjgngffbmfbdkaa
