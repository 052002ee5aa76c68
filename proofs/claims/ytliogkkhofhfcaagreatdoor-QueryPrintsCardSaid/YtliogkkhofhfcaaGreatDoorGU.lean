import Derived.Test.YtliogkkhofhfcaaGreatDoorGT
import Derived.Test.YtliogkkhofhfcaaGreatDoorGK
/- Query: the reference's text. No condition. -/
set_option linter.unusedSimpArgs false
set_option maxRecDepth 4000
namespace Go.Proofs.YtliogkkhofhfcaaGreatDoor
open Go.Eng

theorem cmp_sign {c : Int} (h0 : 1 ≤ c) (h1 : c ≤ 6) : compareR c = signOf c := by
  have : c = 1 ∨ c = 2 ∨ c = 3 ∨ c = 4 ∨ c = 5 ∨ c = 6 := by omega
  rcases this with rfl | rfl | rfl | rfl | rfl | rfl <;> decide
set_option maxHeartbeats 8000000 in
theorem text_ac : ∀ (m : Nat) (q : Qy), sndQ m q = true → tn m q ≤ 1000 → AC Tryz.prog 23 [q.v] (fun r => r = .str (txt m q)) := by
  intro m
  induction m with
  | zero => intro q h; simp [sndQ] at h
  | succ m ih =>
    intro q hq htn
    have hlenQ := txt_len (m + 1) q hq
    obtain ⟨k, c, n, f, s, ks⟩ := q
    have hq' := hq
    rw [sndQ_mk, Bool.and_eq_true] at hq
    obtain ⟨hfm, hall⟩ := hq
    have hsk := fun x (hx : x ∈ ks) => List.all_eq_true.1 hall x hx
    have htk : ∀ x ∈ ks, tn m x ≤ 1000 := fun x hx => by
      have := sumL_mem (f := tn m) hx
      rw [tn] at htn
      omega
    have ihk := fun x (hx : x ∈ ks) => ih x (hsk x hx) (htk x hx)
    have hlk2 := fun x (hx : x ∈ ks) => txt_len m x (hsk x hx)
    have hT : txt (m + 1) (.mk k c n f s ks) = if k = 1 ∨ k = 2 ∨ k = 3 then ptx (txt m) k ks ks.length else (condT k c n f s ks.length).getD [] := by
      by_cases hk : k = 1 ∨ k = 2 ∨ k = 3
      · rw [if_pos hk]
        refine (ptx_end m k c n f s ks hk (fun e => ?_)).symm
        subst e
        by_cases h3 : k = 3
        · rw [if_neg (by omega), if_pos h3] at hfm; simp at hfm
        · rw [if_pos (by omega)] at hfm; simp at hfm
      · rw [if_neg hk, txt, if_neg hk]
    have hptl := ptx_len (f := txt m) (g := tn m) (k := k) hlk2
    have hsum : sumL (tn m) ks ≤ 1000 := by rw [tn] at htn; omega
    rw [hT] at hlenQ ⊢
    clear hT htn
    rw [Qy.v]
    have hg := fun (i : Nat) (h : i < ks.length) => nthQ h
    have hlk : (ks.map Qy.v).length = ks.length := by simp
    generalize ks.map Qy.v = kv at hg hlk ⊢
    refine ac_intro Tryz.func23 rfl (by show (1 : Nat) ≤ 92; omega) (fun w0 N0 => ?_)
    refine aw_step [1] [1] (by simp [Tryz.ntmps23] <;> rfl) ?_   -- ref.go:195
    refine aw_seq ?_
    refine aw_step [1, 7] [1] (by simp <;> rfl) ?_   -- ref.go:196
    refine aw_block ?_
    by_cases hk : ¬ (k = 1 ∨ k = 2 ∨ k = 3)
    · rw [if_neg hk] at hlenQ ⊢
      rw [if_neg (by omega), if_neg (by omega)] at hfm
      cases hcT : condT k c n f s ks.length with
      | none => rw [hcT] at hfm; cases hfm
      | some x =>
      rw [hcT] at hlenQ
      simp only [Option.getD_some]
      have hxl := condT_len hcT
      obtain ⟨_, hn0, hn1, hcs⟩ := cond_cases hcT
      have hdg := digits_ac n hn0 hn1
      have hitl := itoa_len hn0 hn1
      generalize Lib.itoa n = itn at hdg hitl hcs
      rcases hcs with ⟨rfl, hm, hf, hc0, hc1, rfl, rfl⟩ | ⟨rfl, rfl, rfl, rfl, hv, rfl⟩ | ⟨rfl, rfl, rfl, rfl, hv, rfl⟩ | ⟨rfl, rfl, rfl, rfl, hv, rfl⟩ | ⟨rfl, rfl, rfl, rfl, rfl⟩ | ⟨rfl, rfl, rfl, rfl, hv, rfl⟩
      · have hcm := compareR_ac c
        rw [cmp_sign hc0 hc1] at hcm
        generalize signOf c = sg at hcm hxl ⊢
        simp only [List.length_append, List.length_cons, List.length_nil] at hxl
        have e1 : f.length + 1 ≤ 9223372036854775807 := by omega
        have e2 : f.length + 1 + sg.length ≤ 9223372036854775807 := by omega
        have e3 : f.length + (sg.length + 1) ≤ 9223372036854775806 := by omega
        have e4 : f.length + (sg.length + 1 + 1) + itn.length ≤ 9223372036854775807 := by omega
        have hxx : f ++ [32] ++ sg ++ [32] ++ itn = f ++ 32 :: (sg ++ 32 :: itn) := by simp
        rw [hxx]
        refine aw_step [1, 7, 8] [1] (by simp <;> rfl) ?_   -- ref.go:197
        refine aw_cond rfl (fun h1 => ?_) (fun h1 => by simp at h1)   -- if t8
        refine aw_seq (aw_draw [(0, []), (3, []), (8, []), (1, []), (2, []), (4, []), (5, []), (6, []), (7, []), (9, []), (10, []), (11, []), (12, [])] hmix (by kernel_rfl) ?_)   -- ref.go:198
        refine awo_go 6 (by simp [e1] <;> rfl) ?_
        refine awo_call (fun hg => hcm) Tryz.func43 rfl (by kernel_rfl) rfl rfl (by simp <;> rfl) rfl rfl (by simp <;> rfl) (by simp) (by simp <;> rfl) ?_
        refine awo_go 3 (by simp [e1, e2, e3] <;> rfl) ?_
        refine awo_call (fun hg => hdg) Tryz.func44 rfl (by kernel_rfl) rfl rfl (by simp <;> rfl) rfl rfl (by simp <;> rfl) (by simp) (by simp <;> rfl) ?_
        refine awo_end [2] [] (by simp [e4] <;> rfl) ?_
        exact aw_ret (ends_ret (by simp [Tryz.results23] <;> rfl) rfl)
      · simp only [List.length_append, List.length_cons, List.length_nil] at hxl
        have e1 : s.length + 1 ≤ 1000 := by omega
        have e2 : 14 + s.length ≤ 9223372036854775807 := by omega
        refine aw_step [1, 7, 8] [1] (by simp <;> rfl) ?_
        refine aw_cond rfl (fun h => by simp at h) (fun h => ?_)
        refine aw_step [1, 7, 22] [1] (by simp <;> rfl) ?_
        refine aw_cond rfl (fun h => ?_) (fun h => by simp at h)
        refine aw_step [2] [] (by simp [e2] <;> rfl) ?_
        exact aw_ret (ends_ret (by simp [Tryz.results23] <;> rfl) rfl)
      · simp only [List.length_append, List.length_cons, List.length_nil] at hxl
        have e1 : s.length + 1 ≤ 1000 := by omega
        have e2 : 6 + s.length ≤ 9223372036854775807 := by omega
        refine aw_step [1, 7, 8] [1] (by simp <;> rfl) ?_
        refine aw_cond rfl (fun h => by simp at h) (fun h => ?_)
        refine aw_step [1, 7, 22] [1] (by simp <;> rfl) ?_
        refine aw_cond rfl (fun h => by simp at h) (fun h => ?_)
        refine aw_step [1, 7, 27] [1] (by simp <;> rfl) ?_
        refine aw_cond rfl (fun h => ?_) (fun h => by simp at h)
        refine aw_step [2] [] (by simp [e2] <;> rfl) ?_
        exact aw_ret (ends_ret (by simp [Tryz.results23] <;> rfl) rfl)
      · simp only [List.length_append, List.length_cons, List.length_nil] at hxl
        have e1 : s.length + 1 ≤ 1000 := by omega
        have e2 : 5 + s.length ≤ 9223372036854775807 := by omega
        refine aw_step [1, 7, 8] [1] (by simp <;> rfl) ?_
        refine aw_cond rfl (fun h => by simp at h) (fun h => ?_)
        refine aw_step [1, 7, 22] [1] (by simp <;> rfl) ?_
        refine aw_cond rfl (fun h => by simp at h) (fun h => ?_)
        refine aw_step [1, 7, 27] [1] (by simp <;> rfl) ?_
        refine aw_cond rfl (fun h => by simp at h) (fun h => ?_)
        refine aw_step [1, 7, 32] [1] (by simp <;> rfl) ?_
        refine aw_cond rfl (fun h => ?_) (fun h => by simp at h)
        refine aw_step [2] [] (by simp [e2] <;> rfl) ?_
        exact aw_ret (ends_ret (by simp [Tryz.results23] <;> rfl) rfl)
      · have e2 : 9 + itn.length ≤ 9223372036854775807 := by omega
        refine aw_step [1, 7, 8] [1] (by simp <;> rfl) ?_
        refine aw_cond rfl (fun h => by simp at h) (fun h => ?_)
        refine aw_step [1, 7, 22] [1] (by simp <;> rfl) ?_
        refine aw_cond rfl (fun h => by simp at h) (fun h => ?_)
        refine aw_step [1, 7, 27] [1] (by simp <;> rfl) ?_
        refine aw_cond rfl (fun h => by simp at h) (fun h => ?_)
        refine aw_step [1, 7, 32] [1] (by simp <;> rfl) ?_
        refine aw_cond rfl (fun h => by simp at h) (fun h => ?_)
        refine aw_step [1, 7, 37] [1] (by simp <;> rfl) ?_
        refine aw_cond rfl (fun h => ?_) (fun h => by simp at h)
        refine aw_seq (aw_region ?_)   -- ref.go:206
        refine awl_go 2 (by simp <;> rfl) ?_
        refine awl_call1 hdg Tryz.func44 rfl (by kernel_rfl) rfl rfl rfl (by simp <;> rfl) (by simp) (by simp <;> rfl) ?_
        refine awl_end [2] [] (by simp [e2] <;> rfl) ?_
        exact aw_ret (ends_ret (by simp [Tryz.results23] <;> rfl) rfl)
      · simp only [List.length_append, List.length_cons, List.length_nil] at hxl
        have e2 : 10 + s.length ≤ 9223372036854775807 := by omega
        have e3 : s.length + 10 + 1 ≤ 9223372036854775807 := by omega
        have hxx : [115, 116, 101, 109, 32, 104, 97, 115, 32, 34] ++ s ++ [34] = 115 :: 116 :: 101 :: 109 :: 32 :: 104 :: 97 :: 115 :: 32 :: 34 :: (s ++ [34]) := by simp
        rw [hxx]
        refine aw_step [1, 7, 8] [1] (by simp <;> rfl) ?_
        refine aw_cond rfl (fun h => by simp at h) (fun h => ?_)
        refine aw_step [1, 7, 22] [1] (by simp <;> rfl) ?_
        refine aw_cond rfl (fun h => by simp at h) (fun h => ?_)
        refine aw_step [1, 7, 27] [1] (by simp <;> rfl) ?_
        refine aw_cond rfl (fun h => by simp at h) (fun h => ?_)
        refine aw_step [1, 7, 32] [1] (by simp <;> rfl) ?_
        refine aw_cond rfl (fun h => by simp at h) (fun h => ?_)
        refine aw_step [1, 7, 37] [1] (by simp <;> rfl) ?_
        refine aw_cond rfl (fun h => by simp at h) (fun h => ?_)
        refine aw_step [1, 43] [1] (by simp <;> rfl) ?_
        refine aw_cond rfl (fun h => ?_) (fun h => by simp at h)
        refine aw_step [2] [] (by simp [e2, e3] <;> rfl) ?_
        exact aw_ret (ends_ret (by simp [Tryz.results23] <;> rfl) rfl)
    have hk : k = 1 ∨ k = 2 ∨ k = 3 := Classical.not_not.1 hk
    rw [if_pos hk] at hlenQ ⊢
    have c4 : ¬ k = 4 := by omega
    have c5 : ¬ k = 5 := by omega
    have c6 : ¬ k = 6 := by omega
    have c7 : ¬ k = 7 := by omega
    have c8 : ¬ k = 8 := by omega
    have c9 : ¬ k = 9 := by omega
    have h3 : k = 3 → ks.length = 1 := fun h => by
      rw [if_neg (by omega), if_pos h, Bool.and_eq_true] at hfm
      simpa using hfm.2
    have hps := fun i (h : i < ks.length) => ptx_succ (f := txt m) (k := k) (ks := ks) (i := i) hk h3 h
    clear hfm hall
    refine aw_step [1, 7, 8] [1] (by simp <;> rfl) ?_
    refine aw_cond rfl (fun h => absurd (by simpa using h) c4) (fun h => ?_)
    refine aw_step [1, 7, 22] [1] (by simp <;> rfl) ?_
    refine aw_cond rfl (fun h => absurd (by simpa using h) c5) (fun h => ?_)
    refine aw_step [1, 7, 27] [1] (by simp <;> rfl) ?_
    refine aw_cond rfl (fun h => absurd (by simpa using h) c6) (fun h => ?_)
    refine aw_step [1, 7, 32] [1] (by simp <;> rfl) ?_
    refine aw_cond rfl (fun h => absurd (by simpa using h) c7) (fun h => ?_)
    refine aw_step [1, 7, 37] [1] (by simp <;> rfl) ?_
    refine aw_cond rfl (fun h => absurd (by simpa using h) c8) (fun h => ?_)
    refine aw_step [1, 43] [1] (by simp <;> rfl) ?_
    refine aw_cond rfl (fun h => absurd (by simpa using h) c9) (fun h => aw_skip ?_)
    refine aw_step [1, 3] [1] (by simp <;> rfl) ?_   -- ref.go:210
    refine aw_seq ?_
    refine aw_step [1, 3, 50, 51, 52] [1] (by simp <;> rfl) ?_   -- ref.go:211
    refine aw_len 50 rfl (fun mx => ?_)
    unfold maxLen at mx
    refine aw_block ?_
    have h00 : ptx (txt m) k ks 0 = [] := by simp [ptx, txtL]
    refine aw_count (fun i nx => ⟨[(1, .bp 1 0 6 0 0), (3, .str (ptx (txt m) k ks i)), (50, .ro 6 kv), (51, .int .i64 ks.length), (52, .int .i64 i)], [(1, ⟨0, 6, 24, [.agg [.int .i64 k, .int .i64 c, .int .i64 n, .str f, .str s, .ro 6 kv]]⟩)], nx, 92⟩) (fun _ => True) ks.length _ trivial (by simp only [hlk, h00]; exact AS.le_refl _) ?_
    intro i nx hi _
    refine aw_step [1, 3, 50, 51, 52, 53] [1] (by simp <;> rfl) ?_   -- ref.go:211
    refine aw_seq ?_
    refine aw_cond rfl (fun h7 => aw_skip ?_) (fun h7 => ?_)   -- if t53
    · have hlt : i < ks.length := by simp at h7; omega
      have hlt' : i < kv.length := by omega
      have ga := hg i hlt
      have hmem : ks[i] ∈ ks := List.getElem_mem hlt
      have hcx := ihk ks[i] hmem
      have htl := hlk2 ks[i] hmem
      have htn := htk ks[i] hmem
      have hw := wrap_succ (k := i) (by omega)
      have hpi := hptl i
      have hsucc := hps i hlt
      have hlead : (leadT k i).length ≤ 5 := by
        unfold leadT
        split
        · simp
        split
        · simp
        split <;> simp
      have hen := enclosed_ac k ks[i].kind hk
      generalize hx : ks[i] = x at ga hcx htl htn hsucc hen
      generalize encl k x.kind = en at hen hsucc
      generalize txt m x = T at hcx htl hsucc
      obtain ⟨xk, xc, xn, xf, xs, xv, vx, hxk⟩ : ∃ k c n f s kv, x.v = .agg [.int .i64 k, .int .i64 c, .int .i64 n, .str f, .str s, .ro 6 kv] ∧ x.kind = k := by
        obtain ⟨k, c, n, f, s, ks⟩ := x
        exact ⟨k, c, n, f, s, _, by rw [Qy.v], rfl⟩
      rw [hxk] at hen
      rw [vx] at ga hcx
      refine aw_seq ?_
      refine aw_block ?_
      refine aw_step [1, 3, 4, 5, 50, 51, 52] [1, 5] (by simp [ga, hlt'] <;> rfl) ?_   -- ref.go:211
      generalize hP0 : ptx (txt m) k ks i = P0 at hsucc hpi ⊢
      have hL5 : P0.length + 5 ≤ 9223372036854775807 := by omega
      have hL4 : P0.length + 4 ≤ 9223372036854775807 := by omega
      refine aw_viale ⟨[(1, .bp 1 0 6 0 0), (3, .str (P0 ++ leadT k i)), (5, .bp 5 (nx + 1 + 3) 6 0 0), (50, .ro 6 kv), (51, .int .i64 ks.length), (52, .int .i64 i)], [(1, ⟨0, 6, 24, [.agg [.int .i64 k, .int .i64 c, .int .i64 n, .str f, .str s, .ro 6 kv]]⟩), (5, ⟨nx + 1 + 3, 6, 24, [.agg [.int .i64 xk, .int .i64 xc, .int .i64 xn, .str xf, .str xs, .ro 6 xv]]⟩)], nx + 100, 92⟩ ?_ ?_
      · refine aw_step [1, 3, 4, 5, 50, 51, 52, 59] [1, 5] (by simp <;> rfl) ?_   -- ref.go:212
        by_cases k3 : k = 3
        · subst k3
          refine aw_cond rfl (fun h8 => ?_) (fun h8 => by simp at h8)   -- if t59
          refine aw_one [1, 3, 5, 50, 51, 52] [1, 5] (by simp [hL4] <;> rfl) ?_   -- ref.go:213
          exact ⟨rfl, le_to [1, 3, 5, 50, 51, 52] [1, 5] rfl rfl rfl (by simp only; omega)⟩
        refine aw_cond rfl (fun h8 => absurd (by simpa using h8) k3) (fun h8 => ?_)   -- if t59
        by_cases i0 : i = 0
        · subst i0
          have hl : leadT k 0 = [] := by unfold leadT; rw [if_neg k3, if_pos rfl]
          rw [hl, List.append_nil]
          refine aw_step [1, 3, 4, 5, 50, 51, 52, 68] [1, 5] (by simp <;> rfl) ?_   -- ref.go:214
          refine aw_cond rfl (fun h10 => by simp at h10) (fun h10 => ?_)   -- if t68
          refine aw_step [1, 3, 5, 50, 51, 52, 72] [1, 5] (by simp <;> rfl) ?_   -- ref.go:216
          refine aw_cond rfl (fun h12 => by simp at h12) (fun h12 => aw_skip ?_)   -- if t72
          exact ⟨rfl, le_to [1, 3, 5, 50, 51, 52] [1, 5] rfl rfl rfl (by simp only; omega)⟩
        have ip : 0 < i := by omega
        by_cases k1 : k = 1
        · subst k1
          have hl : leadT 1 i = andW := by unfold leadT; rw [if_neg k3, if_neg i0, if_pos rfl]
          rw [hl]
          refine aw_step [1, 3, 4, 5, 50, 51, 52, 68] [1, 5] (by simp [ip] <;> rfl) ?_   -- ref.go:214
          refine aw_cond rfl (fun h10 => ?_) (fun h10 => by simp at h10)   -- if t68
          refine aw_one [1, 3, 5, 50, 51, 52] [1, 5] (by simp [hL5] <;> rfl) ?_   -- ref.go:215
          exact ⟨rfl, le_to [1, 3, 5, 50, 51, 52] [1, 5] rfl rfl rfl (by simp only; omega)⟩
        · have hl : leadT k i = orW := by unfold leadT; rw [if_neg k3, if_neg i0, if_neg k1]
          rw [hl]
          refine aw_step [1, 3, 4, 5, 50, 51, 52, 68] [1, 5] (by simp [ip, k1] <;> rfl) ?_   -- ref.go:214
          refine aw_cond rfl (fun h10 => by simp at h10) (fun h10 => ?_)   -- if t68
          refine aw_step [1, 3, 5, 50, 51, 52, 72] [1, 5] (by simp [ip] <;> rfl) ?_   -- ref.go:216
          refine aw_cond rfl (fun h12 => ?_) (fun h12 => by simp at h12)   -- if t72
          refine aw_one [1, 3, 5, 50, 51, 52] [1, 5] (by simp [hL4] <;> rfl) ?_   -- ref.go:217
          exact ⟨rfl, le_to [1, 3, 5, 50, 51, 52] [1, 5] rfl rfl rfl (by simp only; omega)⟩
      have hPl : (P0 ++ leadT k i).length ≤ 200000 := by rw [List.length_append]; omega
      generalize P0 ++ leadT k i = P1 at hsucc hPl ⊢
      have hl1 : P1.length + 1 ≤ 9223372036854775807 := by omega
      have hl2 : P1.length + T.length ≤ 9223372036854775807 := by omega
      have hl3 : P1.length + 1 + T.length ≤ 9223372036854775807 := by omega
      have hl4 : P1.length + (T.length + 1) + 1 ≤ 9223372036854775807 := by omega
      have hl5 : P1.length + (T.length + 1) ≤ 9223372036854775806 := by omega
      refine aw_seq (aw_region ?_)   -- ref.go:219
      refine awl_go 4 (by simp <;> rfl) ?_
      refine awl_call1 hen Tryz.func45 rfl (by kernel_rfl) rfl rfl rfl (by simp <;> rfl) (by simp) (by simp <;> rfl) ?_
      refine awl_end [1, 3, 5, 50, 51, 52, 79] [1, 5] (by simp <;> rfl) ?_
      cases en with
      | true =>
        simp only [opT, clT, if_true] at hsucc
        refine aw_cond rfl (fun h9 => ?_) (fun h9 => by simp at h9)   -- if t79
        refine aw_region ?_   -- ref.go:220
        refine awl_go 3 (by simp [hl1] <;> rfl) ?_
        refine awl_call1 hcx Tryz.func23 rfl (by kernel_rfl) rfl rfl rfl (by simp <;> rfl) (by simp [V.pureV, V.pureE]) (by simp <;> rfl) ?_
        refine awl_end [1, 3, 50, 51, 52] [1] (by simp [hl3, hl4, hl5] <;> rfl) ?_
        refine aw_one [1, 3, 50, 51, 52] [1] (by simp [hw] <;> rfl) ?_   -- ref.go:211
        refine ⟨hlt, trivial, ?_⟩
        rw [hsucc, show P1 ++ [40] ++ T ++ [41] = P1 ++ 40 :: (T ++ [41]) by simp]
        exact ⟨_, AS.le_refl _⟩
      | false =>
        simp only [opT, clT, Bool.false_eq_true, if_false, List.append_nil] at hsucc
        refine aw_cond rfl (fun h9 => by simp at h9) (fun h9 => ?_)   -- if t79
        refine aw_region ?_   -- ref.go:222
        refine awl_go 2 (by simp <;> rfl) ?_
        refine awl_call1 hcx Tryz.func23 rfl (by kernel_rfl) rfl rfl rfl (by simp <;> rfl) (by simp [V.pureV, V.pureE]) (by simp <;> rfl) ?_
        refine awl_end [1, 3, 50, 51, 52] [1] (by simp [hl2] <;> rfl) ?_
        refine aw_one [1, 3, 50, 51, 52] [1] (by simp [hw] <;> rfl) ?_   -- ref.go:211
        refine ⟨hlt, trivial, ?_⟩
        rw [hsucc]
        exact ⟨_, AS.le_refl _⟩
    · have hke : i = ks.length := by simp at h7; omega
      refine aw_exit ?_
      refine aw_step [2] [] (by simp <;> rfl) ?_   -- ref.go:225
      exact aw_ret (ends_ret (by simp [Tryz.results23] <;> rfl) (by rw [hke]))
end Go.Proofs.YtliogkkhofhfcaaGreatDoor

/- Query: the reference's Valid and Print; QueryPrints, the walk. No condition. -/
set_option linter.unusedSimpArgs false
set_option maxRecDepth 10000
namespace Go.Proofs.YtliogkkhofhfcaaGreatDoor
open Go.Eng

theorem tn_of {q : Qy} (h : nodesR 8 q ≤ 1000) : tn 8 q ≤ 1000 := by rw [← nodesR_eq 8 q h]; exact h
theorem refValid_ac (q : Qy) : AC Tryz.prog 11 [q.v] (fun r => r = .bool (canonB q)) := by
  have hs := sound_ac 8 (by omega) q
  have hn := fun h => nodes_ac 8 (by omega) q h
  have ht := fun h (h2 : nodesR 8 q ≤ 1000) => text_ac 8 q h (tn_of h2)
  rw [canon_ref]
  have hbig := nodesR_big 8 q
  generalize nodesR 8 q = N at hn ht hbig ⊢
  generalize txt 8 q = T at ht ⊢
  generalize sndQ 8 q = sb at hs hn ht ⊢
  obtain ⟨k, c, n, f, s, kv, vq⟩ : ∃ k c n f s kv, q.v = .agg [.int .i64 k, .int .i64 c, .int .i64 n, .str f, .str s, .ro 6 kv] := by
    obtain ⟨k, c, n, f, s, ks⟩ := q
    exact ⟨k, c, n, f, s, _, by rw [Qy.v]⟩
  rw [vq] at hs hn ht ⊢
  refine ac_intro Tryz.func11 rfl (by show (1 : Nat) ≤ 16; omega) (fun w0 N0 => ?_)
  refine aw_step [1] [1] (by simp [Tryz.ntmps11] <;> rfl) ?_   -- ref.go:241
  refine aw_seq (aw_region ?_)   -- ref.go:242
  refine awl_go 1 (by simp <;> rfl) ?_
  refine awl_call1 hs Tryz.func24 rfl (by kernel_rfl) rfl rfl rfl (by simp <;> rfl) (by simp [V.pureV, V.pureE]) (by simp <;> rfl) ?_
  refine awl_go 2 (by simp <;> rfl) ?_
  refine awl_gcall (fun hg => hn hg) Tryz.func25 rfl (by kernel_rfl) (by simp <;> rfl) rfl rfl (by simp <;> rfl) (by simp [V.pureV, V.pureE]) (by simp <;> rfl) ?_
  refine awl_go 4 (by simp <;> rfl) ?_
  have hle : (decide ((N : Int) ≤ 1000)) = decide (N ≤ 1000) := by simp; omega
  refine awl_gcall (c := sb && decide ((N : Int) ≤ 1000)) (fun hg => ht (by simp at hg; exact hg.1) (by simp at hg; omega)) Tryz.func23 rfl (by kernel_rfl) (by simp <;> rfl) rfl rfl (by simp <;> rfl) (by simp [V.pureV, V.pureE]) (by simp <;> rfl) ?_
  refine awl_end [2] [] (by simp <;> rfl) ?_
  refine aw_ret (ends_ret (by simp [Tryz.results11] <;> rfl) ?_)
  have hl2 : (decide ((T.length : Int) ≤ 1000)) = decide (T.length ≤ 1000) := by simp; omega
  simp [hle, hl2, Bool.and_assoc]
theorem refPrint_ac (q : Qy) : AC Tryz.prog 9 [q.v] (fun r => r = .tup [.str (canonT q), .int .i64 (if canonB q = true then 0 else 1)]) := by
  have hv := refValid_ac q
  have ht : canonB q = true → AC Tryz.prog 23 [q.v] (fun r => r = .str (canonT q)) := fun h => by
    rw [canonT_eq h]
    have h' := h
    rw [canon_ref] at h'
    simp only [Bool.and_eq_true, decide_eq_true_eq] at h'
    exact text_ac 8 q h'.1 (tn_of h'.2.1)
  have hT : canonB q = false → canonT q = [] := fun h => by unfold canonT; rw [if_neg (by rw [h]; simp)]
  generalize canonT q = T at ht hT ⊢
  generalize canonB q = b at hv ht hT ⊢
  obtain ⟨k, c, n, f, s, kv, vq⟩ : ∃ k c n f s kv, q.v = .agg [.int .i64 k, .int .i64 c, .int .i64 n, .str f, .str s, .ro 6 kv] := by
    obtain ⟨k, c, n, f, s, ks⟩ := q
    exact ⟨k, c, n, f, s, _, by rw [Qy.v]⟩
  rw [vq] at hv ht ⊢
  refine ac_intro Tryz.func9 rfl (by show (1 : Nat) ≤ 9; omega) (fun w0 N0 => ?_)
  refine aw_step [1] [1] (by simp [Tryz.ntmps9] <;> rfl) ?_   -- ref.go:246
  refine aw_seq ?_
  refine aw_seq (aw_region ?_)   -- ref.go:247
  refine awl_go 1 (by simp <;> rfl) ?_
  refine awl_call1 hv Tryz.func11 rfl (by kernel_rfl) rfl rfl rfl (by simp <;> rfl) (by simp [V.pureV, V.pureE]) (by simp <;> rfl) ?_
  refine awl_end [1, 6] [1] (by simp <;> rfl) ?_
  cases b with
  | false =>
    have hT := hT rfl
    subst hT
    refine aw_cond rfl (fun h1 => ?_) (fun h1 => by simp at h1)   -- if t6
    refine aw_step [2, 3] [] (by simp <;> rfl) ?_   -- ref.go:248
    exact aw_ret (ends_ret (by simp [Tryz.results9] <;> rfl) rfl)
  | true =>
    have ht := ht rfl
    refine aw_cond rfl (fun h1 => by simp at h1) (fun h1 => aw_skip ?_)   -- if t6
    refine aw_seq (aw_region ?_)   -- ref.go:250
    refine awl_go 1 (by simp <;> rfl) ?_
    refine awl_call1 ht Tryz.func23 rfl (by kernel_rfl) rfl rfl rfl (by simp <;> rfl) (by simp [V.pureV, V.pureE]) (by simp <;> rfl) ?_
    refine awl_end [2, 3] [] (by simp <;> rfl) ?_
    exact aw_ret (ends_ret (by simp [Tryz.results9] <;> rfl) rfl)
set_option maxHeartbeats 4000000 in
theorem prints_acq (q : Qy) : ACQ gv Tryz.prog 3 [q.v] (fun r => r = .bool true) := by
  have hAw := awake_acq
  have hp := print_acq q
  have hr := refPrint_ac q
  have hv := valid_acq q
  have hrv := refValid_ac q
  generalize canonT q = T at hp hr
  generalize (if canonB q = true then (0 : Int) else 1) = e at hp hr
  generalize canonB q = b at hv hrv
  obtain ⟨k, c, n, f, s, kv, vq⟩ : ∃ k c n f s kv, q.v = .agg [.int .i64 k, .int .i64 c, .int .i64 n, .str f, .str s, .ro 6 kv] := by
    obtain ⟨k, c, n, f, s, ks⟩ := q
    exact ⟨k, c, n, f, s, _, by rw [Qy.v]⟩
  rw [vq] at hp hr hv hrv ⊢
  refine acq_intro Tryz.func3 rfl (by show (1 : Nat) ≤ 35; omega) (fun w0 N0 hG => ?_)
  refine aw_step [1] [1] (by simp [Tryz.ntmps3] <;> rfl) ?_   -- law.go:68
  refine aw_seq (aw_region ?_)   -- law.go:69
  refine awl_go 1 (by simp <;> rfl) ?_
  refine awl_callQ hG hp Tryz.func8 rfl (by kernel_rfl) (by simp) rfl rfl rfl (by simp <;> rfl) (by simp [V.pureV, V.pureE]) (by simp <;> rfl) ?_
  refine awl_end [1, 3, 4] [1] (by simp <;> rfl) ?_
  refine aw_seq (aw_region ?_)   -- law.go:70
  refine awl_go 1 (by simp <;> rfl) ?_
  refine awl_call1 hr Tryz.func9 rfl (by kernel_rfl) rfl rfl rfl (by simp <;> rfl) (by simp [V.pureV, V.pureE]) (by simp <;> rfl) ?_
  refine awl_end [1, 3, 4, 5, 6] [1] (by simp <;> rfl) ?_
  refine aw_seq (aw_draw [(0, []), (1, []), (2, []), (3, []), (4, []), (5, []), (6, []), (7, []), (8, []), (9, []), (10, []), (11, []), (12, []), (13, []), (14, []), (15, []), (16, []), (17, []), (18, [])] hmix (by kernel_rfl) ?_)   -- law.go:71
  refine awo_go 1 (by simp <;> rfl) ?_
  refine awo_callQ hG (fun _ => hv) Tryz.func10 rfl (by kernel_rfl) rfl rfl (by simp <;> rfl) rfl rfl (by simp <;> rfl) (by simp [V.pureV, V.pureE]) (by simp <;> rfl) ?_
  refine awo_go 1 (by simp <;> rfl) ?_
  refine awo_call (fun _ => hrv) Tryz.func11 rfl (by kernel_rfl) rfl rfl (by simp <;> rfl) rfl rfl (by simp <;> rfl) (by simp [V.pureV, V.pureE]) (by simp <;> rfl) ?_
  refine awo_go 12 (by simp <;> rfl) ?_
  refine awo_callQ hG (fun _ => hAw) Tryz.func12 rfl (by kernel_rfl) rfl rfl (by simp <;> rfl) rfl rfl (by simp <;> rfl) (by simp) (by simp <;> rfl) ?_
  refine awo_end [2] [] (by simp <;> rfl) ?_
  exact aw_ret (ends_ret (by simp [Tryz.results3] <;> rfl) rfl)
end Go.Proofs.YtliogkkhofhfcaaGreatDoor
