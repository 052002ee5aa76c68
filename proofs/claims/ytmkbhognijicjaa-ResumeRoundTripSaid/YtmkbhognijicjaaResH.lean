/- Resume: the reference's Encode. No condition. -/
import Derived.Test.YtmkbhognijicjaaResG
set_option linter.unusedSimpArgs false
namespace Go.Proofs.Ytmkbhognijicjaa
open Go.Eng

set_option maxRecDepth 100000 in
set_option maxHeartbeats 4000000 in
theorem refEncode_ac (e : Ev) : AC Try.prog 14 [e.v] (fun r => r = encV e) := by
  have hck := check_ac e
  have hl := numsL e.ch
  have hp := pureI e.ch
  have hnum := fun t n => refNumber_ac t n
  have hstr := refString_ac 6 e.text
  by_cases hE : encE e = 0
  · obtain ⟨h1', h2', h3', h4', h5'⟩ := encE_zero hE
    have hsm := sm_enc e (by omega)
    have hL := refList_ac 50 (encK e) hsm.2 hsm.1
    have hpp := pureN (encK e)
    have hR : encV e = .tup [(Nd.mk 50 3 0 [] (encK e)).v, .int .i64 0] := by rw [encV, encN, if_pos hE, hE]
    rw [hR]
    rw [hE] at hck
    have hK : (encK e).map Nd.v = [(num 1 e.kind).v, (num 2 e.time).v] ++ (if e.kind = 2 then (ansK e).map Nd.v else if e.kind = 5 then [(num 8 e.ik).v, (num 9 e.il).v, (num 10 e.ig).v] else []) := by
      unfold encK
      split
      · simp
      · split <;> simp
    rw [Nd.v] at hL ⊢
    generalize hkv : (encK e).map Nd.v = kv at hL hK hpp ⊢
    have hg : ∀ (k : Nat) (h : k < e.ch.length), nth (nums e.ch) k = some (.int .i64 e.ch[k]) := by
      intro k h; rw [nth_eq]; simp [nums, h]
    have hcl : ((chN e.ch).map Nd.v).length = e.ch.length := by simp [chN]
    have hcg : ∀ (k : Nat) (h : k < e.ch.length), ((chN e.ch).map Nd.v)[k]? = some (num 0 e.ch[k]).v := by
      intro k h; simp [chN, h]
    have hcp := pureN (chN e.ch)
    have hL4 := refList_ac 4 (chN e.ch) (by simp [chN]; omega) (sm_ch _)
    simp only [ansK, List.map_cons, List.map_nil] at hK
    simp only [num, Nd.v, List.map_nil] at hnum hstr hL4 hcg hK
    simp only [Ev.v] at hck ⊢
    generalize nums e.ch = cv at hck hl hp hg
    generalize (chN e.ch).map Nd.v = nv at hcl hcg hcp hL4 hK
    refine ac_intro Try.func14 rfl (by show (1 : Nat) ≤ 85; omega) (fun w0 N0 => ?_)
    refine aw_step [1, 2] [1, 2] (by simp [Try.ntmps14] <;> rfl) ?_   -- ref.go:42
    refine aw_seq (aw_region ?_)   -- ref.go:43
    refine awl_go 1 (by simp <;> rfl) ?_
    refine awl_call1 hck Try.func22 rfl (by kernel_rfl) rfl rfl rfl rfl (by simp [hp]) (by simp <;> rfl) ?_
    refine awl_end [1, 2, 4] [1, 2] (by simp <;> rfl) ?_
    refine aw_seq ?_
    refine aw_step [1, 2, 4, 12] [1, 2] (by simp <;> rfl) ?_   -- ref.go:44
    refine aw_cond rfl (fun h1 => by simp at h1) (fun h1 => aw_skip ?_)   -- if t12
    refine aw_seq (aw_draw [(0, []), (3, []), (1, [21]), (2, []), (4, [21]), (5, []), (6, []), (7, [])] hmix (by kernel_rfl) ?_)   -- ref.go:47
    refine awo_go 3 (by simp <;> rfl) ?_
    refine awo_call (fun hg => hnum 1 e.kind) Try.func23 rfl (by kernel_rfl) rfl rfl (by simp <;> rfl) rfl rfl (by simp <;> rfl) (by simp) (by simp <;> rfl) ?_
    refine awo_go 1 (by simp <;> rfl) ?_
    refine awo_call (fun hg => hnum 2 e.time) Try.func23 rfl (by kernel_rfl) rfl rfl (by simp <;> rfl) rfl rfl (by simp <;> rfl) (by simp) (by simp <;> rfl) ?_
    refine awo_end [1, 2, 5] [1, 2, 21] (by simp <;> rfl) ?_
    refine aw_seq ?_
    refine aw_step [1, 2, 5, 24] [1, 2, 21] (by simp <;> rfl) ?_   -- ref.go:48
    refine aw_cond rfl (fun h2 => ?_) (fun h2 => aw_skip ?_)   -- if t24
    · have hk2 : e.kind = 2 := by simpa using h2
      rw [if_pos hk2] at hK
      refine aw_step [1, 2, 5, 6] [1, 2, 21] (by simp <;> rfl) ?_   -- ref.go:49
      refine aw_seq ?_
      refine aw_step [1, 2, 5, 6, 7] [1, 2, 21] (by simp <;> rfl) ?_   -- ref.go:50
      refine aw_adoptS 6 100 5 24 [1, 2, 5, 6, 7] [1, 2, 21, 100] (by simp <;> rfl) (by simp <;> rfl) ?_
      refine aw_block ?_
      refine aw_loop (fun x : Nat × Nat × Nat => ⟨[(1, .bp 1 0 11 0 0), (2, .bp 2 1 5 0 0), (5, .sl 21 14 5 2), (6, .sl 100 x.2.1 5 x.1), (7, .int .i64 x.1)],
        [(1, ⟨0, 11, 32, [.agg [.int .i64 e.kind, .int .i64 e.time, .int .i64 e.item, .ro 1 cv, .int .i64 e.value, .str e.text, .bool e.om, .int .i64 e.ik, .int .i64 e.it, .int .i64 e.il, .int .i64 e.ig]]⟩), (2, ⟨1, 5, 24, [.agg [.int .i64 0, .int .i64 0, .int .i64 0, .str [], .nils]]⟩), (21, ⟨14, 5, 24, [.agg [.int .i64 1, .int .i64 1, .int .i64 e.kind, .str [], .ro 5 []], .agg [.int .i64 2, .int .i64 1, .int .i64 e.time, .str [], .ro 5 []]]⟩), (100, ⟨x.2.1, 5, 24, nv.take x.1⟩)], x.2.2, 85⟩)
        (fun x => x.1 ≤ nv.length) (fun x => nv.length - x.1) (0, 21, _) (Nat.zero_le _) (AS.le_refl _) ?_
      rintro ⟨k, q, nx⟩ hk
      simp only at hk
      have htl : (nv.take k).length = k := by rw [List.length_take]; omega
      generalize hrow : nv.take k = row at htl ⊢
      refine aw_seq ?_
      refine aw_step [1, 2, 5, 6, 7, 30] [1, 2, 21, 100] (by simp <;> rfl) ?_   -- ref.go:50
      refine aw_cond rfl (fun h3 => aw_skip ?_) (fun h3 => ?_)   -- if t30
      · have hlt : k < e.ch.length := by simp at h3; omega
        have hlt' : k < cv.length := by omega
        have hltn : k < nv.length := by omega
        have ga := hg k hlt
        have hw := wrap_succ (k := k) (by omega)
        have htk : nv.take (k + 1) = row ++ [.agg [.int .i64 0, .int .i64 1, .int .i64 e.ch[k], .str [], .ro 5 []]] := by
          rw [List.take_succ_eq_append_getElem hltn, hrow]
          congr 2
          have := hcg k hlt
          rw [List.getElem?_eq_getElem hltn] at this
          injection this
        have hb1 : k + 1 ≤ maxLen := by unfold maxLen; omega
        have hb2 : (k + 1) * 64 ≤ 140737488355328 := by omega
        have hc := hnum 0 e.ch[k]
        refine aw_seq ?_
        refine aw_block ?_
        refine aw_region ?_   -- ref.go:51
        refine awl_go 7 (by simp [ga, hlt'] <;> rfl) ?_
        refine awl_call1 hc Try.func23 rfl (by kernel_rfl) rfl rfl rfl rfl rfl (by simp <;> rfl) ?_
        refine awl_end [1, 2, 5, 6, 7] [1, 2, 21, 100] (by simp [htl, hb1, hb2] <;> rfl) ?_
        refine aw_one [1, 2, 5, 6, 7] [1, 2, 21, 100] (by simp [hw] <;> rfl) ?_   -- ref.go:50
        exact ⟨(k + 1, _, _), hltn, by simp only; omega, by simp only [htk]; exact AS.le_refl _⟩
      · refine aw_exit ?_
        have hkl : k = nv.length := by simp at h3; omega
        have hrow' : row = nv := by rw [← hrow, hkl, List.take_length]
        subst hrow'
        subst hkl
        refine aw_step [1, 2, 5, 6, 8] [1, 2, 21, 100] (by simp <;> rfl) ?_   -- ref.go:53
        refine aw_freeze 100 [1, 2, 5, 6, 8] [1, 2, 21] (by simp [hcp] <;> rfl) ?_
        refine aw_viale ⟨[(1, .bp 1 0 11 0 0), (2, .bp 2 1 5 0 0), (5, .sl 21 14 5 2), (6, .ro 5 row), (8, .int .i64 (if e.om = true then 1 else 0))],
          [(1, ⟨0, 11, 32, [.agg [.int .i64 e.kind, .int .i64 e.time, .int .i64 e.item, .ro 1 cv, .int .i64 e.value, .str e.text, .bool e.om, .int .i64 e.ik, .int .i64 e.it, .int .i64 e.il, .int .i64 e.ig]]⟩), (2, ⟨1, 5, 24, [.agg [.int .i64 0, .int .i64 0, .int .i64 0, .str [], .nils]]⟩), (21, ⟨14, 5, 24, [.agg [.int .i64 1, .int .i64 1, .int .i64 e.kind, .str [], .ro 5 []], .agg [.int .i64 2, .int .i64 1, .int .i64 e.time, .str [], .ro 5 []]]⟩)], nx + 1000, 85⟩ ?_ ?_
        · refine aw_step [1, 2, 5, 6, 8, 45] [1, 2, 21] (by simp <;> rfl) ?_   -- ref.go:54
          refine aw_cond rfl (fun h4 => ?_) (fun h4 => aw_skip ?_)   -- if t45
          · refine aw_one [1, 2, 5, 6, 8] [1, 2, 21] (by simp <;> rfl) ?_   -- ref.go:55
            refine ⟨rfl, ?_⟩
            rw [if_pos h4]
            exact le_to [1, 2, 5, 6, 8] [1, 2, 21] (by simp <;> rfl) (by simp <;> rfl) rfl (by simp only; omega)
          · refine ⟨rfl, ?_⟩
            rw [if_neg (by rw [h4]; simp)]
            exact le_to [1, 2, 5, 6, 8] [1, 2, 21] (by simp <;> rfl) (by simp <;> rfl) rfl (by simp only; omega)
        generalize (if e.om = true then (1 : Int) else 0) = om at hK
        refine aw_draw [(0, []), (1, []), (2, []), (5, []), (7, []), (8, []), (11, []), (12, []), (15, []), (3, [63]), (4, []), (6, []), (9, [63]), (10, []), (13, [63]), (14, []), (16, []), (17, []), (18, []), (19, [])] hmix (by kernel_rfl) ?_   -- ref.go:57
        refine awo_go 10 (by simp <;> rfl) ?_
        refine awo_call (fun hg => hnum 3 e.item) Try.func23 rfl (by kernel_rfl) rfl rfl (by simp <;> rfl) rfl rfl (by simp <;> rfl) (by simp) (by simp <;> rfl) ?_
        refine awo_call (fun hg => hL4) Try.func24 rfl (by kernel_rfl) rfl rfl (by simp <;> rfl) rfl rfl (by simp <;> rfl) (by simp) (by simp <;> rfl) ?_
        refine awo_go 1 (by simp <;> rfl) ?_
        refine awo_call (fun hg => hnum 5 e.value) Try.func23 rfl (by kernel_rfl) rfl rfl (by simp <;> rfl) rfl rfl (by simp <;> rfl) (by simp) (by simp <;> rfl) ?_
        refine awo_go 1 (by simp <;> rfl) ?_
        refine awo_call (fun hg => hstr) Try.func25 rfl (by kernel_rfl) rfl rfl (by simp <;> rfl) rfl rfl (by simp <;> rfl) (by simp) (by simp <;> rfl) ?_
        refine awo_call (fun hg => hnum 7 om) Try.func23 rfl (by kernel_rfl) rfl rfl (by simp <;> rfl) rfl rfl (by simp <;> rfl) (by simp) (by simp <;> rfl) ?_
        refine awo_end [1, 2, 5] [1, 2, 21] (by simp [maxLen] <;> rfl) ?_
        refine aw_seq ?_
        refine aw_step [1, 2, 5, 67] [1, 2, 21] (by simp [hk2] <;> rfl) ?_   -- ref.go:59
        refine aw_cond rfl (fun h5 => by simp at h5) (fun h5 => aw_skip ?_)   -- if t67
        refine aw_freeze 21 [2, 5] [2] (by simp <;> rfl) ?_
        refine aw_seq (aw_region ?_)   -- ref.go:62
        refine awl_go 1 (by simp <;> rfl) ?_
        rw [hK] at hL hpp
        refine awl_call1 hL Try.func24 rfl (by kernel_rfl) rfl rfl rfl (by simp [hk2] <;> rfl) (by simp) (by simp <;> rfl) ?_
        refine awl_end [2, 3] [2] (by simp <;> rfl) ?_
        exact aw_ret (ends_ret (by simp [Try.results14] <;> rfl) (by simp [hK, hk2]))
    have hk2 : ¬ e.kind = 2 := by simpa using h2
    rw [if_neg hk2] at hK
    refine aw_seq ?_
    refine aw_step [1, 2, 5, 67] [1, 2, 21] (by simp <;> rfl) ?_   -- ref.go:59
    refine aw_cond rfl (fun h7 => ?_) (fun h7 => aw_skip ?_)   -- if t67
    · have hk5 : e.kind = 5 := by simpa using h7
      rw [if_pos hk5] at hK
      refine aw_draw [(0, []), (1, []), (2, []), (5, []), (6, []), (9, []), (10, []), (3, [81]), (4, []), (7, [81]), (8, []), (11, [81]), (12, []), (13, []), (14, []), (15, [])] hmix (by kernel_rfl) ?_   -- ref.go:60
      refine awo_go 8 (by simp <;> rfl) ?_
      refine awo_call (fun hg => hnum 8 e.ik) Try.func23 rfl (by kernel_rfl) rfl rfl (by simp <;> rfl) rfl rfl (by simp <;> rfl) (by simp) (by simp <;> rfl) ?_
      refine awo_go 1 (by simp <;> rfl) ?_
      refine awo_call (fun hg => hnum 9 e.il) Try.func23 rfl (by kernel_rfl) rfl rfl (by simp <;> rfl) rfl rfl (by simp <;> rfl) (by simp) (by simp <;> rfl) ?_
      refine awo_go 1 (by simp <;> rfl) ?_
      refine awo_call (fun hg => hnum 10 e.ig) Try.func23 rfl (by kernel_rfl) rfl rfl (by simp <;> rfl) rfl rfl (by simp <;> rfl) (by simp) (by simp <;> rfl) ?_
      refine awo_end [2, 5] [2, 21] (by simp [maxLen] <;> rfl) ?_
      refine aw_freeze 21 [2, 5] [2] (by simp <;> rfl) ?_
      refine aw_seq (aw_region ?_)   -- ref.go:62
      refine awl_go 1 (by simp <;> rfl) ?_
      rw [hK] at hL hpp
      refine awl_call1 hL Try.func24 rfl (by kernel_rfl) rfl rfl rfl (by simp <;> rfl) (by simp) (by simp <;> rfl) ?_
      refine awl_end [2, 3] [2] (by simp <;> rfl) ?_
      exact aw_ret (ends_ret (by simp [Try.results14] <;> rfl) (by simp [hK]))
    have hk5 : ¬ e.kind = 5 := by simpa using h7
    rw [if_neg hk5] at hK
    refine aw_freeze 21 [2, 5] [2] (by simp <;> rfl) ?_
    refine aw_seq (aw_region ?_)   -- ref.go:62
    refine awl_go 1 (by simp <;> rfl) ?_
    rw [hK] at hL hpp
    refine awl_call1 hL Try.func24 rfl (by kernel_rfl) rfl rfl rfl (by simp <;> rfl) (by simp) (by simp <;> rfl) ?_
    refine awl_end [2, 3] [2] (by simp <;> rfl) ?_
    exact aw_ret (ends_ret (by simp [Try.results14] <;> rfl) (by simp [hK]))
  · refine AC.relax ?_ (relax_err _ rfl hE)
    simp only [Ev.v] at hck ⊢
    generalize nums e.ch = cv at hck hl hp
    generalize encE e = c at hck hE
    refine ac_intro Try.func14 rfl (by show (1 : Nat) ≤ 85; omega) (fun w0 N0 => ?_)
    refine aw_step [1, 2] [1, 2] (by simp [Try.ntmps14] <;> rfl) ?_   -- ref.go:42
    refine aw_seq (aw_region ?_)   -- ref.go:43
    refine awl_go 1 (by simp <;> rfl) ?_
    refine awl_call1 hck Try.func22 rfl (by kernel_rfl) rfl rfl rfl rfl (by simp [hp]) (by simp <;> rfl) ?_
    refine awl_end [1, 2, 4] [1, 2] (by simp <;> rfl) ?_
    refine aw_seq ?_
    refine aw_step [1, 2, 4, 12] [1, 2] (by simp <;> rfl) ?_   -- ref.go:44
    refine aw_cond rfl (fun h1 => ?_) (fun h1 => by simp [hE] at h1)   -- if t12
    refine aw_step [2, 3] [2] (by simp <;> rfl) ?_   -- ref.go:45
    exact aw_ret (ends_ret (by simp [Try.results14] <;> rfl) rfl)
end Go.Proofs.Ytmkbhognijicjaa
