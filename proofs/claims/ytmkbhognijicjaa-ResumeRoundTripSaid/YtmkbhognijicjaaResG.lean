/- Resume: Encode. No condition. -/
import Derived.Test.YtmkbhognijicjaaResF
set_option linter.unusedSimpArgs false
namespace Go.Proofs.Ytmkbhognijicjaa
open Go.Eng

theorem encE_zero {e : Ev} (h : encE e = 0) : fmd e = true ∧ 0 ≤ e.time ∧ e.time ≤ 1099511627776 ∧ e.ch.length ≤ 10 ∧ e.text.length ≤ 1000 := by
  unfold encE at h
  split at h
  · cases h
  rename_i h1
  split at h
  · cases h
  rename_i h2
  split at h
  · cases h
  rename_i h3
  simp at h1 h2 h3
  exact ⟨h1, by omega, by omega, by omega, by omega⟩
theorem relax_zN : Relax (.agg [.int .i64 0, .int .i64 0, .int .i64 0, .str [], .nils]) zNd.v := relax_node 0 0 0 []
/-- What Encode returns. -/
def encV (e : Ev) : V := .tup [(encN e).v, .int .i64 (encE e)]
theorem relax_err (c : Int) {e : Ev} (h : encE e = c) (hc : c ≠ 0) : Relax (.tup [.agg [.int .i64 0, .int .i64 0, .int .i64 0, .str [], .nils], .int .i64 c]) (encV e) := by
  subst h
  rw [encV, encN, if_neg hc]
  exact Relax.tup (.cons relax_zN (.cons (Relax.refl _) .nil))

set_option maxRecDepth 100000 in
set_option maxHeartbeats 2000000 in
theorem encode_ac (e : Ev) : AC Try.prog 9 [e.v] (fun r => r = encV e) := by
  have hfm := formed_ac e
  have hl := numsL e.ch
  have hp := pureI e.ch
  have hak := fun h => answerKids_ac e h
  have hnum := fun t n => number_ac t n
  by_cases hE : encE e = 0
  · obtain ⟨h1', h2', h3', h4', h5'⟩ := encE_zero hE
    have hsm := sm_enc e (by omega)
    have hL := list_ac 50 (encK e) hsm.2 hsm.1
    have hak := hak h4'
    have hpk := pureN (ansK e)
    have hpp := pureN (encK e)
    have hR : encV e = .tup [(Nd.mk 50 3 0 [] (encK e)).v, .int .i64 0] := by rw [encV, encN, if_pos hE, hE]
    rw [hR]
    rw [h1'] at hfm
    have hkl : ((ansK e).map Nd.v).length = 5 := by simp [ansK]
    have hK : (encK e).map Nd.v = [(num 1 e.kind).v, (num 2 e.time).v] ++ (if e.kind = 2 then (ansK e).map Nd.v else if e.kind = 5 then [(num 8 e.ik).v, (num 9 e.il).v, (num 10 e.ig).v] else []) := by
      unfold encK
      split
      · simp
      · split <;> simp
    rw [Nd.v] at hL ⊢
    generalize hkv : (encK e).map Nd.v = kv at hL hK hpp ⊢
    simp only [num, Nd.v, List.map_nil] at hnum hK
    simp only [Ev.v, Ev.a] at hfm hak ⊢
    generalize nums e.ch = cv at hfm hl hp hak
    generalize (ansK e).map Nd.v = av at hak hpk hkl hK
    have ht1 : ¬ e.time < 0 := by omega
    have ht2 : ¬ 1099511627776 < e.time := by omega
    have hc1 : ¬ (10 : Int) < cv.length := by omega
    have hc2 : ¬ (1000 : Int) < e.text.length := by omega
    refine ac_intro Try.func9 rfl (by show (1 : Nat) ≤ 66; omega) (fun w0 N0 => ?_)
    refine aw_step [1, 2] [1, 2] (by simp [Try.ntmps9] <;> rfl) ?_   -- resume.go:39
    refine aw_seq ?_
    refine aw_seq (aw_region ?_)   -- resume.go:40
    refine awl_go 1 (by simp <;> rfl) ?_
    refine awl_call1 hfm Try.func16 rfl (by kernel_rfl) rfl rfl rfl rfl (by simp [hp]) (by simp <;> rfl) ?_
    refine awl_end [1, 2, 7] [1, 2] (by simp <;> rfl) ?_
    refine aw_cond rfl (fun h1 => by simp at h1) (fun h1 => aw_skip ?_)   -- if t7
    refine aw_seq ?_
    refine aw_step [1, 2, 16] [1, 2] (by simp [ht1, ht2] <;> rfl) ?_   -- resume.go:43
    refine aw_cond rfl (fun h2 => by simp at h2) (fun h2 => aw_skip ?_)   -- if t16
    refine aw_seq ?_
    refine aw_step [1, 2, 29] [1, 2] (by simp [hc1, hc2] <;> rfl) ?_   -- resume.go:46
    refine aw_cond rfl (fun h3 => by simp at h3) (fun h3 => aw_skip ?_)   -- if t29
    refine aw_seq (aw_draw [(0, []), (3, []), (1, [37]), (2, []), (4, [37]), (5, []), (6, []), (7, [])] hmix (by kernel_rfl) ?_)   -- resume.go:49
    refine awo_go 3 (by simp <;> rfl) ?_
    refine awo_call (fun hg => hnum 1 e.kind) Try.func17 rfl (by kernel_rfl) rfl rfl (by simp <;> rfl) rfl rfl (by simp <;> rfl) (by simp) (by simp <;> rfl) ?_
    refine awo_go 1 (by simp <;> rfl) ?_
    refine awo_call (fun hg => hnum 2 e.time) Try.func17 rfl (by kernel_rfl) rfl rfl (by simp <;> rfl) rfl rfl (by simp <;> rfl) (by simp) (by simp <;> rfl) ?_
    refine awo_end [1, 2, 4] [1, 2, 37] (by simp <;> rfl) ?_
    refine aw_viale ⟨[(2, .bp 2 1 5 0 0), (4, .ro 5 kv)], [(2, ⟨1, 5, 24, [.agg [.int .i64 0, .int .i64 0, .int .i64 0, .str [], .nils]]⟩)], 1000, 66⟩ ?_ ?_
    · refine aw_step [1, 2, 4, 39] [1, 2, 37] (by simp <;> rfl) ?_   -- resume.go:50
      refine aw_block ?_
      refine aw_step [1, 2, 4, 39, 40] [1, 2, 37] (by simp <;> rfl) ?_   -- resume.go:51
      refine aw_cond rfl (fun h4 => ?_) (fun h4 => ?_)   -- if t40
      · have h4 : e.kind = 2 := by simpa using h4
        rw [if_pos h4] at hK
        refine aw_region ?_   -- resume.go:52
        refine awl_go 3 (by simp <;> rfl) ?_
        refine awl_call1 hak Try.func18 rfl (by kernel_rfl) rfl rfl rfl rfl (by simp [hp]) (by simp <;> rfl) ?_
        refine awl_end [2, 4] [2, 37] (by simp [hkl, maxLen] <;> rfl) ?_
        refine ⟨rfl, ?_⟩
        rw [hK]
        refine le_frz 37 [2, 4] [2] (by simp [hpk, hkl] <;> rfl) ?_ ?_ ?_ ?_ <;> first | rfl | simp
      · have h4 : ¬ e.kind = 2 := by simpa using h4
        rw [if_neg h4] at hK
        refine aw_step [1, 2, 4, 47] [1, 2, 37] (by simp <;> rfl) ?_   -- resume.go:53
        refine aw_cond rfl (fun h5 => ?_) (fun h5 => aw_skip ?_)   -- if t47
        · have h5 : e.kind = 5 := by simpa using h5
          rw [if_pos h5] at hK
          refine aw_draw [(0, []), (1, []), (2, []), (5, []), (6, []), (9, []), (10, []), (3, [62]), (4, []), (7, [62]), (8, []), (11, [62]), (12, []), (13, []), (14, []), (15, [])] hmix (by kernel_rfl) ?_   -- resume.go:54
          refine awo_go 8 (by simp <;> rfl) ?_
          refine awo_call (fun hg => hnum 8 e.ik) Try.func17 rfl (by kernel_rfl) rfl rfl (by simp <;> rfl) rfl rfl (by simp <;> rfl) (by simp) (by simp <;> rfl) ?_
          refine awo_go 1 (by simp <;> rfl) ?_
          refine awo_call (fun hg => hnum 9 e.il) Try.func17 rfl (by kernel_rfl) rfl rfl (by simp <;> rfl) rfl rfl (by simp <;> rfl) (by simp) (by simp <;> rfl) ?_
          refine awo_go 1 (by simp <;> rfl) ?_
          refine awo_call (fun hg => hnum 10 e.ig) Try.func17 rfl (by kernel_rfl) rfl rfl (by simp <;> rfl) rfl rfl (by simp <;> rfl) (by simp) (by simp <;> rfl) ?_
          refine awo_end [2, 4] [2, 37] (by simp [maxLen] <;> rfl) ?_
          refine ⟨rfl, ?_⟩
          rw [hK]
          refine le_frz 37 [2, 4] [2] (by simp <;> rfl) ?_ ?_ ?_ ?_ <;> first | rfl | simp
        · have h5 : ¬ e.kind = 5 := by simpa using h5
          rw [if_neg h5] at hK
          refine ⟨rfl, ?_⟩
          rw [hK]
          refine le_frz 37 [2, 4] [2] (by simp <;> rfl) ?_ ?_ ?_ ?_ <;> first | rfl | simp
    refine aw_seq (aw_region ?_)   -- resume.go:56
    refine awl_go 1 (by simp <;> rfl) ?_
    refine awl_call1 hL Try.func19 rfl (by kernel_rfl) rfl rfl rfl rfl (by simp [hpp]) (by simp <;> rfl) ?_
    refine awl_end [2, 3] [2] (by simp <;> rfl) ?_
    exact aw_ret (ends_ret (by simp [Try.results9] <;> rfl) rfl)
  · refine AC.relax ?_ (relax_err _ rfl hE)
    have hE0 : encE e = if fmd e = false then 1 else if (decide (e.time < 0) || decide (1099511627776 < e.time)) = true then 3 else if (decide ((10 : Int) < (nums e.ch).length) || decide ((1000 : Int) < e.text.length)) = true then 5 else 0 := by rw [hl]; rfl
    simp only [Ev.v] at hfm ⊢
    generalize nums e.ch = cv at hfm hl hp hE0
    generalize fmd e = fb at hfm hE0
    refine ac_intro Try.func9 rfl (by show (1 : Nat) ≤ 66; omega) (fun w0 N0 => ?_)
    refine aw_step [1, 2] [1, 2] (by simp [Try.ntmps9] <;> rfl) ?_   -- resume.go:39
    refine aw_seq ?_
    refine aw_seq (aw_region ?_)   -- resume.go:40
    refine awl_go 1 (by simp <;> rfl) ?_
    refine awl_call1 hfm Try.func16 rfl (by kernel_rfl) rfl rfl rfl rfl (by simp [hp]) (by simp <;> rfl) ?_
    refine awl_end [1, 2, 7] [1, 2] (by simp <;> rfl) ?_
    refine aw_cond rfl (fun h1 => ?_) (fun h1 => aw_skip ?_)   -- if t7
    · rw [if_pos (by simpa using h1)] at hE0
      refine aw_step [2, 3] [2] (by simp <;> rfl) ?_   -- resume.go:41
      exact aw_ret (ends_ret (by simp [Try.results9] <;> rfl) (by rw [hE0]))
    rw [if_neg (by simpa using h1)] at hE0
    refine aw_seq ?_
    refine aw_step [1, 2, 16] [1, 2] (by simp <;> rfl) ?_   -- resume.go:43
    refine aw_cond rfl (fun h2 => ?_) (fun h2 => aw_skip ?_)   -- if t16
    · rw [if_pos h2] at hE0
      refine aw_step [2, 3] [2] (by simp <;> rfl) ?_   -- resume.go:44
      exact aw_ret (ends_ret (by simp [Try.results9] <;> rfl) (by rw [hE0]))
    rw [if_neg (by rw [h2]; simp)] at hE0
    refine aw_seq ?_
    refine aw_step [1, 2, 29] [1, 2] (by simp <;> rfl) ?_   -- resume.go:46
    refine aw_cond rfl (fun h3 => ?_) (fun h3 => aw_skip ?_)   -- if t29
    · rw [if_pos h3] at hE0
      refine aw_step [2, 3] [2] (by simp <;> rfl) ?_   -- resume.go:47
      exact aw_ret (ends_ret (by simp [Try.results9] <;> rfl) (by rw [hE0]))
    rw [if_neg (by rw [h3]; simp)] at hE0
    exact absurd hE0 hE
end Go.Proofs.Ytmkbhognijicjaa
