/- Resume: the functions that make nodes. No condition. -/
import Derived.Test.YtmkbhognijicjaaResC
set_option linter.unusedSimpArgs false
namespace Go.Proofs.Ytmkbhognijicjaa
open Go.Eng

theorem relax_node (a b c : Int) (s : List UInt8) : Relax (.agg [.int .i64 a, .int .i64 b, .int .i64 c, .str s, .nils]) (Nd.mk a b c s []).v := by
  rw [Nd.v]
  exact Relax.agg (.cons (Relax.refl _) (.cons (Relax.refl _) (.cons (Relax.refl _) (.cons (Relax.refl _) (.cons (Relax.nils 5) .nil)))))

theorem int_ac (t n : Int) : AC Try.prog 26 [.int .i64 t, .int .i64 n] (fun r => r = (Nd.mk t 1 n [] []).v) := by
  refine AC.relax (v := .agg [.int .i64 t, .int .i64 1, .int .i64 n, .str [], .nils]) ?_ (relax_node _ _ _ _)
  refine ac_intro Try.func26 rfl (by show (2 : Nat) ≤ 8; omega) (fun w0 N0 => ?_)
  refine aw_step [0, 1, 4] [4] (by simp [Try.ntmps26] <;> rfl) ?_   -- codec.go:12
  refine aw_step [4] [4] (by simp <;> rfl) ?_   -- codec.go:13
  exact aw_ret (ends_ret (by simp [Try.results26] <;> rfl) rfl)
theorem refInt_ac (t n : Int) : AC Try.prog 32 [.int .i64 t, .int .i64 n] (fun r => r = (Nd.mk t 1 n [] []).v) := by
  refine AC.relax (v := .agg [.int .i64 t, .int .i64 1, .int .i64 n, .str [], .nils]) ?_ (relax_node _ _ _ _)
  refine ac_intro Try.func32 rfl (by show (2 : Nat) ≤ 8; omega) (fun w0 N0 => ?_)
  refine aw_step [0, 1, 4] [4] (by simp [Try.ntmps32] <;> rfl) ?_
  refine aw_step [4] [4] (by simp <;> rfl) ?_
  exact aw_ret (ends_ret (by simp [Try.results32] <;> rfl) rfl)
theorem string_ac (t : Int) (s : List UInt8) : AC Try.prog 27 [.int .i64 t, .str s] (fun r => r = (Nd.mk t 2 0 s []).v) := by
  refine AC.relax (v := .agg [.int .i64 t, .int .i64 2, .int .i64 0, .str s, .nils]) ?_ (relax_node _ _ _ _)
  refine ac_intro Try.func27 rfl (by show (2 : Nat) ≤ 8; omega) (fun w0 N0 => ?_)
  refine aw_step [0, 1, 4] [4] (by simp [Try.ntmps27] <;> rfl) ?_
  refine aw_step [4] [4] (by simp <;> rfl) ?_
  exact aw_ret (ends_ret (by simp [Try.results27] <;> rfl) rfl)
theorem refString_ac (t : Int) (s : List UInt8) : AC Try.prog 25 [.int .i64 t, .str s] (fun r => r = (Nd.mk t 2 0 s []).v) := by
  refine AC.relax (v := .agg [.int .i64 t, .int .i64 2, .int .i64 0, .str s, .nils]) ?_ (relax_node _ _ _ _)
  refine ac_intro Try.func25 rfl (by show (2 : Nat) ≤ 8; omega) (fun w0 N0 => ?_)
  refine aw_step [0, 1, 4] [4] (by simp [Try.ntmps25] <;> rfl) ?_
  refine aw_step [4] [4] (by simp <;> rfl) ?_
  exact aw_ret (ends_ret (by simp [Try.results25] <;> rfl) rfl)
theorem number_ac (t n : Int) : AC Try.prog 17 [.int .i64 t, .int .i64 n] (fun r => r = (Nd.mk t 1 n [] []).v) := by
  have hc := int_ac t n
  simp only [Nd.v, List.map_nil] at hc ⊢
  refine ac_intro Try.func17 rfl (by show (2 : Nat) ≤ 8; omega) (fun w0 N0 => ?_)
  refine aw_step [0, 1, 4] [4] (by simp [Try.ntmps17] <;> rfl) ?_   -- resume.go:34
  refine aw_seq (aw_region ?_)   -- resume.go:35
  refine awl_go 2 (by simp <;> rfl) ?_
  refine awl_call1 hc Try.func26 rfl (by kernel_rfl) rfl rfl rfl rfl rfl (by simp <;> rfl) ?_
  refine awl_end [4] [4] (by simp <;> rfl) ?_
  exact aw_ret (ends_ret (by simp [Try.results17] <;> rfl) rfl)
theorem refNumber_ac (t n : Int) : AC Try.prog 23 [.int .i64 t, .int .i64 n] (fun r => r = (Nd.mk t 1 n [] []).v) := by
  have hc := refInt_ac t n
  simp only [Nd.v, List.map_nil] at hc ⊢
  refine ac_intro Try.func23 rfl (by show (2 : Nat) ≤ 8; omega) (fun w0 N0 => ?_)
  refine aw_step [0, 1, 4] [4] (by simp [Try.ntmps23] <;> rfl) ?_
  refine aw_seq (aw_region ?_)
  refine awl_go 2 (by simp <;> rfl) ?_
  refine awl_call1 hc Try.func32 rfl (by kernel_rfl) rfl rfl rfl rfl rfl (by simp <;> rfl) ?_
  refine awl_end [4] [4] (by simp <;> rfl) ?_
  exact aw_ret (ends_ret (by simp [Try.results23] <;> rfl) rfl)
theorem list_ac (t : Int) (l : List Nd) (hl : l.length ≤ 1000) (hs : ∀ x ∈ l, Sm x) : AC Try.prog 19 [.int .i64 t, .ro 5 (l.map Nd.v)] (fun r => r = (Nd.mk t 3 0 [] l).v) := by
  have hc := copies_ac _ l (Nat.lt_succ_self _) hl hs
  have hp := pureN l
  rw [Nd.v]
  generalize l.map Nd.v = lv at hc hp
  refine ac_intro Try.func19 rfl (by show (2 : Nat) ≤ 9; omega) (fun w0 N0 => ?_)
  refine aw_step [0, 1, 4] [4] (by simp [Try.ntmps19] <;> rfl) ?_   -- codec.go:22
  refine aw_seq (aw_region ?_)   -- codec.go:23
  refine awl_go 2 (by simp <;> rfl) ?_
  refine awl_call1 hc Try.func28 rfl (by kernel_rfl) rfl rfl rfl rfl rfl (by simp <;> rfl) ?_
  refine awl_end [4] [4] (by simp <;> rfl) ?_
  exact aw_ret (ends_ret (by simp [Try.results19] <;> rfl) rfl)

set_option maxHeartbeats 1000000 in
theorem refCopy_ac : ∀ (m : Nat) (x : Nd), SizeOf.sizeOf x < m → Sm x → AC Try.prog 33 [x.v] (fun r => r = x.v) := by
  intro m
  induction m with
  | zero => intro x h; omega
  | succ m ih =>
  rintro x hm ⟨hl, hs⟩
  rename_i t kd n s l
  have ih' : ∀ y ∈ l, AC Try.prog 33 [y.v] (fun r => r = y.v) := fun y hy => ih y (by have := Nd.kid_lt (t := t) (k := kd) (n := n) (s := s) hy; omega) (hs y hy)
  have hga := fun (k : Nat) (h : k < l.length) => nthN h
  have hla : (l.map Nd.v).length = l.length := by simp
  have hp := pureN l
  rw [Nd.v]
  generalize l.map Nd.v = lv at hga hla hp
  refine ac_intro Try.func33 rfl (by show (1 : Nat) ≤ 33; omega) (fun w0 N0 => ?_)
  refine aw_step [1, 2] [1, 2] (by simp [Try.ntmps33] <;> rfl) ?_   -- ref.go:7
  refine aw_step [1, 2, 3] [1, 2, 3] (by simp <;> rfl) ?_   -- ref.go:8
  refine aw_seq ?_
  refine aw_step [1, 2, 3, 4] [1, 2, 3] (by simp <;> rfl) ?_   -- ref.go:9
  refine aw_adoptC 3 4 100 5 24 [1, 2, 3, 4] [1, 2, 3, 100] (by simp <;> rfl) ?_
  refine aw_block ?_
  refine aw_loop (fun x : Nat × Nat × Nat => ⟨[(1, .bp 1 0 5 0 0), (2, .bp 2 1 5 0 0), (3, .bp 3 11 5 0 0), (4, .int .i64 x.1)], [(1, ⟨0, 5, 24, [.agg [.int .i64 t, .int .i64 kd, .int .i64 n, .str s, .ro 5 lv]]⟩), (2, ⟨1, 5, 24, [.agg [.int .i64 0, .int .i64 0, .int .i64 0, .str [], .nils]]⟩), (3, ⟨11, 5, 24, [.agg [.int .i64 t, .int .i64 kd, .int .i64 n, .str s, .sl 100 x.2.1 5 x.1]]⟩), (100, ⟨x.2.1, 5, 24, lv.take x.1⟩)], x.2.2, 33⟩)
    (fun x => x.1 ≤ l.length) (fun x => l.length - x.1) (0, 14, _) (Nat.zero_le _) (AS.le_refl _) ?_
  rintro ⟨k, q, nx⟩ hk
  simp only at hk
  have htl : (lv.take k).length = k := by rw [List.length_take]; omega
  refine aw_seq ?_
  refine aw_step [1, 2, 3, 4, 18] [1, 2, 3, 100] (by simp <;> rfl) ?_   -- ref.go:9
  refine aw_cond rfl (fun h1 => aw_skip ?_) (fun h1 => ?_)   -- if t18
  · have hlt : k < l.length := by simp at h1; omega
    have hlt' : k < lv.length := by omega
    have ga := hga k hlt
    have hc := ih' l[k] (List.getElem_mem hlt)
    have hw := wrap_succ (k := k) (by omega)
    have htk : lv.take (k + 1) = lv.take k ++ [l[k].v] := by
      rw [List.take_succ_eq_append_getElem hlt']
      congr 2
      rw [nth_eq, List.getElem?_eq_getElem hlt'] at ga
      injection ga
    have hb1 : k + 1 ≤ maxLen := by unfold maxLen; omega
    have hb2 : (k + 1) * 64 ≤ 140737488355328 := by omega
    rcases hka : l[k] with ⟨t2, k2, n2, s2, ks2⟩
    rw [hka] at ga hc htk
    rw [Nd.v] at ga hc htk
    generalize ks2.map Nd.v = kv2 at ga hc htk
    have hnl : (lv.take (k + 1)).length = k + 1 := by rw [htk]; simp [htl]
    rw [htk] at hnl
    generalize lv.take k = row at htl htk hnl ⊢
    refine aw_seq ?_
    refine aw_block ?_
    refine aw_draw [(0, []), (2, []), (4, []), (1, [29]), (3, [29]), (5, []), (6, [29]), (7, []), (8, []), (9, []), (10, []), (11, [])] hmix (by kernel_rfl) ?_   -- ref.go:10
    refine awo_go 7 (by simp [ga, hlt'] <;> rfl) ?_
    refine awo_call (fun hg => hc) Try.func33 rfl (by kernel_rfl) rfl rfl (by simp <;> rfl) rfl rfl (by simp <;> rfl) (by simp) (by simp <;> rfl) ?_
    refine awo_end [1, 2, 3, 4] [1, 2, 3, 100] (by simp [htl, hb1, hb2] <;> rfl) ?_
    refine aw_one [1, 2, 3, 4] [1, 2, 3, 100] (by simp [hw] <;> rfl) ?_   -- ref.go:9
    exact ⟨(k + 1, _, _), hlt, by simp only; omega, by simp only [htk]; exact AS.le_refl _⟩
  · refine aw_exit ?_
    have hkl : k = lv.length := by simp at h1; omega
    rw [List.take_of_length_le (by omega)]
    subst hkl
    refine aw_step [2] [2, 100] (by simp <;> rfl) ?_   -- ref.go:12
    exact aw_ret (ends_ret (by simp [Try.results33, hp] <;> rfl) rfl)
theorem refList_ac (t : Int) (l : List Nd) (hl : l.length ≤ 1000) (hs : ∀ x ∈ l, Sm x) : AC Try.prog 24 [.int .i64 t, .ro 5 (l.map Nd.v)] (fun r => r = (Nd.mk t 3 0 [] l).v) := by
  have hc := refCopy_ac _ (Nd.mk t 3 0 [] l) (Nat.lt_succ_self _) (.mk hl hs)
  have hp := pureN l
  rw [Nd.v] at hc ⊢
  generalize l.map Nd.v = lv at hc hp
  refine ac_intro Try.func24 rfl (by show (2 : Nat) ≤ 9; omega) (fun w0 N0 => ?_)
  refine aw_step [0, 1, 4] [4] (by simp [Try.ntmps24] <;> rfl) ?_   -- ref.go:26
  refine aw_seq (aw_region ?_)   -- ref.go:27
  refine awl_go 3 (by simp <;> rfl) ?_
  refine awl_call1 hc Try.func33 rfl (by kernel_rfl) rfl rfl rfl rfl rfl (by simp <;> rfl) ?_
  refine awl_end [4] [4] (by simp <;> rfl) ?_
  exact aw_ret (ends_ret (by simp [Try.results24] <;> rfl) rfl)
end Go.Proofs.Ytmkbhognijicjaa
