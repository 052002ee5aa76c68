/- Hold: the reference's Place and Lift. No condition. -/
import Derived.Test.YtjgngffbmfbdkaaHoldC
set_option linter.unusedSimpArgs false
namespace Go.Proofs.Ytjgngffbmfbdkaa
open Go.Eng

set_option maxHeartbeats 1000000 in
theorem at_ac (s v l t : Int) (es : List V) (hfl : es.all flatE = true) (hcell : ∀ k e, nth es k = some e → ∃ a b c, e = .agg [.int .i64 a, .int .i64 b, .int .i64 c]) (hsm : es.length ≤ 200) : ACO Try.prog 29 [rel s v l (.ro 3 es), .int .i64 t] 3 30 (fun F es' => (F = fun d q => rel s v t (.sl d q 3 es.length)) ∧ es' = es) := by
  refine aco_intro Try.func29 rfl (by show (2 : Nat) ≤ 31; omega) (fun w0 N0 => ?_)
  refine aw_step [1, 2, 4] [2, 4] (by simp [Try.ntmps29, rel] <;> rfl) ?_   -- ref.go:73
  refine aw_step [2, 4, 5] [2, 4, 5] (by simp <;> rfl) ?_   -- ref.go:74
  refine aw_seq ?_
  refine aw_step [2, 4, 5, 6] [2, 4, 5] (by simp <;> rfl) ?_   -- ref.go:75
  refine aw_adoptC 5 3 100 3 30 [2, 4, 5, 6] [2, 4, 5, 100] (by simp <;> rfl) ?_
  refine aw_block ?_
  refine aw_loop (fun x : Nat × Nat × Nat => ⟨[(2, .bp 2 0 4 0 0), (4, .bp 4 1 4 0 0), (5, .bp 5 8 4 0 0), (6, .int .i64 x.1)],
    [(2, ⟨0, 4, 24, [.agg [.int .i64 s, .int .i64 v, .int .i64 l, .ro 3 es]]⟩), (4, ⟨1, 4, 24, [.agg [.int .i64 0, .int .i64 0, .int .i64 0, .nils]]⟩), (5, ⟨8, 4, 24, [.agg [.int .i64 s, .int .i64 v, .int .i64 t, .sl 100 x.2.1 3 x.1]]⟩), (100, ⟨x.2.1, 3, 30, es.take x.1⟩)], x.2.2, 31⟩)
    (fun x => x.1 ≤ es.length) (fun x => es.length - x.1) (0, 11, 12) (Nat.zero_le _) (AS.le_refl _) ?_
  rintro ⟨k, q, nx⟩ hk
  simp only at hk
  refine aw_seq ?_
  refine aw_step [2, 4, 5, 6, 17] [2, 4, 5, 100] (by simp <;> rfl) ?_   -- ref.go:75
  refine aw_cond rfl (fun h1 => aw_skip ?_) (fun h1 => ?_)   -- if t17
  · have hlt : k < es.length := by simp at h1; omega
    have hget : nth es k = some es[k] := by rw [nth_eq]; simp [hlt]
    have hw := wrap_succ (k := k) (by omega)
    have htk : es.take (k + 1) = es.take k ++ [es[k]] := List.take_succ_eq_append_getElem hlt
    obtain ⟨a, b, c, he⟩ := hcell k es[k] hget
    generalize es[k] = e at hget htk he
    subst he
    have hro : k + 1 ≤ maxLen ∧ (k + 1) * 24 ≤ 140737488355328 := roomy (by omega)
    have hkl : (es.take k).length = k := by simp; omega
    generalize hek : es.take k = ek at htk hkl
    refine aw_seq ?_
    refine aw_block ?_
    refine aw_done [(0, []), (2, []), (4, []), (1, [27]), (3, [27]), (5, []), (6, [27]), (7, []), (8, []), (9, []), (10, [])] [2, 4, 5, 6] [2, 4, 5, 100] hmix (by kernel_rfl) (by simp [hget, hlt, hro, hkl] <;> rfl) ?_   -- ref.go:76
    refine aw_one [2, 4, 5, 6] [2, 4, 5, 100] (by simp [hw] <;> rfl) ?_   -- ref.go:75
    refine ⟨(k + 1, nx + 5 + 8, nx + 5 + 11 + 3), hlt, by simp only; omega, ?_⟩
    simp only [htk]
    exact AS.le_refl _
  · refine aw_exit ?_
    have hk' : k = es.length := by simp at h1; omega
    subst hk'
    simp only [List.take_length]
    refine aw_step [4] [4, 100] (by simp <;> rfl) ?_   -- ref.go:78
    exact aw_ret (endso_row 100 (by simp <;> rfl) rfl rfl hfl (by simp [Try.results29] <;> rfl) ⟨rfl, rfl⟩)

theorem cellH {hs : List H3} {es : List V} (hes : es = hs.map H3.v) : ∀ k e, nth es k = some e → ∃ a b c, e = .agg [.int .i64 a, .int .i64 b, .int .i64 c] := by
  intro k e h
  rw [nth_eq, hes] at h
  simp only [List.getElem?_map, Option.map_eq_some_iff] at h
  obtain ⟨x, _, rfl⟩ := h
  exact ⟨_, _, _, rfl⟩

theorem refPlace_ac (s v l r t : Int) (hs : List H3) (es : List V) (hes : es = hs.map H3.v) (hsm : es.length ≤ 200) :
    ACO Try.prog 10 [rel s v l (.ro 3 es), .int .i64 r, .int .i64 t] 3 30 (fun F es' => F = recF (placeR s v l r t hs) (placeE s v l r t hs) ∧ es' = (placeR s v l r t hs).hs.map H3.v) := by
  have hlen : es.length = hs.length := by rw [hes]; simp
  have hfl : es.all flatE = true := by rw [hes]; exact flatH hs
  have hro : es.length + 1 ≤ maxLen ∧ (es.length + 1) * 24 ≤ 140737488355328 := roomy (by omega)
  refine aco_intro Try.func10 rfl (by show (3 : Nat) ≤ 35; omega) (fun w0 N0 => ?_)
  refine aw_step [1, 2, 3, 6] [3, 6] (by simp [Try.ntmps10, rel] <;> rfl) ?_   -- ref.go:82
  refine aw_seq (aw_region ?_)   -- ref.go:83
  refine awl_go 3 (by simp <;> rfl) ?_
  refine awl_call1 (about_ac s v l r t hs es hes) Try.func28 rfl (by kernel_rfl) rfl rfl rfl rfl rfl (by simp <;> rfl) ?_
  refine awl_end [1, 2, 3, 6, 8] [3, 6] (by simp <;> rfl) ?_
  refine aw_seq ?_
  refine aw_step [1, 2, 3, 6, 8, 15] [3, 6] (by simp <;> rfl) ?_   -- ref.go:84
  refine aw_cond rfl (fun h1 => ?_) (fun h1 => aw_skip ?_)   -- if t15
  · refine aw_step [6, 7] [6] (by simp <;> rfl) ?_   -- ref.go:85
    refine aw_adoptC 6 3 100 3 30 [6, 7] [6, 100] (by simp <;> rfl) ?_
    have h1' : checkF s v l r t hs ≠ 0 := by simpa using h1
    have hE : placeE s v l r t hs = checkF s v l r t hs := by rw [placeE, if_pos h1']
    have hR : placeR s v l r t hs = zeroR := by rw [placeR, if_pos (by rw [hE]; exact h1')]
    refine aw_ret (endso_row 100 (by simp <;> rfl) rfl rfl (by simp) (by simp [Try.results10] <;> rfl) ?_)
    rw [hE, hR]
    exact ⟨rfl, rfl⟩
  have h1' : checkF s v l r t hs = 0 := by simpa using h1
  refine aw_seq ?_
  refine aw_step [1, 2, 3, 6, 21] [3, 6] (by simp <;> rfl) ?_   -- ref.go:87
  refine aw_cond rfl (fun h2 => ?_) (fun h2 => aw_skip ?_)   -- if t21
  · refine aw_step [6, 7] [6] (by simp <;> rfl) ?_   -- ref.go:88
    refine aw_adoptC 6 3 100 3 30 [6, 7] [6, 100] (by simp <;> rfl) ?_
    have hE : placeE s v l r t hs = 5 := by rw [placeE, if_neg (by simpa using h1'), if_pos (by rw [← hlen]; exact h2)]
    have hR : placeR s v l r t hs = zeroR := by rw [placeR, if_pos (by rw [hE]; simp)]
    refine aw_ret (endso_row 100 (by simp <;> rfl) rfl rfl (by simp) (by simp [Try.results10] <;> rfl) ?_)
    rw [hE, hR]
    exact ⟨rfl, rfl⟩
  have hE : placeE s v l r t hs = 0 := by rw [placeE, if_neg (by simpa using h1'), if_neg (by rw [← hlen, h2]; simp)]
  have hR : placeR s v l r t hs = ⟨s, v, t, hs ++ [⟨r, t, 0⟩]⟩ := by rw [placeR, if_neg (by rw [hE]; simp)]
  refine aw_seq (aw_region ?_)   -- ref.go:90
  refine awl_go 2 (by simp <;> rfl) ?_
  refine awl_callO1 100 (at_ac s v l t es hfl (cellH hes) hsm) Try.func29 rfl (by kernel_rfl) rfl rfl rfl rfl (by simp <;> rfl) (by simp [rel] <;> rfl) ?_
  refine awl_end [1, 2, 6, 9] [6, 9, 100] (by simp <;> rfl) ?_
  refine aw_step [6, 9] [6, 9, 100] (by simp [hro] <;> rfl) ?_   -- ref.go:91
  refine aw_step [6, 7] [6, 100] (by simp <;> rfl) ?_   -- ref.go:92
  refine aw_ret (endso_row 100 (by simp <;> rfl) rfl rfl (by simp [hfl]) (by simp [Try.results10] <;> rfl) ?_)
  rw [hE, hR]
  exact ⟨by funext d q; simp [recF, hlen, rel], by simp [hes, H3.v]⟩

/-- How many of the first holds are lifted. -/
def nHit (r : Int) (hs : List H3) : Nat := (hs.filter (hit r)).length
theorem nHit_zero (r : Int) (hs : List H3) : nHit r hs = 0 ↔ hs.any (hit r) = false := by
  simp [nHit, List.filter_eq_nil_iff]
theorem nHit_succ (r : Int) (hs : List H3) (k : Nat) (h : k < hs.length) : nHit r (hs.take (k + 1)) = nHit r (hs.take k) + (if hit r hs[k] = true then 1 else 0) := by
  rw [List.take_succ_eq_append_getElem h, nHit, nHit, List.filter_append, List.length_append]
  by_cases h0 : hit r hs[k] = true
  · simp [h0]
  · simp [h0]
theorem nHit_le (r : Int) (hs : List H3) (k : Nat) : nHit r (hs.take k) ≤ k := by
  refine Nat.le_trans (List.length_filter_le _ _) ?_
  simp; omega

set_option maxHeartbeats 1000000 in
theorem refLift_ac (s v l r t : Int) (hs : List H3) (es : List V) (hes : es = hs.map H3.v) (hsm : es.length ≤ 200) :
    ACO Try.prog 13 [rel s v l (.ro 3 es), .int .i64 r, .int .i64 t] 3 30 (fun F es' => F = recF (liftR s v l r t hs) (liftE s v l r t hs) ∧ es' = (liftR s v l r t hs).hs.map H3.v) := by
  have hlen : es.length = hs.length := by rw [hes]; simp
  have hfl : es.all flatE = true := by rw [hes]; exact flatH hs
  refine aco_intro Try.func13 rfl (by show (3 : Nat) ≤ 59; omega) (fun w0 N0 => ?_)
  refine aw_step [1, 2, 3, 6] [3, 6] (by simp [Try.ntmps13, rel] <;> rfl) ?_   -- ref.go:96
  refine aw_seq (aw_region ?_)   -- ref.go:97
  refine awl_go 3 (by simp <;> rfl) ?_
  refine awl_call1 (about_ac s v l r t hs es hes) Try.func28 rfl (by kernel_rfl) rfl rfl rfl rfl rfl (by simp <;> rfl) ?_
  refine awl_end [1, 2, 3, 6, 8] [3, 6] (by simp <;> rfl) ?_
  refine aw_seq ?_
  refine aw_step [1, 2, 3, 6, 8, 17] [3, 6] (by simp <;> rfl) ?_   -- ref.go:98
  refine aw_cond rfl (fun h1 => ?_) (fun h1 => aw_skip ?_)   -- if t17
  · refine aw_step [6, 7] [6] (by simp <;> rfl) ?_   -- ref.go:99
    refine aw_adoptC 6 3 100 3 30 [6, 7] [6, 100] (by simp <;> rfl) ?_
    have h1' : checkF s v l r t hs ≠ 0 := by simpa using h1
    have hE : liftE s v l r t hs = checkF s v l r t hs := by rw [liftE, if_pos h1']
    have hR : liftR s v l r t hs = zeroR := by rw [liftR, if_pos (by rw [hE]; exact h1')]
    refine aw_ret (endso_row 100 (by simp <;> rfl) rfl rfl (by simp) (by simp [Try.results13] <;> rfl) ?_)
    rw [hE, hR]
    exact ⟨rfl, rfl⟩
  have h1' : checkF s v l r t hs = 0 := by simpa using h1
  refine aw_seq (aw_region ?_)   -- ref.go:101
  refine awl_go 2 (by simp <;> rfl) ?_
  refine awl_callO1 100 (at_ac s v l t es hfl (cellH hes) hsm) Try.func29 rfl (by kernel_rfl) rfl rfl rfl rfl (by simp <;> rfl) (by simp [rel] <;> rfl) ?_
  refine awl_end [1, 2, 6, 9] [6, 9, 100] (by simp <;> rfl) ?_
  refine aw_step [1, 2, 6, 9, 10] [6, 9, 100] (by simp <;> rfl) ?_   -- ref.go:102
  refine aw_seq ?_
  refine aw_step [1, 2, 6, 9, 10, 11] [6, 9, 100] (by simp <;> rfl) ?_   -- ref.go:103
  refine aw_block ?_
  refine aw_count (fun k nx => ⟨[(1, .int .i64 r), (2, .int .i64 t), (6, .bp 6 1 4 0 0), (9, .bp 9 13 4 0 0), (10, .int .i64 (nHit r (hs.take k))), (11, .int .i64 k)],
    [(6, ⟨1, 4, 24, [.agg [.int .i64 0, .int .i64 0, .int .i64 0, .nils]]⟩), (9, ⟨13, 4, 24, [.agg [.int .i64 s, .int .i64 v, .int .i64 t, .sl 100 12 3 es.length]]⟩), (100, ⟨12, 3, 30, (liftK r t hs k).map H3.v⟩)], nx, 59⟩) (fun _ => True) hs.length 17 trivial (by rw [show (liftK r t hs 0).map H3.v = es by rw [hes]; simp [liftK]]; exact AS.le_refl _) ?_
  intro k nx hk _
  refine aw_seq ?_
  refine aw_step [1, 2, 6, 9, 10, 11, 27] [6, 9, 100] (by simp <;> rfl) ?_   -- ref.go:103
  refine aw_cond rfl (fun h2 => aw_skip ?_) (fun h2 => ?_)   -- if t27
  · have hlt : k < hs.length := by simp at h2; omega
    have hw := wrap_succ (k := k) (by omega)
    have hget := liftK_get r t hs k hlt
    have hsucc := liftK_succ r t hs k hlt
    have hcnt := nHit_succ r hs k hlt
    have hw2 := wrap_succ (k := nHit r (hs.take k)) (by have := nHit_le r hs k; omega)
    have hkl := liftK_len r t hs k
    generalize hs[k] = h at hget hsucc hcnt
    generalize hek : (liftK r t hs k).map H3.v = ek
    have hel : ek.length = es.length := by rw [← hek, List.length_map, hkl, hlen]
    have hel' : k < es.length := by omega
    have heg : nth ek k = some (H3.v h) := by rw [nth_eq, ← hek]; simp [hget]
    have hes' : (liftK r t hs (k + 1)).map H3.v = ek.set k (H3.v (lift1 r t h)) := by rw [hsucc, ← hek, List.map_set]
    refine aw_seq ?_
    refine aw_block ?_
    refine aw_step [1, 2, 6, 9, 10, 11, 46] [6, 9, 100] (by simp [hel, hel', heg, H3.v] <;> rfl) ?_   -- ref.go:104
    refine aw_cond rfl (fun h3 => ?_) (fun h3 => aw_skip ?_)   -- if t46
    · refine aw_step [1, 2, 6, 9, 10, 11] [6, 9, 100] (by simp [hel, hel', heg, H3.v] <;> rfl) ?_   -- ref.go:105
      refine aw_one [1, 2, 6, 9, 10, 11] [6, 9, 100] (by simp [hw2] <;> rfl) ?_   -- ref.go:106
      refine aw_one [1, 2, 6, 9, 10, 11] [6, 9, 100] (by simp [hw] <;> rfl) ?_   -- ref.go:103
      exact ⟨hlt, trivial, _, by
        rw [hes', hcnt, show lift1 r t h = ⟨h.r, h.f, t⟩ by rw [lift1, if_pos h3], if_pos (show hit r h = true from h3)]
        exact AS.le_refl _⟩
    refine aw_one [1, 2, 6, 9, 10, 11] [6, 9, 100] (by simp [hw] <;> rfl) ?_   -- ref.go:103
    have hid : ek.set k (H3.v h) = ek := by
      apply List.ext_getElem?
      intro i
      rw [List.getElem?_set]
      split
      · rename_i e
        subst e
        rw [nth_eq] at heg
        rw [heg, if_pos (by omega)]
      · rfl
    exact ⟨hlt, trivial, _, by
      rw [hes', hcnt, show lift1 r t h = h by rw [lift1, if_neg (by rw [h3]; simp)], if_neg (by rw [show hit r h = false from h3]; simp), hid, Nat.add_zero]
      exact AS.le_refl _⟩
  · refine aw_exit ?_
    have hk' : k = hs.length := by simp at h2; omega
    subst hk'
    have hall : liftK r t hs hs.length = hs.map (lift1 r t) := by simp [liftK]
    obtain ⟨ef, hef⟩ : ∃ ef, ef = (hs.map (lift1 r t)).map H3.v := ⟨_, rfl⟩
    have hefl : ef.all flatE = true := by rw [hef]; exact flatH _
    rw [hall, List.take_length, ← hef]
    refine aw_seq ?_
    refine aw_step [6, 9, 56] [6, 9, 100] (by simp <;> rfl) ?_   -- ref.go:109
    refine aw_cond rfl (fun h4 => ?_) (fun h4 => aw_skip ?_)   -- if t56
    · refine aw_step [6, 7] [6] (by simp <;> rfl) ?_   -- ref.go:110
      refine aw_adoptC 6 3 100 3 30 [6, 7] [6, 100] (by simp <;> rfl) ?_
      have hE : liftE s v l r t hs = 6 := by rw [liftE, if_neg (by simpa using h1'), if_pos ((nHit_zero r hs).1 (by simp at h4; omega))]
      have hR : liftR s v l r t hs = zeroR := by rw [liftR, if_pos (by rw [hE]; simp)]
      refine aw_ret (endso_row 100 (by simp <;> rfl) rfl rfl (by simp) (by simp [Try.results13] <;> rfl) ?_)
      rw [hE, hR]
      exact ⟨rfl, rfl⟩
    have hE : liftE s v l r t hs = 0 := by rw [liftE, if_neg (by simpa using h1'), if_neg (fun h0 => by have := (nHit_zero r hs).2 h0; simp at h4; omega)]
    have hR : liftR s v l r t hs = ⟨s, v, t, hs.map (lift1 r t)⟩ := by rw [liftR, if_neg (by rw [hE]; simp)]
    refine aw_step [6, 7] [6, 100] (by simp <;> rfl) ?_   -- ref.go:112
    refine aw_ret (endso_row 100 (by simp <;> rfl) rfl rfl hefl (by simp [Try.results13] <;> rfl) ?_)
    rw [hE, hR]
    exact ⟨by funext d q; simp [recF, hlen, rel], hef⟩
end Go.Proofs.Ytjgngffbmfbdkaa
