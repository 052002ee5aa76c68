import Derived.Test.YtnklkkagpkcmfaaGreatDoorW
set_option linter.all false
set_option maxRecDepth 4000
namespace Go.Proofs.YtnklkkagpkcmfaaGreatDoor
open Go.Eng Go.Eng.Limb

theorem hmx : Tryz.prog.follows .mixedOrders = true := by kernel_rfl
set_option maxHeartbeats 1000000 in
theorem gridValid_ac (g : Gr) : AC Tryz.prog 13 [g.v] (fun r => r = .int .i64 (gridE g)) := by
  obtain ⟨pts, pri⟩ := g
  show AC _ _ [.agg [.ro 1 (ints pts), .ro 1 (ints pri)]] _
  have hp : ∀ (k : Nat) (h : k < pts.length), nth (ints pts) k = some (.int .i64 pts[k]) := fun k h => ints_nth h
  have hq : ∀ (k : Nat) (h : k < pri.length), nth (ints pri) k = some (.int .i64 pri[k]) := fun k h => ints_nth h
  have lp := ints_len pts
  have lq := ints_len pri
  unfold gridE
  simp only
  generalize ints pts = pv at hp lp ⊢
  generalize ints pri = qv at hq lq ⊢
  refine ac_intro Tryz.func13 rfl (by show (1 : Nat) ≤ 71; omega) (fun w0 N0 => ?_)
  refine aw_step [1] [1] (by simp [Tryz.ntmps13] <;> rfl) ?_
  refine aw_seq ?_
  refine aw_step [1, 9] [1] (by simp <;> rfl) ?_
  refine aw_cond rfl (fun h1 => ?_) (fun h1 => aw_skip ?_)   -- if t9
  · refine aw_step [2] [] (by simp <;> rfl) ?_
    exact aw_ret (ends_ret (by simp [Tryz.results13] <;> rfl) (by rw [if_pos (by simp at h1; omega)]))
  rw [if_neg (by simp at h1; omega)]
  refine aw_seq ?_
  refine aw_step [1, 13] [1] (by simp <;> rfl) ?_
  refine aw_cond rfl (fun h2 => ?_) (fun h2 => aw_skip ?_)   -- if t13
  · refine aw_step [2] [] (by simp <;> rfl) ?_
    exact aw_ret (ends_ret (by simp [Tryz.results13] <;> rfl) (by rw [if_pos (by rw [← lp]; simpa using h2)]))
  rw [if_neg (by rw [← lp]; simpa using h2)]
  refine aw_seq ?_
  refine aw_step [1, 20] [1] (by simp <;> rfl) ?_
  refine aw_cond rfl (fun h3 => ?_) (fun h3 => aw_skip ?_)   -- if t20
  · refine aw_step [2] [] (by simp <;> rfl) ?_
    exact aw_ret (ends_ret (by simp [Tryz.results13] <;> rfl) (by rw [if_pos (by simp at h3; omega)]))
  have hll : pri.length = pts.length := by simp at h3; omega
  have hl21 : pts.length ≤ 21 := by simp at h1; omega
  rw [if_neg (by omega)]
  refine aw_seq ?_
  refine aw_step [1, 22, 23, 24] [1] (by simp <;> rfl) ?_
  refine aw_block ?_
  refine aw_count (fun k nx => ⟨[(1, .bp 1 0 2 0 0), (22, .ro 1 pv), (23, .int .i64 pts.length), (24, .int .i64 k)], [(1, ⟨0, 2, 24, [.agg [.ro 1 pv, .ro 1 qv]]⟩)], nx, 71⟩) (fun k => badPts (pts.drop k) (pri.drop k) = badPts pts pri) pts.length _ (by simp) (by rw [lp]; exact AS.le_refl _) ?_
  intro k nx hk hI
  refine aw_step [1, 22, 23, 24, 25] [1] (by simp <;> rfl) ?_
  refine aw_seq ?_
  refine aw_cond rfl (fun h4 => aw_skip ?_) (fun h4 => ?_)   -- if t25
  · have hlt : k < pts.length := by simp at h4; omega
    have hltp : k < pv.length := by omega
    have hltq : k < qv.length := by omega
    have gp := hp k hlt
    have gq := hq k (by omega)
    have hw := wrap_succ (k := k) (by omega)
    have hd := badPts_drop (l := pts) (m := pri) hlt (by omega)
    generalize pts[k] = p at gp hd
    generalize pri[k] = q at gq hd
    refine aw_seq ?_
    refine aw_block ?_
    refine aw_step [1, 3, 4, 22, 23, 24] [1] (by simp [gp, hltp] <;> rfl) ?_
    refine aw_step [1, 22, 23, 24, 50] [1] (by simp [gq, hltq] <;> rfl) ?_
    refine aw_cond rfl (fun h5 => ?_) (fun h5 => aw_skip ?_)   -- if t50
    · refine aw_step [2] [] (by simp <;> rfl) ?_
      refine aw_ret (ends_ret (by simp [Tryz.results13] <;> rfl) ?_)
      have : badPt p q = true := by simp [badPt] at h5 ⊢; omega
      rw [if_pos (by rw [← hI, hd, this]; rfl)]
    refine aw_one [1, 22, 23, 24] [1] (by simp [hw] <;> rfl) ?_
    have : badPt p q = false := by simp [badPt] at h5 ⊢; omega
    exact ⟨hlt, by rw [← hI, hd, this]; rfl, _, AS.le_refl _⟩
  · have hke : k = pts.length := by simp at h4; omega
    rw [if_neg (by rw [← hI, hke, List.drop_length]; simp [badPts])]
    refine aw_exit ?_
    refine aw_seq ?_
    refine aw_step [1, 5] [1] (by simp <;> rfl) ?_
    refine aw_block ?_
    refine aw_count (fun k nx => ⟨[(1, .bp 1 0 2 0 0), (5, .int .i64 ((k : Int) + 1))], [(1, ⟨0, 2, 24, [.agg [.ro 1 pv, .ro 1 qv]]⟩)], nx, 71⟩) (fun k => rises (pts.drop k) = rises pts) pts.length _ (by simp) (AS.le_refl _) ?_
    intro k nx hk hI
    refine aw_seq ?_
    refine aw_step [1, 5, 56] [1] (by simp <;> rfl) ?_
    refine aw_cond rfl (fun h6 => aw_skip ?_) (fun h6 => ?_)   -- if t56
    · have hlt : k + 1 < pts.length := by simp at h6; omega
      have hltp : (k : Int) + 1 < (pv.length : Int) := by omega
      have hltk : (k : Int) < (pv.length : Int) := by omega
      have h01 : (0 : Int) ≤ (k : Int) + 1 := by omega
      have htn : ((k : Int) + 1).toNat = k + 1 := by omega
      have gp := hp k (by omega)
      have gq := hp (k + 1) hlt
      have hw : IntKind.i64.wrap ((k : Int) + 1 + 1) = (k : Int) + 1 + 1 := wrap_in (by omega) (by omega)
      have hw2 : IntKind.i64.wrap (k : Int) = (k : Int) := wrap_in (by omega) (by omega)
      have hd := rises_drop (l := pts) (k := k) hlt
      generalize pts[k] = p at gp hd
      generalize pts[k + 1] = q at gq hd
      refine aw_seq ?_
      refine aw_block ?_
      refine aw_dstep [(0, []), (2, []), (5, []), (7, []), (8, []), (1, []), (3, []), (4, []), (6, []), (9, []), (10, []), (11, [])] [1, 5, 70] [1] hmx (by kernel_rfl) (by simp [gp, gq, hw2, hltp, hltk, h01, htn] <;> rfl) ?_
      refine aw_cond rfl (fun h7 => ?_) (fun h7 => aw_skip ?_)   -- if t70
      · refine aw_step [2] [] (by simp <;> rfl) ?_
        refine aw_ret (ends_ret (by simp [Tryz.results13] <;> rfl) ?_)
        have : decide (p < q) = false := by simp at h7 ⊢; omega
        rw [if_pos (by rw [← hI, hd, this]; rfl)]
      refine aw_one [1, 5] [1] (by simp [hw] <;> rfl) ?_
      have : decide (p < q) = true := by simp at h7 ⊢; omega
      exact ⟨by omega, by rw [← hI, hd, this]; simp, _, AS.le_refl _⟩
    · refine aw_exit ?_
      refine aw_step [2] [] (by simp <;> rfl) ?_
      refine aw_ret (ends_ret (by simp [Tryz.results13] <;> rfl) ?_)
      have hkl : pts.length ≤ k + 1 := by simp at h6; omega
      rw [if_neg (by rw [← hI, rises_end hkl]; simp)]
theorem rowE_len {c : Nat} {r : List Int} (h : r.length ≠ c) : rowE c r = 1 := by unfold rowE; rw [if_pos h]
set_option maxHeartbeats 4000000 in
theorem modelValid_ac (m : Mo) (n : Int) : AC Tryz.prog 17 [moV m, .int .i64 n] (fun r => r = .int .i64 (modelE m n)) := by
  have hn := fun (k : Nat) (h : k < m.length) => rowsV_nth h
  have hl := rowsV_len m
  unfold moV modelE
  generalize rowsV m = mv at hn hl ⊢
  refine ac_intro Tryz.func17 rfl (by show (2 : Nat) ≤ 65; omega) (fun w0 N0 => ?_)
  refine aw_step [1, 2] [2] (by simp [Tryz.ntmps17] <;> rfl) ?_
  refine aw_seq ?_
  refine aw_step [2, 23] [2] (by simp <;> rfl) ?_
  refine aw_cond rfl (fun h1 => ?_) (fun h1 => aw_skip ?_)   -- if t23
  · refine aw_step [4] [] (by simp <;> rfl) ?_
    exact aw_ret (ends_ret (by simp [Tryz.results17] <;> rfl) (by rw [if_pos (by simp at h1; omega)]))
  have h1' : 1 ≤ n ∧ n ≤ 21 ∧ (m.length : Int) = n := by simp at h1; omega
  rw [if_neg (by omega)]
  have hm0 : 0 < m.length := by omega
  have g0 := hn 0 hm0
  have hmv : 0 < mv.length := by omega
  have hc : cats m = m[0].length := by
    cases m with
    | nil => simp at hm0
    | cons r m => rfl
  rw [hc]
  have li := ints_len m[0]
  generalize ints m[0] = iv at g0 li
  generalize hct : m[0].length = ct at li ⊢
  refine aw_step [2, 5] [2] (by simp [g0, hmv] <;> rfl) ?_
  refine aw_seq ?_
  refine aw_step [2, 5, 34] [2] (by simp <;> rfl) ?_
  refine aw_cond rfl (fun h2 => ?_) (fun h2 => aw_skip ?_)   -- if t34
  · refine aw_step [4] [] (by simp <;> rfl) ?_
    exact aw_ret (ends_ret (by simp [Tryz.results17] <;> rfl) (by rw [if_pos (by simp at h2; omega)]))
  have h2' : 2 ≤ ct ∧ ct ≤ 6 := by simp at h2; omega
  rw [if_neg (by omega)]
  refine aw_seq ?_
  refine aw_step [5, 36, 37, 38] [] (by simp <;> rfl) ?_
  refine aw_block ?_
  refine aw_count (fun k nx => ⟨[(5, .int .i64 ct), (36, .ro 1 mv), (37, .int .i64 m.length), (38, .int .i64 k)], [], nx, 65⟩) (fun k => fstE (rowE ct) (m.drop k) = fstE (rowE ct) m) m.length _ (by simp) (by rw [hl, li]; exact AS.le_refl _) ?_
  intro k nx hk hI
  refine aw_step [5, 36, 37, 38, 39] [] (by simp <;> rfl) ?_
  refine aw_seq ?_
  refine aw_cond rfl (fun h3 => aw_skip ?_) (fun h3 => ?_)   -- if t39
  · have hlt : k < m.length := by simp at h3; omega
    have hltm : k < mv.length := by omega
    have gk := hn k hlt
    have hw := wrap_succ (k := k) (by omega)
    rw [fstE_drop _ hlt] at hI
    generalize m[k] = r at gk hI
    have hr := fun (j : Nat) (h : j < r.length) => ints_nth h
    have lr := ints_len r
    generalize ints r = rv at gk hr lr
    refine aw_seq ?_
    refine aw_block ?_
    refine aw_step [5, 7, 36, 37, 38] [] (by simp [gk, hltm] <;> rfl) ?_
    refine aw_seq ?_
    refine aw_step [5, 7, 36, 37, 38, 45] [] (by simp <;> rfl) ?_
    refine aw_cond rfl (fun h4 => ?_) (fun h4 => aw_skip ?_)   -- if t45
    · refine aw_step [4] [] (by simp <;> rfl) ?_
      refine aw_ret (ends_ret (by simp [Tryz.results17] <;> rfl) ?_)
      have : rowE ct r = 1 := rowE_len (by simp at h4; omega)
      rw [← hI, if_pos (by rw [this]; decide), this]
    have hrl : r.length = ct := by simp at h4; omega
    refine aw_step [5, 7, 8, 36, 37, 38] [] (by simp <;> rfl) ?_
    refine aw_seq ?_
    refine aw_step [5, 8, 36, 37, 38, 46, 47, 48] [] (by simp <;> rfl) ?_
    refine aw_block ?_
    refine aw_loop (fun t : Nat × Nat × Int => ⟨[(5, .int .i64 ct), (8, .int .i64 t.2.2), (36, .ro 1 mv), (37, .int .i64 m.length), (38, .int .i64 k), (46, .ro 1 rv), (47, .int .i64 r.length), (48, .int .i64 (t.1 : Nat))], [], t.2.1, 65⟩)
      (fun t => t.1 ≤ r.length ∧ 0 ≤ t.2.2 ∧ t.2.2 ≤ 1000 * t.1 ∧ (r.drop t.1).any badW = r.any badW ∧ t.2.2 + sumI (r.drop t.1) = sumI r) (fun t => r.length - t.1) (0, _, 0) ⟨by simp, by simp, by simp, by simp, by simp⟩ (by rw [lr]; exact AS.le_refl _) ?_
    rintro ⟨j, nx2, sm⟩ ⟨i1, i2, i3, i4, i5⟩
    simp only at i1 i2 i3 i4 i5 ⊢
    refine aw_step [5, 8, 36, 37, 38, 46, 47, 48, 49] [] (by simp <;> rfl) ?_
    refine aw_seq ?_
    refine aw_cond rfl (fun h5 => aw_skip ?_) (fun h5 => ?_)   -- if t49
    · have hj : j < r.length := by simp at h5; omega
      have hjr : j < rv.length := by omega
      have gj := hr j hj
      have hwj := wrap_succ (k := j) (by omega)
      rw [any_drop _ hj] at i4
      rw [sumI_drop hj] at i5
      generalize r[j] = x at gj i4 i5
      refine aw_seq ?_
      refine aw_block ?_
      refine aw_step [5, 8, 10, 36, 37, 38, 46, 47, 48] [] (by simp [gj, hjr] <;> rfl) ?_
      refine aw_seq ?_
      refine aw_step [5, 8, 10, 36, 37, 38, 46, 47, 48, 57] [] (by simp <;> rfl) ?_
      refine aw_cond rfl (fun h6 => ?_) (fun h6 => aw_skip ?_)   -- if t57
      · refine aw_step [4] [] (by simp <;> rfl) ?_
        refine aw_ret (ends_ret (by simp [Tryz.results17] <;> rfl) ?_)
        have hb : badW x = true := by simp [badW] at h6 ⊢; omega
        have : rowE ct r = 3 := by unfold rowE; rw [if_neg (by omega), if_pos (by rw [← i4, hb]; rfl)]
        rw [← hI, if_pos (by rw [this]; decide), this]
      have hb : badW x = false := by simp [badW] at h6 ⊢; omega
      have hx : 1 ≤ x ∧ x ≤ 1000 := by simp [badW] at hb; omega
      have hws : IntKind.i64.wrap (sm + x) = sm + x := wrap_in (by omega) (by omega)
      refine aw_one [5, 8, 36, 37, 38, 46, 47, 48] [] (by simp [hws] <;> rfl) ?_
      refine aw_one [5, 8, 36, 37, 38, 46, 47, 48] [] (by simp [hwj] <;> rfl) ?_
      exact ⟨(j + 1, _, sm + x), ⟨by simp only; omega, by simp only; omega, by simp only; omega, by rw [← i4, hb]; rfl, by simp only; omega⟩, by simp only; omega, AS.le_refl _⟩
    · refine aw_exit ?_
      have hje : j = r.length := by simp at h5; omega
      rw [hje, List.drop_length] at i4 i5
      simp only [List.any_nil, sumI] at i4 i5
      refine aw_step [5, 36, 37, 38, 63] [] (by simp <;> rfl) ?_
      have hrow : rowE ct r = if sumI r ≠ 1000 then 19 else 0 := by
        unfold rowE; rw [if_neg (by omega), if_neg (by rw [← i4]; decide)]
      refine aw_cond rfl (fun h7 => ?_) (fun h7 => aw_skip ?_)   -- if t63
      · refine aw_step [4] [] (by simp <;> rfl) ?_
        refine aw_ret (ends_ret (by simp [Tryz.results17] <;> rfl) ?_)
        have : rowE ct r = 19 := by rw [hrow, if_pos (by simp at h7; omega)]
        rw [← hI, if_pos (by rw [this]; decide), this]
      have : rowE ct r = 0 := by rw [hrow, if_neg (by simp at h7; omega)]
      refine aw_one [5, 36, 37, 38] [] (by simp [hw] <;> rfl) ?_
      exact ⟨hlt, by rw [← hI, this]; rfl, _, AS.le_refl _⟩
  · refine aw_exit ?_
    refine aw_step [4] [] (by simp <;> rfl) ?_
    refine aw_ret (ends_ret (by simp [Tryz.results17] <;> rfl) ?_)
    have hke : k = m.length := by simp at h3; omega
    rw [← hI, hke, List.drop_length]; rfl
end Go.Proofs.YtnklkkagpkcmfaaGreatDoor

set_option maxRecDepth 4000
namespace Go.Proofs.YtnklkkagpkcmfaaGreatDoor
open Go.Eng Go.Eng.Limb

def newD (s : Int) : Int := IntKind.u64.wrap (IntKind.u64.wrap (s * 6364136223846793005) + 1442695040888963407)
def hiD (s : Int) : Nat := ((newD s / 4294967296) % 4294967296).toNat
def belowK (s : Int) (n : Nat) : Nat := hiD s * n / 4294967296
theorem newD_ge (s : Int) : 0 ≤ newD s ∧ newD s < 18446744073709551616 := by unfold newD; rw [IntKind.wrap_u64]; omega
theorem hiD_lt (s : Int) : hiD s < 4294967296 := by have := newD_ge s; unfold hiD; omega
theorem belowK_lt (s : Int) {n : Nat} (h : 0 < n) : belowK s n < n := by
  have := hiD_lt s
  unfold belowK
  rw [Nat.div_lt_iff_lt_mul (by omega), Nat.mul_comm]
  exact Nat.mul_lt_mul_of_pos_left this h
theorem new_ac (s : Int) : AC Tryz.prog 62 [.int .u64 s] (fun r => r = .int .u64 (newD s)) := by
  refine ac_intro Tryz.func62 rfl (by show (1 : Nat) ≤ 6; omega) (fun w0 N0 => ?_)
  refine aw_step [0] [] (by simp [Tryz.ntmps62] <;> rfl) ?_
  refine aw_step [2] [] (by simp <;> rfl) ?_
  exact aw_ret (ends_ret (by simp [Tryz.results62] <;> rfl) (rfl))
theorem next_ac (s : Int) : AC Tryz.prog 55 [.int .u64 s] (fun r => r = .tup [.int .u32 (hiD s : Nat), .int .u64 (newD s)]) := by
  have c68 := new_ac s
  have hr := newD_ge s
  unfold hiD
  generalize newD s = z at *
  have e1 : IntKind.u32.wrap (z.fdiv (2 ^ min 32 IntKind.u64.bits)) = (((z / 4294967296) % 4294967296).toNat : Int) := by
    rw [IntKind.wrap_u32]
    have : z.fdiv (2 ^ min 32 IntKind.u64.bits) = z / 4294967296 := Int.fdiv_eq_ediv_of_nonneg _ (by decide)
    rw [this]; omega
  refine ac_intro Tryz.func55 rfl (by show (1 : Nat) ≤ 10; omega) (fun w0 N0 => ?_)
  refine aw_step [0] [] (by simp [Tryz.ntmps55] <;> rfl) ?_
  refine aw_seq (aw_region ?_)
  refine awl_go 1 (by simp <;> rfl) ?_
  refine awl_call1 c68 Tryz.func62 rfl (by kernel_rfl) rfl rfl rfl (by simp <;> rfl) (by simp) (by simp <;> rfl) ?_
  refine awl_end [0] [] (by simp <;> rfl) ?_
  refine aw_step [2, 3] [] (by simp <;> rfl) ?_
  exact aw_ret (ends_ret (by simp [Tryz.results55] <;> rfl) (by rw [← e1]))
theorem below_ac (s : Int) (n : Nat) (h1 : 1 ≤ n) (h2 : n ≤ 2147483648) : AC Tryz.prog 31 [.int .u64 s, .int .i64 n] (fun r => r = .tup [.int .i64 (belowK s n : Nat), .int .u64 (newD s)]) := by
  have c162 := next_ac s
  have hh := hiD_lt s
  unfold belowK
  generalize hiD s = x at *
  generalize newD s = z at *
  have e1 : IntKind.u64.wrap (x : Int) = x := wrap_u64 (by omega)
  have e2 : IntKind.u64.wrap (n : Int) = n := wrap_u64 (by omega)
  have hb : x * n < 18446744073709551616 := by
    have := Nat.mul_le_mul (Nat.le_of_lt hh) h2
    omega
  obtain ⟨y, hy⟩ : ∃ y, y = x * n := ⟨_, rfl⟩
  rw [← hy] at hb ⊢
  have e3 : IntKind.u64.wrap ((x : Int) * n) = (y : Nat) := by rw [hy, ← Int.natCast_mul]; rw [hy] at hb; exact wrap_u64 hb
  have e4 : (y : Int).fdiv (2 ^ min 32 IntKind.u64.bits) = ((y / 4294967296 : Nat) : Int) := shr32 y
  have e5 : IntKind.i64.wrap ((y : Int) / 4294967296) = (y : Int) / 4294967296 := wrap_in (by omega) (by omega)
  refine ac_intro Tryz.func31 rfl (by show (2 : Nat) ≤ 27; omega) (fun w0 N0 => ?_)
  refine aw_step [0, 1] [] (by simp [Tryz.ntmps31] <;> rfl) ?_
  refine aw_seq ?_
  refine aw_step [0, 1, 12] [] (by simp <;> rfl) ?_
  refine aw_cond rfl (fun h1 => by simp at h1; omega) (fun h1 => aw_skip ?_)   -- if t12
  refine aw_seq (aw_region ?_)
  refine awl_go 1 (by simp <;> rfl) ?_
  refine awl_call1 c162 Tryz.func55 rfl (by kernel_rfl) rfl rfl rfl (by simp <;> rfl) (by simp) (by simp <;> rfl) ?_
  refine awl_end [0, 1, 6] [] (by simp <;> rfl) ?_
  refine aw_step [4, 5] [] (by simp [e1, e2, e3, e4, e5] <;> rfl) ?_
  exact aw_ret (ends_ret (by simp [Tryz.results31] <;> rfl) (rfl))
/-- Sums of the first weights. -/
def preS (l : List Int) (k : Nat) : Int := sumI (l.take k)
theorem preS_succ {l : List Int} {k : Nat} (h : k < l.length) : preS l (k + 1) = preS l k + l[k] := by
  unfold preS
  have gen : ∀ (m : List Int) (x : Int), sumI (m ++ [x]) = sumI m + x := by
    intro m x
    induction m with
    | nil => simp [sumI]
    | cons a r ih => simp only [List.cons_append, sumI, ih]; omega
  rw [List.take_succ_eq_append_getElem h, gen]
theorem preS_all (l : List Int) : preS l l.length = sumI l := by unfold preS; rw [List.take_length]
structure okW (l : List Int) : Prop where
  pos : 0 < l.length
  len : l.length ≤ 21
  rng : ∀ x ∈ l, 1 ≤ x ∧ x ≤ 1000
theorem preS_rng {l : List Int} (h : okW l) : ∀ {k : Nat}, k ≤ l.length → (k : Int) ≤ preS l k ∧ preS l k ≤ 1000 * k
  | 0, _ => by simp [preS, sumI]
  | k + 1, hk => by
    have ih := preS_rng h (k := k) (by omega)
    have hx := h.rng l[k] (List.getElem_mem _)
    rw [preS_succ (by omega)]
    omega
/-- The first place whose sum exceeds x. -/
def idxF : List Int → Int → Nat
  | [], _ => 0
  | w :: r, x => if x < w then 0 else idxF r (x - w) + 1
theorem idxF_step {l : List Int} {k : Nat} (h : k < l.length) (y : Int) : idxF (l.drop k) y = if y < l[k] then 0 else idxF (l.drop (k + 1)) (y - l[k]) + 1 := by
  rw [List.drop_eq_getElem_cons h, idxF]
def pickX (s : Int) (l : List Int) : Nat := belowK s (sumI l).toNat
def pickV (s : Int) (l : List Int) : V := .tup [.int .i64 (idxF l (pickX s l) : Nat), .int .u64 (newD s)]
theorem pickX_lt {s : Int} {l : List Int} (h : okW l) : (pickX s l : Int) < sumI l := by
  have h1 := preS_rng h (Nat.le_refl _)
  rw [preS_all] at h1
  have h2 := belowK_lt s (n := (sumI l).toNat) (by have := h.pos; omega)
  unfold pickX; omega
theorem rstep_ac (s : Int) : AC Tryz.prog 80 [.int .u64 s] (fun r => r = .int .u64 (newD s)) := by
  refine ac_intro Tryz.func80 rfl (by show (1 : Nat) ≤ 6; omega) (fun w0 N0 => ?_)
  refine aw_step [0] [] (by simp [Tryz.ntmps80] <;> rfl) ?_
  refine aw_step [2] [] (by simp <;> rfl) ?_
  exact aw_ret (ends_ret (by simp [Tryz.results80] <;> rfl) (rfl))
theorem rnext_ac (s : Int) : AC Tryz.prog 56 [.int .u64 s] (fun r => r = .tup [.int .u32 (hiD s : Nat), .int .u64 (newD s)]) := by
  have c80 := rstep_ac s
  have hr := newD_ge s
  unfold hiD
  generalize newD s = z at *
  have e1 : IntKind.u32.wrap (z.fdiv (2 ^ min 32 IntKind.u64.bits)) = (((z / 4294967296) % 4294967296).toNat : Int) := by
    rw [IntKind.wrap_u32]
    have : z.fdiv (2 ^ min 32 IntKind.u64.bits) = z / 4294967296 := Int.fdiv_eq_ediv_of_nonneg _ (by decide)
    rw [this]; omega
  have e2 : IntKind.u64.wrap z = z := by rw [IntKind.wrap_u64]; omega
  have e3 : IntKind.u64.wrap s = IntKind.u64.wrap s := rfl
  refine ac_intro Tryz.func56 rfl (by show (1 : Nat) ≤ 11; omega) (fun w0 N0 => ?_)
  refine aw_step [0] [] (by simp [Tryz.ntmps56] <;> rfl) ?_
  refine aw_seq (aw_region ?_)
  refine awl_go 1 (by simp <;> rfl) ?_
  refine awl_call1 c80 Tryz.func80 rfl (by kernel_rfl) rfl rfl rfl (by simp <;> rfl) (by simp) (by simp <;> rfl) ?_
  refine awl_end [4] [] (by simp <;> rfl) ?_
  refine aw_step [2, 3] [] (by simp <;> rfl) ?_
  exact aw_ret (ends_ret (by simp [Tryz.results56] <;> rfl) (by rw [← e1]))
theorem rbelow_ac (s : Int) (n : Nat) (h1 : 1 ≤ n) (h2 : n ≤ 2147483648) : AC Tryz.prog 32 [.int .u64 s, .int .i64 n] (fun r => r = .tup [.int .i64 (belowK s n : Nat), .int .u64 (newD s)]) := by
  have c56 := rnext_ac s
  have hh := hiD_lt s
  unfold belowK
  generalize hiD s = x at *
  generalize newD s = z at *
  have e1 : IntKind.u64.wrap (x : Int) = x := wrap_u64 (by omega)
  have e2 : IntKind.u64.wrap (n : Int) = n := wrap_u64 (by omega)
  have hb : x * n < 18446744073709551616 := by
    have := Nat.mul_le_mul (Nat.le_of_lt hh) h2
    omega
  obtain ⟨y, hy⟩ : ∃ y, y = x * n := ⟨_, rfl⟩
  rw [← hy] at hb ⊢
  have e3 : IntKind.u64.wrap ((x : Int) * n) = (y : Nat) := by rw [hy, ← Int.natCast_mul]; rw [hy] at hb; exact wrap_u64 hb
  have e4 : (y : Int).fdiv (2 ^ min 32 IntKind.u64.bits) = ((y / 4294967296 : Nat) : Int) := shr32 y
  have e5 : IntKind.i64.wrap ((y : Int) / 4294967296) = (y : Int) / 4294967296 := wrap_in (by omega) (by omega)
  refine ac_intro Tryz.func32 rfl (by show (2 : Nat) ≤ 28; omega) (fun w0 N0 => ?_)
  refine aw_step [0, 1] [] (by simp [Tryz.ntmps32] <;> rfl) ?_
  refine aw_seq ?_
  refine aw_step [0, 1, 13] [] (by simp <;> rfl) ?_
  refine aw_cond rfl (fun h1 => by simp at h1; omega) (fun h1 => aw_skip ?_)   -- if t13
  refine aw_seq (aw_region ?_)
  refine awl_go 1 (by simp <;> rfl) ?_
  refine awl_call1 c56 Tryz.func56 rfl (by kernel_rfl) rfl rfl rfl (by simp <;> rfl) (by simp) (by simp <;> rfl) ?_
  refine awl_end [1, 6, 7] [] (by simp <;> rfl) ?_
  refine aw_step [4, 5] [] (by simp [e1, e2, e3, e4, e5] <;> rfl) ?_
  exact aw_ret (ends_ret (by simp [Tryz.results32] <;> rfl) (rfl))
set_option maxHeartbeats 1000000 in
theorem pick_ac (s : Int) (l : List Int) (hl : okW l) : AC Tryz.prog 14 [.int .u64 s, .ro 1 (ints l)] (fun r => r = pickV s l) := by
  have hn : ∀ (k : Nat) (h : k < l.length), nth (ints l) k = some (.int .i64 l[k]) := fun k h => ints_nth h
  have lp := ints_len l
  have hp0 := hl.pos
  have h21 := hl.len
  have hsr := preS_rng hl (Nat.le_refl l.length)
  rw [preS_all] at hsr
  have hsn : ((sumI l).toNat : Int) = sumI l := by omega
  have c31 := below_ac s (sumI l).toNat (by omega) (by omega)
  rw [hsn] at c31
  have hxl := pickX_lt (s := s) hl
  unfold pickV pickX at *
  generalize belowK s (sumI l).toNat = x at *
  generalize newD s = z at *
  have hxb : (x : Int) < 9223372036854775807 := by omega
  generalize ints l = pv at hn lp ⊢
  refine ac_intro Tryz.func14 rfl (by show (2 : Nat) ≤ 63; omega) (fun w0 N0 => ?_)
  refine aw_step [0, 1] [] (by simp [Tryz.ntmps14] <;> rfl) ?_
  refine aw_seq ?_
  refine aw_step [0, 1, 19] [] (by simp <;> rfl) ?_
  refine aw_cond rfl (fun h1 => by simp at h1; omega) (fun h1 => aw_skip ?_)   -- if t19
  refine aw_step [0, 1, 6] [] (by simp <;> rfl) ?_
  refine aw_seq ?_
  refine aw_step [0, 1, 6, 21, 22, 23] [] (by simp <;> rfl) ?_
  refine aw_block ?_
  refine aw_count (fun k nx => ⟨[(0, .int .u64 s), (1, .ro 1 pv), (6, V.int .i64 (preS l k)), (21, .ro 1 pv), (22, .int .i64 pv.length), (23, V.int .i64 k)], [], nx, 63⟩) (fun k => True) l.length _ trivial (AS.le_refl _) ?_
  intro k nx hk hI
  refine aw_step [0, 1, 6, 21, 22, 23, 24] [] (by simp <;> rfl) ?_
  refine aw_seq ?_
  refine aw_cond rfl (fun h2 => aw_skip ?_) (fun h2 => ?_)   -- if t24
  · have hlt : k < l.length := by simp at h2; omega
    have hltp : k < pv.length := by omega
    have gk := hn k hlt
    have hw1 := wrap_succ (k := k) (by omega)
    have hs := preS_succ hlt
    have hr0 := hl.rng l[k] (List.getElem_mem _)
    have hr1 := preS_rng hl hk
    generalize l[k] = w at gk hs hr0
    generalize hP : preS l k = P at *
    have hwp : IntKind.i64.wrap (P + w) = preS l (k + 1) := by rw [hs]; exact wrap_in (by omega) (by omega)
    refine aw_seq ?_
    refine aw_block ?_
    refine aw_step [0, 1, 6, 8, 21, 22, 23] [] (by simp [gk, hltp] <;> rfl) ?_
    refine aw_seq ?_
    refine aw_step [0, 1, 6, 8, 21, 22, 23, 32] [] (by simp <;> rfl) ?_
    refine aw_cond rfl (fun h3 => by simp at h3; omega) (fun h3 => aw_skip ?_)   -- if t32
    refine aw_one [0, 1, 6, 21, 22, 23] [] (by simp [hwp] <;> rfl) ?_
    refine aw_one [0, 1, 6, 21, 22, 23] [] (by simp [hw1] <;> rfl) ?_
    exact ⟨hlt, trivial, _, AS.le_refl _⟩
  · have hke : k = l.length := by simp at h2; omega
    subst hke
    rw [preS_all]
    refine aw_exit ?_
    refine aw_seq ?_
    refine aw_step [0, 1, 6, 39] [] (by simp <;> rfl) ?_
    refine aw_cond rfl (fun h4 => by simp at h4; omega) (fun h4 => aw_skip ?_)   -- if t39
    refine aw_seq (aw_region ?_)
    refine awl_go 2 (by simp <;> rfl) ?_
    refine awl_call1 c31 Tryz.func31 rfl (by kernel_rfl) rfl rfl rfl (by simp <;> rfl) (by simp) (by simp <;> rfl) ?_
    refine awl_end [0, 1, 9] [] (by simp <;> rfl) ?_
    refine aw_step [0, 1, 9, 10] [] (by simp <;> rfl) ?_
    have g0 := hn 0 hp0
    have hs1 : preS l 1 = l[0] := by have := preS_succ hp0; simp [preS, sumI] at this ⊢; exact this
    have hlt0 : 0 < pv.length := by omega
    refine aw_seq ?_
    refine aw_step [0, 1, 9, 10, 11] [] (by simp [g0, hlt0] <;> rfl) ?_
    refine aw_block ?_
    refine aw_count (fun k nx => ⟨[(0, .int .u64 z), (1, .ro 1 pv), (9, .int .i64 x), (10, V.int .i64 k), (11, V.int .i64 (preS l (k + 1)))], [], nx, 63⟩) (fun k => k < l.length ∧ idxF l x = k + idxF (l.drop k) (x - preS l k)) l.length _ ⟨hp0, by simp [preS, sumI]⟩ (by rw [hs1]; exact AS.le_refl _) ?_
    intro k nx hk hI
    obtain ⟨hlt, hI⟩ := hI
    have hst := idxF_step hlt (x - preS l k)
    have hs := preS_succ hlt
    refine aw_seq ?_
    refine aw_step [0, 1, 9, 10, 11, 52] [] (by simp <;> rfl) ?_
    refine aw_cond rfl (fun h5 => aw_skip ?_) (fun h5 => ?_)   -- if t52
    · have h5' : preS l (k + 1) ≤ x := by simpa using h5
      have hlt2 : k + 1 < l.length := by
        rcases Nat.lt_or_ge (k + 1) l.length with h | h
        · exact h
        · have : k + 1 = l.length := by omega
          rw [this, preS_all] at h5'; omega
      have gk := hn (k + 1) hlt2
      have hltp : (k : Int) + 1 < (pv.length : Int) := by omega
      have h01 : (0 : Int) ≤ (k : Int) + 1 := by omega
      have htn : ((k : Int) + 1).toNat = k + 1 := by omega
      have hw1 := wrap_succ (k := k) (by omega)
      have hs2 := preS_succ hlt2
      have hr0 := hl.rng l[k + 1] (List.getElem_mem _)
      have hr1 := preS_rng hl (k := k + 1) (by omega)
      have hI2 : idxF l x = (k + 1) + idxF (l.drop (k + 1)) (x - preS l (k + 1)) := by
        rw [hI, hst, if_neg (by omega), hs, show (x : Int) - preS l k - l[k] = x - (preS l k + l[k]) by omega]; omega
      generalize l[k + 1] = w at gk hs2 hr0
      generalize hP : preS l (k + 1) = P at *
      have hwp : IntKind.i64.wrap (P + w) = preS l (k + 1 + 1) := by rw [hs2]; exact wrap_in (by omega) (by omega)
      refine aw_seq ?_
      refine aw_block ?_
      refine aw_one [0, 1, 9, 10, 11] [] (by simp [hw1] <;> rfl) ?_
      refine aw_one [0, 1, 9, 10, 11] [] (by simp [gk, hltp, h01, htn, hwp] <;> rfl) ?_
      exact ⟨by omega, ⟨hlt2, hI2⟩, _, AS.le_refl _⟩
    · refine aw_exit ?_
      refine aw_step [4, 5] [] (by simp <;> rfl) ?_
      have h5' : (x : Int) < preS l (k + 1) := by simpa using h5
      rw [if_pos (by omega)] at hst
      refine aw_ret (ends_ret (by simp [Tryz.results14] <;> rfl) ?_)
      rw [hI, hst, Nat.add_zero]
set_option maxHeartbeats 1000000 in
theorem rpick_ac (s : Int) (l : List Int) (hl : okW l) : AC Tryz.prog 16 [.int .u64 s, .ro 1 (ints l)] (fun r => r = pickV s l) := by
  have hn : ∀ (k : Nat) (h : k < l.length), nth (ints l) k = some (.int .i64 l[k]) := fun k h => ints_nth h
  have lp := ints_len l
  have hp0 := hl.pos
  have h21 := hl.len
  have hsr := preS_rng hl (Nat.le_refl l.length)
  rw [preS_all] at hsr
  have hsn : ((sumI l).toNat : Int) = sumI l := by omega
  have c32 := rbelow_ac s (sumI l).toNat (by omega) (by omega)
  rw [hsn] at c32
  have hxl := pickX_lt (s := s) hl
  unfold pickV pickX at *
  generalize belowK s (sumI l).toNat = x at *
  generalize newD s = z at *
  have hxb : (x : Int) < 9223372036854775807 := by omega
  generalize ints l = pv at hn lp ⊢
  refine ac_intro Tryz.func16 rfl (by show (2 : Nat) ≤ 66; omega) (fun w0 N0 => ?_)
  refine aw_step [0, 1] [] (by simp [Tryz.ntmps16] <;> rfl) ?_
  refine aw_seq ?_
  refine aw_step [0, 1, 21] [] (by simp <;> rfl) ?_
  refine aw_cond rfl (fun h1 => by simp at h1; omega) (fun h1 => aw_skip ?_)   -- if t21
  refine aw_step [0, 1, 6] [] (by simp <;> rfl) ?_
  refine aw_seq ?_
  refine aw_step [0, 1, 6, 23, 24, 25] [] (by simp <;> rfl) ?_
  refine aw_block ?_
  refine aw_count (fun k nx => ⟨[(0, .int .u64 s), (1, .ro 1 pv), (6, V.int .i64 (preS l k)), (23, .ro 1 pv), (24, .int .i64 pv.length), (25, V.int .i64 k)], [], nx, 66⟩) (fun k => True) l.length _ trivial (AS.le_refl _) ?_
  intro k nx hk hI
  refine aw_step [0, 1, 6, 23, 24, 25, 26] [] (by simp <;> rfl) ?_
  refine aw_seq ?_
  refine aw_cond rfl (fun h2 => aw_skip ?_) (fun h2 => ?_)   -- if t26
  · have hlt : k < l.length := by simp at h2; omega
    have hltp : k < pv.length := by omega
    have gk := hn k hlt
    have hw1 := wrap_succ (k := k) (by omega)
    have hs := preS_succ hlt
    have hr0 := hl.rng l[k] (List.getElem_mem _)
    have hr1 := preS_rng hl hk
    generalize l[k] = w at gk hs hr0
    generalize hP : preS l k = P at *
    have hwp : IntKind.i64.wrap (P + w) = preS l (k + 1) := by rw [hs]; exact wrap_in (by omega) (by omega)
    refine aw_seq ?_
    refine aw_block ?_
    refine aw_step [0, 1, 6, 8, 23, 24, 25] [] (by simp [gk, hltp] <;> rfl) ?_
    refine aw_seq ?_
    refine aw_step [0, 1, 6, 8, 23, 24, 25, 34] [] (by simp <;> rfl) ?_
    refine aw_cond rfl (fun h3 => by simp at h3; omega) (fun h3 => aw_skip ?_)   -- if t34
    refine aw_one [0, 1, 6, 23, 24, 25] [] (by simp [hwp] <;> rfl) ?_
    refine aw_one [0, 1, 6, 23, 24, 25] [] (by simp [hw1] <;> rfl) ?_
    exact ⟨hlt, trivial, _, AS.le_refl _⟩
  · have hke : k = l.length := by simp at h2; omega
    subst hke
    rw [preS_all]
    refine aw_exit ?_
    refine aw_seq ?_
    refine aw_step [0, 1, 6, 41] [] (by simp <;> rfl) ?_
    refine aw_cond rfl (fun h4 => by simp at h4; omega) (fun h4 => aw_skip ?_)   -- if t41
    refine aw_seq (aw_region ?_)
    refine awl_go 2 (by simp <;> rfl) ?_
    refine awl_call1 c32 Tryz.func32 rfl (by kernel_rfl) rfl rfl rfl (by simp <;> rfl) (by simp) (by simp <;> rfl) ?_
    refine awl_end [1, 9, 10] [] (by simp <;> rfl) ?_
    refine aw_step [1, 9, 10, 11] [] (by simp <;> rfl) ?_
    refine aw_seq ?_
    refine aw_step [9, 10, 11, 49, 50, 51] [] (by simp <;> rfl) ?_
    refine aw_block ?_
    refine aw_count (fun k nx => ⟨[(9, .int .i64 x), (10, .int .u64 z), (11, V.int .i64 (preS l k)), (49, .ro 1 pv), (50, .int .i64 pv.length), (51, V.int .i64 k)], [], nx, 66⟩) (fun k => idxF l x = k + idxF (l.drop k) (x - preS l k) ∧ preS l k ≤ x) l.length _ ⟨by simp [preS, sumI], by simp [preS, sumI]⟩ (AS.le_refl _) ?_
    intro k nx hk hI
    obtain ⟨hI, hle⟩ := hI
    refine aw_step [9, 10, 11, 49, 50, 51, 52] [] (by simp <;> rfl) ?_
    refine aw_seq ?_
    refine aw_cond rfl (fun h5 => aw_skip ?_) (fun h5 => ?_)   -- if t52
    · have hlt : k < l.length := by simp at h5; omega
      have hltp : k < pv.length := by omega
      have gk := hn k hlt
      have hw1 := wrap_succ (k := k) (by omega)
      have hst := idxF_step hlt (x - preS l k)
      have hs := preS_succ hlt
      have hr0 := hl.rng l[k] (List.getElem_mem _)
      have hr1 := preS_rng hl hk
      generalize l[k] = w at gk hs hr0 hst
      have hwp : IntKind.i64.wrap (preS l k + w) = preS l (k + 1) := by rw [hs]; exact wrap_in (by omega) (by omega)
      refine aw_seq ?_
      refine aw_block ?_
      refine aw_step [9, 10, 11, 12, 13, 49, 50, 51] [] (by simp [gk, hltp] <;> rfl) ?_
      refine aw_step [9, 10, 11, 12, 49, 50, 51] [] (by simp [hwp] <;> rfl) ?_
      refine aw_step [9, 10, 11, 12, 49, 50, 51, 61] [] (by simp <;> rfl) ?_
      refine aw_cond rfl (fun h6 => ?_) (fun h6 => aw_skip ?_)   -- if t61
      · refine aw_step [4, 5] [] (by simp <;> rfl) ?_
        have h6' : (x : Int) < preS l (k + 1) := by simpa using h6
        rw [if_pos (by omega)] at hst
        refine aw_ret (ends_ret (by simp [Tryz.results16] <;> rfl) ?_)
        rw [hI, hst, Nat.add_zero]
      have h6' : preS l (k + 1) ≤ x := by simpa using h6
      refine aw_one [9, 10, 11, 49, 50, 51] [] (by simp [hw1] <;> rfl) ?_
      refine ⟨hlt, ⟨?_, h6'⟩, _, AS.le_refl _⟩
      rw [hI, hst, if_neg (by omega), hs, show (x : Int) - preS l k - w = x - (preS l k + w) by omega]; omega
    · exfalso
      have hke : k = l.length := by simp at h5; omega
      subst hke
      rw [preS_all] at hle
      omega
end Go.Proofs.YtnklkkagpkcmfaaGreatDoor

set_option maxRecDepth 4000
namespace Go.Proofs.YtnklkkagpkcmfaaGreatDoor
open Go.Eng Go.Eng.Limb

set_option maxHeartbeats 1000000 in
theorem rgrid_ac (g : Gr) : AC Tryz.prog 15 [g.v] (fun r => r = .int .i64 (gridE g)) := by
  obtain ⟨pts, pri⟩ := g
  show AC _ _ [.agg [.ro 1 (ints pts), .ro 1 (ints pri)]] _
  have hp : ∀ (k : Nat) (h : k < pts.length), nth (ints pts) k = some (.int .i64 pts[k]) := fun k h => ints_nth h
  have hq : ∀ (k : Nat) (h : k < pri.length), nth (ints pri) k = some (.int .i64 pri[k]) := fun k h => ints_nth h
  have lp := ints_len pts
  have lq := ints_len pri
  unfold gridE
  simp only
  generalize ints pts = pv at hp lp ⊢
  generalize ints pri = qv at hq lq ⊢
  refine ac_intro Tryz.func15 rfl (by show (1 : Nat) ≤ 70; omega) (fun w0 N0 => ?_)
  refine aw_step [1] [1] (by simp [Tryz.ntmps15] <;> rfl) ?_
  refine aw_step [1, 3] [1] (by simp <;> rfl) ?_
  refine aw_seq ?_
  refine aw_step [1, 3, 10] [1] (by simp <;> rfl) ?_
  refine aw_cond rfl (fun h1 => ?_) (fun h1 => aw_skip ?_)   -- if t10
  · refine aw_step [2] [] (by simp <;> rfl) ?_
    exact aw_ret (ends_ret (by simp [Tryz.results15] <;> rfl) (by rw [if_pos (by simp at h1; omega)]))
  rw [if_neg (by simp at h1; omega)]
  refine aw_seq ?_
  refine aw_step [1, 3, 12] [1] (by simp <;> rfl) ?_
  refine aw_cond rfl (fun h2 => ?_) (fun h2 => aw_skip ?_)   -- if t12
  · refine aw_step [2] [] (by simp <;> rfl) ?_
    exact aw_ret (ends_ret (by simp [Tryz.results15] <;> rfl) (by rw [if_pos (by rw [← lp]; simpa using h2)]))
  rw [if_neg (by rw [← lp]; simpa using h2)]
  refine aw_seq ?_
  refine aw_step [1, 3, 17] [1] (by simp <;> rfl) ?_
  refine aw_cond rfl (fun h3 => ?_) (fun h3 => aw_skip ?_)   -- if t17
  · refine aw_step [2] [] (by simp <;> rfl) ?_
    exact aw_ret (ends_ret (by simp [Tryz.results15] <;> rfl) (by rw [if_pos (by simp at h3; omega)]))
  have hll : pri.length = pts.length := by simp at h3; omega
  have hl21 : pts.length ≤ 21 := by simp at h1; omega
  rw [if_neg (by omega)]
  refine aw_seq ?_
  refine aw_step [1, 3, 4] [1] (by simp <;> rfl) ?_
  refine aw_block ?_
  refine aw_count (fun k nx => ⟨[(1, .bp 1 0 2 0 0), (3, .int .i64 pv.length), (4, V.int .i64 k)], [(1, ⟨0, 2, 24, [.agg [.ro 1 pv, .ro 1 qv]]⟩)], nx, 70⟩) (fun k => badPts (pts.drop k) (pri.drop k) = badPts pts pri) pts.length _ (by simp) (AS.le_refl _) ?_
  intro k nx hk hI
  refine aw_seq ?_
  refine aw_step [1, 3, 4, 20] [1] (by simp <;> rfl) ?_
  refine aw_cond rfl (fun h4 => aw_skip ?_) (fun h4 => ?_)   -- if t20
  · have hlt : k < pts.length := by simp at h4; omega
    have hltp : k < pv.length := by omega
    have hltq : k < qv.length := by omega
    have gp := hp k hlt
    have gq := hq k (by omega)
    have hw := wrap_succ (k := k) (by omega)
    have hd := badPts_drop (l := pts) (m := pri) hlt (by omega)
    generalize pts[k] = p at gp hd
    generalize pri[k] = q at gq hd
    refine aw_seq ?_
    refine aw_block ?_
    refine aw_step [1, 3, 4, 52] [1] (by simp [gp, gq, hltp, hltq] <;> rfl) ?_
    refine aw_cond rfl (fun h5 => ?_) (fun h5 => aw_skip ?_)   -- if t52
    · refine aw_step [2] [] (by simp <;> rfl) ?_
      refine aw_ret (ends_ret (by simp [Tryz.results15] <;> rfl) ?_)
      have : badPt p q = true := by simp [badPt] at h5 ⊢; omega
      rw [if_pos (by rw [← hI, hd, this]; rfl)]
    refine aw_one [1, 3, 4] [1] (by simp [hw] <;> rfl) ?_
    have : badPt p q = false := by simp [badPt] at h5 ⊢; omega
    exact ⟨hlt, by rw [← hI, hd, this]; rfl, _, AS.le_refl _⟩
  · have hke : k = pts.length := by simp at h4; omega
    rw [if_neg (by rw [← hI, hke, List.drop_length]; simp [badPts])]
    refine aw_exit ?_
    refine aw_seq ?_
    refine aw_step [1, 3, 5] [1] (by simp <;> rfl) ?_
    refine aw_block ?_
    refine aw_count (fun k nx => ⟨[(1, .bp 1 0 2 0 0), (3, .int .i64 pv.length), (5, .int .i64 ((k : Int) + 1))], [(1, ⟨0, 2, 24, [.agg [.ro 1 pv, .ro 1 qv]]⟩)], nx, 70⟩) (fun k => rises (pts.drop k) = rises pts) pts.length _ (by simp) (AS.le_refl _) ?_
    intro k nx hk hI
    refine aw_seq ?_
    refine aw_step [1, 3, 5, 55] [1] (by simp <;> rfl) ?_
    refine aw_cond rfl (fun h6 => aw_skip ?_) (fun h6 => ?_)   -- if t55
    · have hlt : k + 1 < pts.length := by simp at h6; omega
      have hltp : (k : Int) + 1 < (pv.length : Int) := by omega
      have hltk : (k : Int) < (pv.length : Int) := by omega
      have h01 : (0 : Int) ≤ (k : Int) + 1 := by omega
      have htn : ((k : Int) + 1).toNat = k + 1 := by omega
      have gp := hp k (by omega)
      have gq := hp (k + 1) hlt
      have hw : IntKind.i64.wrap ((k : Int) + 1 + 1) = (k : Int) + 1 + 1 := wrap_in (by omega) (by omega)
      have hw2 : IntKind.i64.wrap (k : Int) = (k : Int) := wrap_in (by omega) (by omega)
      have hd := rises_drop (l := pts) (k := k) hlt
      generalize pts[k] = p at gp hd
      generalize pts[k + 1] = q at gq hd
      refine aw_seq ?_
      refine aw_block ?_
      refine aw_dstep [(0, []), (2, []), (5, []), (7, []), (8, []), (1, []), (3, []), (4, []), (6, []), (9, []), (10, []), (11, [])] [1, 3, 5, 69] [1] hmx (by kernel_rfl) (by simp [gp, gq, hw2, hltp, hltk, h01, htn] <;> rfl) ?_
      refine aw_cond rfl (fun h7 => ?_) (fun h7 => aw_skip ?_)   -- if t69
      · refine aw_step [2] [] (by simp <;> rfl) ?_
        refine aw_ret (ends_ret (by simp [Tryz.results15] <;> rfl) ?_)
        have : decide (p < q) = false := by simp at h7 ⊢; omega
        rw [if_pos (by rw [← hI, hd, this]; rfl)]
      refine aw_one [1, 3, 5] [1] (by simp [hw] <;> rfl) ?_
      have : decide (p < q) = true := by simp at h7 ⊢; omega
      exact ⟨by omega, by rw [← hI, hd, this]; simp, _, AS.le_refl _⟩
    · refine aw_exit ?_
      refine aw_step [2] [] (by simp <;> rfl) ?_
      refine aw_ret (ends_ret (by simp [Tryz.results15] <;> rfl) ?_)
      have hkl : pts.length ≤ k + 1 := by simp at h6; omega
      rw [if_neg (by rw [← hI, rises_end hkl]; simp)]
theorem any_dropW {l : List Int} {k : Nat} (h : k < l.length) : (l.drop k).any badW = (badW l[k] || (l.drop (k + 1)).any badW) := by rw [List.drop_eq_getElem_cons h, List.any_cons]
set_option maxHeartbeats 1000000 in
theorem rrow_ac (l : List Int) (c : Nat) (hc : c ≤ 6) : AC Tryz.prog 33 [.ro 1 (ints l), .int .i64 c] (fun r => r = .int .i64 (rowE c l)) := by
  have hn : ∀ (k : Nat) (h : k < l.length), nth (ints l) k = some (.int .i64 l[k]) := fun k h => ints_nth h
  have lp := ints_len l
  unfold rowE
  generalize ints l = pv at hn lp ⊢
  refine ac_intro Tryz.func33 rfl (by show (2 : Nat) ≤ 37; omega) (fun w0 N0 => ?_)
  refine aw_step [0, 1] [] (by simp [Tryz.ntmps33] <;> rfl) ?_
  refine aw_seq ?_
  refine aw_step [0, 10] [] (by simp <;> rfl) ?_
  refine aw_cond rfl (fun h1 => ?_) (fun h1 => aw_skip ?_)   -- if t10
  · refine aw_step [4] [] (by simp <;> rfl) ?_
    exact aw_ret (ends_ret (by simp [Tryz.results33] <;> rfl) (by rw [if_pos (by simp at h1; omega)]))
  have hlc : l.length = c := by simp at h1; omega
  rw [if_neg (by omega)]
  refine aw_step [0, 5] [] (by simp <;> rfl) ?_
  refine aw_seq ?_
  refine aw_step [0, 5, 6] [] (by simp <;> rfl) ?_
  refine aw_block ?_
  refine aw_count (fun k nx => ⟨[(0, .ro 1 pv), (5, V.int .i64 (preS l k)), (6, V.int .i64 k)], [], nx, 37⟩) (fun k => (l.drop k).any badW = l.any badW ∧ 0 ≤ preS l k ∧ preS l k ≤ 1000 * k) l.length _ ⟨by simp, by simp [preS, sumI], by simp [preS, sumI]⟩ (AS.le_refl _) ?_
  intro k nx hk hI
  obtain ⟨hI, hb1, hb2⟩ := hI
  refine aw_seq ?_
  refine aw_step [0, 5, 6, 14] [] (by simp <;> rfl) ?_
  refine aw_cond rfl (fun h2 => aw_skip ?_) (fun h2 => ?_)   -- if t14
  · have hlt : k < l.length := by simp at h2; omega
    have hltp : k < pv.length := by omega
    have gk := hn k hlt
    have hw1 := wrap_succ (k := k) (by omega)
    have hs := preS_succ hlt
    have hd := any_dropW hlt
    generalize l[k] = w at gk hs hd
    generalize hP : preS l k = P at *
    refine aw_seq ?_
    refine aw_block ?_
    refine aw_seq ?_
    refine aw_step [0, 5, 6, 28] [] (by simp [gk, hltp] <;> rfl) ?_
    refine aw_cond rfl (fun h3 => ?_) (fun h3 => aw_skip ?_)   -- if t28
    · refine aw_step [4] [] (by simp <;> rfl) ?_
      refine aw_ret (ends_ret (by simp [Tryz.results33] <;> rfl) ?_)
      have : badW w = true := by simp [badW] at h3 ⊢; omega
      rw [if_pos (by rw [← hI, hd, this]; rfl)]
    have hbw : badW w = false := by simp [badW] at h3 ⊢; omega
    have hwr : 1 ≤ w ∧ w ≤ 1000 := by simp [badW] at hbw; omega
    have hwp : IntKind.i64.wrap (P + w) = preS l (k + 1) := by rw [hs]; exact wrap_in (by omega) (by omega)
    refine aw_one [0, 5, 6] [] (by simp [gk, hltp, hwp] <;> rfl) ?_
    refine aw_one [0, 5, 6] [] (by simp [hw1] <;> rfl) ?_
    exact ⟨hlt, ⟨by rw [← hI, hd, hbw]; rfl, by omega, by omega⟩, _, AS.le_refl _⟩
  · have hke : k = l.length := by simp at h2; omega
    subst hke
    rw [if_neg (by rw [← hI, List.drop_length]; simp)]
    rw [preS_all]
    refine aw_exit ?_
    refine aw_seq ?_
    refine aw_step [36] [] (by simp <;> rfl) ?_
    refine aw_cond rfl (fun h4 => ?_) (fun h4 => aw_skip ?_)   -- if t36
    · refine aw_step [4] [] (by simp <;> rfl) ?_
      exact aw_ret (ends_ret (by simp [Tryz.results33] <;> rfl) (by rw [if_pos (by simpa using h4)]))
    refine aw_step [4] [] (by simp <;> rfl) ?_
    exact aw_ret (ends_ret (by simp [Tryz.results33] <;> rfl) (by rw [if_neg (by simpa using h4)]))
end Go.Proofs.YtnklkkagpkcmfaaGreatDoor

set_option maxRecDepth 4000
namespace Go.Proofs.YtnklkkagpkcmfaaGreatDoor
open Go.Eng Go.Eng.Limb

set_option maxHeartbeats 1000000 in
theorem rmodel_ac (m : Mo) (n : Int) : AC Tryz.prog 18 [moV m, .int .i64 n] (fun r => r = .int .i64 (modelE m n)) := by
  have hn := fun (k : Nat) (h : k < m.length) => rowsV_nth h
  have hl := rowsV_len m
  have hrp := fun (r : List Int) => ints_pure r
  unfold moV modelE
  generalize rowsV m = mv at hn hl ⊢
  refine ac_intro Tryz.func18 rfl (by show (2 : Nat) ≤ 47; omega) (fun w0 N0 => ?_)
  refine aw_step [1, 2] [2] (by simp [Tryz.ntmps18] <;> rfl) ?_
  refine aw_seq ?_
  refine aw_step [1, 2, 20] [2] (by simp <;> rfl) ?_
  refine aw_cond rfl (fun h1 => ?_) (fun h1 => aw_skip ?_)   -- if t20
  · refine aw_step [4] [] (by simp <;> rfl) ?_
    exact aw_ret (ends_ret (by simp [Tryz.results18] <;> rfl) (by rw [if_pos (by simp at h1; omega)]))
  have h1' : 1 ≤ n ∧ n ≤ 21 ∧ (m.length : Int) = n := by simp at h1; omega
  rw [if_neg (by omega)]
  have hm0 : 0 < m.length := by omega
  have g0 := hn 0 hm0
  have hmv : 0 < mv.length := by omega
  have hc : cats m = m[0].length := by
    cases m with
    | nil => simp at hm0
    | cons r m => rfl
  rw [hc]
  have li := ints_len m[0]
  generalize ints m[0] = iv at g0 li
  generalize hct : m[0].length = ct at li ⊢
  refine aw_step [1, 2, 5] [2] (by simp [g0, hmv] <;> rfl) ?_
  refine aw_seq ?_
  refine aw_step [1, 2, 5, 31] [2] (by simp <;> rfl) ?_
  refine aw_cond rfl (fun h2 => ?_) (fun h2 => aw_skip ?_)   -- if t31
  · refine aw_step [4] [] (by simp <;> rfl) ?_
    exact aw_ret (ends_ret (by simp [Tryz.results18] <;> rfl) (by rw [if_pos (by simp at h2; omega)]))
  have h2' : 2 ≤ ct ∧ ct ≤ 6 := by simp at h2; omega
  rw [if_neg (by omega)]
  refine aw_seq ?_
  refine aw_step [1, 2, 5, 6] [2] (by simp <;> rfl) ?_
  refine aw_block ?_
  refine aw_count (fun k nx => ⟨[(1, .int .i64 n), (2, .bp 2 0 1 0 0), (5, .int .i64 ct), (6, V.int .i64 k)], [(2, ⟨0, 1, 27, [.agg [.ro 1 mv]]⟩)], nx, 47⟩) (fun k => fstE (rowE ct) (m.drop k) = fstE (rowE ct) m) m.length _ (by simp) (by rw [li]; exact AS.le_refl _) ?_
  intro k nx hk hI
  refine aw_seq ?_
  refine aw_step [1, 2, 5, 6, 34] [2] (by simp <;> rfl) ?_
  refine aw_cond rfl (fun h3 => aw_skip ?_) (fun h3 => ?_)   -- if t34
  · have hlt : k < m.length := by simp at h3; omega
    have hltm : k < mv.length := by omega
    have gk := hn k hlt
    have hw := wrap_succ (k := k) (by omega)
    rw [fstE_drop _ hlt] at hI
    generalize m[k] = r at gk hI
    have pr := hrp r
    have c33 := rrow_ac r ct (by omega)
    generalize ints r = rv at gk pr c33
    refine aw_seq ?_
    refine aw_block ?_
    refine aw_seq (aw_region ?_)
    refine awl_go 6 (by simp [gk, hltm] <;> rfl) ?_
    refine awl_call1 c33 Tryz.func33 rfl (by kernel_rfl) rfl rfl rfl (by simp <;> rfl) (by simp [pr]) (by simp <;> rfl) ?_
    refine awl_end [1, 2, 5, 6, 7] [2] (by simp <;> rfl) ?_
    refine aw_step [1, 2, 5, 6, 7, 45] [2] (by simp <;> rfl) ?_
    refine aw_cond rfl (fun h4 => ?_) (fun h4 => aw_skip ?_)   -- if t45
    · refine aw_step [4] [] (by simp <;> rfl) ?_
      refine aw_ret (ends_ret (by simp [Tryz.results18] <;> rfl) ?_)
      rw [if_pos (by simpa using h4)] at hI
      rw [hI]
    refine aw_one [1, 2, 5, 6] [2] (by simp [hw] <;> rfl) ?_
    rw [if_neg (by simpa using h4)] at hI
    exact ⟨hlt, hI, _, AS.le_refl _⟩
  · have hke : m.length ≤ k := by simp at h3; omega
    refine aw_exit ?_
    refine aw_step [4] [] (by simp <;> rfl) ?_
    refine aw_ret (ends_ret (by simp [Tryz.results18] <;> rfl) ?_)
    rw [← hI, List.drop_of_length_le hke]; rfl
/-- What a person's ability is drawn as. -/
def abV (g : Gr) (s : Int) : V := if gridE g ≠ 0 then .tup [.int .i64 0, .int .u64 s, .int .i64 (gridE g)] else .tup [.int .i64 (idxF g.pri (pickX s g.pri) : Nat), .int .u64 (newD s), .int .i64 0]
theorem grid_okW {g : Gr} (h : gridE g = 0) : okW g.pri := by
  have hg := grid_ok h
  exact ⟨by have := hg.pos; have := hg.same; omega, by have := hg.len; have := hg.same; omega, hg.pri⟩
theorem ability_ac (g : Gr) (s : Int) : AC Tryz.prog 5 [g.v, .int .u64 s] (fun r => r = abV g s) := by
  have c13 := gridValid_ac g
  have pp := ints_pure g.pts
  have pq := ints_pure g.pri
  have ev : g.v = .agg [.ro 1 (ints g.pts), .ro 1 (ints g.pri)] := rfl
  have c14 : gridE g = 0 → _ := fun h => pick_ac s g.pri (grid_okW h)
  unfold pickV at c14
  unfold abV
  rw [ev] at c13 ⊢
  generalize ints g.pts = pv at *
  generalize ints g.pri = qv at *
  refine ac_intro Tryz.func5 rfl (by show (2 : Nat) ≤ 25; omega) (fun w0 N0 => ?_)
  refine aw_step [1, 2] [2] (by simp [Tryz.ntmps5] <;> rfl) ?_
  refine aw_seq ?_
  refine aw_seq (aw_region ?_)
  refine awl_go 1 (by simp <;> rfl) ?_
  refine awl_call1 c13 Tryz.func13 rfl (by kernel_rfl) rfl rfl rfl (by simp <;> rfl) (by simp [pp, pq]) (by simp <;> rfl) ?_
  refine awl_end [1, 2, 7] [2] (by simp <;> rfl) ?_
  refine aw_step [1, 2, 7, 13] [2] (by simp <;> rfl) ?_
  refine aw_cond rfl (fun h1 => ?_) (fun h1 => aw_skip ?_)   -- if t13
  · refine aw_step [4, 5, 6] [] (by simp <;> rfl) ?_
    exact aw_ret (ends_ret (by simp [Tryz.results5] <;> rfl) (by rw [if_pos (by simpa using h1)]))
  have h0 : gridE g = 0 := by simpa using h1
  refine aw_seq (aw_region ?_)
  refine awl_go 3 (by simp <;> rfl) ?_
  refine awl_call1 (c14 h0) Tryz.func14 rfl (by kernel_rfl) rfl rfl rfl (by simp <;> rfl) (by simp [pq]) (by simp <;> rfl) ?_
  refine awl_end [8, 9] [] (by simp <;> rfl) ?_
  refine aw_step [4, 5, 6] [] (by simp <;> rfl) ?_
  exact aw_ret (ends_ret (by simp [Tryz.results5] <;> rfl) (by rw [if_neg (by simp [h0])]))
theorem rability_ac (g : Gr) (s : Int) : AC Tryz.prog 6 [g.v, .int .u64 s] (fun r => r = abV g s) := by
  have c15 := rgrid_ac g
  have pp := ints_pure g.pts
  have pq := ints_pure g.pri
  have ev : g.v = .agg [.ro 1 (ints g.pts), .ro 1 (ints g.pri)] := rfl
  have c16 : gridE g = 0 → _ := fun h => rpick_ac s g.pri (grid_okW h)
  unfold pickV at c16
  unfold abV
  rw [ev] at c15 ⊢
  generalize ints g.pts = pv at *
  generalize ints g.pri = qv at *
  refine ac_intro Tryz.func6 rfl (by show (2 : Nat) ≤ 24; omega) (fun w0 N0 => ?_)
  refine aw_step [1, 2] [2] (by simp [Tryz.ntmps6] <;> rfl) ?_
  refine aw_seq ?_
  refine aw_seq (aw_region ?_)
  refine awl_go 1 (by simp <;> rfl) ?_
  refine awl_call1 c15 Tryz.func15 rfl (by kernel_rfl) rfl rfl rfl (by simp <;> rfl) (by simp [pp, pq]) (by simp <;> rfl) ?_
  refine awl_end [1, 2, 7] [2] (by simp <;> rfl) ?_
  refine aw_step [1, 2, 7, 12] [2] (by simp <;> rfl) ?_
  refine aw_cond rfl (fun h1 => ?_) (fun h1 => aw_skip ?_)   -- if t12
  · refine aw_step [4, 5, 6] [] (by simp <;> rfl) ?_
    exact aw_ret (ends_ret (by simp [Tryz.results6] <;> rfl) (by rw [if_pos (by simpa using h1)]))
  have h0 : gridE g = 0 := by simpa using h1
  refine aw_seq (aw_region ?_)
  refine awl_go 3 (by simp <;> rfl) ?_
  refine awl_call1 (c16 h0) Tryz.func16 rfl (by kernel_rfl) rfl rfl rfl (by simp <;> rfl) (by simp [pq]) (by simp <;> rfl) ?_
  refine awl_end [1, 8] [] (by simp <;> rfl) ?_
  refine aw_step [4, 5, 6] [] (by simp <;> rfl) ?_
  exact aw_ret (ends_ret (by simp [Tryz.results6] <;> rfl) (by rw [if_neg (by simp [h0])]))
/-- What a response is drawn as. -/
def reV (m : Mo) (q s : Int) : V := if modelE m m.length ≠ 0 then .tup [.int .i64 0, .int .u64 s, .int .i64 (modelE m m.length)] else if q < 0 ∨ (m.length : Int) ≤ q then .tup [.int .i64 0, .int .u64 s, .int .i64 3] else
  .tup [.int .i64 (idxF (m.getD q.toNat []) (pickX s (m.getD q.toNat [])) : Nat), .int .u64 (newD s), .int .i64 0]
theorem model_okW {m : Mo} (h : modelE m m.length = 0) {k : Nat} (hk : k < m.length) : okW (m.getD k []) := by
  have hm := model_ok (n := m.length) h
  have hr := hm.row (m.getD k []) (by rw [List.getD_eq_getElem?_getD, List.getElem?_eq_getElem hk]; exact List.getElem_mem hk)
  exact ⟨by have := hm.two; omega, by have := hm.six; omega, hr.2.1⟩
set_option maxHeartbeats 1000000 in
theorem respond_ac (m : Mo) (q s : Int) : AC Tryz.prog 7 [moV m, .int .i64 q, .int .u64 s] (fun r => r = reV m q s) := by
  have hn := fun (k : Nat) (h : k < m.length) => rowsV_nth h
  have hl := rowsV_len m
  have c17 := modelValid_ac m m.length
  have pm := rowsV_pure m
  have hrp := fun (r : List Int) => ints_pure r
  unfold moV at c17 ⊢
  unfold reV
  generalize rowsV m = mv at *
  have e0 : (mv.length : Int) = m.length := by omega
  refine ac_intro Tryz.func7 rfl (by show (3 : Nat) ≤ 43; omega) (fun w0 N0 => ?_)
  refine aw_step [1, 2, 3] [3] (by simp [Tryz.ntmps7] <;> rfl) ?_
  refine aw_seq ?_
  refine aw_seq (aw_region ?_)
  refine awl_go 4 (by simp <;> rfl) ?_
  refine awl_call1 c17 Tryz.func17 rfl (by kernel_rfl) rfl rfl rfl (by simp [e0] <;> rfl) (by simp [pm]) (by simp <;> rfl) ?_
  refine awl_end [1, 2, 3, 9] [3] (by simp <;> rfl) ?_
  refine aw_step [1, 2, 3, 9, 18] [3] (by simp <;> rfl) ?_
  refine aw_cond rfl (fun h1 => ?_) (fun h1 => aw_skip ?_)   -- if t18
  · refine aw_step [6, 7, 8] [] (by simp <;> rfl) ?_
    exact aw_ret (ends_ret (by simp [Tryz.results7] <;> rfl) (by rw [if_pos (by simpa using h1)]))
  have h0 : modelE m m.length = 0 := by simpa using h1
  rw [if_neg (by simp [h0])]
  refine aw_seq ?_
  refine aw_step [1, 2, 3, 29] [3] (by simp <;> rfl) ?_
  refine aw_cond rfl (fun h2 => ?_) (fun h2 => aw_skip ?_)   -- if t29
  · refine aw_step [6, 7, 8] [] (by simp <;> rfl) ?_
    exact aw_ret (ends_ret (by simp [Tryz.results7] <;> rfl) (by rw [if_pos (by simp at h2; omega)]))
  have h2' : 0 ≤ q ∧ q < (m.length : Int) := by simp at h2; omega
  rw [if_neg (by omega)]
  have hlt : q.toNat < m.length := by omega
  have gk := hn q.toNat hlt
  have hlq : q < (mv.length : Int) := by omega
  have c14 := pick_ac s (m.getD q.toNat []) (model_okW h0 hlt)
  unfold pickV at c14
  rw [show m.getD q.toNat [] = m[q.toNat] by rw [List.getD_eq_getElem?_getD, List.getElem?_eq_getElem hlt]; rfl] at c14 ⊢
  generalize m[q.toNat] = r at gk c14 ⊢
  have pr := hrp r
  generalize ints r = rv at gk pr c14
  refine aw_seq (aw_region ?_)
  refine awl_go 6 (by simp [gk, hlq, h2'.1] <;> rfl) ?_
  refine awl_call1 c14 Tryz.func14 rfl (by kernel_rfl) rfl rfl rfl (by simp <;> rfl) (by simp [pr]) (by simp <;> rfl) ?_
  refine awl_end [10, 11] [] (by simp <;> rfl) ?_
  refine aw_step [6, 7, 8] [] (by simp <;> rfl) ?_
  exact aw_ret (ends_ret (by simp [Tryz.results7] <;> rfl) rfl)
set_option maxHeartbeats 1000000 in
theorem rrespond_ac (m : Mo) (q s : Int) : AC Tryz.prog 8 [moV m, .int .i64 q, .int .u64 s] (fun r => r = reV m q s) := by
  have hn := fun (k : Nat) (h : k < m.length) => rowsV_nth h
  have hl := rowsV_len m
  have c18 := rmodel_ac m m.length
  have pm := rowsV_pure m
  have hrp := fun (r : List Int) => ints_pure r
  unfold moV at c18 ⊢
  unfold reV
  generalize rowsV m = mv at *
  have e0 : (mv.length : Int) = m.length := by omega
  refine ac_intro Tryz.func8 rfl (by show (3 : Nat) ≤ 42; omega) (fun w0 N0 => ?_)
  refine aw_step [1, 2, 3] [3] (by simp [Tryz.ntmps8] <;> rfl) ?_
  refine aw_seq ?_
  refine aw_seq (aw_region ?_)
  refine awl_go 4 (by simp <;> rfl) ?_
  refine awl_call1 c18 Tryz.func18 rfl (by kernel_rfl) rfl rfl rfl (by simp [e0] <;> rfl) (by simp [pm]) (by simp <;> rfl) ?_
  refine awl_end [1, 2, 3, 9] [3] (by simp <;> rfl) ?_
  refine aw_step [1, 2, 3, 9, 17] [3] (by simp <;> rfl) ?_
  refine aw_cond rfl (fun h1 => ?_) (fun h1 => aw_skip ?_)   -- if t17
  · refine aw_step [6, 7, 8] [] (by simp <;> rfl) ?_
    exact aw_ret (ends_ret (by simp [Tryz.results8] <;> rfl) (by rw [if_pos (by simpa using h1)]))
  have h0 : modelE m m.length = 0 := by simpa using h1
  rw [if_neg (by simp [h0])]
  refine aw_seq ?_
  refine aw_step [1, 2, 3, 28] [3] (by simp <;> rfl) ?_
  refine aw_cond rfl (fun h2 => ?_) (fun h2 => aw_skip ?_)   -- if t28
  · refine aw_step [6, 7, 8] [] (by simp <;> rfl) ?_
    exact aw_ret (ends_ret (by simp [Tryz.results8] <;> rfl) (by rw [if_pos (by simp at h2; omega)]))
  have h2' : 0 ≤ q ∧ q < (m.length : Int) := by simp at h2; omega
  rw [if_neg (by omega)]
  have hlt : q.toNat < m.length := by omega
  have gk := hn q.toNat hlt
  have hlq : q < (mv.length : Int) := by omega
  have c16 := rpick_ac s (m.getD q.toNat []) (model_okW h0 hlt)
  unfold pickV at c16
  rw [show m.getD q.toNat [] = m[q.toNat] by rw [List.getD_eq_getElem?_getD, List.getElem?_eq_getElem hlt]; rfl] at c16 ⊢
  generalize m[q.toNat] = r at gk c16 ⊢
  have pr := hrp r
  generalize ints r = rv at gk pr c16
  refine aw_seq (aw_region ?_)
  refine awl_go 6 (by simp [gk, hlq, h2'.1] <;> rfl) ?_
  refine awl_call1 c16 Tryz.func16 rfl (by kernel_rfl) rfl rfl rfl (by simp <;> rfl) (by simp [pr]) (by simp <;> rfl) ?_
  refine awl_end [2, 10] [] (by simp <;> rfl) ?_
  refine aw_step [6, 7, 8] [] (by simp <;> rfl) ?_
  exact aw_ret (ends_ret (by simp [Tryz.results8] <;> rfl) rfl)
end Go.Proofs.YtnklkkagpkcmfaaGreatDoor
