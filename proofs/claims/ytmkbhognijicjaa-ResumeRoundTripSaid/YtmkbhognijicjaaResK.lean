/- Resume: the reference's Decode, by the forms of a tree. No condition. -/
import Derived.Test.YtmkbhognijicjaaResJ
set_option linter.unusedSimpArgs false
namespace Go.Proofs.Ytmkbhognijicjaa
open Go.Eng

theorem integer_ac (t k n : Int) (s : List UInt8) (v : List V) : AC Try.prog 13 [.agg [.int .i64 t, .int .i64 k, .int .i64 n, .str s, .ro 5 v]] (fun r => r = .int .i64 n) := by
  refine ac_intro Try.func13 rfl (by show (1 : Nat) ≤ 5; omega) (fun w0 N0 => ?_)
  refine aw_step [1] [1] (by simp [Try.ntmps13] <;> rfl) ?_   -- ref.go:66
  refine aw_step [2] [] (by simp <;> rfl) ?_   -- ref.go:66
  exact aw_ret (ends_ret (by simp [Try.results13] <;> rfl) rfl)

theorem refDecS_ac (t k n : Int) (s : List UInt8) (lv : List V) (R : V → Prop) (h : lv.length < 2) (herr : R (.tup [.agg [.int .i64 0, .int .i64 0, .int .i64 0, .ro 1 [], .int .i64 0, .str [], .bool false, .int .i64 0, .int .i64 0, .int .i64 0, .int .i64 0], .int .i64 2])) :
    AC Try.prog 7 [.agg [.int .i64 t, .int .i64 k, .int .i64 n, .str s, .ro 5 lv]] R := by
    refine ac_intro Try.func7 rfl (by show (1 : Nat) ≤ 114; omega) (fun w0 N0 => ?_)
    refine aw_step [1, 2] [1, 2] (by simp [Try.ntmps7] <;> rfl) ?_   -- ref.go:69
    refine aw_step [1, 2, 4] [1, 2] (by simp <;> rfl) ?_   -- ref.go:70
    refine aw_seq ?_
    refine aw_step [1, 2, 4, 13] [1, 2] (by simp <;> rfl) ?_   -- ref.go:71
    refine aw_cond rfl (fun h1 => ?_) (fun h1 => by simp at h1; omega)   -- if t13
    refine aw_step [2, 3] [2] (by simp <;> rfl) ?_   -- ref.go:72
    refine aw_adoptC 2 3 101 1 3 [2, 3] [2, 101] (by simp <;> rfl) ?_
    refine aw_freeze 101 [2, 3] [2] (by simp <;> rfl) ?_
    exact aw_ret (ends_ret (by simp [Try.results7] <;> rfl) herr)

set_option maxRecDepth 100000 in
set_option maxHeartbeats 4000000 in
theorem refDecT_ac (t k n : Int) (s : List UInt8) (t0 k0 n0 : Int) (s0 : List UInt8) (v0 : List V) (t1 k1 n1 : Int) (s1 : List UInt8) (v1 : List V) (lv : List V) (mt mk mn : Int) (ms : List UInt8) (mv : List V) (ec : Int) (q : Bool) (R : V → Prop)
    (hint : ∀ (t k n : Int) (s : List UInt8) (v : List V), AC Try.prog 13 [.agg [.int .i64 t, .int .i64 k, .int .i64 n, .str s, .ro 5 v]] (fun r => r = .int .i64 n))
    (hen : AC Try.prog 14 [.agg [.int .i64 n0, .int .i64 n1, .int .i64 0, .ro 1 [], .int .i64 0, .str [], .bool false, .int .i64 0, .int .i64 0, .int .i64 0, .int .i64 0]] (fun r => r = .tup [.agg [.int .i64 mt, .int .i64 mk, .int .i64 mn, .str ms, .ro 5 mv], .int .i64 ec]))
    (heq : AC Try.prog 15 [.agg [.int .i64 mt, .int .i64 mk, .int .i64 mn, .str ms, .ro 5 mv], .agg [.int .i64 t, .int .i64 k, .int .i64 n, .str s, .ro 5 (.agg [.int .i64 t0, .int .i64 k0, .int .i64 n0, .str s0, .ro 5 v0] :: .agg [.int .i64 t1, .int .i64 k1, .int .i64 n1, .str s1, .ro 5 v1] :: lv)]] (fun r => r = .bool q))
    (herr : (!decide (ec = 0) || !q) = true → R (.tup [.agg [.int .i64 0, .int .i64 0, .int .i64 0, .ro 1 [], .int .i64 0, .str [], .bool false, .int .i64 0, .int .i64 0, .int .i64 0, .int .i64 0], .int .i64 2]))
    (hok : (!decide (ec = 0) || !q) = false → R (.tup [.agg [.int .i64 n0, .int .i64 n1, .int .i64 0, .ro 1 [], .int .i64 0, .str [], .bool false, .int .i64 0, .int .i64 0, .int .i64 0, .int .i64 0], .int .i64 0]))
    (hc1 : (decide (n0 = 2) && decide ((lv.length : Int) + 1 + 1 = 7)) = false) (hc2 : (decide (n0 = 5) && decide ((lv.length : Int) + 1 + 1 = 5)) = false) :
    AC Try.prog 7 [.agg [.int .i64 t, .int .i64 k, .int .i64 n, .str s, .ro 5 (.agg [.int .i64 t0, .int .i64 k0, .int .i64 n0, .str s0, .ro 5 v0] :: .agg [.int .i64 t1, .int .i64 k1, .int .i64 n1, .str s1, .ro 5 v1] :: lv)]] R := by
    have hA : (0 : Int) < (lv.length : Int) + 1 + 1 := by omega
    have hB : (1 : Int) < (lv.length : Int) + 1 + 1 := by omega
    have hp : True := trivial
    have hp0 : True := trivial
    have hp1 : True := trivial
    refine ac_intro Try.func7 rfl (by show (1 : Nat) ≤ 114; omega) (fun w0 N0 => ?_)
    refine aw_step [1, 2] [1, 2] (by simp [Try.ntmps7] <;> rfl) ?_   -- ref.go:69
    refine aw_step [1, 2, 4] [1, 2] (by simp <;> rfl) ?_   -- ref.go:70
    refine aw_seq ?_
    refine aw_step [1, 2, 4, 13] [1, 2] (by simp <;> rfl) ?_   -- ref.go:71
    refine aw_cond rfl (fun h1 => by simp at h1 <;> omega) (fun h1 => aw_skip ?_)   -- if t13
    refine aw_seq (aw_draw [(0, []), (1, []), (4, []), (5, []), (2, [5]), (3, []), (6, [5]), (7, []), (8, []), (9, []), (10, [])] hmix (by kernel_rfl) ?_)   -- ref.go:74
    refine awo_go 5 (by simp [hA, hB] <;> rfl) ?_
    refine awo_call (fun hg => hint t0 k0 _ s0 v0) Try.func13 rfl (by kernel_rfl) rfl rfl (by simp <;> rfl) rfl rfl (by simp <;> rfl) (by simp [hp0]) (by simp <;> rfl) ?_
    refine awo_go 1 (by simp <;> rfl) ?_
    refine awo_call (fun hg => hint t1 k1 n1 s1 v1) Try.func13 rfl (by kernel_rfl) rfl rfl (by simp <;> rfl) rfl rfl (by simp <;> rfl) (by simp [hp1]) (by simp <;> rfl) ?_
    refine awo_end [1, 2, 4, 5] [1, 2, 5] (by simp <;> rfl) ?_
    refine aw_seq ?_
    refine aw_step [1, 2, 4, 5, 31] [1, 2, 5] (by simp [hc1] <;> rfl) ?_   -- ref.go:75
    refine aw_cond rfl (fun h2 => by simp [hc1] at h2) (fun h2 => aw_skip ?_)   -- if t31
    refine aw_seq ?_
    refine aw_step [1, 2, 4, 5, 82] [1, 2, 5] (by simp [hc2] <;> rfl) ?_   -- ref.go:81
    refine aw_cond rfl (fun h7 => by simp [hc2] at h7) (fun h7 => aw_skip ?_)   -- if t82
    refine aw_adoptC 5 3 100 1 3 [1, 2, 5] [1, 2, 5, 100] (by simp <;> rfl) ?_
    refine aw_freeze 100 [1, 2, 5] [1, 2, 5] (by simp <;> rfl) ?_
    refine aw_seq (aw_region ?_)   -- ref.go:84
    refine awl_go 1 (by simp <;> rfl) ?_
    refine awl_call1 hen Try.func14 rfl (by kernel_rfl) rfl rfl rfl rfl (by simp [hp]) (by simp <;> rfl) ?_
    refine awl_end [1, 2, 5, 7, 8] [1, 2, 5, 7] (by simp <;> rfl) ?_
    refine aw_seq ?_
    refine aw_seq (aw_region ?_)   -- ref.go:85
    refine awl_go 5 (by simp <;> rfl) ?_
    refine awl_gcall (c := decide (ec = 0)) (fun hg => heq) Try.func15 rfl (by kernel_rfl) (by simp) rfl rfl (by simp <;> rfl) (by simp) (by simp <;> rfl) ?_
    refine awl_end [2, 5, 111] [2, 5] (by simp <;> rfl) ?_
    refine aw_cond rfl (fun h6 => ?_) (fun h6 => aw_skip ?_)   -- if t111
    · refine aw_step [2, 3] [2] (by simp <;> rfl) ?_   -- ref.go:86
      refine aw_adoptC 2 3 101 1 3 [2, 3] [2, 101] (by simp <;> rfl) ?_
      refine aw_freeze 101 [2, 3] [2] (by simp <;> rfl) ?_
      exact aw_ret (ends_ret (by simp [Try.results7] <;> rfl) (herr h6))
    refine aw_step [2, 3] [2] (by simp <;> rfl) ?_   -- ref.go:88
    exact aw_ret (ends_ret (by simp [Try.results7, hp] <;> rfl) (hok h6))

set_option maxRecDepth 100000 in
set_option maxHeartbeats 4000000 in
theorem refDecI_ac (t k n : Int) (s : List UInt8) (t0 k0 n0 : Int) (s0 : List UInt8) (v0 : List V) (t1 k1 n1 : Int) (s1 : List UInt8) (v1 : List V) (t2 k2 n2 : Int) (s2 : List UInt8) (v2 : List V) (t3 k3 n3 : Int) (s3 : List UInt8) (v3 : List V) (t4 k4 n4 : Int) (s4 : List UInt8) (v4 : List V) (mt mk mn : Int) (ms : List UInt8) (mv : List V) (ec : Int) (q : Bool) (R : V → Prop)
    (hint : ∀ (t k n : Int) (s : List UInt8) (v : List V), AC Try.prog 13 [.agg [.int .i64 t, .int .i64 k, .int .i64 n, .str s, .ro 5 v]] (fun r => r = .int .i64 n))
    (hen : AC Try.prog 14 [.agg [.int .i64 n0, .int .i64 n1, .int .i64 0, .ro 1 [], .int .i64 0, .str [], .bool false, .int .i64 n2, .int .i64 n1, .int .i64 n3, .int .i64 n4]] (fun r => r = .tup [.agg [.int .i64 mt, .int .i64 mk, .int .i64 mn, .str ms, .ro 5 mv], .int .i64 ec]))
    (heq : AC Try.prog 15 [.agg [.int .i64 mt, .int .i64 mk, .int .i64 mn, .str ms, .ro 5 mv], .agg [.int .i64 t, .int .i64 k, .int .i64 n, .str s, .ro 5 [.agg [.int .i64 t0, .int .i64 k0, .int .i64 n0, .str s0, .ro 5 v0], .agg [.int .i64 t1, .int .i64 k1, .int .i64 n1, .str s1, .ro 5 v1], .agg [.int .i64 t2, .int .i64 k2, .int .i64 n2, .str s2, .ro 5 v2], .agg [.int .i64 t3, .int .i64 k3, .int .i64 n3, .str s3, .ro 5 v3], .agg [.int .i64 t4, .int .i64 k4, .int .i64 n4, .str s4, .ro 5 v4]]]] (fun r => r = .bool q))
    (herr : (!decide (ec = 0) || !q) = true → R (.tup [.agg [.int .i64 0, .int .i64 0, .int .i64 0, .ro 1 [], .int .i64 0, .str [], .bool false, .int .i64 0, .int .i64 0, .int .i64 0, .int .i64 0], .int .i64 2]))
    (hok : (!decide (ec = 0) || !q) = false → R (.tup [.agg [.int .i64 n0, .int .i64 n1, .int .i64 0, .ro 1 [], .int .i64 0, .str [], .bool false, .int .i64 n2, .int .i64 n1, .int .i64 n3, .int .i64 n4], .int .i64 0]))
    (h5 : n0 = 5) : AC Try.prog 7 [.agg [.int .i64 t, .int .i64 k, .int .i64 n, .str s, .ro 5 [.agg [.int .i64 t0, .int .i64 k0, .int .i64 n0, .str s0, .ro 5 v0], .agg [.int .i64 t1, .int .i64 k1, .int .i64 n1, .str s1, .ro 5 v1], .agg [.int .i64 t2, .int .i64 k2, .int .i64 n2, .str s2, .ro 5 v2], .agg [.int .i64 t3, .int .i64 k3, .int .i64 n3, .str s3, .ro 5 v3], .agg [.int .i64 t4, .int .i64 k4, .int .i64 n4, .str s4, .ro 5 v4]]]] R := by
    subst h5
    have hp : True := trivial
    have hp0 : True := trivial
    have hp1 : True := trivial
    refine ac_intro Try.func7 rfl (by show (1 : Nat) ≤ 114; omega) (fun w0 N0 => ?_)
    refine aw_step [1, 2] [1, 2] (by simp [Try.ntmps7] <;> rfl) ?_   -- ref.go:69
    refine aw_step [1, 2, 4] [1, 2] (by simp <;> rfl) ?_   -- ref.go:70
    refine aw_seq ?_
    refine aw_step [1, 2, 4, 13] [1, 2] (by simp <;> rfl) ?_   -- ref.go:71
    refine aw_cond rfl (fun h1 => by simp at h1 <;> omega) (fun h1 => aw_skip ?_)   -- if t13
    refine aw_seq (aw_draw [(0, []), (1, []), (4, []), (5, []), (2, [5]), (3, []), (6, [5]), (7, []), (8, []), (9, []), (10, [])] hmix (by kernel_rfl) ?_)   -- ref.go:74
    refine awo_go 5 (by simp  <;> rfl) ?_
    refine awo_call (fun hg => hint t0 k0 _ s0 v0) Try.func13 rfl (by kernel_rfl) rfl rfl (by simp <;> rfl) rfl rfl (by simp <;> rfl) (by simp [hp0]) (by simp <;> rfl) ?_
    refine awo_go 1 (by simp <;> rfl) ?_
    refine awo_call (fun hg => hint t1 k1 n1 s1 v1) Try.func13 rfl (by kernel_rfl) rfl rfl (by simp <;> rfl) rfl rfl (by simp <;> rfl) (by simp [hp1]) (by simp <;> rfl) ?_
    refine awo_end [1, 2, 4, 5] [1, 2, 5] (by simp <;> rfl) ?_
    refine aw_seq ?_
    refine aw_step [1, 2, 4, 5, 31] [1, 2, 5] (by simp <;> rfl) ?_   -- ref.go:75
    refine aw_cond rfl (fun h2 => by simp at h2) (fun h2 => aw_skip ?_)   -- if t31
    refine aw_seq ?_
    refine aw_step [1, 2, 4, 5, 82] [1, 2, 5] (by simp <;> rfl) ?_   -- ref.go:81
    refine aw_cond rfl (fun h7 => ?_) (fun h7 => by simp at h7)   -- if t82
    refine aw_draw [(0, []), (1, []), (4, []), (6, []), (7, []), (10, []), (11, []), (2, []), (3, []), (5, []), (8, []), (9, []), (12, []), (13, []), (14, []), (15, []), (16, [])] hmix (by kernel_rfl) ?_   -- ref.go:82
    refine awo_go 8 (by simp <;> rfl) ?_
    refine awo_call (fun hg => hint t2 k2 n2 s2 v2) Try.func13 rfl (by kernel_rfl) rfl rfl (by simp <;> rfl) rfl rfl (by simp <;> rfl) (by simp) (by simp <;> rfl) ?_
    refine awo_go 2 (by simp <;> rfl) ?_
    refine awo_call (fun hg => hint t3 k3 n3 s3 v3) Try.func13 rfl (by kernel_rfl) rfl rfl (by simp <;> rfl) rfl rfl (by simp <;> rfl) (by simp) (by simp <;> rfl) ?_
    refine awo_go 1 (by simp <;> rfl) ?_
    refine awo_call (fun hg => hint t4 k4 n4 s4 v4) Try.func13 rfl (by kernel_rfl) rfl rfl (by simp <;> rfl) rfl rfl (by simp <;> rfl) (by simp) (by simp <;> rfl) ?_
    refine awo_end [1, 2, 5] [1, 2, 5] (by simp <;> rfl) ?_
    refine aw_adoptC 5 3 100 1 3 [1, 2, 5] [1, 2, 5, 100] (by simp <;> rfl) ?_
    refine aw_freeze 100 [1, 2, 5] [1, 2, 5] (by simp <;> rfl) ?_
    refine aw_seq (aw_region ?_)   -- ref.go:84
    refine awl_go 1 (by simp <;> rfl) ?_
    refine awl_call1 hen Try.func14 rfl (by kernel_rfl) rfl rfl rfl rfl (by simp [hp]) (by simp <;> rfl) ?_
    refine awl_end [1, 2, 5, 7, 8] [1, 2, 5, 7] (by simp <;> rfl) ?_
    refine aw_seq ?_
    refine aw_seq (aw_region ?_)   -- ref.go:85
    refine awl_go 5 (by simp <;> rfl) ?_
    refine awl_gcall (c := decide (ec = 0)) (fun hg => heq) Try.func15 rfl (by kernel_rfl) (by simp) rfl rfl (by simp <;> rfl) (by simp) (by simp <;> rfl) ?_
    refine awl_end [2, 5, 111] [2, 5] (by simp <;> rfl) ?_
    refine aw_cond rfl (fun h6 => ?_) (fun h6 => aw_skip ?_)   -- if t111
    · refine aw_step [2, 3] [2] (by simp <;> rfl) ?_   -- ref.go:86
      refine aw_adoptC 2 3 101 1 3 [2, 3] [2, 101] (by simp <;> rfl) ?_
      refine aw_freeze 101 [2, 3] [2] (by simp <;> rfl) ?_
      exact aw_ret (ends_ret (by simp [Try.results7] <;> rfl) (herr h6))
    refine aw_step [2, 3] [2] (by simp <;> rfl) ?_   -- ref.go:88
    exact aw_ret (ends_ret (by simp [Try.results7, hp] <;> rfl) (hok h6))

set_option maxRecDepth 100000 in
set_option maxHeartbeats 4000000 in
theorem refDecA_ac (t k n : Int) (s : List UInt8) (t0 k0 n0 : Int) (s0 : List UInt8) (v0 : List V) (t1 k1 n1 : Int) (s1 : List UInt8) (v1 : List V) (t2 k2 n2 : Int) (s2 : List UInt8) (v2 : List V) (t3 k3 n3 : Int) (s3 : List UInt8) (v3 : List V) (t4 k4 n4 : Int) (s4 : List UInt8) (v4 : List V) (t5 k5 n5 : Int) (s5 : List UInt8) (v5 : List V) (t6 k6 n6 : Int) (s6 : List UInt8) (v6 : List V) (ks : List Nd) (hks : v3 = ks.map Nd.v) (cv : List V) (hcv : cv = nums (ks.map Nd.nn)) (mt mk mn : Int) (ms : List UInt8) (mv : List V) (ec : Int) (q : Bool) (R : V → Prop)
    (hint : ∀ (t k n : Int) (s : List UInt8) (v : List V), AC Try.prog 13 [.agg [.int .i64 t, .int .i64 k, .int .i64 n, .str s, .ro 5 v]] (fun r => r = .int .i64 n))
    (hen : AC Try.prog 14 [.agg [.int .i64 2, .int .i64 n1, .int .i64 n2, .ro 1 cv, .int .i64 n4, .str s5, .bool (decide (n6 = 1)), .int .i64 0, .int .i64 0, .int .i64 0, .int .i64 0]] (fun r => r = .tup [.agg [.int .i64 mt, .int .i64 mk, .int .i64 mn, .str ms, .ro 5 mv], .int .i64 ec]))
    (heq : AC Try.prog 15 [.agg [.int .i64 mt, .int .i64 mk, .int .i64 mn, .str ms, .ro 5 mv], .agg [.int .i64 t, .int .i64 k, .int .i64 n, .str s, .ro 5 [.agg [.int .i64 t0, .int .i64 k0, .int .i64 n0, .str s0, .ro 5 v0], .agg [.int .i64 t1, .int .i64 k1, .int .i64 n1, .str s1, .ro 5 v1], .agg [.int .i64 t2, .int .i64 k2, .int .i64 n2, .str s2, .ro 5 v2], .agg [.int .i64 t3, .int .i64 k3, .int .i64 n3, .str s3, .ro 5 v3], .agg [.int .i64 t4, .int .i64 k4, .int .i64 n4, .str s4, .ro 5 v4], .agg [.int .i64 t5, .int .i64 k5, .int .i64 n5, .str s5, .ro 5 v5], .agg [.int .i64 t6, .int .i64 k6, .int .i64 n6, .str s6, .ro 5 v6]]]] (fun r => r = .bool q))
    (herr : (!decide (ec = 0) || !q) = true → R (.tup [.agg [.int .i64 0, .int .i64 0, .int .i64 0, .ro 1 [], .int .i64 0, .str [], .bool false, .int .i64 0, .int .i64 0, .int .i64 0, .int .i64 0], .int .i64 2]))
    (hok : (!decide (ec = 0) || !q) = false → R (.tup [.agg [.int .i64 2, .int .i64 n1, .int .i64 n2, .ro 1 cv, .int .i64 n4, .str s5, .bool (decide (n6 = 1)), .int .i64 0, .int .i64 0, .int .i64 0, .int .i64 0], .int .i64 0]))
    (h2 : n0 = 2) (hv : v3.length ≤ 39) : AC Try.prog 7 [.agg [.int .i64 t, .int .i64 k, .int .i64 n, .str s, .ro 5 [.agg [.int .i64 t0, .int .i64 k0, .int .i64 n0, .str s0, .ro 5 v0], .agg [.int .i64 t1, .int .i64 k1, .int .i64 n1, .str s1, .ro 5 v1], .agg [.int .i64 t2, .int .i64 k2, .int .i64 n2, .str s2, .ro 5 v2], .agg [.int .i64 t3, .int .i64 k3, .int .i64 n3, .str s3, .ro 5 v3], .agg [.int .i64 t4, .int .i64 k4, .int .i64 n4, .str s4, .ro 5 v4], .agg [.int .i64 t5, .int .i64 k5, .int .i64 n5, .str s5, .ro 5 v5], .agg [.int .i64 t6, .int .i64 k6, .int .i64 n6, .str s6, .ro 5 v6]]]] R := by
    subst h2
    have hlen : v3.length = ks.length := by rw [hks]; simp
    have hga : ∀ (j : Nat) (h : j < ks.length), nth v3 j = some ks[j].v := fun j h => by rw [hks]; exact nthN h
    have hnl : cv.length = ks.length := by rw [hcv]; simp [nums]
    have hng : ∀ (j : Nat) (h : j < ks.length), cv[j]? = some (.int .i64 ks[j].nn) := fun j h => by rw [hcv]; simp [nums, h]
    have hp : cv.all V.pureE = true := by rw [hcv]; exact pureI _
    have hp0 : True := trivial
    have hp1 : True := trivial
    clear hks hcv
    refine ac_intro Try.func7 rfl (by show (1 : Nat) ≤ 114; omega) (fun w0 N0 => ?_)
    refine aw_step [1, 2] [1, 2] (by simp [Try.ntmps7] <;> rfl) ?_   -- ref.go:69
    refine aw_step [1, 2, 4] [1, 2] (by simp <;> rfl) ?_   -- ref.go:70
    refine aw_seq ?_
    refine aw_step [1, 2, 4, 13] [1, 2] (by simp <;> rfl) ?_   -- ref.go:71
    refine aw_cond rfl (fun h1 => by simp at h1 <;> omega) (fun h1 => aw_skip ?_)   -- if t13
    refine aw_seq (aw_draw [(0, []), (1, []), (4, []), (5, []), (2, [5]), (3, []), (6, [5]), (7, []), (8, []), (9, []), (10, [])] hmix (by kernel_rfl) ?_)   -- ref.go:74
    refine awo_go 5 (by simp  <;> rfl) ?_
    refine awo_call (fun hg => hint t0 k0 _ s0 v0) Try.func13 rfl (by kernel_rfl) rfl rfl (by simp <;> rfl) rfl rfl (by simp <;> rfl) (by simp [hp0]) (by simp <;> rfl) ?_
    refine awo_go 1 (by simp <;> rfl) ?_
    refine awo_call (fun hg => hint t1 k1 n1 s1 v1) Try.func13 rfl (by kernel_rfl) rfl rfl (by simp <;> rfl) rfl rfl (by simp <;> rfl) (by simp [hp1]) (by simp <;> rfl) ?_
    refine awo_end [1, 2, 4, 5] [1, 2, 5] (by simp <;> rfl) ?_
    refine aw_seq ?_
    refine aw_step [1, 2, 4, 5, 31] [1, 2, 5] (by simp <;> rfl) ?_   -- ref.go:75
    refine aw_cond rfl (fun h2 => ?_) (fun h2 => by simp at h2)   -- if t31
    refine aw_seq (aw_draw [(0, []), (1, []), (4, []), (5, []), (8, []), (9, []), (10, []), (12, []), (13, []), (14, []), (2, []), (3, []), (6, []), (7, []), (11, []), (15, []), (16, []), (17, []), (18, []), (19, [])] hmix (by kernel_rfl) ?_)   -- ref.go:76
    refine awo_go 11 (by simp <;> rfl) ?_
    refine awo_call (fun hg => hint t2 k2 n2 s2 v2) Try.func13 rfl (by kernel_rfl) rfl rfl (by simp <;> rfl) rfl rfl (by simp <;> rfl) (by simp) (by simp <;> rfl) ?_
    refine awo_go 1 (by simp <;> rfl) ?_
    refine awo_call (fun hg => hint t4 k4 n4 s4 v4) Try.func13 rfl (by kernel_rfl) rfl rfl (by simp <;> rfl) rfl rfl (by simp <;> rfl) (by simp) (by simp <;> rfl) ?_
    refine awo_end [1, 2, 4, 5] [1, 2, 5] (by simp <;> rfl) ?_
    refine aw_step [1, 2, 4, 5, 6] [1, 2, 5] (by simp <;> rfl) ?_   -- ref.go:77
    refine aw_adoptC 5 3 100 1 3 [1, 2, 4, 5, 6] [1, 2, 5, 100] (by simp <;> rfl) ?_
    refine aw_block ?_
    refine aw_loop (fun x : Nat × Nat × Nat => ⟨[(1, .bp 1 0 5 0 0), (2, .bp 2 1 11 0 0), (4, .ro 5 [.agg [.int .i64 t0, .int .i64 k0, .int .i64 2, .str s0, .ro 5 v0], .agg [.int .i64 t1, .int .i64 k1, .int .i64 n1, .str s1, .ro 5 v1], .agg [.int .i64 t2, .int .i64 k2, .int .i64 n2, .str s2, .ro 5 v2], .agg [.int .i64 t3, .int .i64 k3, .int .i64 n3, .str s3, .ro 5 v3], .agg [.int .i64 t4, .int .i64 k4, .int .i64 n4, .str s4, .ro 5 v4], .agg [.int .i64 t5, .int .i64 k5, .int .i64 n5, .str s5, .ro 5 v5], .agg [.int .i64 t6, .int .i64 k6, .int .i64 n6, .str s6, .ro 5 v6]]), (5, .bp 5 18 11 0 0), (6, .int .i64 x.1)],
        [(1, ⟨0, 5, 24, [.agg [.int .i64 t, .int .i64 k, .int .i64 n, .str s, .ro 5 [.agg [.int .i64 t0, .int .i64 k0, .int .i64 2, .str s0, .ro 5 v0], .agg [.int .i64 t1, .int .i64 k1, .int .i64 n1, .str s1, .ro 5 v1], .agg [.int .i64 t2, .int .i64 k2, .int .i64 n2, .str s2, .ro 5 v2], .agg [.int .i64 t3, .int .i64 k3, .int .i64 n3, .str s3, .ro 5 v3], .agg [.int .i64 t4, .int .i64 k4, .int .i64 n4, .str s4, .ro 5 v4], .agg [.int .i64 t5, .int .i64 k5, .int .i64 n5, .str s5, .ro 5 v5], .agg [.int .i64 t6, .int .i64 k6, .int .i64 n6, .str s6, .ro 5 v6]]]]⟩), (2, ⟨1, 11, 32, [.agg [.int .i64 0, .int .i64 0, .int .i64 0, .nils, .int .i64 0, .str [], .bool false, .int .i64 0, .int .i64 0, .int .i64 0, .int .i64 0]]⟩), (5, ⟨18, 11, 32, [.agg [.int .i64 2, .int .i64 n1, .int .i64 n2, .sl 100 x.2.1 1 x.1, .int .i64 n4, .str s5, .bool (decide (n6 = 1)), .int .i64 0, .int .i64 0, .int .i64 0, .int .i64 0]]⟩), (100, ⟨x.2.1, 1, 3, cv.take x.1⟩)], x.2.2, 114⟩)
        (fun x => x.1 ≤ ks.length) (fun x => ks.length - x.1) (0, 49, _) (Nat.zero_le _) (AS.le_refl _) ?_
    rintro ⟨j, q', nx⟩ hj
    simp only at hj
    have htl : (cv.take j).length = j := by rw [List.length_take]; omega
    generalize hrow : cv.take j = row at htl ⊢
    refine aw_seq ?_
    refine aw_step [1, 2, 4, 5, 6, 57] [1, 2, 5, 100] (by simp <;> rfl) ?_   -- ref.go:77
    refine aw_cond rfl (fun h3 => aw_skip ?_) (fun h3 => ?_)   -- if t57
    · have hlt : j < ks.length := by simp at h3; omega
      have hlt' : j < v3.length := by omega
      have hltn : j < cv.length := by omega
      have ga := hga j hlt
      have hw := wrap_succ (k := j) (by omega)
      have htk : cv.take (j + 1) = row ++ [.int .i64 ks[j].nn] := by
        rw [List.take_succ_eq_append_getElem hltn, hrow]
        congr 2
        have := hng j hlt
        rw [List.getElem?_eq_getElem hltn] at this
        injection this
      have hb1 : j + 1 ≤ maxLen := by unfold maxLen; omega
      have hb2 : (j + 1) * 8 ≤ 140737488355328 := by omega
      rcases hkj : ks[j] with ⟨tj, kj, nj, sj, kks⟩
      rw [hkj] at ga htk
      simp only [Nd.nn] at htk
      rw [Nd.v] at ga
      have hpj := pureN kks
      generalize kks.map Nd.v = kjv at ga hpj
      refine aw_seq ?_
      refine aw_block ?_
      refine aw_draw [(0, []), (1, []), (3, []), (4, []), (5, []), (7, []), (2, [71]), (6, [71]), (8, []), (9, [71]), (10, []), (11, []), (12, []), (13, []), (14, []), (15, [])] hmix (by kernel_rfl) ?_   -- ref.go:78
      refine awo_go 10 (by simp [ga, hlt'] <;> rfl) ?_
      refine awo_call (fun hg => hint tj kj nj sj kjv) Try.func13 rfl (by kernel_rfl) rfl rfl (by simp <;> rfl) rfl rfl (by simp <;> rfl) (by simp [hpj]) (by simp <;> rfl) ?_
      refine awo_end [1, 2, 4, 5, 6] [1, 2, 5, 100] (by simp [htl, hb1, hb2] <;> rfl) ?_
      refine aw_one [1, 2, 4, 5, 6] [1, 2, 5, 100] (by simp [hw] <;> rfl) ?_   -- ref.go:77
      exact ⟨(j + 1, _, _), hlt, by simp only; omega, by simp only [htk]; exact AS.le_refl _⟩
    refine aw_exit ?_
    have hkl : j = cv.length := by simp at h3; omega
    have hrow' : row = cv := by rw [← hrow, hkl, List.take_length]
    subst hrow'
    subst hkl
    refine aw_seq ?_
    refine aw_step [1, 2, 4, 5, 82] [1, 2, 5, 100] (by simp <;> rfl) ?_   -- ref.go:81
    refine aw_cond rfl (fun h4 => by simp at h4) (fun h4 => aw_skip ?_)   -- if t82
    refine aw_freeze 100 [1, 2, 5] [1, 2, 5] (by simp [hp] <;> rfl) ?_
    refine aw_seq (aw_region ?_)   -- ref.go:84
    refine awl_go 1 (by simp <;> rfl) ?_
    refine awl_call1 hen Try.func14 rfl (by kernel_rfl) rfl rfl rfl rfl (by simp [hp]) (by simp <;> rfl) ?_
    refine awl_end [1, 2, 5, 7, 8] [1, 2, 5, 7] (by simp <;> rfl) ?_
    refine aw_seq ?_
    refine aw_seq (aw_region ?_)   -- ref.go:85
    refine awl_go 5 (by simp <;> rfl) ?_
    refine awl_gcall (c := decide (ec = 0)) (fun hg => heq) Try.func15 rfl (by kernel_rfl) (by simp) rfl rfl (by simp <;> rfl) (by simp) (by simp <;> rfl) ?_
    refine awl_end [2, 5, 111] [2, 5] (by simp <;> rfl) ?_
    refine aw_cond rfl (fun h6 => ?_) (fun h6 => aw_skip ?_)   -- if t111
    · refine aw_step [2, 3] [2] (by simp <;> rfl) ?_   -- ref.go:86
      refine aw_adoptC 2 3 101 1 3 [2, 3] [2, 101] (by simp <;> rfl) ?_
      refine aw_freeze 101 [2, 3] [2] (by simp <;> rfl) ?_
      exact aw_ret (ends_ret (by simp [Try.results7] <;> rfl) (herr h6))
    refine aw_step [2, 3] [2] (by simp <;> rfl) ?_   -- ref.go:88
    exact aw_ret (ends_ret (by simp [Try.results7, hp] <;> rfl) (hok h6))

end Go.Proofs.Ytmkbhognijicjaa
