/- Resume: both Decodes agree; same; the law ResumeDecodes. No condition. -/
import Derived.Test.YtmkbhognijicjaaResK
set_option linter.unusedSimpArgs false
namespace Go.Proofs.Ytmkbhognijicjaa
open Go.Eng

theorem kids_mk (t k n : Int) (s : List UInt8) (l : List Nd) : (Nd.mk t k n s l).kids = l := rfl
theorem zE_v : zE.v = .agg [.int .i64 0, .int .i64 0, .int .i64 0, .ro 1 [], .int .i64 0, .str [], .bool false, .int .i64 0, .int .i64 0, .int .i64 0, .int .i64 0] := rfl
theorem decV_err {g : Ev} {x : Nd} (h : decB g x = true) : .tup [.agg [.int .i64 0, .int .i64 0, .int .i64 0, .ro 1 [], .int .i64 0, .str [], .bool false, .int .i64 0, .int .i64 0, .int .i64 0, .int .i64 0], .int .i64 2] = decV g x := by rw [decV, if_pos h, zE_v]
theorem decV_ok {g : Ev} {x : Nd} (h : decB g x = false) : .tup [g.v, .int .i64 0] = decV g x := by rw [decV, if_neg (by rw [h]; simp)]

theorem refDecode_ac (x : Nd) (hx : Fine x) : AC Try.prog 7 [x.v] (fun r => r = decV (gR x) x) := by
  have hen := refEncode_ac (gR x)
  have heq := refEqual_ac x (encN (gR x))
  have hdb : decB (gR x) x = (!decide (encE (gR x) = 0) || !eqN (encN (gR x)) x) := rfl
  have herr : (!decide (encE (gR x) = 0) || !eqN (encN (gR x)) x) = true → V.tup [.agg [.int .i64 0, .int .i64 0, .int .i64 0, .ro 1 [], .int .i64 0, .str [], .bool false, .int .i64 0, .int .i64 0, .int .i64 0, .int .i64 0], .int .i64 2] = decV (gR x) x := fun h => decV_err h
  have hok : (!decide (encE (gR x) = 0) || !eqN (encN (gR x)) x) = false → V.tup [(gR x).v, .int .i64 0] = decV (gR x) x := fun h => decV_ok h
  rw [encV] at hen
  obtain ⟨t, k, n, s, ks⟩ := x
  have h39 := hx.2
  simp only [Nd.kids] at h39
  match hks : ks with
  | [] =>
    subst hks
    rw [Nd.v]
    exact refDecS_ac t k n s _ _ (by simp) (herr (by simp [gR, Nd.kids, zE, encE, fmd]))
  | [a] =>
    subst hks
    rw [Nd.v]
    exact refDecS_ac t k n s _ _ (by simp) (herr (by simp [gR, Nd.kids, zE, encE, fmd]))
  | a :: b :: l =>
    obtain ⟨t0, k0, n0, s0, l0⟩ := a
    obtain ⟨t1, k1, n1, s1, l1⟩ := b
    generalize eqN (encN (gR (Nd.mk t k n s (Nd.mk t0 k0 n0 s0 l0 :: Nd.mk t1 k1 n1 s1 l1 :: l)))) (Nd.mk t k n s (Nd.mk t0 k0 n0 s0 l0 :: Nd.mk t1 k1 n1 s1 l1 :: l)) = q at heq herr hok
    generalize decV (gR (Nd.mk t k n s (Nd.mk t0 k0 n0 s0 l0 :: Nd.mk t1 k1 n1 s1 l1 :: l))) (Nd.mk t k n s (Nd.mk t0 k0 n0 s0 l0 :: Nd.mk t1 k1 n1 s1 l1 :: l)) = res at herr hok ⊢
    generalize encE (gR (Nd.mk t k n s (Nd.mk t0 k0 n0 s0 l0 :: Nd.mk t1 k1 n1 s1 l1 :: l))) = ec at hen herr hok
    rcases hm : encN (gR (Nd.mk t k n s (Nd.mk t0 k0 n0 s0 l0 :: Nd.mk t1 k1 n1 s1 l1 :: l))) with ⟨mt, mk, mn, ms, ml⟩
    rw [hm] at hen heq
    have main : ∀ g : Ev, gR (Nd.mk t k n s (Nd.mk t0 k0 n0 s0 l0 :: Nd.mk t1 k1 n1 s1 l1 :: l)) = g →
        AC Try.prog 14 [g.v] (fun r => r = .tup [.agg [.int .i64 mt, .int .i64 mk, .int .i64 mn, .str ms, .ro 5 (ml.map Nd.v)], .int .i64 ec]) ∧ ((!decide (ec = 0) || !q) = false → V.tup [g.v, .int .i64 0] = res) := by
      intro g hg
      rw [hg] at hen hok
      rw [Nd.v] at hen
      exact ⟨hen, hok⟩
    rw [Nd.v] at heq
    generalize ml.map Nd.v = mv at heq main
    have hint := integer_ac
    by_cases h2 : n0 = 2
    · by_cases h5 : l.length = 5
      · obtain ⟨c0, c1, c2, c3, c4, rfl⟩ := five_of h5
        obtain ⟨t2, k2, n2, s2, l2⟩ := c0
        obtain ⟨t3, k3, n3, s3, l3⟩ := c1
        obtain ⟨t4, k4, n4, s4, l4⟩ := c2
        obtain ⟨t5, k5, n5, s5, l5⟩ := c3
        obtain ⟨t6, k6, n6, s6, l6⟩ := c4
        obtain ⟨hen, hok⟩ := main ⟨2, n1, n2, l3.map Nd.nn, n4, s5, decide (n6 = 1), 0, 0, 0, 0⟩ (by
          simp only [gR, Nd.kids, Nd.nn, Nd.ss, h2, if_true, evA]
          rfl)
        have h3 : l3.length ≤ 39 := h39 (Nd.mk t3 k3 n3 s3 l3) (by simp)
        simp only [Nd.v, List.map_cons, List.map_nil] at heq ⊢
        simp only [Ev.v] at hen hok
        exact refDecA_ac t k n s t0 k0 n0 s0 _ t1 k1 n1 s1 _ t2 k2 n2 s2 _ t3 k3 n3 s3 _ t4 k4 n4 s4 _ t5 k5 n5 s5 _ t6 k6 n6 s6 _ l3 rfl _ rfl mt mk mn ms mv ec q _ hint hen heq herr hok h2 (by simpa using h3)
      · obtain ⟨hen, hok⟩ := main _ (gP_five (x := Nd.mk t k n s (Nd.mk t0 k0 n0 s0 l0 :: Nd.mk t1 k1 n1 s1 l1 :: l)) rfl h2 h5).2
        simp only [Nd.v, List.map_cons] at heq ⊢
        exact refDecT_ac t k n s t0 k0 n0 s0 _ t1 k1 n1 s1 _ _ mt mk mn ms mv ec q _ hint hen heq herr hok (by simp; omega) (by simp; omega)
    · by_cases h5 : n0 = 5 ∧ l.length = 3
      · obtain ⟨h5, h3⟩ := h5
        obtain ⟨c0, c1, c2, rfl⟩ := three_of h3
        obtain ⟨t2, k2, n2, s2, l2⟩ := c0
        obtain ⟨t3, k3, n3, s3, l3⟩ := c1
        obtain ⟨t4, k4, n4, s4, l4⟩ := c2
        obtain ⟨hen, hok⟩ := main ⟨n0, n1, 0, [], 0, [], false, n2, n1, n3, n4⟩ (by
          simp only [gR, Nd.kids, Nd.nn, Nd.ss, h2, if_false, h5, if_true, evI]
          rfl)
        simp only [Nd.v, List.map_cons, List.map_nil] at heq ⊢
        simp only [Ev.v] at hen hok
        exact refDecI_ac t k n s t0 k0 n0 s0 _ t1 k1 n1 s1 _ t2 k2 n2 s2 _ t3 k3 n3 s3 _ t4 k4 n4 s4 _ mt mk mn ms mv ec q _ hint hen heq herr hok h5
      · have h5' : n0 = 5 → l.length ≠ 3 := fun h hl => h5 ⟨h, hl⟩
        obtain ⟨hen, hok⟩ := main _ (gP_three (x := Nd.mk t k n s (Nd.mk t0 k0 n0 s0 l0 :: Nd.mk t1 k1 n1 s1 l1 :: l)) rfl h2 h5').2
        simp only [Nd.v, List.map_cons] at heq ⊢
        exact refDecT_ac t k n s t0 k0 n0 s0 _ t1 k1 n1 s1 _ _ mt mk mn ms mv ec q _ hint hen heq herr hok (by simp [h2]) (by
          by_cases h : n0 = 5
          · have := h5' h; simp [h]; omega
          · simp [h])

/-- Both guesses lead to the same. -/
theorem dec_same (x : Nd) : decV (gP x) x = decV (gR x) x := by
  by_cases h : gP x = gR x
  · rw [h]
  obtain ⟨t, k, n, s, ks⟩ := x
  match ks with
  | [] => exact absurd rfl h
  | [a] => exact absurd rfl h
  | a :: b :: l =>
    by_cases h2 : a.nn = 2
    · by_cases h5 : l.length = 5
      · obtain ⟨c0, c1, c2, c3, c4, rfl⟩ := five_of h5
        by_cases h10 : c1.kids.length ≤ 10
        · exact absurd (by simp only [gP, gR, kids_mk, h2, if_true, h10]) h
        · have hP : gP (Nd.mk t k n s [a, b, c0, c1, c2, c3, c4]) = evT 2 b.nn := by simp only [gP, kids_mk, h2, if_true, h10, if_false]
          have hR : gR (Nd.mk t k n s [a, b, c0, c1, c2, c3, c4]) = evA b.nn c0 c1 c2 c3 c4 := by simp only [gR, kids_mk, h2, if_true]
          have e1 : decB (evA b.nn c0 c1 c2 c3 c4) (Nd.mk t k n s [a, b, c0, c1, c2, c3, c4]) = true := by
            have : encE (evA b.nn c0 c1 c2 c3 c4) ≠ 0 := fun h0 => by
              have := (encE_zero h0).2.2.2.1
              simp [evA] at this
              exact h10 this
            simp [decB, this]
          have e2 : decB (evT 2 b.nn) (Nd.mk t k n s [a, b, c0, c1, c2, c3, c4]) = true := by
            by_cases h0 : encE (evT 2 b.nn) = 0
            · have : eqN (encN (evT 2 b.nn)) (Nd.mk t k n s [a, b, c0, c1, c2, c3, c4]) = false := by
                rw [eqN_false, encN, if_pos h0]
                intro he
                injection he with _ _ _ _ he
                simp only [encK, evT, ansK, if_true, chN, List.map_nil, List.cons_append, List.nil_append, List.cons.injEq, and_true] at he
                have := he.2.2.2.1
                rw [← this] at h10
                exact h10 (by simp [Nd.kids])
              simp [decB, this]
            · simp [decB, h0]
          rw [hP, hR, ← decV_err e1, ← decV_err e2]
      · have := gP_five (x := Nd.mk t k n s (a :: b :: l)) rfl h2 h5
        exact absurd (this.1.trans this.2.symm) h
    · exact absurd (by simp only [gP, gR, kids_mk, h2, if_false]) h

theorem ev_ext {a b : Ev} (h1 : a.kind = b.kind) (h2 : a.time = b.time) (h3 : a.item = b.item) (h4 : a.ch = b.ch) (h5 : a.value = b.value) (h6 : a.text = b.text) (h7 : a.om = b.om) (h8 : a.ik = b.ik) (h9 : a.it = b.it) (h10 : a.il = b.il) (h11 : a.ig = b.ig) : a = b := by
  cases a; cases b; simp_all

set_option maxRecDepth 100000 in
set_option maxHeartbeats 2000000 in
theorem same_ac (a b : Ev) : AC Try.prog 8 [a.v, b.v] (fun r => r = .bool (decide (a = b))) := by
  have hga : ∀ (k : Nat) (h : k < a.ch.length), nth (nums a.ch) k = some (.int .i64 a.ch[k]) := by
    intro k h; rw [nth_eq]; simp [nums, h]
  have hgb : ∀ (k : Nat) (h : k < b.ch.length), nth (nums b.ch) k = some (.int .i64 b.ch[k]) := by
    intro k h; rw [nth_eq]; simp [nums, h]
  have hla := numsL a.ch
  have hlb := numsL b.ch
  simp only [Ev.v]
  generalize nums a.ch = av at hga hla
  generalize nums b.ch = bv at hgb hlb
  refine ac_lenC 0 3 rfl rfl (fun hmax => ?_)
  unfold maxLen at hmax
  refine ac_intro Try.func8 rfl (by show (2 : Nat) ≤ 91; omega) (fun w0 N0 => ?_)
  refine aw_step [2, 3] [2, 3] (by simp [Try.ntmps8] <;> rfl) ?_   -- law.go:25
  refine aw_seq ?_
  refine aw_step [2, 3, 35] [2, 3] (by simp <;> rfl) ?_   -- law.go:26
  refine aw_cond rfl (fun h1 => ?_) (fun h1 => aw_skip ?_)   -- if t35
  · refine aw_step [4] [] (by simp <;> rfl) ?_   -- law.go:27
    refine aw_ret (ends_ret (by simp [Try.results8] <;> rfl) ?_)
    congr 1
    symm
    apply decide_eq_false
    rintro rfl
    simp at h1
    omega
  have h1' : a.kind = b.kind ∧ a.time = b.time ∧ (a.ik = b.ik ∧ a.it = b.it ∧ a.il = b.il ∧ a.ig = b.ig) ∧ av.length = bv.length := by
    simp at h1
    obtain ⟨⟨⟨g1, g2⟩, g3⟩, g4⟩ := h1
    exact ⟨g1, g2, by omega, by omega⟩
  obtain ⟨e1, e2, ⟨e3, e4, e5, e6⟩, hll⟩ := h1'
  refine aw_seq ?_
  refine aw_step [2, 3, 5] [2, 3] (by simp <;> rfl) ?_   -- law.go:29
  refine aw_block ?_
  refine aw_count (fun k nx => ⟨[(2, .bp 2 0 11 0 0), (3, .bp 3 1 11 0 0), (5, .int .i64 k)], [(2, ⟨0, 11, 32, [.agg [.int .i64 a.kind, .int .i64 a.time, .int .i64 a.item, .ro 1 av, .int .i64 a.value, .str a.text, .bool a.om, .int .i64 a.ik, .int .i64 a.it, .int .i64 a.il, .int .i64 a.ig]]⟩), (3, ⟨1, 11, 32, [.agg [.int .i64 b.kind, .int .i64 b.time, .int .i64 b.item, .ro 1 bv, .int .i64 b.value, .str b.text, .bool b.om, .int .i64 b.ik, .int .i64 b.it, .int .i64 b.il, .int .i64 b.ig]]⟩)], nx, 91⟩) (fun k => ∀ (j : Nat) (h1 : j < a.ch.length) (h2 : j < b.ch.length), j < k → a.ch[j] = b.ch[j]) av.length _ (by intro j _ _ h; omega) (AS.le_refl _) ?_
  intro k nx hk hI
  refine aw_seq ?_
  refine aw_step [2, 3, 5, 41] [2, 3] (by simp <;> rfl) ?_   -- law.go:29
  refine aw_cond rfl (fun h2 => aw_skip ?_) (fun h2 => ?_)   -- if t41
  · have hlt : k < av.length := by simp at h2; omega
    have hltb : k < bv.length := by omega
    have ga := hga k (by omega)
    have gb := hgb k (by omega)
    have hw := wrap_succ (k := k) (by omega)
    refine aw_seq ?_
    refine aw_block ?_
    refine aw_dstep [(0, []), (1, []), (3, []), (6, []), (7, []), (9, []), (2, []), (4, []), (5, []), (8, []), (10, []), (11, []), (12, [])] [2, 3, 5, 56] [2, 3] hmix (by kernel_rfl) (by simp [ga, gb, hlt, hltb] <;> rfl) ?_   -- law.go:30
    refine aw_cond rfl (fun h3 => ?_) (fun h3 => aw_skip ?_)   -- if t56
    · refine aw_step [4] [] (by simp <;> rfl) ?_   -- law.go:31
      refine aw_ret (ends_ret (by simp [Try.results8] <;> rfl) ?_)
      congr 1
      symm
      apply decide_eq_false
      rintro rfl
      simp at h3
    refine aw_one [2, 3, 5] [2, 3] (by simp [hw] <;> rfl) ?_   -- law.go:29
    refine ⟨hlt, fun j h4 h5 h6 => ?_, _, AS.le_refl _⟩
    by_cases e : j = k
    · subst e
      simpa using h3
    · exact hI j h4 h5 (by omega)
  · refine aw_exit ?_
    refine aw_step [4] [] (by simp <;> rfl) ?_   -- law.go:34
    refine aw_ret (ends_ret (by simp [Try.results8] <;> rfl) ?_)
    have hkl : k = av.length := by simp at h2; omega
    have hch : a.ch = b.ch := List.ext_getElem (by omega) (fun j h4 h5 => hI j h4 h5 (by omega))
    congr 1
    rw [Bool.eq_iff_iff]
    simp only [Bool.and_eq_true, decide_eq_true_eq, beq_iff_eq]
    constructor
    · rintro ⟨⟨⟨g1, g2⟩, g3⟩, g4⟩
      exact ev_ext e1 e2 g1 hch g2 g3 g4 e3 e4 e5 e6
    · rintro rfl
      exact ⟨⟨⟨rfl, rfl⟩, rfl⟩, rfl⟩

theorem decV_form (g : Ev) (x : Nd) : ∃ (h : Ev) (c : Int), decV g x = .tup [h.v, .int .i64 c] := by
  unfold decV
  split
  · exact ⟨zE, 2, rfl⟩
  · exact ⟨g, 0, rfl⟩

set_option maxRecDepth 100000 in
theorem resumeDecodes_ac (x : Nd) : AC Try.prog 3 [x.v] (fun r => r = .bool true) := by
  have hn := nodes_ac _ x 1 (Nat.lt_succ_self _) (by omega) (by omega)
  have hd := decode_ac x
  have hr := fun h => refDecode_ac x h
  rw [← dec_same x] at hr
  obtain ⟨g, c, hg⟩ := decV_form (gP x) x
  rw [hg] at hd hr
  have hs := same_ac g g
  rw [decide_eq_true (rfl : g = g)] at hs
  have hp := pureI g.ch
  generalize hf : Fine x = F at hn hr
  obtain ⟨t, k, n, s, ks⟩ := x
  simp only [Nd.v, Ev.v] at hn hd hr hs ⊢
  generalize ks.map Nd.v = kv at hn hd hr
  generalize nums g.ch = cv at hd hr hs hp
  refine ac_intro Try.func3 rfl (by show (1 : Nat) ≤ 28; omega) (fun w0 N0 => ?_)
  refine aw_step [1] [1] (by simp [Try.ntmps3] <;> rfl) ?_   -- law.go:74
  refine aw_seq ?_
  refine aw_seq (aw_region ?_)   -- law.go:75
  refine awl_go 1 (by simp <;> rfl) ?_
  refine awl_call rfl rfl rfl Try.func5 rfl (by kernel_rfl) rfl (by simp) hn ?_
  rintro r ⟨q, rfl, q1, q2, q3⟩
  refine ⟨_, rfl, ?_⟩
  refine awl_end [1, 9] [1] (by simp <;> rfl) ?_
  refine aw_cond rfl (fun h1 => ?_) (fun h1 => aw_skip ?_)   -- if t9
  · refine aw_step [2] [] (by simp <;> rfl) ?_   -- law.go:76
    exact aw_ret (ends_ret (by simp [Try.results3] <;> rfl) rfl)
  have hr := hr (q3 (by simpa using h1))
  refine aw_seq (aw_region ?_)   -- law.go:78
  refine awl_go 1 (by simp <;> rfl) ?_
  refine awl_call1 hd Try.func6 rfl (by kernel_rfl) rfl rfl rfl rfl rfl (by simp <;> rfl) ?_
  refine awl_end [1, 3, 4] [1, 3] (by simp <;> rfl) ?_
  refine aw_seq (aw_region ?_)   -- law.go:79
  refine awl_go 1 (by simp <;> rfl) ?_
  refine awl_call1 hr Try.func7 rfl (by kernel_rfl) rfl rfl rfl rfl rfl (by simp <;> rfl) ?_
  refine awl_end [3, 4, 5, 6] [3, 5] (by simp <;> rfl) ?_
  refine aw_seq (aw_region ?_)   -- law.go:80
  refine awl_go 6 (by simp <;> rfl) ?_
  refine awl_gcall (c := true) (fun hg => hs) Try.func8 rfl (by kernel_rfl) (by simp) rfl rfl (by simp <;> rfl) (by simp) (by simp <;> rfl) ?_
  refine awl_end [2] [] (by simp <;> rfl) ?_
  exact aw_ret (ends_ret (by simp [Try.results3] <;> rfl) rfl)
end Go.Proofs.Ytmkbhognijicjaa
