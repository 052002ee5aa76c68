import Derived.Test.YtmkbhognijicjaaGreatDoorGM
/- Journals: both Decodes, same; lengths of what is read (plain law). No condition. -/
set_option linter.unusedSimpArgs false
set_option maxRecDepth 4000
namespace Go.Proofs.YtmkbhognijicjaaGreatDoor
open Go.Eng

theorem kids_mk (t k n : Int) (s : List UInt8) (l : List Nd) : (Nd.mk t k n s l).kids = l := rfl
theorem zE_v : zE.v = .agg [.int .i64 0, .int .i64 0, .int .i64 0, .ro 1 [], .int .i64 0, .str [], .bool false, .int .i64 0, .int .i64 0, .int .i64 0, .int .i64 0] := rfl
theorem decV_err {g : Ev} {x : Nd} (h : decB g x = true) : .tup [.agg [.int .i64 0, .int .i64 0, .int .i64 0, .ro 1 [], .int .i64 0, .str [], .bool false, .int .i64 0, .int .i64 0, .int .i64 0, .int .i64 0], .int .i64 2] = decV g x := by rw [decV, if_pos h, zE_v]
theorem decV_ok {g : Ev} {x : Nd} (h : decB g x = false) : .tup [g.v, .int .i64 0] = decV g x := by rw [decV, if_neg (by rw [h]; simp)]

theorem refDecode_ac (x : Nd) (hx : ∀ y ∈ x.kids, y.kids.length ≤ 1024) : AC Tryz.prog 20 [x.v] (fun r => r = decV (gR x) x) := by
  have hen := refEncode_ac (gR x)
  have heq := refEqual_ac x (encN (gR x))
  have hdb : decB (gR x) x = (!decide (encE (gR x) = 0) || !eqN (encN (gR x)) x) := rfl
  have herr : (!decide (encE (gR x) = 0) || !eqN (encN (gR x)) x) = true → V.tup [.agg [.int .i64 0, .int .i64 0, .int .i64 0, .ro 1 [], .int .i64 0, .str [], .bool false, .int .i64 0, .int .i64 0, .int .i64 0, .int .i64 0], .int .i64 2] = decV (gR x) x := fun h => decV_err h
  have hok : (!decide (encE (gR x) = 0) || !eqN (encN (gR x)) x) = false → V.tup [(gR x).v, .int .i64 0] = decV (gR x) x := fun h => decV_ok h
  rw [encV] at hen
  obtain ⟨t, k, n, s, ks⟩ := x
  have h39 := hx
  simp only [Nd.kids] at h39
  match hks : ks with
  | [] =>
    subst hks
    rw [Nd.v]
    exact refDecS_ac t k n s _ _ (by simp) (herr (by simp [gR, Nd.kids, zE, encE, fmd]))
  | [a] =>
    subst hks
    rw [Nd.v]
    exact refDecS_ac t k n s _ _ (by simp) (herr (by simp [gR, Nd.kids, zE, encE, fmd]))
  | a :: b :: l =>
    obtain ⟨t0, k0, n0, s0, l0⟩ := a
    obtain ⟨t1, k1, n1, s1, l1⟩ := b
    generalize eqN (encN (gR (Nd.mk t k n s (Nd.mk t0 k0 n0 s0 l0 :: Nd.mk t1 k1 n1 s1 l1 :: l)))) (Nd.mk t k n s (Nd.mk t0 k0 n0 s0 l0 :: Nd.mk t1 k1 n1 s1 l1 :: l)) = q at heq herr hok
    generalize decV (gR (Nd.mk t k n s (Nd.mk t0 k0 n0 s0 l0 :: Nd.mk t1 k1 n1 s1 l1 :: l))) (Nd.mk t k n s (Nd.mk t0 k0 n0 s0 l0 :: Nd.mk t1 k1 n1 s1 l1 :: l)) = res at herr hok ⊢
    generalize encE (gR (Nd.mk t k n s (Nd.mk t0 k0 n0 s0 l0 :: Nd.mk t1 k1 n1 s1 l1 :: l))) = ec at hen herr hok
    rcases hm : encN (gR (Nd.mk t k n s (Nd.mk t0 k0 n0 s0 l0 :: Nd.mk t1 k1 n1 s1 l1 :: l))) with ⟨mt, mk, mn, ms, ml⟩
    rw [hm] at hen heq
    have main : ∀ g : Ev, gR (Nd.mk t k n s (Nd.mk t0 k0 n0 s0 l0 :: Nd.mk t1 k1 n1 s1 l1 :: l)) = g →
        AC Tryz.prog 14 [g.v] (fun r => r = .tup [.agg [.int .i64 mt, .int .i64 mk, .int .i64 mn, .str ms, .ro 5 (ml.map Nd.v)], .int .i64 ec]) ∧ ((!decide (ec = 0) || !q) = false → V.tup [g.v, .int .i64 0] = res) := by
      intro g hg
      rw [hg] at hen hok
      rw [Nd.v] at hen
      exact ⟨hen, hok⟩
    rw [Nd.v] at heq
    generalize ml.map Nd.v = mv at heq main
    have hint := integer_ac
    by_cases h2 : n0 = 2
    · by_cases h5 : l.length = 5
      · obtain ⟨c0, c1, c2, c3, c4, rfl⟩ := five_of h5
        obtain ⟨t2, k2, n2, s2, l2⟩ := c0
        obtain ⟨t3, k3, n3, s3, l3⟩ := c1
        obtain ⟨t4, k4, n4, s4, l4⟩ := c2
        obtain ⟨t5, k5, n5, s5, l5⟩ := c3
        obtain ⟨t6, k6, n6, s6, l6⟩ := c4
        obtain ⟨hen, hok⟩ := main ⟨2, n1, n2, l3.map Nd.nn, n4, s5, decide (n6 = 1), 0, 0, 0, 0⟩ (by
          simp only [gR, Nd.kids, Nd.nn, Nd.ss, h2, if_true, evA]
          rfl)
        have h3 : l3.length ≤ 1024 := h39 (Nd.mk t3 k3 n3 s3 l3) (by simp)
        simp only [Nd.v, List.map_cons, List.map_nil] at heq ⊢
        simp only [Ev.v] at hen hok
        exact refDecA_ac t k n s t0 k0 n0 s0 _ t1 k1 n1 s1 _ t2 k2 n2 s2 _ t3 k3 n3 s3 _ t4 k4 n4 s4 _ t5 k5 n5 s5 _ t6 k6 n6 s6 _ l3 rfl _ rfl mt mk mn ms mv ec q _ hint hen heq herr hok h2 (by simpa using h3)
      · obtain ⟨hen, hok⟩ := main _ (gP_five (x := Nd.mk t k n s (Nd.mk t0 k0 n0 s0 l0 :: Nd.mk t1 k1 n1 s1 l1 :: l)) rfl h2 h5).2
        simp only [Nd.v, List.map_cons] at heq ⊢
        exact refDecT_ac t k n s t0 k0 n0 s0 _ t1 k1 n1 s1 _ _ mt mk mn ms mv ec q _ hint hen heq herr hok (by simp; omega) (by simp; omega)
    · by_cases h5 : n0 = 5 ∧ l.length = 3
      · obtain ⟨h5, h3⟩ := h5
        obtain ⟨c0, c1, c2, rfl⟩ := three_of h3
        obtain ⟨t2, k2, n2, s2, l2⟩ := c0
        obtain ⟨t3, k3, n3, s3, l3⟩ := c1
        obtain ⟨t4, k4, n4, s4, l4⟩ := c2
        obtain ⟨hen, hok⟩ := main ⟨n0, n1, 0, [], 0, [], false, n2, n1, n3, n4⟩ (by
          simp only [gR, Nd.kids, Nd.nn, Nd.ss, h2, if_false, h5, if_true, evI]
          rfl)
        simp only [Nd.v, List.map_cons, List.map_nil] at heq ⊢
        simp only [Ev.v] at hen hok
        exact refDecI_ac t k n s t0 k0 n0 s0 _ t1 k1 n1 s1 _ t2 k2 n2 s2 _ t3 k3 n3 s3 _ t4 k4 n4 s4 _ mt mk mn ms mv ec q _ hint hen heq herr hok h5
      · have h5' : n0 = 5 → l.length ≠ 3 := fun h hl => h5 ⟨h, hl⟩
        obtain ⟨hen, hok⟩ := main _ (gP_three (x := Nd.mk t k n s (Nd.mk t0 k0 n0 s0 l0 :: Nd.mk t1 k1 n1 s1 l1 :: l)) rfl h2 h5').2
        simp only [Nd.v, List.map_cons] at heq ⊢
        exact refDecT_ac t k n s t0 k0 n0 s0 _ t1 k1 n1 s1 _ _ mt mk mn ms mv ec q _ hint hen heq herr hok (by simp [h2]) (by
          by_cases h : n0 = 5
          · have := h5' h; simp [h]; omega
          · simp [h])

/-- Both guesses lead to the same. -/
theorem dec_same (x : Nd) : decV (gP x) x = decV (gR x) x := by
  by_cases h : gP x = gR x
  · rw [h]
  obtain ⟨t, k, n, s, ks⟩ := x
  match ks with
  | [] => exact absurd rfl h
  | [a] => exact absurd rfl h
  | a :: b :: l =>
    by_cases h2 : a.nn = 2
    · by_cases h5 : l.length = 5
      · obtain ⟨c0, c1, c2, c3, c4, rfl⟩ := five_of h5
        by_cases h10 : c1.kids.length ≤ 10
        · exact absurd (by simp only [gP, gR, kids_mk, h2, if_true, h10]) h
        · have hP : gP (Nd.mk t k n s [a, b, c0, c1, c2, c3, c4]) = evT 2 b.nn := by simp only [gP, kids_mk, h2, if_true, h10, if_false]
          have hR : gR (Nd.mk t k n s [a, b, c0, c1, c2, c3, c4]) = evA b.nn c0 c1 c2 c3 c4 := by simp only [gR, kids_mk, h2, if_true]
          have e1 : decB (evA b.nn c0 c1 c2 c3 c4) (Nd.mk t k n s [a, b, c0, c1, c2, c3, c4]) = true := by
            have : encE (evA b.nn c0 c1 c2 c3 c4) ≠ 0 := fun h0 => by
              have := (encE_zero h0).2.2.2.1
              simp [evA] at this
              exact h10 this
            simp [decB, this]
          have e2 : decB (evT 2 b.nn) (Nd.mk t k n s [a, b, c0, c1, c2, c3, c4]) = true := by
            by_cases h0 : encE (evT 2 b.nn) = 0
            · have : eqN (encN (evT 2 b.nn)) (Nd.mk t k n s [a, b, c0, c1, c2, c3, c4]) = false := by
                rw [eqN_false, encN, if_pos h0]
                intro he
                injection he with _ _ _ _ he
                simp only [encK, evT, ansK, if_true, chN, List.map_nil, List.cons_append, List.nil_append, List.cons.injEq, and_true] at he
                have := he.2.2.2.1
                rw [← this] at h10
                exact h10 (by simp [Nd.kids])
              simp [decB, this]
            · simp [decB, h0]
          rw [hP, hR, ← decV_err e1, ← decV_err e2]
      · have := gP_five (x := Nd.mk t k n s (a :: b :: l)) rfl h2 h5
        exact absurd (this.1.trans this.2.symm) h
    · exact absurd (by simp only [gP, gR, kids_mk, h2, if_false]) h

theorem ev_ext {a b : Ev} (h1 : a.kind = b.kind) (h2 : a.time = b.time) (h3 : a.item = b.item) (h4 : a.ch = b.ch) (h5 : a.value = b.value) (h6 : a.text = b.text) (h7 : a.om = b.om) (h8 : a.ik = b.ik) (h9 : a.it = b.it) (h10 : a.il = b.il) (h11 : a.ig = b.ig) : a = b := by
  cases a; cases b; simp_all

set_option maxRecDepth 100000 in
set_option maxHeartbeats 2000000 in
theorem same_ac (a b : Ev) : AC Tryz.prog 22 [a.v, b.v] (fun r => r = .bool (decide (a = b))) := by
  have hga : ∀ (k : Nat) (h : k < a.ch.length), nth (nums a.ch) k = some (.int .i64 a.ch[k]) := by
    intro k h; rw [nth_eq]; simp [nums, h]
  have hgb : ∀ (k : Nat) (h : k < b.ch.length), nth (nums b.ch) k = some (.int .i64 b.ch[k]) := by
    intro k h; rw [nth_eq]; simp [nums, h]
  have hla := numsL a.ch
  have hlb := numsL b.ch
  simp only [Ev.v]
  generalize nums a.ch = av at hga hla
  generalize nums b.ch = bv at hgb hlb
  refine ac_lenC 0 3 rfl rfl (fun hmax => ?_)
  unfold maxLen at hmax
  refine ac_intro Tryz.func22 rfl (by show (2 : Nat) ≤ 91; omega) (fun w0 N0 => ?_)
  refine aw_step [2, 3] [2, 3] (by simp [Tryz.ntmps22] <;> rfl) ?_   -- law.go:25
  refine aw_seq ?_
  refine aw_step [2, 3, 35] [2, 3] (by simp <;> rfl) ?_   -- law.go:26
  refine aw_cond rfl (fun h1 => ?_) (fun h1 => aw_skip ?_)   -- if t35
  · refine aw_step [4] [] (by simp <;> rfl) ?_   -- law.go:27
    refine aw_ret (ends_ret (by simp [Tryz.results22] <;> rfl) ?_)
    congr 1
    symm
    apply decide_eq_false
    rintro rfl
    simp at h1
    omega
  have h1' : a.kind = b.kind ∧ a.time = b.time ∧ (a.ik = b.ik ∧ a.it = b.it ∧ a.il = b.il ∧ a.ig = b.ig) ∧ av.length = bv.length := by
    simp at h1
    obtain ⟨⟨⟨g1, g2⟩, g3⟩, g4⟩ := h1
    exact ⟨g1, g2, by omega, by omega⟩
  obtain ⟨e1, e2, ⟨e3, e4, e5, e6⟩, hll⟩ := h1'
  refine aw_seq ?_
  refine aw_step [2, 3, 5] [2, 3] (by simp <;> rfl) ?_   -- law.go:29
  refine aw_block ?_
  refine aw_count (fun k nx => ⟨[(2, .bp 2 0 11 0 0), (3, .bp 3 1 11 0 0), (5, .int .i64 k)], [(2, ⟨0, 11, 29, [.agg [.int .i64 a.kind, .int .i64 a.time, .int .i64 a.item, .ro 1 av, .int .i64 a.value, .str a.text, .bool a.om, .int .i64 a.ik, .int .i64 a.it, .int .i64 a.il, .int .i64 a.ig]]⟩), (3, ⟨1, 11, 29, [.agg [.int .i64 b.kind, .int .i64 b.time, .int .i64 b.item, .ro 1 bv, .int .i64 b.value, .str b.text, .bool b.om, .int .i64 b.ik, .int .i64 b.it, .int .i64 b.il, .int .i64 b.ig]]⟩)], nx, 91⟩) (fun k => ∀ (j : Nat) (h1 : j < a.ch.length) (h2 : j < b.ch.length), j < k → a.ch[j] = b.ch[j]) av.length _ (by intro j _ _ h; omega) (AS.le_refl _) ?_
  intro k nx hk hI
  refine aw_seq ?_
  refine aw_step [2, 3, 5, 41] [2, 3] (by simp <;> rfl) ?_   -- law.go:29
  refine aw_cond rfl (fun h2 => aw_skip ?_) (fun h2 => ?_)   -- if t41
  · have hlt : k < av.length := by simp at h2; omega
    have hltb : k < bv.length := by omega
    have ga := hga k (by omega)
    have gb := hgb k (by omega)
    have hw := wrap_succ (k := k) (by omega)
    refine aw_seq ?_
    refine aw_block ?_
    refine aw_dstep [(0, []), (1, []), (3, []), (6, []), (7, []), (9, []), (2, []), (4, []), (5, []), (8, []), (10, []), (11, []), (12, [])] [2, 3, 5, 56] [2, 3] hmix (by kernel_rfl) (by simp [ga, gb, hlt, hltb] <;> rfl) ?_   -- law.go:30
    refine aw_cond rfl (fun h3 => ?_) (fun h3 => aw_skip ?_)   -- if t56
    · refine aw_step [4] [] (by simp <;> rfl) ?_   -- law.go:31
      refine aw_ret (ends_ret (by simp [Tryz.results22] <;> rfl) ?_)
      congr 1
      symm
      apply decide_eq_false
      rintro rfl
      simp at h3
    refine aw_one [2, 3, 5] [2, 3] (by simp [hw] <;> rfl) ?_   -- law.go:29
    refine ⟨hlt, fun j h4 h5 h6 => ?_, _, AS.le_refl _⟩
    by_cases e : j = k
    · subst e
      simpa using h3
    · exact hI j h4 h5 (by omega)
  · refine aw_exit ?_
    refine aw_step [4] [] (by simp <;> rfl) ?_   -- law.go:34
    refine aw_ret (ends_ret (by simp [Tryz.results22] <;> rfl) ?_)
    have hkl : k = av.length := by simp at h2; omega
    have hch : a.ch = b.ch := List.ext_getElem (by omega) (fun j h4 h5 => hI j h4 h5 (by omega))
    congr 1
    rw [Bool.eq_iff_iff]
    simp only [Bool.and_eq_true, decide_eq_true_eq, beq_iff_eq]
    constructor
    · rintro ⟨⟨⟨g1, g2⟩, g3⟩, g4⟩
      exact ev_ext e1 e2 g1 hch g2 g3 g4 e3 e4 e5 e6
    · rintro rfl
      exact ⟨⟨⟨rfl, rfl⟩, rfl⟩, rfl⟩

theorem decV_form (g : Ev) (x : Nd) : ∃ (h : Ev) (c : Int), decV g x = .tup [h.v, .int .i64 c] := by
  unfold decV
  split
  · exact ⟨zE, 2, rfl⟩
  · exact ⟨g, 0, rfl⟩


theorem rdV_canon {bs : List UInt8} {e : Int} : ∀ {k i x at_ y a : Nat}, i + k = 10 → rdV bs e k i x at_ = .ok (y, a) → ∃ z, y = x + z * 128 ^ i ∧ (0 < i → z ≠ 0) ∧ a = at_ + (vEnc z).length
  | 0, i, x, at_, y, a, hk, h => by simp [rdV] at h
  | k + 1, i, x, at_, y, a, hk, h => by
    rw [rdV] at h
    split at h
    · cases h
    rename_i c hc
    split at h
    · cases h
    rename_i hb
    split at h
    · rename_i hlt
      injection h with h
      injection h with h1 h2
      refine ⟨c.toNat, h1.symm, fun hi h0 => hb (.inr ⟨hi, h0⟩), ?_⟩
      rw [vEnc_lt hlt, ← h2]
      rfl
    · rename_i hge
      obtain ⟨z, h1, h2, h3⟩ := rdV_canon (by omega) h
      have hz := h2 (by omega)
      refine ⟨c.toNat % 128 + 128 * z, ?_, fun _ => by omega, ?_⟩
      · rw [h1, Nat.pow_succ, Nat.add_mul, Nat.mul_comm 128 z, Nat.mul_assoc z 128, Nat.mul_comm 128 (128 ^ i), Nat.add_assoc]
      · rw [vEnc_ge (by omega), show (c.toNat % 128 + 128 * z) / 128 = z by omega, h3, List.length_cons]
        omega
theorem rdV_canon0 {bs : List UInt8} {e : Int} {at_ y a : Nat} (h : rdV bs e 10 0 0 at_ = .ok (y, a)) : a = at_ + (vEnc y).length := by
  obtain ⟨z, h1, _, h3⟩ := rdV_canon (by omega) h
  have : y = z := by simpa using h1
  rw [this]; exact h3
theorem rdC_canon {bs : List UInt8} {e : Int} {most at_ y a : Nat} (h : rdC bs e most at_ = .ok (y, a)) : a = at_ + (vEnc y).length := by
  unfold rdC at h
  split at h
  · cases h
  · rename_i x a' hv
    split at h
    · cases h
    · injection h with h
      injection h with h1 h2
      subst h1; subst h2
      exact rdV_canon0 hv
theorem rdL_canon {bs : List UInt8} {f : Nat → Except Int (Nd × Nat)} {m : Nat} (hf : ∀ at_ x a, at_ ≤ bs.length → f at_ = .ok (x, a) → a ≤ bs.length ∧ Fit m x ∧ a = at_ + (byN x).length) : ∀ {n at_ : Nat} {l : List Nd} {a : Nat}, at_ ≤ bs.length → rdL f n at_ = .ok (l, a) →
    (∀ x ∈ l, Fit m x) ∧ a = at_ + ((l.map byN).flatten).length ∧ l.length = n
  | 0, at_, l, a, _, h => by simp only [rdL, Except.ok.injEq, Prod.mk.injEq] at h; obtain ⟨rfl, rfl⟩ := h; simp
  | n + 1, at_, l, a, hat, h => by
    rw [rdL] at h
    split at h
    · cases h
    · rename_i x a1 hx
      split at h
      · cases h
      · rename_i l' a2 hl
        injection h with h
        injection h with h1 h2
        subst h1; subst h2
        obtain ⟨g1, g2, g3⟩ := hf _ _ _ hat hx
        obtain ⟨h3, h4, h5⟩ := rdL_canon hf g1 hl
        refine ⟨fun y hy => ?_, ?_, by simp [h5]⟩
        · rcases List.mem_cons.1 hy with rfl | hy
          · exact g2
          · exact h3 y hy
        · simp only [List.map_cons, List.flatten_cons, List.length_append]
          omega
/-- What was read fits, and its encoding is as long as what was read. -/
theorem rdN_canon {bs : List UInt8} {e : Int} : ∀ {lv at_ a : Nat} {x : Nd}, at_ ≤ bs.length → rdN bs e lv at_ = .ok (x, a) → Fit lv x ∧ a = at_ + (byN x).length
  | 0, at_, a, x, _, h => by simp [rdN] at h
  | lv + 1, at_, a, x, hat, h => by
    rw [rdN] at h
    split at h
    · cases h
    rename_i tag a1 hv
    have c1 := rdV_canon0 hv
    obtain ⟨_, hb1, _⟩ := rdV_bound (i := 0) (by omega) (by simp) hat hv
    split at h
    · cases h
    rename_i htag
    split at h
    · cases h
    rename_i k hk
    have hlt : a1 < bs.length := (List.getElem?_eq_some_iff.1 hk).1
    have hz : I64 0 := by unfold I64; omega
    split at h
    · split at h
      · cases h
      · rename_i y a2 hv2
        obtain ⟨h64, _, _⟩ := rdV_bound (i := 0) (by omega) (by simp) (by omega) hv2
        have c2 := rdV_canon0 hv2
        injection h with h; injection h with h1 h2; subst h1; subst h2
        have hr := zag_range h64
        rw [← unfI_zag h64] at hr
        refine ⟨?_, ?_⟩
        · rw [Fit]
          exact ⟨by omega, by omega, hr, .inl ⟨rfl, rfl, rfl⟩, by simp⟩
        · rw [byN, if_pos rfl, foldN_zig hr, unfI_zag h64, zig_zag]
          simp only [List.length_append, List.length_cons, Int.toNat_natCast]
          omega
    · split at h
      · split at h
        · cases h
        · rename_i n a2 hc
          obtain ⟨hn, _, _⟩ := rdC_bound (by omega) hc
          have c2 := rdC_canon hc
          split at h
          · rename_i hle
            injection h with h; injection h with h1 h2; subst h1; subst h2
            have hsl : ((bs.drop a2).take n).length = n := by simp; omega
            refine ⟨?_, ?_⟩
            · rw [Fit]
              exact ⟨by omega, by omega, hz, .inr (.inl ⟨rfl, rfl, rfl, by omega⟩), by simp⟩
            · rw [byN, if_neg (by omega), if_pos rfl]
              simp only [List.length_append, List.length_cons, Int.toNat_natCast, hsl]
              omega
          · cases h
      · split at h
        · split at h
          · cases h
          · rename_i n a2 hc
            obtain ⟨hn, hb2, _⟩ := rdC_bound (by omega) hc
            have c2 := rdC_canon hc
            split at h
            · cases h
            · rename_i l a3 hl
              injection h with h; injection h with h1 h2; subst h1; subst h2
              obtain ⟨g1, g2, g3⟩ := rdL_canon (m := lv) (fun at_ x a hat hx => ⟨rdN_bound hat hx, rdN_canon hat hx⟩) hb2 hl
              refine ⟨?_, ?_⟩
              · rw [Fit]
                exact ⟨by omega, by omega, hz, .inr (.inr ⟨rfl, rfl, rfl, by omega⟩), g1⟩
              · rw [byN, if_neg (by omega), if_neg (by omega)]
                simp only [List.length_append, List.length_cons, Int.toNat_natCast, g3]
                omega
        · cases h

/-- The bytes of entries with these trees. -/
def szs : List Nd → Nat
  | [] => 0
  | x :: r => 12 + (byN x).length + szs r
theorem szs_app : ∀ (a b : List Nd), szs (a ++ b) = szs a + szs b
  | [], b => by simp [szs]
  | x :: a, b => by simp only [List.cons_append, szs, szs_app a b]; omega
theorem szs_take {l : List Nd} {k : Nat} (h : k < l.length) : szs (l.take (k + 1)) = szs (l.take k) + (12 + (byN l[k]).length) := by
  rw [List.take_succ_eq_append_getElem h, szs_app]
  simp [szs]
theorem entD_canon {l : List UInt8} {s : Nat} {n : Int} {x : Nd} {k s' : Nat} (h : entD l s n = .ok (x, k, s')) : Fit 8 x ∧ getB (l.take 4) = (byN x).length ∧ k = 12 + (byN x).length ∧ (byN x).length ≤ 2000 ∧ k ≤ l.length := by
  obtain ⟨h1, h2, h3, h4, h5, h6, h7, h8⟩ := entD_parts h
  obtain ⟨g1, g2⟩ := rdN_canon (by simp) h8
  exact ⟨g1, by omega, by omega, by omega, by omega⟩
/-- Every tree of a reading fits, and lies where the lengths say. -/
theorem Run.canon {l : List UInt8} {at_ s : Nat} {ns : List Nd} (h : Run l at_ s ns) : at_ = szs ns ∧ (∀ x ∈ ns, Fit 8 x ∧ (byN x).length ≤ 2000) ∧ ∀ (k : Nat) (hk : k < ns.length), szs (ns.take k) + 12 + (byN ns[k]).length ≤ l.length ∧ getB ((l.drop (szs (ns.take k))).take 4) = (byN ns[k]).length := by
  induction h with
  | start => exact ⟨rfl, by simp, by simp⟩
  | @step at0 s0 ns0 x k s' h hx ih =>
    obtain ⟨i1, i2, i3⟩ := ih
    obtain ⟨g1, g2, g3, g4, g5⟩ := entD_canon hx
    have hle := h.le.1
    simp only [List.length_drop] at g5
    refine ⟨by rw [szs_app, i1, g3]; simp [szs], fun y hy => ?_, fun j hj => ?_⟩
    · rcases List.mem_append.1 hy with hy | hy
      · exact i2 y hy
      · simp at hy; subst hy; exact ⟨g1, g4⟩
    · by_cases hjl : j < ns0.length
      · rw [List.take_append_of_le_length (by omega)]
        simp only [List.getElem_append_left hjl]
        exact i3 j hjl
      · have hje : j = ns0.length := by simp at hj; omega
        subst hje
        simp only [List.take_left', List.getElem_concat_length]
        rw [← i1]
        exact ⟨by omega, g2⟩
end Go.Proofs.YtmkbhognijicjaaGreatDoor

/- Journals: length, and the events of a journal. No condition. -/
set_option linter.unusedSimpArgs false
set_option maxRecDepth 4000
namespace Go.Proofs.YtmkbhognijicjaaGreatDoor
open Go.Eng

theorem or_i64 (a b i : Nat) (h : 2 ^ i * a + b < 2 ^ 62) (hb : b < 2 ^ i) : bits .or .i64 ((2 ^ i * a : Nat) : Int) (b : Int) = ((2 ^ i * a + b : Nat) : Int) := by
  have ha' : 2 ^ i * a < 2 ^ 64 := by omega
  have hb' : b < 2 ^ 64 := by omega
  have e1 : ∀ n : Nat, BitVec.ofInt 64 (n : Int) = BitVec.ofNat 64 n := fun n => by simp
  show IntKind.i64.wrap ((BitVec.ofInt 64 ((2 ^ i * a : Nat) : Int) ||| BitVec.ofInt 64 (b : Int)).toNat : Int) = _
  rw [e1, e1, BitVec.toNat_or, BitVec.toNat_ofNat, BitVec.toNat_ofNat, Nat.mod_eq_of_lt ha', Nat.mod_eq_of_lt hb', ← Nat.two_pow_add_eq_or_of_lt hb]
  exact wrap_in (by omega) (by omega)
theorem or4 (a b c d : Nat) (ha : a < 256) (hb : b < 256) (hc : c < 256) (hd : d < 256) :
    bits .or .i64 (bits .or .i64 (bits .or .i64 (IntKind.i64.wrap ((a : Int) * 2 ^ min 24 IntKind.i64.bits)) (IntKind.i64.wrap ((b : Int) * 2 ^ min 16 IntKind.i64.bits))) (IntKind.i64.wrap ((c : Int) * 2 ^ min 8 IntKind.i64.bits))) (d : Int) = ((((a * 256 + b) * 256 + c) * 256 + d : Nat) : Int) := by
  have h1 : IntKind.i64.wrap ((a : Int) * 2 ^ min 24 IntKind.i64.bits) = ((2 ^ 24 * a : Nat) : Int) := by
    show IntKind.i64.wrap ((a : Int) * 16777216) = _
    rw [wrap_in (by omega) (by omega)]; omega
  have h2 : IntKind.i64.wrap ((b : Int) * 2 ^ min 16 IntKind.i64.bits) = ((2 ^ 16 * b : Nat) : Int) := by
    show IntKind.i64.wrap ((b : Int) * 65536) = _
    rw [wrap_in (by omega) (by omega)]; omega
  have h3 : IntKind.i64.wrap ((c : Int) * 2 ^ min 8 IntKind.i64.bits) = ((2 ^ 8 * c : Nat) : Int) := by
    show IntKind.i64.wrap ((c : Int) * 256) = _
    rw [wrap_in (by omega) (by omega)]; omega
  rw [h1, h2, h3, or_i64 a (2 ^ 16 * b) 24 (by omega) (by omega)]
  have e1 : 2 ^ 24 * a + 2 ^ 16 * b = 2 ^ 16 * (256 * a + b) := by omega
  rw [e1, or_i64 _ (2 ^ 8 * c) 16 (by omega) (by omega)]
  have e2 : 2 ^ 16 * (256 * a + b) + 2 ^ 8 * c = 2 ^ 8 * (65536 * a + 256 * b + c) := by omega
  rw [e2, or_i64 _ d 8 (by omega) (by omega)]
  omega
theorem getB_four {l : List UInt8} {p : Nat} (h : p + 3 < l.length) : getB ((l.drop p).take 4) = ((l[p].toNat * 256 + l[p + 1].toNat) * 256 + l[p + 2].toNat) * 256 + l[p + 3].toNat := by
  have e : (l.drop p).take 4 = [l[p], l[p + 1], l[p + 2], l[p + 3]] := by
    apply List.ext_getElem
    · simp; omega
    · intro i h1 h2
      simp at h2
      rcases (show i = 0 ∨ i = 1 ∨ i = 2 ∨ i = 3 by omega) with rfl | rfl | rfl | rfl <;> simp
  rw [e]
  have h0 := l[p].toNat_lt
  have h1 := l[p + 1].toNat_lt
  have h2 := l[p + 2].toNat_lt
  have h3 := l[p + 3].toNat_lt
  simp only [getB, List.foldl_cons, List.foldl_nil]
  omega

set_option maxHeartbeats 4000000 in
theorem length_ac (l : List UInt8) (hl : l.length ≤ 2 ^ 40) (n : Nat) (hn : n ≤ 300) (ps : Nat → Nat) (h0 : ps 0 = 0) (hs : ∀ k, k < n → ps k + 4 ≤ l.length ∧ ps (k + 1) = ps k + (12 + getB ((l.drop (ps k)).take 4)) ∧ getB ((l.drop (ps k)).take 4) ≤ 2000) :
    AC Tryz.prog 18 [.ro 1 (bys l), .int .i64 n] (fun r => r = .int .i64 (ps n)) := by
  have hg := fun (k : Nat) (h : k < l.length) => nthB h
  have hll := bysL l
  generalize bys l = lv at hg hll
  refine ac_intro Tryz.func18 rfl (by show (2 : Nat) ≤ 46; omega) (fun w0 N0 => ?_)
  refine aw_step [0, 1] [] (by simp [Tryz.ntmps18] <;> rfl) ?_   -- resume.go:119
  refine aw_step [0, 1, 5] [] (by simp <;> rfl) ?_   -- resume.go:120
  refine aw_seq ?_
  refine aw_step [0, 5, 7, 8] [] (by simp <;> rfl) ?_   -- resume.go:121
  refine aw_block ?_
  refine aw_count (fun k nx => ⟨[(0, .ro 1 lv), (5, .int .i64 (ps k)), (7, .int .i64 n), (8, .int .i64 k)], [], nx, 46⟩) (fun k => k ≤ n) n _ (Nat.zero_le _) (by simp [h0]; exact AS.le_refl _) ?_
  intro k nx hk hI
  refine aw_step [0, 5, 7, 8, 9] [] (by simp <;> rfl) ?_   -- resume.go:121
  refine aw_seq ?_
  refine aw_cond rfl (fun h1 => aw_skip ?_) (fun h1 => ?_)   -- if t9
  · have hkn : k < n := by simp at h1; omega
    obtain ⟨q1, q2, q3⟩ := hs k hkn
    have hwk := wrap_succ (k := k) (by omega)
    rw [q2]
    generalize ps k = p at *
    rw [getB_four (by omega)] at q3 ⊢
    have g0 := hg p (by omega)
    have g1 := hg (p + 1) (by omega)
    have g2 := hg (p + 2) (by omega)
    have g3 := hg (p + 3) (by omega)
    simp only [byV] at g0 g1 g2 g3
    have b0 := l[p].toNat_lt
    have b1 := l[p + 1].toNat_lt
    have b2 := l[p + 2].toNat_lt
    have b3 := l[p + 3].toNat_lt
    generalize l[p].toNat = c0 at *
    generalize l[p + 1].toNat = c1 at *
    generalize l[p + 2].toNat = c2 at *
    generalize l[p + 3].toNat = c3 at *
    have hor := or4 c0 c1 c2 c3 b0 b1 b2 b3
    obtain ⟨ov, hov⟩ : ∃ ov : Int, bits .or .i64 (bits .or .i64 (bits .or .i64 (IntKind.i64.wrap ((c0 : Int) * 2 ^ min 24 IntKind.i64.bits)) (IntKind.i64.wrap ((c1 : Int) * 2 ^ min 16 IntKind.i64.bits))) (IntKind.i64.wrap ((c2 : Int) * 2 ^ min 8 IntKind.i64.bits))) (c3 : Int) = ov := ⟨_, rfl⟩
    rw [hov] at hor
    generalize ((c0 * 256 + c1) * 256 + c2) * 256 + c3 = sz at hor q2 q3 ⊢
    revert hov
    have w1 : IntKind.i64.wrap ((p : Int) + 1) = ((p + 1 : Nat) : Int) := by rw [wrap_in (by omega) (by omega)]; omega
    have w2 : IntKind.i64.wrap ((p : Int) + 2) = ((p + 2 : Nat) : Int) := by rw [wrap_in (by omega) (by omega)]; omega
    have w3 : IntKind.i64.wrap ((p : Int) + 3) = ((p + 3 : Nat) : Int) := by rw [wrap_in (by omega) (by omega)]; omega
    have v0 : IntKind.i64.wrap (c0 : Int) = c0 := wrap_in (by omega) (by omega)
    have v1 : IntKind.i64.wrap (c1 : Int) = c1 := wrap_in (by omega) (by omega)
    have v2 : IntKind.i64.wrap (c2 : Int) = c2 := wrap_in (by omega) (by omega)
    have v3 : IntKind.i64.wrap (c3 : Int) = c3 := wrap_in (by omega) (by omega)
    have d0 : p < lv.length := by omega
    have d1 : p + 1 < lv.length := by omega
    have d2 : p + 2 < lv.length := by omega
    have d3 : p + 3 < lv.length := by omega
    obtain ⟨s4, hs4, hs4'⟩ : ∃ s4 : Int, IntKind.i64.wrap (4 + (sz : Int)) = s4 ∧ s4 = 4 + (sz : Int) := ⟨_, rfl, wrap_in (by omega) (by omega)⟩
    obtain ⟨s12, hs12, hs12'⟩ : ∃ s12 : Int, IntKind.i64.wrap (s4 + 8) = s12 ∧ s12 = 12 + (sz : Int) := ⟨_, rfl, by rw [wrap_in (by omega) (by omega)]; omega⟩
    obtain ⟨sp, hsp, hsp'⟩ : ∃ sp : Int, IntKind.i64.wrap ((p : Int) + s12) = sp ∧ sp = ((p + (12 + sz) : Nat) : Int) := ⟨_, rfl, by rw [wrap_in (by omega) (by omega)]; omega⟩
    obtain ⟨p1, hp1⟩ : ∃ p1, p1 = p + 1 := ⟨_, rfl⟩
    obtain ⟨p2, hp2⟩ : ∃ p2, p2 = p + 2 := ⟨_, rfl⟩
    obtain ⟨p3, hp3⟩ : ∃ p3, p3 = p + 3 := ⟨_, rfl⟩
    rw [← hp1] at w1 g1 d1
    rw [← hp2] at w2 g2 d2
    rw [← hp3] at w3 g3 d3
    intro hov
    rw [hor] at hov
    refine aw_seq ?_
    refine aw_block ?_
    refine aw_dstep [(0, []), (1, []), (2, []), (6, []), (7, []), (8, []), (9, []), (14, []), (15, []), (16, []), (17, []), (22, []), (23, []), (24, []), (25, []), (3, []), (4, []), (5, []), (10, []), (11, []), (12, []), (13, []), (18, []), (19, []), (20, []), (21, []), (26, []), (27, []), (28, []), (29, [])] [0, 5, 6, 7, 8] [] hmix (by kernel_rfl) (by simp [w1, w2, w3, v0, v1, v2, v3, g0, g1, g2, g3, d0, d1, d2, d3, hov] <;> rfl) ?_   -- resume.go:122
    refine aw_one [0, 5, 7, 8] [] (by simp [hs4, hs12, hsp] <;> rfl) ?_   -- resume.go:123
    refine aw_one [0, 5, 7, 8] [] (by simp [hwk] <;> rfl) ?_   -- resume.go:121
    exact ⟨hkn, by omega, _, by rw [hsp']; exact AS.le_refl _⟩
  · refine aw_exit ?_
    refine aw_step [4] [] (by simp <;> rfl) ?_   -- resume.go:125
    refine aw_ret (ends_ret (by simp [Tryz.results18] <;> rfl) ?_)
    have : k = n := by simp at h1; omega
    rw [this]

theorem refSize_ac (x : Nd) (hf : Fit 8 x) (hl : (byN x).length ≤ 2000) : AC Tryz.prog 21 [x.v] (fun r => r = .int .i64 ((12 + (byN x).length : Nat) : Int)) := by
  have hc := refEncode10_ac x hf (by omega)
  have hbl := bysL (byN x)
  have hpx := Nd.v_pure x
  obtain ⟨t, k, n, s, ks⟩ := x
  generalize byN (.mk t k n s ks) = bs at hc hl hbl
  rw [Nd.v] at hc hpx ⊢
  generalize ks.map Nd.v = kv at hc hpx
  generalize bys bs = bv at hc hbl
  obtain ⟨q, hq, hq'⟩ : ∃ q : Int, IntKind.i64.wrap (12 + (bv.length : Int)) = q ∧ q = ((12 + bs.length : Nat) : Int) := ⟨_, rfl, by rw [wrap_in (by omega) (by omega)]; omega⟩
  refine ac_intro Tryz.func21 rfl (by show (1 : Nat) ≤ 13; omega) (fun w0 N0 => ?_)
  refine aw_step [1] [1] (by simp [Tryz.ntmps21] <;> rfl) ?_   -- ref.go:101
  refine aw_seq (aw_region ?_)   -- ref.go:102
  refine awl_go 1 (by simp <;> rfl) ?_
  refine awl_call1 hc Tryz.func42 rfl (by kernel_rfl) rfl rfl rfl rfl (by simp) (by simp <;> rfl) ?_
  refine awl_end [3] [] (by simp <;> rfl) ?_
  refine aw_step [2] [] (by simp [hq] <;> rfl) ?_   -- ref.go:103
  exact aw_ret (ends_ret (by simp [Tryz.results21] <;> rfl) (by rw [hq']))

/-- The events of trees, up to the first that is none; whether there is none such. -/
noncomputable def evL : List Nd → List Ev × Bool
  | [] => ([], true)
  | x :: r => if decB (gP x) x = true then ([], false) else (gP x :: (evL r).1, (evL r).2)
noncomputable def evR (l : List UInt8) : List Ev × Nat × Int :=
  if (evL (rdJ0 l).1).2 = true then ((evL (rdJ0 l).1).1, (rdJ0 l).2.1, (rdJ0 l).2.2) else ((evL (rdJ0 l).1).1, szs ((rdJ0 l).1.take (evL (rdJ0 l).1).1.length), 2)
def evV (r : List Ev × Nat × Int) : V := .tup [.ro 11 (r.1.map Ev.v), .int .i64 r.2.1, .int .i64 r.2.2]
theorem pureEv (l : List Ev) : (l.map Ev.v).all V.pureE = true := by
  rw [List.all_eq_true]
  intro v hv
  obtain ⟨e, _, rfl⟩ := List.mem_map.1 hv
  have := pureI e.ch
  unfold Ev.v
  generalize nums e.ch = cv at this
  simp [V.pureE, V.cells, V.pureC, this]
theorem evL_len (l : List Nd) : (evL l).1.length ≤ l.length := by
  induction l with
  | nil => simp [evL]
  | cons x r ih => rw [evL]; split <;> simp <;> omega
theorem read19_form (l : List UInt8) (hlen : l.length ≤ 2 ^ 40) : AC Tryz.prog 19 [.ro 1 (bys l)] (fun r => r = jV (rdJ0 l)) := by
  have hc := refRead_ac l hlen
  have hp := bys_pure l
  have hpn := pureNd (rdK0 l).1
  rw [rdK0_rdJ, jV]
  rw [kV] at hc
  simp only
  generalize (rdK0 l).1.map Nd.v = nv at *
  generalize bys l = lv at *
  refine ac_intro Tryz.func19 rfl (by show (1 : Nat) ≤ 19; omega) (fun w0 N0 => ?_)
  refine aw_step [0] [] (by simp [Tryz.ntmps19] <;> rfl) ?_   -- ref.go:74
  refine aw_seq (aw_region ?_)   -- ref.go:75
  refine awl_go 1 (by simp <;> rfl) ?_
  refine awl_call1 hc Tryz.func41 rfl (by kernel_rfl) rfl rfl rfl rfl (by simp [hp]) (by simp <;> rfl) ?_
  refine awl_end [5, 6, 8] [] (by simp <;> rfl) ?_
  refine aw_step [2, 3, 4] [] (by simp <;> rfl) ?_   -- ref.go:76
  exact aw_ret (ends_ret (by simp [Tryz.results19, hpn] <;> rfl) rfl)
end Go.Proofs.YtmkbhognijicjaaGreatDoor
