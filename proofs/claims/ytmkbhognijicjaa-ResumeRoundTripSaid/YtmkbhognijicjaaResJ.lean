/- Resume: guess and Decode together. No condition. -/
import Derived.Test.YtmkbhognijicjaaResI
set_option linter.unusedSimpArgs false
namespace Go.Proofs.Ytmkbhognijicjaa
open Go.Eng

theorem guess_ac (x : Nd) : AC Try.prog 12 [x.v] (fun r => r = (gP x).v) := by
  obtain ⟨t, k, n, s, ks⟩ := x
  match hks : ks with
  | [] => subst hks; rw [Nd.v]; exact guessS_ac t k n s _ (by simp)
  | [a] => subst hks; rw [Nd.v]; exact guessS_ac t k n s _ (by simp)
  | a :: b :: l =>
    obtain ⟨t0, k0, n0, s0, l0⟩ := a
    obtain ⟨t1, k1, n1, s1, l1⟩ := b
    by_cases h2 : n0 = 2
    · by_cases h5 : l.length = 5
      · obtain ⟨c0, c1, c2, c3, c4, rfl⟩ := five_of h5
        obtain ⟨t2, k2, n2, s2, l2⟩ := c0
        obtain ⟨t3, k3, n3, s3, l3⟩ := c1
        obtain ⟨t4, k4, n4, s4, l4⟩ := c2
        obtain ⟨t5, k5, n5, s5, l5⟩ := c3
        obtain ⟨t6, k6, n6, s6, l6⟩ := c4
        by_cases h10 : l3.length ≤ 10
        · have hg : gP (Nd.mk t k n s [Nd.mk t0 k0 n0 s0 l0, Nd.mk t1 k1 n1 s1 l1, Nd.mk t2 k2 n2 s2 l2, Nd.mk t3 k3 n3 s3 l3, Nd.mk t4 k4 n4 s4 l4, Nd.mk t5 k5 n5 s5 l5, Nd.mk t6 k6 n6 s6 l6]) = ⟨2, n1, n2, l3.map Nd.nn, n4, s5, decide (n6 = 1), 0, 0, 0, 0⟩ := by
            simp only [gP, Nd.kids, Nd.nn, Nd.ss, h2, if_true, h10, evA]
            rfl
          rw [hg]
          simp only [Nd.v, List.map_cons, List.map_nil]
          exact guessA_ac t k n s t0 k0 n0 s0 _ t1 k1 n1 s1 _ t2 k2 n2 s2 _ t3 k3 n3 s3 _ t4 k4 n4 s4 _ t5 k5 n5 s5 _ t6 k6 n6 s6 _ l3 rfl h2 (by simpa using h10)
        · have hg : gP (Nd.mk t k n s [Nd.mk t0 k0 n0 s0 l0, Nd.mk t1 k1 n1 s1 l1, Nd.mk t2 k2 n2 s2 l2, Nd.mk t3 k3 n3 s3 l3, Nd.mk t4 k4 n4 s4 l4, Nd.mk t5 k5 n5 s5 l5, Nd.mk t6 k6 n6 s6 l6]) = evT n0 n1 := by
            simp only [gP, Nd.kids, Nd.nn, Nd.ss, h2, if_true, h10, if_false]
          rw [hg]
          simp only [Nd.v, List.map_cons, List.map_nil]
          exact guessX_ac t k n s t0 k0 n0 s0 _ t1 k1 n1 s1 _ t2 k2 n2 s2 _ t3 k3 n3 s3 _ t4 k4 n4 s4 _ t5 k5 n5 s5 _ t6 k6 n6 s6 _ h2 (by simp; omega)
      · rw [(gP_five (x := Nd.mk t k n s (Nd.mk t0 k0 n0 s0 l0 :: Nd.mk t1 k1 n1 s1 l1 :: l)) rfl h2 h5).1]
        simp only [Nd.v, List.map_cons]
        exact guessT_ac t k n s t0 k0 n0 s0 _ t1 k1 n1 s1 _ _ (.inr (by simpa using h5)) (fun h => by omega)
    · by_cases h5 : n0 = 5 ∧ l.length = 3
      · obtain ⟨h5, h3⟩ := h5
        obtain ⟨c0, c1, c2, rfl⟩ := three_of h3
        obtain ⟨t2, k2, n2, s2, l2⟩ := c0
        obtain ⟨t3, k3, n3, s3, l3⟩ := c1
        obtain ⟨t4, k4, n4, s4, l4⟩ := c2
        have hg : gP (Nd.mk t k n s [Nd.mk t0 k0 n0 s0 l0, Nd.mk t1 k1 n1 s1 l1, Nd.mk t2 k2 n2 s2 l2, Nd.mk t3 k3 n3 s3 l3, Nd.mk t4 k4 n4 s4 l4]) = ⟨5, n1, 0, [], 0, [], false, n2, n1, n3, n4⟩ := by
          simp only [gP, Nd.kids, Nd.nn, Nd.ss, h2, if_false, h5, if_true, evI]
          rfl
        rw [hg]
        simp only [Nd.v, List.map_cons, List.map_nil]
        exact guessI_ac t k n s t0 k0 n0 s0 _ t1 k1 n1 s1 _ t2 k2 n2 s2 _ t3 k3 n3 s3 _ t4 k4 n4 s4 _ h5
      · have h5' : n0 = 5 → l.length ≠ 3 := fun h hl => h5 ⟨h, hl⟩
        rw [(gP_three (x := Nd.mk t k n s (Nd.mk t0 k0 n0 s0 l0 :: Nd.mk t1 k1 n1 s1 l1 :: l)) rfl h2 h5').1]
        simp only [Nd.v, List.map_cons]
        exact guessT_ac t k n s t0 k0 n0 s0 _ t1 k1 n1 s1 _ _ (.inl h2) (fun h => by simpa using h5' h)

/-- What Decode returns, by the event that was guessed. -/
noncomputable def decB (g : Ev) (x : Nd) : Bool := !decide (encE g = 0) || !eqN (encN g) x
noncomputable def decV (g : Ev) (x : Nd) : V := if decB g x = true then .tup [zE.v, .int .i64 2] else .tup [g.v, .int .i64 0]
theorem relax_zE : Relax (.tup [.agg [.int .i64 0, .int .i64 0, .int .i64 0, .nils, .int .i64 0, .str [], .bool false, .int .i64 0, .int .i64 0, .int .i64 0, .int .i64 0], .int .i64 2]) (.tup [zE.v, .int .i64 2]) :=
  Relax.tup (.cons (relax_evT 0 0 0 0 0 0 0 0 [] false) (.cons (Relax.refl _) .nil))
set_option maxRecDepth 100000 in
set_option maxHeartbeats 2000000 in
theorem decode_ac (x : Nd) : AC Try.prog 6 [x.v] (fun r => r = decV (gP x) x) := by
  have hgu := guess_ac x
  have hen := encode_ac (gP x)
  have heq := equal_ac x (encN (gP x))
  have hp := pureI (gP x).ch
  unfold decV
  have hdb : decB (gP x) x = (!decide (encE (gP x) = 0) || !eqN (encN (gP x)) x) := rfl
  generalize gP x = g at hgu hen heq hp hdb
  rw [encV] at hen
  obtain ⟨t, k, n, s, ks⟩ := x
  generalize hq : eqN (encN g) (Nd.mk t k n s ks) = q at heq hdb
  rcases hm : encN g with ⟨t', k', n', s', ks'⟩
  rw [hm] at hen heq
  have hp1 := pureN ks
  have hp2 := pureN ks'
  simp only [Nd.v, Ev.v] at hgu hen heq ⊢
  generalize ks.map Nd.v = kv at hgu heq hp1
  generalize ks'.map Nd.v = kv' at hen heq hp2
  generalize nums g.ch = cv at hgu hen hp
  generalize encE g = ec at hen hdb
  by_cases hb : decB g (Nd.mk t k n s ks) = true
  · rw [if_pos hb]
    refine AC.relax ?_ relax_zE
    rw [hb] at hdb
    refine ac_intro Try.func6 rfl (by show (1 : Nat) ≤ 24; omega) (fun w0 N0 => ?_)
    refine aw_step [1, 2] [1, 2] (by simp [Try.ntmps6] <;> rfl) ?_   -- resume.go:79
    refine aw_seq (aw_region ?_)   -- resume.go:80
    refine awl_go 1 (by simp <;> rfl) ?_
    refine awl_call1 hgu Try.func12 rfl (by kernel_rfl) rfl rfl rfl rfl (by simp [hp1]) (by simp <;> rfl) ?_
    refine awl_end [1, 2, 4] [1, 2, 4] (by simp <;> rfl) ?_
    refine aw_seq (aw_region ?_)   -- resume.go:81
    refine awl_go 1 (by simp <;> rfl) ?_
    refine awl_call1 hen Try.func9 rfl (by kernel_rfl) rfl rfl rfl rfl (by simp [hp]) (by simp <;> rfl) ?_
    refine awl_end [1, 2, 4, 5, 6] [1, 2, 4, 5] (by simp <;> rfl) ?_
    refine aw_seq ?_
    refine aw_seq (aw_region ?_)   -- resume.go:82
    refine awl_go 5 (by simp <;> rfl) ?_
    refine awl_gcall (c := decide (ec = 0)) (fun hg => heq) Try.func11 rfl (by kernel_rfl) (by simp) rfl rfl (by simp <;> rfl) (by simp [hp1, hp2]) (by simp <;> rfl) ?_
    refine awl_end [2, 4, 21] [2, 4] (by simp <;> rfl) ?_
    refine aw_cond rfl (fun h1 => ?_) (fun h1 => by rw [← hdb] at h1; cases h1)   -- if t21
    refine aw_step [2, 3] [2] (by simp <;> rfl) ?_   -- resume.go:83
    exact aw_ret (ends_ret (by simp [Try.results6] <;> rfl) rfl)
  · rw [if_neg hb]
    rw [Bool.not_eq_true] at hb
    rw [hb] at hdb
    refine ac_intro Try.func6 rfl (by show (1 : Nat) ≤ 24; omega) (fun w0 N0 => ?_)
    refine aw_step [1, 2] [1, 2] (by simp [Try.ntmps6] <;> rfl) ?_   -- resume.go:79
    refine aw_seq (aw_region ?_)   -- resume.go:80
    refine awl_go 1 (by simp <;> rfl) ?_
    refine awl_call1 hgu Try.func12 rfl (by kernel_rfl) rfl rfl rfl rfl (by simp [hp1]) (by simp <;> rfl) ?_
    refine awl_end [1, 2, 4] [1, 2, 4] (by simp <;> rfl) ?_
    refine aw_seq (aw_region ?_)   -- resume.go:81
    refine awl_go 1 (by simp <;> rfl) ?_
    refine awl_call1 hen Try.func9 rfl (by kernel_rfl) rfl rfl rfl rfl (by simp [hp]) (by simp <;> rfl) ?_
    refine awl_end [1, 2, 4, 5, 6] [1, 2, 4, 5] (by simp <;> rfl) ?_
    refine aw_seq ?_
    refine aw_seq (aw_region ?_)   -- resume.go:82
    refine awl_go 5 (by simp <;> rfl) ?_
    refine awl_gcall (c := decide (ec = 0)) (fun hg => heq) Try.func11 rfl (by kernel_rfl) (by simp) rfl rfl (by simp <;> rfl) (by simp [hp1, hp2]) (by simp <;> rfl) ?_
    refine awl_end [2, 4, 21] [2, 4] (by simp <;> rfl) ?_
    refine aw_cond rfl (fun h1 => by rw [← hdb] at h1; cases h1) (fun h1 => aw_skip ?_)   -- if t21
    refine aw_step [2, 3] [2] (by simp <;> rfl) ?_   -- resume.go:85
    exact aw_ret (ends_ret (by simp [Try.results6] <;> rfl) rfl)
end Go.Proofs.Ytmkbhognijicjaa
