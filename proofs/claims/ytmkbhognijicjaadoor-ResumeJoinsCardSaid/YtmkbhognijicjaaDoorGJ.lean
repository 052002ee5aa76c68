import Derived.Test.YtmkbhognijicjaaDoorGI
import Derived.Test.YtmkbhognijicjaaDoorGF
/- Joins: a written journal reads whole; joining (plain law). No condition. -/
set_option linter.unusedSimpArgs false
namespace Go.Proofs.YtmkbhognijicjaaDoor
open Go.Eng

theorem entD_err {l : List UInt8} {s : Nat} {n : Int} {e : Int} (h : entD l s n = .error e) : e ≠ 0 := by
  unfold entD at h
  repeat' split at h
  all_goals first | (injection h with h; omega) | cases h
/-- What an entry that was read is. -/
theorem entD_parts {l : List UInt8} {s : Nat} {n : Int} {x : Nd} {k s' : Nat} (h : entD l s n = .ok (x, k, s')) :
    n < 300 ∧ 4 ≤ l.length ∧ getB (l.take 4) ≤ 2000 ∧ k = 4 + getB (l.take 4) + 8 ∧ k ≤ l.length ∧ s' = getB ((l.drop (4 + getB (l.take 4))).take 8) ∧ (s' : Int) = chn s (l.take (4 + getB (l.take 4))) ∧
      rdN ((l.drop 4).take (getB (l.take 4))) 4 8 0 = .ok (x, getB (l.take 4)) := by
  unfold entD at h
  split at h
  · cases h
  split at h
  · cases h
  split at h
  · cases h
  split at h
  · cases h
  split at h
  · cases h
  split at h
  · rename_i x' a hx
    split at h
    · rename_i ha
      injection h with h
      injection h with h1 h2
      injection h2 with h2 h3
      subst h1; subst ha
      rename_i h4 h5 h6 h7 h8
      have := chn_range s (l.take (4 + getB (l.take 4)))
      refine ⟨by omega, by omega, by omega, by omega, by omega, by omega, by omega, hx⟩
    · cases h
  · cases h
theorem entD_intro {l : List UInt8} {s : Nat} {n : Int} {x : Nd} {sz : Nat} (h1 : n < 300) (h2 : getB (l.take 4) = sz) (h3 : sz ≤ 2000) (h4 : 4 + sz + 8 ≤ l.length) (h5 : (getB ((l.drop (4 + sz)).take 8) : Int) = chn s (l.take (4 + sz)))
    (h6 : rdN ((l.drop 4).take sz) 4 8 0 = .ok (x, sz)) : entD l s n = .ok (x, 4 + sz + 8, (chn s (l.take (4 + sz))).toNat) := by
  unfold entD
  rw [if_neg (by omega), if_neg (by omega), h2, if_neg (by omega), if_neg (by omega), if_neg (by simpa using h5), h6]
  simp only [if_true]
/-- More bytes behind an entry do not change it. -/
theorem entD_more {l m : List UInt8} {s : Nat} {n : Int} {x : Nd} {k s' : Nat} (h : entD l s n = .ok (x, k, s')) : entD (l ++ m) s n = .ok (x, k, s') := by
  obtain ⟨h1, h2, h3, h4, h5, h6, h7, h8⟩ := entD_parts h
  have e1 : (l ++ m).take 4 = l.take 4 := List.take_append_of_le_length (by omega)
  have e2 : (l ++ m).take (4 + getB (l.take 4)) = l.take (4 + getB (l.take 4)) := List.take_append_of_le_length (by omega)
  have e3 : ((l ++ m).drop (4 + getB (l.take 4))).take 8 = (l.drop (4 + getB (l.take 4))).take 8 := by
    rw [List.drop_append_of_le_length (by omega), List.take_append_of_le_length (by simp; omega)]
  have e4 : ((l ++ m).drop 4).take (getB (l.take 4)) = (l.drop 4).take (getB (l.take 4)) := by
    rw [List.drop_append_of_le_length (by omega), List.take_append_of_le_length (by simp; omega)]
  have := entD_intro (l := l ++ m) (s := s) (n := n) (x := x) (sz := getB (l.take 4)) h1 (by rw [e1]) h3 (by simp; omega) (by rw [e2, e3, ← h7, h6]) (by rw [e4]; exact h8)
  rw [this, e2, ← h7, h4]
  simp

/-- How far a reading of l may come: place, digest, trees. -/
inductive Run (l : List UInt8) : Nat → Nat → List Nd → Prop
  | start : Run l 0 14695981039346656037 []
  | step {at_ s : Nat} {ns : List Nd} {x : Nd} {k s' : Nat} (h : Run l at_ s ns) (hx : entD (l.drop at_) s ns.length = .ok (x, k, s')) : Run l (at_ + k) s' (ns ++ [x])
theorem Run.le {l : List UInt8} {at_ s : Nat} {ns : List Nd} (h : Run l at_ s ns) : at_ ≤ l.length ∧ ns.length ≤ 300 := by
  induction h with
  | start => simp
  | step h hx ih =>
    have := entD_ok hx
    simp only [List.length_drop] at this
    simp only [List.length_append, List.length_cons, List.length_nil]
    omega
theorem Run.more {l : List UInt8} (m : List UInt8) {at_ s : Nat} {ns : List Nd} (h : Run l at_ s ns) : Run (l ++ m) at_ s ns := by
  induction h with
  | start => exact .start
  | step h hx ih => exact .step ih (by rw [List.drop_append_of_le_length h.le.1]; exact entD_more hx)
theorem Run.dig {l : List UInt8} {at_ s : Nat} {ns : List Nd} (h : Run l at_ s ns) : (s : Int) = endD (l.take at_) := by
  cases h with
  | start => simp [endD, dig0]
  | @step at0 s0 ns0 x k s' h hx =>
    obtain ⟨h1, h2, h3, h4, h5, h6, h7, h8⟩ := entD_parts hx
    have hle := h.le.1
    simp only [List.length_drop] at h5 h2
    unfold endD
    have hlen : (l.take (at0 + k)).length = at0 + k := by simp; omega
    rw [hlen, if_neg (by omega), h6]
    congr 2
    rw [List.drop_take, List.drop_drop]
    congr 1
    · omega
    · congr 1; omega
theorem Run.rdJ {l : List UInt8} {at_ s : Nat} {ns : List Nd} (h : Run l at_ s ns) : rdJ0 l = rdJ l (301 - ns.length) at_ s ns := by
  induction h with
  | start => rfl
  | @step at0 s0 ns0 x k s' h hx ih =>
    rw [ih]
    have h3 := entD_ok hx
    simp only [List.length_drop] at h3
    rw [show 301 - ns0.length = (301 - (ns0 ++ [x]).length) + 1 by simp only [List.length_append, List.length_cons, List.length_nil]; omega]
    rw [YtmkbhognijicjaaDoor.rdJ, if_neg (by omega), hx]
theorem rdJ_run {l : List UInt8} : ∀ (f at_ s : Nat) (ns : List Nd), Run l at_ s ns → (rdJ l f at_ s ns).2.2 = 0 → ∃ s', Run l l.length s' (rdJ l f at_ s ns).1
  | 0, at_, s, ns, h, hc => by simp [rdJ] at hc
  | f + 1, at_, s, ns, h, hc => by
    rw [rdJ] at hc ⊢
    split at hc
    · rename_i h1
      rw [if_pos h1]
      have : at_ = l.length := by have := h.le.1; omega
      subst this
      exact ⟨s, h⟩
    · rename_i h1
      rw [if_neg h1]
      split at hc
      · rename_i e hx; exact absurd hc (entD_err hx)
      · rename_i x k s' hx
        exact rdJ_run f _ _ _ (.step h hx) hc
/-- A journal that reads whole. -/
def Jok (a : List UInt8) : Prop := ∃ s ns, Run a a.length s ns
theorem Jok.read {a : List UInt8} (h : Jok a) : ∃ ns, rdJ0 a = (ns, a.length, 0) := by
  obtain ⟨s, ns, hr⟩ := h
  refine ⟨ns, ?_⟩
  have := hr.le.2
  rw [hr.rdJ, show 301 - ns.length = (300 - ns.length) + 1 by omega, rdJ, if_pos (Nat.le_refl _)]
theorem jok_nil : Jok [] := ⟨_, _, .start⟩
theorem Jok.trim {a : List UInt8} (h : Jok a) : trimB a = a := by
  obtain ⟨ns, hr⟩ := h.read
  simp [trimB, hr]
theorem appB_len (a enc : List UInt8) : (appB a enc).length = a.length + (12 + enc.length) := by
  simp only [appB, recB, List.length_append, putB_len]; omega
theorem appR_jok {a enc : List UInt8} {x : Nd} (he : rdN enc 4 8 0 = .ok (x, enc.length)) (hc : (appR a enc).2 = 0) : Jok (appR a enc).1 ∧ (appR a enc).1.length = a.length + (12 + enc.length) ∧ enc.length ≤ 2000 := by
  unfold appR at hc ⊢
  split at hc
  · rename_i h; simp only at hc; exact absurd hc h
  rename_i h1
  rw [if_neg h1]
  split at hc
  · simp at hc
  rename_i h2
  rw [if_neg h2]
  have h1' : (rdJ0 a).2.2 = 0 := by simpa using h1
  refine ⟨?_, appB_len a enc, by omega⟩
  obtain ⟨s, hr⟩ := rdJ_run 301 0 14695981039346656037 [] .start h1'
  change Run a a.length s (rdJ0 a).1 at hr
  have hs := hr.dig
  rw [List.take_length] at hs
  have hsn : (endD a).toNat = s := by omega
  have hdr : (appB a enc).drop a.length = recB enc ++ putB (sumB a enc) 8 := by simp [appB, List.append_assoc]
  have hr2 : Run (appB a enc) a.length s (rdJ0 a).1 := by
    have := hr.more (recB enc ++ putB (sumB a enc) 8)
    simpa [appB, List.append_assoc] using this
  have hrl : (recB enc).length = 4 + enc.length := by simp [recB, putB_len]
  have g1 : getB ((recB enc ++ putB (sumB a enc) 8).take 4) = enc.length := by
    rw [List.take_append_of_le_length (by omega), recB, List.take_append_of_le_length (by rw [putB_len]; omega), List.take_of_length_le (by rw [putB_len]; omega)]
    exact getB_putB _ _ (by omega) (by omega)
  have hsum : sumB a enc < 2 ^ 64 := by unfold sumB; have := chn_range (endD a).toNat (recB enc); omega
  have g2 : (recB enc ++ putB (sumB a enc) 8).take (4 + enc.length) = recB enc := by rw [← hrl]; simp
  have g3 : ((recB enc ++ putB (sumB a enc) 8).drop (4 + enc.length)).take 8 = putB (sumB a enc) 8 := by
    rw [← hrl, List.drop_left]
    exact List.take_of_length_le (by rw [putB_len]; omega)
  have g4 : ((recB enc ++ putB (sumB a enc) 8).drop 4).take enc.length = enc := by
    rw [recB, List.append_assoc, List.drop_append_of_le_length (by rw [putB_len]; omega), List.drop_of_length_le (by rw [putB_len]; omega), List.nil_append]
    simp
  have hent := entD_intro (l := recB enc ++ putB (sumB a enc) 8) (s := s) (n := (rdJ0 a).1.length) (x := x) (sz := enc.length) (by omega) g1 (by omega) (by simp only [List.length_append, hrl, putB_len]; omega)
    (by rw [g2, g3, getB_putB _ _ (by omega) hsum]; unfold sumB; rw [hsn]; have := chn_range s (recB enc); omega) (by rw [g4]; exact he)
  have := Run.step hr2 (by rw [hdr]; exact hent)
  have hL : (appB a enc).length = a.length + (4 + enc.length + 8) := by rw [appB_len]; omega
  rw [← hL] at this
  exact ⟨_, _, this⟩
theorem encE_len {e : Ev} (h : encE e = 0) : e.ch.length ≤ 10 ∧ e.text.length ≤ 1000 := by
  unfold encE at h
  split at h
  · omega
  split at h
  · omega
  split at h
  · omega
  · rename_i h3; simp at h3; omega
theorem wrR_jok {a : List UInt8} {e : Ev} (hc : (wrR a e).2 = 0) : Jok (wrR a e).1 ∧ a.length < (wrR a e).1.length ∧ (wrR a e).1.length ≤ a.length + 2012 := by
  unfold wrR at hc ⊢
  split at hc
  · rename_i h; simp only at hc; exact absurd hc h
  rename_i h
  rw [if_neg h]
  have hE : encE e = 0 := by simpa using h
  obtain ⟨h1, h2⟩ := encE_len hE
  obtain ⟨x, hx⟩ := rdN_event h1 h2
  obtain ⟨h3, h4, h5⟩ := appR_jok hx hc
  exact ⟨h3, by omega, by omega⟩

theorem begB_self (a : List UInt8) : begB a a = true := by simp [begB]
theorem begB_take (a : List UInt8) (k : Nat) : begB a (a.take k) = true := by
  simp only [begB, Bool.and_eq_true, decide_eq_true_eq, List.length_take]
  exact ⟨by omega, by rw [← List.take_take, List.take_length]⟩
theorem begB_nil (a : List UInt8) : begB a [] = true := by simp [begB]
theorem begB_anti {a b : List UInt8} (h : begB a b = true) (k : begB b a = true) : a = b := by
  simp only [begB, Bool.and_eq_true, decide_eq_true_eq] at h k
  rw [← h.2, List.take_of_length_le (by omega)]
theorem joinR_comm (x y : List UInt8) : joinR x y = joinR y x := by
  unfold joinR
  by_cases h1 : begB (trimB x) (trimB y) = true
  · by_cases h2 : begB (trimB y) (trimB x) = true
    · rw [if_pos h1, if_pos h2, begB_anti h1 h2]
    · rw [if_pos h1, if_neg h2, if_pos h1]
  · rw [if_neg h1]
    by_cases h2 : begB (trimB y) (trimB x) = true
    · rw [if_pos h2, if_pos h2]
    · rw [if_neg h2, if_neg h2, if_neg h1]
theorem joinR_one {x y : List UInt8} (hx : Jok x) (hy : Jok y) (h : (joinR x y).2 = 0) : (joinR x y).1 = x ∨ (joinR x y).1 = y := by
  unfold joinR at h ⊢
  rw [hx.trim, hy.trim] at h ⊢
  split
  · exact .inl rfl
  split
  · exact .inr rfl
  · rename_i h1 h2; rw [if_neg h1, if_neg h2] at h; simp at h
theorem joinR_pre {a : List UInt8} (ha : Jok a) (k : Nat) : joinR (a.take k) a = (a, 0) := by
  unfold joinR
  rw [ha.trim]
  have hp : trimB (a.take k) = a.take (min (rdJ0 (a.take k)).2.1 k) := by unfold trimB; rw [List.take_take]
  have hb : begB a (trimB (a.take k)) = true := by rw [hp]; exact begB_take a _
  by_cases h1 : begB (trimB (a.take k)) a = true
  · rw [if_pos h1, begB_anti h1 hb]
  · rw [if_neg h1, if_pos hb]
theorem joinR_nil {a : List UInt8} (ha : Jok a) : joinR a [] = (a, 0) := by
  unfold joinR
  rw [ha.trim, jok_nil.trim, if_pos (begB_nil a)]
end Go.Proofs.YtmkbhognijicjaaDoor

/- Joins: the law. No condition. -/
set_option linter.unusedSimpArgs false
set_option maxRecDepth 4000
namespace Go.Proofs.YtmkbhognijicjaaDoor
open Go.Eng

def jstep (a : List UInt8) (e : Ev) : List UInt8 := if (wrR a e).2 = 0 then (wrR a e).1 else a
def jn (evs : List Ev) (k : Nat) : List UInt8 := (evs.take k).foldl jstep []
theorem jn_succ {evs : List Ev} {k : Nat} (h : k < evs.length) : jn evs (k + 1) = jstep (jn evs k) evs[k] := by
  unfold jn
  rw [List.take_succ_eq_append_getElem h, List.foldl_append]
  rfl
theorem jn_ok (evs : List Ev) : ∀ k, Jok (jn evs k) ∧ (jn evs k).length ≤ 2012 * k
  | 0 => by simp [jn, jok_nil]
  | k + 1 => by
    have ih := jn_ok evs k
    rcases Nat.lt_or_ge k evs.length with h | h
    · rw [jn_succ h]
      unfold jstep
      split
      · rename_i hc
        have := wrR_jok hc
        exact ⟨this.1, by omega⟩
      · exact ⟨ih.1, by omega⟩
    · have : jn evs (k + 1) = jn evs k := by
        unfold jn
        rw [List.take_of_length_le (by omega), List.take_of_length_le h]
      rw [this]
      exact ⟨ih.1, by omega⟩
theorem nthE {evs : List Ev} {k : Nat} (h : k < evs.length) : nth (evs.map Ev.v) k = some evs[k].v := by rw [nth_eq]; simp [h]
set_option maxHeartbeats 8000000 in
theorem law_acg (es fs : List Ev) (cut : Int) : ACG 0 errT Tryd.prog 3 [.ro 11 (es.map Ev.v), .ro 11 (fs.map Ev.v), .int .i64 cut] (fun r => r = .bool true) := by
  have hne : ∀ k (h : k < es.length), nth (es.map Ev.v) k = some es[k].v := fun k h => nthE h
  have hnf : ∀ k (h : k < fs.length), nth (fs.map Ev.v) k = some fs[k].v := fun k h => nthE h
  have hle : (es.map Ev.v).length = es.length := by simp
  have hlf : (fs.map Ev.v).length = fs.length := by simp
  generalize es.map Ev.v = ev at hne hle
  generalize fs.map Ev.v = fv at hnf hlf
  refine acg_intro Tryd.func3 rfl (by show (3 : Nat) ≤ 144; omega) (fun w0 N0 hG => ?_)
  refine aw_step [0, 1, 2] [] (by simp [Tryd.ntmps3] <;> rfl) ?_   -- law.go:211
  refine aw_step [0, 1, 2, 7, 8] [] (by simp <;> rfl) ?_   -- law.go:212
  refine aw_relax 7 (.ro 1 []) [0, 1, 2, 7, 8] [] rfl rfl (Relax.nils 1) (by simp <;> rfl) ?_
  refine aw_relax 8 (.ro 1 []) [0, 1, 2, 7, 8] [] rfl rfl (Relax.nils 1) (by simp <;> rfl) ?_
  refine aw_seq ?_
  refine aw_step [0, 1, 2, 7, 8, 9] [] (by simp <;> rfl) ?_   -- law.go:213
  refine aw_block ?_
  refine aw_count (fun k nx => ⟨[(0, .ro 11 ev), (1, .ro 11 fv), (2, .int .i64 cut), (7, .ro 1 (bys (jn es k))), (8, .ro 1 []), (9, .int .i64 k)], [], nx, 144⟩) (fun k => k ≤ es.length) 12 _ (Nat.zero_le _) (AS.le_refl _) ?_
  intro k nx hk hkl
  have hjk := jn_ok es k
  refine aw_seq ?_
  refine aw_step [0, 1, 2, 7, 8, 9, 26] [] (by simp <;> rfl) ?_   -- law.go:213
  refine aw_cond rfl (fun h1 => aw_skip ?_) (fun h1 => ?_)   -- if t26
  · have h1' : k < es.length ∧ k < 12 := by simp at h1; omega
    have hs := jn_succ h1'.1
    have hga := hne k h1'.1
    have hw := write_acg (jn es k) es[k] (by omega)
    have hwk : IntKind.i64.wrap ((k : Int) + 1) = ((k + 1 : Nat) : Int) := by rw [wrap_in (by omega) (by omega)]; omega
    have hka : (k : Int) < ev.length := by omega
    have hpa := bys_pure (jn es k)
    have hpe := pureI es[k].ch
    have hlj := bysL (jn es k)
    have hwl := bysL (wrR (jn es k) es[k]).1
    have hjok := wrR_jok (a := jn es k) (e := es[k])
    unfold jstep at hs
    unfold bcV at hw
    unfold Ev.v at hga hw
    generalize hav : bys (jn es k) = av at hw hpa hlj
    generalize nums es[k].ch = cv at hga hw hpe
    have hpw := bys_pure (wrR (jn es k) es[k]).1
    generalize hwv : bys (wrR (jn es k) es[k]).1 = wv at hw hwl hpw
    generalize hwc : (wrR (jn es k) es[k]).2 = wc at hw hs hjok
    refine aw_seq ?_
    refine aw_block ?_
    refine aw_seq (aw_region ?_)   -- law.go:214
    refine awl_go 5 (by simp [hga, hka] <;> rfl) ?_
    refine awl_call1G hG hw Tryd.func4 rfl (by kernel_rfl) rfl rfl rfl rfl (by simp [hpa, hpe]) (by simp <;> rfl) ?_
    refine awl_end [0, 1, 2, 7, 8, 9, 10, 11] [] (by simp <;> rfl) ?_
    refine aw_step [0, 1, 2, 7, 8, 9, 10, 39] [] (by simp <;> rfl) ?_   -- law.go:214
    refine aw_cond rfl (fun h2 => ?_) (fun h2 => aw_skip ?_)   -- if t39
    · have h2' : wc = 0 := by simpa using h2
      obtain ⟨q1, q2, q3⟩ := hjok h2'
      rw [if_pos h2'] at hs
      refine aw_seq ?_
      refine aw_step [0, 1, 2, 8, 9, 10, 44] [] (by simp <;> rfl) ?_   -- law.go:215
      refine aw_cond rfl (fun h3 => by simp at h3; omega) (fun h3 => aw_skip ?_)   -- if t44
      refine aw_one [0, 1, 2, 7, 8, 9] [] (by simp <;> rfl) ?_   -- law.go:218
      refine aw_one [0, 1, 2, 7, 8, 9] [] (by simp [hwk] <;> rfl) ?_   -- law.go:213
      refine ⟨h1'.2, by omega, ?_⟩
      rw [hs, hwv]
      exact ⟨_, AS.le_refl _⟩
    have h2' : ¬ wc = 0 := by simpa using h2
    rw [if_neg h2'] at hs
    refine aw_one [0, 1, 2, 7, 8, 9] [] (by simp [hwk] <;> rfl) ?_   -- law.go:213
    refine ⟨h1'.2, by omega, ?_⟩
    rw [hs, hav]
    exact ⟨_, AS.le_refl _⟩
  · refine aw_exit ?_
    have hja := hjk.1
    have hjl := hjk.2
    generalize haa : jn es k = a at hja hjl
    clear haa hne hjk
    refine aw_seq ?_
    refine aw_step [1, 2, 7, 8, 12] [] (by simp <;> rfl) ?_   -- law.go:221
    refine aw_block ?_
    generalize hav : bys a = av
    refine aw_count (fun k nx => ⟨[(1, .ro 11 fv), (2, .int .i64 cut), (7, .ro 1 av), (8, .ro 1 (bys (jn fs k))), (12, .int .i64 k)], [], nx, 144⟩) (fun k => k ≤ fs.length) 12 _ (Nat.zero_le _) (AS.le_refl _) ?_
    intro j nx hj hjf
    have hjk := jn_ok fs j
    refine aw_seq ?_
    refine aw_step [1, 2, 7, 8, 12, 53] [] (by simp <;> rfl) ?_   -- law.go:221
    refine aw_cond rfl (fun h4 => aw_skip ?_) (fun h4 => ?_)   -- if t53
    · have h1' : j < fs.length ∧ j < 12 := by simp at h4; omega
      have hs := jn_succ h1'.1
      have hga := hnf j h1'.1
      have hw := write_acg (jn fs j) fs[j] (by omega)
      have hwk : IntKind.i64.wrap ((j : Int) + 1) = ((j + 1 : Nat) : Int) := by rw [wrap_in (by omega) (by omega)]; omega
      have hka : (j : Int) < fv.length := by omega
      have hpa := bys_pure (jn fs j)
      have hpe := pureI fs[j].ch
      unfold jstep at hs
      unfold bcV at hw
      unfold Ev.v at hga hw
      generalize hbv : bys (jn fs j) = bv at hw hpa
      generalize nums fs[j].ch = cv at hga hw hpe
      have hpw := bys_pure (wrR (jn fs j) fs[j]).1
      generalize hwv : bys (wrR (jn fs j) fs[j]).1 = wv at hw hpw
      generalize hwc : (wrR (jn fs j) fs[j]).2 = wc at hw hs
      refine aw_seq ?_
      refine aw_block ?_
      refine aw_seq (aw_region ?_)   -- law.go:222
      refine awl_go 5 (by simp [hga, hka] <;> rfl) ?_
      refine awl_call1G hG hw Tryd.func4 rfl (by kernel_rfl) rfl rfl rfl rfl (by simp [hpa, hpe]) (by simp <;> rfl) ?_
      refine awl_end [1, 2, 7, 8, 12, 13, 14] [] (by simp <;> rfl) ?_
      refine aw_step [1, 2, 7, 8, 12, 13, 66] [] (by simp <;> rfl) ?_   -- law.go:222
      refine aw_cond rfl (fun h5 => ?_) (fun h5 => aw_skip ?_)   -- if t66
      · have h2' : wc = 0 := by simpa using h5
        rw [if_pos h2'] at hs
        refine aw_one [1, 2, 7, 8, 12] [] (by simp <;> rfl) ?_   -- law.go:223
        refine aw_one [1, 2, 7, 8, 12] [] (by simp [hwk] <;> rfl) ?_   -- law.go:221
        refine ⟨h1'.2, by omega, ?_⟩
        rw [hs, hwv]
        exact ⟨_, AS.le_refl _⟩
      have h2' : ¬ wc = 0 := by simpa using h5
      rw [if_neg h2'] at hs
      refine aw_one [1, 2, 7, 8, 12] [] (by simp [hwk] <;> rfl) ?_   -- law.go:221
      refine ⟨h1'.2, by omega, ?_⟩
      rw [hs, hbv]
      exact ⟨_, AS.le_refl _⟩
    · refine aw_exit ?_
      have hjb := hjk.1
      have hjm := hjk.2
      generalize hbb : jn fs j = b at hjb hjm
      clear hbb hnf hjk
      have hj1 := join_acg a b (by omega) (by omega)
      have hj2 := join_acg b a (by omega) (by omega)
      rw [joinR_comm b a] at hj2
      have hone := joinR_one hja hjb
      have hb1 := bytes_ac (joinR a b).1 (joinR a b).1
      have hb2 := bytes_ac (joinR a b).1 a
      have hb3 := bytes_ac (joinR a b).1 b
      have hpa := bys_pure a
      have hpb := bys_pure b
      have hpL := bys_pure (joinR a b).1
      have hla := bysL a
      unfold bcV at hj1 hj2
      generalize (joinR a b).2 = c at hj1 hj2 hone
      generalize (joinR a b).1 = L at hj1 hj2 hone hb1 hb2 hb3 hpL
      obtain ⟨cc, hcc⟩ : ∃ cc : Int, (if (decide (cut < 0) || decide ((a.length : Int) < cut)) = true then (a.length : Int) else cut) = cc := ⟨_, rfl⟩
      have hccb : 0 ≤ cc ∧ cc ≤ a.length := by
        rw [← hcc]
        split
        · omega
        · rename_i hn; simp at hn; omega
      have hj3 := join_acg (a.take cc.toNat) a (by simp; omega) (by omega)
      rw [joinR_pre hja] at hj3
      have hj4 := ACG.argsR (args := [.ro 1 (bys a), .nils]) (join_acg a [] (by omega) (by simp)) (.cons (.refl _) (.cons (.nils 1) .nil))
      rw [joinR_nil hja] at hj4
      have hb4 := bytes_ac a a
      have hta : bys (a.take cc.toNat) = (bys a).take cc.toNat := by simp
      rw [hta] at hj3
      unfold bcV at hj3 hj4
      simp only at hj3 hj4
      rw [hav] at hj1 hj2 hj3 hj4 hb2 hb4 hpa hla
      generalize bys b = bv at hj1 hj2 hb3 hpb
      generalize bys L = lv at hj1 hj2 hb1 hb2 hb3 hpL
      have hcl : 0 ≤ cc ∧ cc ≤ av.length := by omega
      refine aw_seq (aw_region ?_)   -- law.go:226
      refine awl_go 2 (by simp <;> rfl) ?_
      refine awl_call1G hG hj1 Tryd.func5 rfl (by kernel_rfl) rfl rfl rfl rfl (by simp [hpa, hpb]) (by simp <;> rfl) ?_
      refine awl_end [2, 7, 8, 15, 16] [] (by simp <;> rfl) ?_
      refine aw_seq (aw_region ?_)   -- law.go:227
      refine awl_go 2 (by simp <;> rfl) ?_
      refine awl_call1G hG hj2 Tryd.func5 rfl (by kernel_rfl) rfl rfl rfl rfl (by simp [hpa, hpb]) (by simp <;> rfl) ?_
      refine awl_end [2, 7, 8, 15, 16, 17, 18] [] (by simp <;> rfl) ?_
      refine aw_seq ?_
      refine aw_seq (aw_region ?_)   -- law.go:228
      refine awl_go 6 (by simp <;> rfl) ?_
      refine awl_gcall (fun hg => hb1) Tryd.func6 rfl (by kernel_rfl) (by simp <;> rfl) rfl rfl (by simp <;> rfl) (by simp [hpL]) (by simp <;> rfl) ?_
      refine awl_go 8 (by simp <;> rfl) ?_
      refine awl_gcall (fun hg => hb2) Tryd.func6 rfl (by kernel_rfl) (by simp <;> rfl) rfl rfl (by simp <;> rfl) (by simp [hpL, hpa]) (by simp <;> rfl) ?_
      refine awl_go 5 (by simp <;> rfl) ?_
      refine awl_gcall (fun hg => hb3) Tryd.func6 rfl (by kernel_rfl) (by simp <;> rfl) rfl rfl (by simp <;> rfl) (by simp [hpL, hpb]) (by simp <;> rfl) ?_
      refine awl_end [2, 7, 104] [] (by simp <;> rfl) ?_
      refine aw_cond rfl (fun h6 => ?_) (fun h6 => aw_skip ?_)   -- if t104
      · exfalso
        simp at h6
        rcases hone h6.1.1 with h | h
        · exact h6.1.2 h
        · exact h6.2 h
      clear h6
      refine aw_viale ⟨[(2, .int .i64 cc), (7, .ro 1 av)], [], nx + 1000, 144⟩ ?_ ?_
      · refine aw_step [2, 7, 112] [] (by simp <;> rfl) ?_   -- law.go:231
        refine aw_cond rfl (fun h7 => ?_) (fun h7 => aw_skip ?_)   -- if t112
        · have h7' : cc = av.length := by
            rw [← hcc, if_pos (by simpa [hla] using h7)]; omega
          refine aw_one [2, 7] [] (by simp <;> rfl) ?_   -- law.go:232
          refine ⟨rfl, le_to [2, 7] [] (by simp [h7'] <;> rfl) (by simp <;> rfl) rfl (by simp only; omega)⟩
        · have h7' : cc = cut := by
            rw [← hcc, if_neg (by simpa [hla] using h7)]
          refine ⟨rfl, le_to [2, 7] [] (by simp [h7'] <;> rfl) (by simp <;> rfl) rfl (by simp only; omega)⟩
      refine aw_seq (aw_region ?_)   -- law.go:234
      refine awl_go 4 (by simp [hcl] <;> rfl) ?_
      refine awl_call1G hG hj3 Tryd.func5 rfl (by kernel_rfl) rfl rfl rfl (by simp <;> rfl) (by simp [hpa]) (by simp <;> rfl) ?_
      refine awl_end [7, 15, 16] [] (by simp <;> rfl) ?_
      refine aw_seq (aw_region ?_)   -- law.go:235
      refine awl_go 1 (by simp <;> rfl) ?_
      refine awl_call1G hG hj4 Tryd.func5 rfl (by kernel_rfl) rfl rfl rfl rfl (by simp [hpa]) (by simp <;> rfl) ?_
      refine awl_end [7, 15, 16, 17, 18] [] (by simp <;> rfl) ?_
      refine aw_seq (aw_region ?_)   -- law.go:236
      refine awl_go 9 (by simp <;> rfl) ?_
      refine awl_gcall (fun hg => hb4) Tryd.func6 rfl (by kernel_rfl) (by simp <;> rfl) rfl rfl (by simp <;> rfl) (by simp [hpa]) (by simp <;> rfl) ?_
      refine awl_go 4 (by simp <;> rfl) ?_
      refine awl_gcall (fun hg => hb4) Tryd.func6 rfl (by kernel_rfl) (by simp <;> rfl) rfl rfl (by simp <;> rfl) (by simp [hpa]) (by simp <;> rfl) ?_
      refine awl_end [6] [] (by simp <;> rfl) ?_
      exact aw_ret (ends_ret (by simp [Tryd.results3] <;> rfl) rfl)
end Go.Proofs.YtmkbhognijicjaaDoor
