import Derived.Test.YtliogkkhofhfcaaGreatDoorGI
/- Query: the parser's brackets and negations. No condition. -/
set_option linter.unusedSimpArgs false
set_option maxRecDepth 4000
namespace Go.Proofs.YtliogkkhofhfcaaGreatDoor
open Go.Eng

abbrev PR := Except (Nat × Int) (Qy × Nat)
def primP (orf : Nat → PR) (ts : List Tok) (i : Nat) : PR :=
  if (tkAt ts i).1 ≠ 2 then condP ts i else match orf (i + 1) with
    | .error e => .error e
    | .ok (x, j) => if (tkAt ts j).1 ≠ 3 then .error (j, 2) else .ok (x, j + 1)
def unP (orf : Nat → PR) (ts : List Tok) (i : Nat) : PR :=
  if isW (tkAt ts i) [110, 111, 116] = false then primP orf ts i else match primP orf ts (i + 1) with
    | .error e => .error e
    | .ok (x, j) => .ok (.mk 3 0 0 [] [] [x], j)
theorem condP_lt {ts : List Tok} {i j : Nat} {x : Qy} (h : condP ts i = .ok (x, j)) : i < j := by
  unfold condP at h
  repeat' split at h
  all_goals first
    | (injection h with h; injection h with _ h; omega)
    | cases h
theorem primP_lt {orf : Nat → PR} {ts : List Tok} (ho : ∀ i x j, orf i = .ok (x, j) → i < j) {i j : Nat} {x : Qy} (h : primP orf ts i = .ok (x, j)) : i < j := by
  unfold primP at h
  split at h
  · exact condP_lt h
  · split at h
    · cases h
    · rename_i y k hk
      split at h
      · cases h
      · injection h with h; injection h with _ h; have := ho _ _ _ hk; omega
theorem unP_lt {orf : Nat → PR} {ts : List Tok} (ho : ∀ i x j, orf i = .ok (x, j) → i < j) {i j : Nat} {x : Qy} (h : unP orf ts i = .ok (x, j)) : i < j := by
  unfold unP at h
  split at h
  · exact primP_lt ho h
  · split at h
    · cases h
    · rename_i y k hk
      injection h with h; injection h with _ h; have := primP_lt ho hk; omega

set_option maxHeartbeats 4000000 in
theorem primary_acs (ts : List Tok) (hgd : Gd ts) (d v i : Nat) (hi : i < ts.length) (orf : Nat → PR)
    (hor : i + 1 < ts.length → ACSQ gv Tryz.prog 28 [.bp d v 4 0 0] [(d, pOb v (tokVs ts) (i + 1) 0 0)] (PRes ts d v (orf (i + 1)))) :
    ACSQ gv Tryz.prog 94 [.bp d v 4 0 0] [(d, pOb v (tokVs ts) i 0 0)] (PRes ts d v (primP orf ts i)) := by
  have hfew := hgd.few
  have hkb : ∀ k : Nat, ¬ d = d + 1 + k := fun k => by omega
  have hkb' : ∀ k : Nat, ¬ d + 1 + k = d := fun k => by omega
  have htok := fun j (h : j < ts.length) => token_acs ts d v j 0 0 h
  have hfail := fun j (h : j < ts.length) => fail_acs ts d v j 0 0 2 h
  have hcond := condition_acs ts hgd d v i hi
  have hw := fun j (h : j < ts.length) => wrap_succ (k := j) (by omega)
  refine acsq_intro Tryz.func94 rfl (by show (1 : Nat) ≤ 44; omega) (fun w0 N0 nx0 hG => ?_)
  refine awk_step (d + 1) [0, 2] [d, d + 1 + 2] (by simp [Tryz.ntmps94] <;> rfl) ?_   -- parse.go:201
  refine aw_seq ?_
  refine aw_seq (aw_region ?_)   -- parse.go:202
  refine awlk_go (d + 1) 1 (by simp <;> rfl) ?_
  refine awl_callS1 (htok i hi) Tryz.func29 rfl (by kernel_rfl) (by simp [Eng.get]) (by simp) (by decide) rfl rfl rfl (by simp <;> rfl) (fun k o hk => get_one (by simp [Eng.get, hkb]) hk) (by simp <;> rfl) ?_
  refine awlk_end (d + 1) [0, 2, 9] [d, d + 1 + 2] (by simp [hkb, hkb'] <;> rfl) ?_
  refine aw_cond rfl (fun h1 => ?_) (fun h1 => aw_skip ?_)   -- if t9
  · have hn2 : (tkAt ts i).1 ≠ 2 := by simpa using h1
    have hP : primP orf ts i = condP ts i := by unfold primP; rw [if_pos hn2]
    rw [hP]
    refine aw_seq (aw_region ?_)   -- parse.go:203
    refine awlk_go (d + 1) 1 (by simp <;> rfl) ?_
    refine awl_callSQ hG hcond Tryz.func109 rfl (by kernel_rfl) rfl rfl rfl (by simp <;> rfl) (fun k o hk => get_one (by simp [Eng.get, hkb]) hk) ?_
    intro r outs nx hR hnx
    have hnx' : nx0 ≤ nx := by simp at hnx; omega
    cases hC : condP ts i with
    | error x =>
      obtain ⟨j, e⟩ := x
      rw [hC] at hR
      obtain ⟨rfl, rfl, hj⟩ := hR
      refine ⟨fun k hk => has_one hk, _, by simp [hkb, hkb'] <;> rfl, ?_⟩
      refine awlk_end (d + 1) [2, 3] [d, d + 1 + 2] (by simp [hkb, hkb'] <;> rfl) ?_
      exact aw_ret (endsSR (by simp only; omega) (by simp [Tryz.results94] <;> rfl) ⟨rfl, rfl, hj⟩ (fun k o hk => get_one (by simp [Eng.get, hkb]) hk))
    | ok x =>
      obtain ⟨⟨xk, xc, xn, xf, xs, xks⟩, j⟩ := x
      rw [hC] at hR
      obtain ⟨rfl, rfl, hj⟩ := hR
      have hpk := pureQ xks
      refine ⟨fun k hk => has_one hk, _, by simp [hkb, hkb', Qy.v] <;> rfl, ?_⟩
      generalize hxv : xks.map Qy.v = xv at hpk ⊢
      refine awlk_end (d + 1) [2, 3] [d, d + 1 + 2] (by simp [hkb, hkb'] <;> rfl) ?_
      exact aw_ret (endsSR (by simp only; omega) (by simp [Tryz.results94] <;> rfl) ⟨by simp [Qy.v, hxv], rfl, hj⟩ (fun k o hk => get_one (by simp [Eng.get, hkb]) hk))
  have hn2 : (tkAt ts i).1 = 2 := by simpa using h1
  have hi1 : i + 1 < ts.length := hgd.more i hi (by omega) (by omega)
  have hP : primP orf ts i = (match orf (i + 1) with
    | .error e => .error e
    | .ok (x, j) => if (tkAt ts j).1 ≠ 3 then .error (j, 2) else .ok (x, j + 1)) := by rw [primP, if_neg (by omega)]
  rw [hP]
  refine awk_step (d + 1) [0, 2] [d, d + 1 + 2] (by simp [hkb, hkb', hw i hi] <;> rfl) ?_   -- parse.go:205
  have hor := hor hi1
  refine aw_seq (aw_region ?_)   -- parse.go:206
  refine awlk_go (d + 1) 1 (by simp <;> rfl) ?_
  refine awl_callSQ hG hor Tryz.func28 rfl (by kernel_rfl) rfl rfl rfl (by simp <;> rfl) (fun k o hk => get_one (by simp [Eng.get, hkb]) hk) ?_
  intro r outs nx hR hnx
  have hnx' : nx0 ≤ nx := by simp at hnx; omega
  cases hC : orf (i + 1) with
  | error x =>
    obtain ⟨j, e⟩ := x
    rw [hC] at hR
    obtain ⟨rfl, rfl, hj⟩ := hR
    refine ⟨fun k hk => has_one hk, _, by simp [hkb, hkb'] <;> rfl, ?_⟩
    refine awlk_end (d + 1) [0, 2, 4, 5] [d, d + 1 + 2, d + 1 + 4] (by simp [hkb, hkb'] <;> rfl) ?_
    refine aw_seq ?_
    refine awk_step (d + 1) [0, 2, 4, 27] [d, d + 1 + 2, d + 1 + 4] (by simp [hkb, hkb'] <;> rfl) ?_   -- parse.go:207
    refine aw_cond rfl (fun h2 => ?_) (fun h2 => by simp at h2)   -- if t27
    refine awk_step (d + 1) [2, 3] [d, d + 1 + 2] (by simp [hkb, hkb'] <;> rfl) ?_   -- parse.go:208
    exact aw_ret (endsSR (by simp only; omega) (by simp [Tryz.results94] <;> rfl) ⟨rfl, rfl, hj⟩ (fun k o hk => get_one (by simp [Eng.get, hkb]) hk))
  | ok x =>
    obtain ⟨⟨xk, xc, xn, xf, xs, xks⟩, j⟩ := x
    rw [hC] at hR
    obtain ⟨rfl, rfl, hj⟩ := hR
    have hpk := pureQ xks
    refine ⟨fun k hk => has_one hk, _, by simp [hkb, hkb', Qy.v] <;> rfl, ?_⟩
    generalize hxv : xks.map Qy.v = xv at hpk ⊢
    refine awlk_end (d + 1) [0, 2, 4, 5] [d, d + 1 + 2, d + 1 + 4] (by simp [hkb, hkb'] <;> rfl) ?_
    refine aw_seq ?_
    refine awk_step (d + 1) [0, 2, 4, 27] [d, d + 1 + 2, d + 1 + 4] (by simp [hkb, hkb'] <;> rfl) ?_   -- parse.go:207
    refine aw_cond rfl (fun h2 => by simp at h2) (fun h2 => aw_skip ?_)   -- if t27
    refine aw_seq ?_
    refine aw_seq (aw_region ?_)   -- parse.go:210
    refine awlk_go (d + 1) 1 (by simp <;> rfl) ?_
    refine awl_callS1 (htok j hj) Tryz.func29 rfl (by kernel_rfl) (by simp [Eng.get]) (by simp) (by decide) rfl rfl rfl (by simp <;> rfl) (fun k o hk => get_one (by simp [Eng.get, hkb]) hk) (by simp <;> rfl) ?_
    refine awlk_end (d + 1) [0, 2, 4, 32] [d, d + 1 + 2, d + 1 + 4] (by simp [hkb, hkb'] <;> rfl) ?_
    refine aw_cond rfl (fun h3 => ?_) (fun h3 => aw_skip ?_)   -- if t32
    · have hn3 : (tkAt ts j).1 ≠ 3 := by simpa using h3
      simp only [if_pos hn3]
      refine aw_seq (aw_region ?_)   -- parse.go:211
      refine awlk_go (d + 1) 2 (by simp <;> rfl) ?_
      refine awl_callS1 (hfail j hj) Tryz.func30 rfl (by kernel_rfl) (by simp [Eng.get]) (by simp) (by decide) rfl rfl rfl (by simp <;> rfl) (fun k o hk => get_one (by simp [Eng.get, hkb]) hk) (by simp <;> rfl) ?_
      refine awlk_end (d + 1) [2, 3] [d, d + 1 + 2] (by simp [hkb, hkb'] <;> rfl) ?_
      exact aw_ret (endsSR (by simp only; omega) (by simp [Tryz.results94] <;> rfl) ⟨rfl, rfl, hj⟩ (fun k o hk => get_one (by simp [Eng.get, hkb]) hk))
    have hn3 : (tkAt ts j).1 = 3 := by simpa using h3
    have hj1 : j + 1 < ts.length := hgd.more j hj (by omega) (by omega)
    simp only [if_neg (show ¬ (tkAt ts j).1 ≠ 3 by omega)]
    refine awk_step (d + 1) [2, 4] [d, d + 1 + 2, d + 1 + 4] (by simp [hkb, hkb', hw j hj] <;> rfl) ?_   -- parse.go:213
    refine awk_step (d + 1) [2, 3] [d, d + 1 + 2] (by simp [hkb, hkb'] <;> rfl) ?_   -- parse.go:214
    exact aw_ret (endsSR (by simp only; omega) (by simp [Tryz.results94] <;> rfl) ⟨by simp [Qy.v, hxv], rfl, hj1⟩ (fun k o hk => get_one (by simp [Eng.get, hkb]) hk))
end Go.Proofs.YtliogkkhofhfcaaGreatDoor

/- Query: the parser's negations and chains. No condition. -/
set_option linter.unusedSimpArgs false
set_option maxRecDepth 4000
namespace Go.Proofs.YtliogkkhofhfcaaGreatDoor
open Go.Eng

set_option maxHeartbeats 4000000 in
theorem unary_acs (ts : List Tok) (hgd : Gd ts) (d v i : Nat) (hi : i < ts.length) (orf : Nat → PR)
    (hor : ∀ j, i < j → j < ts.length → ACSQ gv Tryz.prog 28 [.bp d v 4 0 0] [(d, pOb v (tokVs ts) j 0 0)] (PRes ts d v (orf j))) :
    ACSQ gv Tryz.prog 70 [.bp d v 4 0 0] [(d, pOb v (tokVs ts) i 0 0)] (PRes ts d v (unP orf ts i)) := by
  have hfew := hgd.few
  have hkb : ∀ k : Nat, ¬ d = d + 1 + k := fun k => by omega
  have hkb' : ∀ k : Nat, ¬ d + 1 + k = d := fun k => by omega
  have hacc := accept_acs ts hfew d v i 0 0 [110, 111, 116] hi
  have hpr := fun j (h : j < ts.length) (hij : i ≤ j) => primary_acs ts hgd d v j h orf (fun h' => hor (j + 1) (by omega) h')
  refine acsq_intro Tryz.func70 rfl (by show (1 : Nat) ≤ 24; omega) (fun w0 N0 nx0 hG => ?_)
  refine awk_step (d + 1) [0, 2] [d, d + 1 + 2] (by simp [Tryz.ntmps70] <;> rfl) ?_   -- parse.go:189
  refine aw_seq ?_
  refine aw_seq (aw_region ?_)   -- parse.go:190
  refine awlk_go (d + 1) 1 (by simp <;> rfl) ?_
  cases hb : isW (tkAt ts i) [110, 111, 116] with
  | false =>
    simp only [hb, Bool.false_eq_true, if_false] at hacc
    have hP : unP orf ts i = primP orf ts i := by unfold unP; rw [if_pos hb]
    rw [hP]
    have hcond := hpr i hi (Nat.le_refl _)
    refine awl_callS1 hacc Tryz.func69 rfl (by kernel_rfl) (by simp [Eng.get]) (by simp) (by decide) rfl rfl rfl (by simp <;> rfl) (fun k o hk => get_one (by simp [Eng.get, hkb]) hk) (by simp <;> rfl) ?_
    refine awlk_end (d + 1) [0, 2, 8] [d, d + 1 + 2] (by simp [hkb, hkb'] <;> rfl) ?_
    refine aw_cond rfl (fun h1 => ?_) (fun h1 => by simp at h1)   -- if t8
    refine aw_seq (aw_region ?_)   -- parse.go:191
    refine awlk_go (d + 1) 1 (by simp <;> rfl) ?_
    refine awl_callSQ hG hcond Tryz.func94 rfl (by kernel_rfl) rfl rfl rfl (by simp <;> rfl) (fun k o hk => get_one (by simp [Eng.get, hkb]) hk) ?_
    intro r outs nx hR hnx
    have hnx' : nx0 ≤ nx := by simp at hnx; omega
    cases hC : primP orf ts i with
    | error x =>
      obtain ⟨j, e⟩ := x
      rw [hC] at hR
      obtain ⟨rfl, rfl, hj⟩ := hR
      refine ⟨fun k hk => has_one hk, _, by simp [hkb, hkb'] <;> rfl, ?_⟩
      refine awlk_end (d + 1) [2, 3] [d, d + 1 + 2] (by simp [hkb, hkb'] <;> rfl) ?_
      exact aw_ret (endsSR (by simp only; omega) (by simp [Tryz.results70] <;> rfl) ⟨rfl, rfl, hj⟩ (fun k o hk => get_one (by simp [Eng.get, hkb]) hk))
    | ok x =>
      obtain ⟨⟨xk, xc, xn, xf, xs, xks⟩, j⟩ := x
      rw [hC] at hR
      obtain ⟨rfl, rfl, hj⟩ := hR
      have hpk := pureQ xks
      refine ⟨fun k hk => has_one hk, _, by simp [hkb, hkb', Qy.v] <;> rfl, ?_⟩
      generalize hxv : xks.map Qy.v = xv at hpk ⊢
      refine awlk_end (d + 1) [2, 3] [d, d + 1 + 2] (by simp [hkb, hkb'] <;> rfl) ?_
      exact aw_ret (endsSR (by simp only; omega) (by simp [Tryz.results70] <;> rfl) ⟨by simp [Qy.v, hxv], rfl, hj⟩ (fun k o hk => get_one (by simp [Eng.get, hkb]) hk))
  | true =>
  simp only [hb, if_true] at hacc
  have h6 := isW_kind hb
  have hi1 : i + 1 < ts.length := hgd.more i hi (by omega) (by omega)
  have hP : unP orf ts i = (match primP orf ts (i + 1) with
    | .error e => .error e
    | .ok (x, j) => .ok (.mk 3 0 0 [] [] [x], j)) := by rw [unP, if_neg (by rw [hb]; simp)] <;> rfl
  rw [hP]
  have hcond := hpr (i + 1) hi1 (by omega)
  refine awl_callS1 hacc Tryz.func69 rfl (by kernel_rfl) (by simp [Eng.get]) (by simp) (by decide) rfl rfl rfl (by simp <;> rfl) (fun k o hk => get_one (by simp [Eng.get, hkb]) hk) (by simp <;> rfl) ?_
  refine awlk_end (d + 1) [0, 2, 8] [d, d + 1 + 2] (by simp [hkb, hkb'] <;> rfl) ?_
  refine aw_cond rfl (fun h1 => by simp at h1) (fun h1 => aw_skip ?_)   -- if t8
  refine aw_seq (aw_region ?_)   -- parse.go:193
  refine awlk_go (d + 1) 1 (by simp <;> rfl) ?_
  refine awl_callSQ hG hcond Tryz.func94 rfl (by kernel_rfl) rfl rfl rfl (by simp <;> rfl) (fun k o hk => get_one (by simp [Eng.get, hkb]) hk) ?_
  intro r outs nx hR hnx
  have hnx' : nx0 ≤ nx := by simp at hnx; omega
  cases hC : primP orf ts (i + 1) with
  | error x =>
    obtain ⟨j, e⟩ := x
    rw [hC] at hR
    obtain ⟨rfl, rfl, hj⟩ := hR
    refine ⟨fun k hk => has_one hk, _, by simp [hkb, hkb'] <;> rfl, ?_⟩
    refine awlk_end (d + 1) [0, 2, 4, 5] [d, d + 1 + 2, d + 1 + 4] (by simp [hkb, hkb'] <;> rfl) ?_
    refine aw_seq ?_
    refine awk_step (d + 1) [0, 2, 4, 19] [d, d + 1 + 2, d + 1 + 4] (by simp [hkb, hkb'] <;> rfl) ?_   -- parse.go:194
    refine aw_cond rfl (fun h2 => ?_) (fun h2 => by simp at h2)   -- if t19
    refine awk_step (d + 1) [2, 3] [d, d + 1 + 2] (by simp [hkb, hkb'] <;> rfl) ?_   -- parse.go:195
    exact aw_ret (endsSR (by simp only; omega) (by simp [Tryz.results70] <;> rfl) ⟨rfl, rfl, hj⟩ (fun k o hk => get_one (by simp [Eng.get, hkb]) hk))
  | ok x =>
    obtain ⟨⟨xk, xc, xn, xf, xs, xks⟩, j⟩ := x
    rw [hC] at hR
    obtain ⟨rfl, rfl, hj⟩ := hR
    have hpk := pureQ xks
    refine ⟨fun k hk => has_one hk, _, by simp [hkb, hkb', Qy.v] <;> rfl, ?_⟩
    generalize hxv : xks.map Qy.v = xv at hpk ⊢
    refine awlk_end (d + 1) [0, 2, 4, 5] [d, d + 1 + 2, d + 1 + 4] (by simp [hkb, hkb'] <;> rfl) ?_
    refine aw_seq ?_
    refine awk_step (d + 1) [0, 2, 4, 19] [d, d + 1 + 2, d + 1 + 4] (by simp [hkb, hkb'] <;> rfl) ?_   -- parse.go:194
    refine aw_cond rfl (fun h2 => by simp at h2) (fun h2 => aw_skip ?_)   -- if t19
    refine awk_step (d + 1) [2, 3] [d, d + 1 + 2, d + 1 + 22] (by simp [hkb, hkb'] <;> rfl) ?_   -- parse.go:197
    refine aw_freeze (d + 1 + 22) [2, 3] [d, d + 1 + 2] (by simp [hkb, hkb', hpk, Eng.get] <;> rfl) ?_
    exact aw_ret (endsSR (by simp only; omega) (by simp [Tryz.results70] <;> rfl) ⟨by simp [Qy.v, hxv], rfl, hj⟩ (fun k o hk => get_one (by simp [Eng.get, hkb]) hk))
end Go.Proofs.YtliogkkhofhfcaaGreatDoor

/- Query: the parser's chains. No condition. -/
set_option linter.unusedSimpArgs false
set_option maxRecDepth 4000
namespace Go.Proofs.YtliogkkhofhfcaaGreatDoor
open Go.Eng

def chainL (mem : Nat → PR) (ts : List Tok) (w : List UInt8) : Nat → Nat → List Qy → Except (Nat × Int) (List Qy × Nat)
  | 0, j, acc => .ok (acc, j)
  | n + 1, j, acc => if isW (tkAt ts j) w = true then (match mem (j + 1) with
      | .error e => .error e
      | .ok (x, j') => chainL mem ts w n j' (acc ++ [x])) else .ok (acc, j)
def chainP (mem : Nat → PR) (ts : List Tok) (w : List UInt8) (k : Int) (i : Nat) : PR :=
  match mem i with
  | .error e => .error e
  | .ok (x, j) => match chainL mem ts w ts.length j [x] with
    | .error e => .error e
    | .ok (l, j') => .ok (if l.length = 1 then x else .mk k 0 0 [] [] l, j')
theorem chainL_le {mem : Nat → PR} {ts : List Tok} {w : List UInt8} (hm : ∀ i x j, mem i = .ok (x, j) → i < j) : ∀ (n j : Nat) (acc l : List Qy) (j' : Nat), chainL mem ts w n j acc = .ok (l, j') → j ≤ j'
  | 0, j, acc, l, j', h => by simp [chainL] at h; omega
  | n + 1, j, acc, l, j', h => by
    rw [chainL] at h
    split at h
    · split at h
      · cases h
      · rename_i x k hk
        have h1 := chainL_le hm n _ _ _ _ h
        have h2 := hm _ _ _ hk
        omega
    · injection h with h; injection h with _ h; omega
theorem chainP_lt {mem : Nat → PR} {ts : List Tok} {w : List UInt8} {k : Int} (hm : ∀ i x j, mem i = .ok (x, j) → i < j) {i j : Nat} {x : Qy} (h : chainP mem ts w k i = .ok (x, j)) : i < j := by
  unfold chainP at h
  split at h
  · cases h
  · rename_i y a ha
    split at h
    · cases h
    · rename_i l b hb
      injection h with h; injection h with _ h
      have h1 := hm _ _ _ ha
      have h2 := chainL_le hm _ _ _ _ _ hb
      omega

set_option maxHeartbeats 8000000 in
theorem chain_acs (ts : List Tok) (hgd : Gd ts) (d v i : Nat) (hi : i < ts.length) (w : List UInt8) (k : Int) (mem : Nat → PR) (F : FuncId) (fn : Func) (hF : Tryz.prog.funcs[F]? = some fn) (hFb : fn.body.isSome = true) (hFn : (fn.name == "runtime.NumGoroutine") = false)
    (hmem : ∀ j, i ≤ j → j < ts.length → ACSQ gv Tryz.prog F [.bp d v 4 0 0] [(d, pOb v (tokVs ts) j 0 0)] (PRes ts d v (mem j))) (hlt : ∀ i x j, mem i = .ok (x, j) → i < j) :
    ACSQ gv Tryz.prog 49 [.bp d v 4 0 0, .str w, .int .i64 k, .clo F [.bp d v 4 0 0] []] [(d, pOb v (tokVs ts) i 0 0)] (PRes ts d v (chainP mem ts w k i)) := by
  have hfew := hgd.few
  have hkb : ∀ k : Nat, ¬ d = d + 1 + k := fun k => by omega
  have hkb' : ∀ k : Nat, ¬ d + 1 + k = d := fun k => by omega
  have hacc := fun j (h : j < ts.length) => accept_acs ts hfew d v j 0 0 w h
  have hm0 := hmem i (Nat.le_refl _) hi
  refine acsq_intro Tryz.func49 rfl (by show (4 : Nat) ≤ 47; omega) (fun w0 N0 nx0 hG => ?_)
  refine awk_step (d + 1) [0, 1, 2, 3, 8] [d, d + 1 + 8] (by simp [Tryz.ntmps49] <;> rfl) ?_   -- parse.go:169
  refine aw_seq (aw_region ?_)   -- parse.go:170
  refine awlk_go (d + 1) 1 (by simp <;> rfl) ?_
  refine awl_callCQ (us := [.bp d v 4 0 0]) (vs := []) hG hm0 hF hFb hFn rfl rfl (by simp <;> rfl) (by simp <;> rfl) (fun k o hk => get_one (by simp [Eng.get, hkb]) hk) ?_
  intro r outs nx hR hnx
  have hnx' : nx0 ≤ nx := by simp at hnx; omega
  cases hC : mem i with
  | error x =>
    obtain ⟨j, e⟩ := x
    rw [hC] at hR
    obtain ⟨rfl, rfl, hj⟩ := hR
    have hP : chainP mem ts w k i = .error (j, e) := by simp only [chainP, hC]
    rw [hP]
    refine ⟨fun k hk => has_one hk, _, by simp [hkb, hkb'] <;> rfl, ?_⟩
    refine awlk_end (d + 1) [0, 1, 2, 3, 8, 10, 11] [d, d + 1 + 8, d + 1 + 10] (by simp [hkb, hkb'] <;> rfl) ?_
    refine aw_seq ?_
    refine awk_step (d + 1) [8, 21] [d, d + 1 + 8] (by simp [hkb, hkb'] <;> rfl) ?_   -- parse.go:171
    refine aw_cond rfl (fun h2 => ?_) (fun h2 => by simp at h2)   -- if t21
    refine awk_step (d + 1) [8, 9] [d, d + 1 + 8] (by simp [hkb, hkb'] <;> rfl) ?_   -- parse.go:172
    exact aw_ret (endsSR (by simp only; omega) (by simp [Tryz.results49] <;> rfl) ⟨rfl, rfl, hj⟩ (fun k o hk => get_one (by simp [Eng.get, hkb]) hk))
  | ok x =>
    obtain ⟨x, j⟩ := x
    rw [hC] at hR
    obtain ⟨rfl, rfl, hj⟩ := hR
    have hij := hlt _ _ _ hC
    have hP : chainP mem ts w k i = (match chainL mem ts w ts.length j [x] with
      | .error e => .error e
      | .ok (l, j') => .ok (if l.length = 1 then x else .mk k 0 0 [] [] l, j')) := by simp only [chainP, hC]
    rw [hP]
    generalize hRL : chainL mem ts w ts.length j [x] = RL
    obtain ⟨xk, xc, xn, xf, xs, xks⟩ := x
    have hpk := pureQ xks
    refine ⟨fun k hk => has_one hk, _, by simp [hkb, hkb', Qy.v] <;> rfl, ?_⟩
    generalize hxv : xks.map Qy.v = xv at hpk ⊢
    refine awlk_end (d + 1) [0, 1, 2, 3, 8, 10, 11] [d, d + 1 + 8, d + 1 + 10] (by simp [hkb, hkb'] <;> rfl) ?_
    refine aw_seq ?_
    refine awk_step (d + 1) [0, 1, 2, 3, 8, 10, 21] [d, d + 1 + 8, d + 1 + 10] (by simp [hkb, hkb'] <;> rfl) ?_   -- parse.go:171
    refine aw_cond rfl (fun h2 => by simp at h2) (fun h2 => aw_skip ?_)   -- if t21
    refine awk_step (d + 1) [0, 1, 2, 3, 8, 10, 12] [d, d + 1 + 8, d + 1 + 10, d + 1 + 24] (by simp [hkb, hkb'] <;> rfl) ?_   -- parse.go:174
    refine aw_seq (aw_block ?_)
    refine aw_loop (fun p : Nat × List Qy × Nat × Nat × Nat => ⟨[(0, .bp d v 4 0 0), (1, .str w), (2, .int .i64 k), (3, .clo F [.bp d v 4 0 0] []), (8, .bp (d + 1 + 8) nx0 6 0 0), (10, .bp (d + 1 + 10) (nx + 5) 6 0 0), (12, .sl (d + 1 + 24) p.2.2.2.1 6 (p.2.1.map Qy.v).length)],
      [(d, pOb v (tokVs ts) p.1 0 0), (d + 1 + 8, qOb nx0 0 0 0 [] [] .nils), (d + 1 + 10, qOb (nx + 5) xk xc xn xf xs (.ro 6 xv)), (d + 1 + 24, ⟨p.2.2.2.1, 6, 24, p.2.1.map Qy.v⟩)], p.2.2.2.2, 47⟩)
      (fun p => i < p.1 ∧ p.1 < ts.length ∧ p.2.1.length ≤ p.1 ∧ ts.length ≤ p.2.2.1 + p.1 ∧ nx0 ≤ p.2.2.2.2 ∧ chainL mem ts w p.2.2.1 p.1 p.2.1 = RL) (fun p => ts.length - p.1) (j, [.mk xk xc xn xf xs xks], ts.length, _, _) ⟨hij, hj, by simp; omega, by simp only; omega, ?_, hRL⟩ (by simp [Qy.v, hxv]; exact AS.le_refl _) ?_
    · simp only; omega
    rintro ⟨a, acc, n, vr, nx1⟩ ⟨hia, hja, hal, hn, hnx1, hR⟩
    simp only at hia hja hal hn hnx1 hR ⊢
    have hpacc := pureQ acc
    have hlen : (acc.map Qy.v).length = acc.length := by simp
    generalize hav : acc.map Qy.v = av at hpacc hlen ⊢
    obtain ⟨m, rfl⟩ : ∃ m, n = m + 1 := ⟨n - 1, by omega⟩
    rw [chainL] at hR
    have hac := hacc a hja
    refine aw_seq ?_
    refine aw_seq (aw_region ?_)   -- parse.go:175
    refine awlk_go (d + 1) 2 (by simp <;> rfl) ?_
    cases hb : isW (tkAt ts a) w with
    | false =>
      simp only [hb, Bool.false_eq_true, if_false] at hac hR
      refine awl_callS1 hac Tryz.func69 rfl (by kernel_rfl) (by simp [Eng.get]) (by simp) (by decide) rfl rfl rfl (by simp <;> rfl) (fun k o hk => get_one (by simp [Eng.get, hkb]) hk) (by simp <;> rfl) ?_
      refine awlk_end (d + 1) [2, 8, 10, 12, 27] [d, d + 1 + 8, d + 1 + 10, d + 1 + 24] (by simp [hkb, hkb'] <;> rfl) ?_
      refine aw_cond rfl (fun h2 => by simp at h2) (fun h2 => ?_)   -- if t27
      refine aw_exit ?_
      rw [← hR]
      simp only
      refine aw_seq ?_
      refine awk_step (d + 1) [2, 8, 10, 12, 42] [d, d + 1 + 8, d + 1 + 10, d + 1 + 24] (by simp [hkb, hkb'] <;> rfl) ?_   -- parse.go:182
      refine aw_cond rfl (fun h3 => ?_) (fun h3 => aw_skip ?_)   -- if t42
      · have h1 : acc.length = 1 := by simp at h3; omega
        rw [if_pos h1]
        refine awk_step (d + 1) [8, 9] [d, d + 1 + 8] (by simp [hkb, hkb'] <;> rfl) ?_   -- parse.go:183
        exact aw_ret (endsSR (by simp only; omega) (by simp [Tryz.results49] <;> rfl) ⟨by simp [Qy.v, hxv], rfl, hja⟩ (fun k o hk => get_one (by simp [Eng.get, hkb]) hk))
      have h1 : ¬ acc.length = 1 := by simp at h3; omega
      rw [if_neg h1]
      refine aw_freeze (d + 1 + 24) [2, 8, 12] [d, d + 1 + 8] (by simp [hkb, hkb', hpacc, Eng.get] <;> rfl) ?_
      refine awk_step (d + 1) [8, 9] [d, d + 1 + 8] (by simp [hkb, hkb'] <;> rfl) ?_   -- parse.go:185
      exact aw_ret (endsSR (by simp only; omega) (by simp [Tryz.results49] <;> rfl) ⟨by simp [Qy.v, hav], rfl, hja⟩ (fun k o hk => get_one (by simp [Eng.get, hkb]) hk))
    | true =>
    simp only [hb, if_true] at hac hR
    have h6 := isW_kind hb
    have ha1 : a + 1 < ts.length := hgd.more a hja (by omega) (by omega)
    have hm1 := hmem (a + 1) (by omega) ha1
    refine awl_callS1 hac Tryz.func69 rfl (by kernel_rfl) (by simp [Eng.get]) (by simp) (by decide) rfl rfl rfl (by simp <;> rfl) (fun k o hk => get_one (by simp [Eng.get, hkb]) hk) (by simp <;> rfl) ?_
    refine awlk_end (d + 1) [0, 1, 2, 3, 8, 10, 12, 27] [d, d + 1 + 8, d + 1 + 10, d + 1 + 24] (by simp [hkb, hkb'] <;> rfl) ?_
    refine aw_cond rfl (fun h2 => aw_skip ?_) (fun h2 => by simp at h2)   -- if t27
    refine aw_block ?_
    refine aw_seq (aw_region ?_)   -- parse.go:176
    refine awlk_go (d + 1) 1 (by simp <;> rfl) ?_
    refine awl_callCQ (us := [.bp d v 4 0 0]) (vs := []) hG hm1 hF hFb hFn rfl rfl (by simp <;> rfl) (by simp <;> rfl) (fun k o hk => get_one (by simp [Eng.get, hkb]) hk) ?_
    intro r outs nx2 hR2 hnx2
    have hnx2' : nx0 ≤ nx2 := by simp at hnx2; omega
    cases hC2 : mem (a + 1) with
    | error x =>
      obtain ⟨j', e⟩ := x
      rw [hC2] at hR2 hR
      obtain ⟨rfl, rfl, hj'⟩ := hR2
      simp only at hR
      rw [← hR]
      refine ⟨fun k hk => has_one hk, _, by simp [hkb, hkb'] <;> rfl, ?_⟩
      refine awlk_end (d + 1) [8, 13, 14] [d, d + 1 + 8, d + 1 + 13] (by simp [hkb, hkb'] <;> rfl) ?_
      refine aw_seq ?_
      refine awk_step (d + 1) [8, 34] [d, d + 1 + 8] (by simp [hkb, hkb'] <;> rfl) ?_   -- parse.go:177
      refine aw_cond rfl (fun h2 => ?_) (fun h2 => by simp at h2)   -- if t34
      refine awk_step (d + 1) [8, 9] [d, d + 1 + 8] (by simp [hkb, hkb'] <;> rfl) ?_   -- parse.go:178
      exact aw_ret (endsSR (by simp only; omega) (by simp [Tryz.results49] <;> rfl) ⟨rfl, rfl, hj'⟩ (fun k o hk => get_one (by simp [Eng.get, hkb]) hk))
    | ok x =>
      obtain ⟨y, j'⟩ := x
      have hj2 := hlt _ _ _ hC2
      rw [hC2] at hR2 hR
      obtain ⟨rfl, rfl, hj'⟩ := hR2
      simp only at hR
      obtain ⟨yk, yc, yn, yf, ys, yks⟩ := y
      have hpy := pureQ yks
      refine ⟨fun k hk => has_one hk, _, by simp [hkb, hkb', Qy.v] <;> rfl, ?_⟩
      generalize hyv : yks.map Qy.v = yv at hpy ⊢
      have hb1 : av.length + 1 ≤ maxLen := by rw [hlen]; simp [maxLen]; omega
      have hb2 : (av.length + 1) * 80 ≤ 140737488355328 := by omega
      refine awlk_end (d + 1) [0, 1, 2, 3, 8, 10, 12, 13, 14] [d, d + 1 + 8, d + 1 + 10, d + 1 + 13, d + 1 + 24] (by simp [hkb, hkb'] <;> rfl) ?_
      refine aw_seq ?_
      refine awk_step (d + 1) [0, 1, 2, 3, 8, 10, 12, 13, 34] [d, d + 1 + 8, d + 1 + 10, d + 1 + 13, d + 1 + 24] (by simp [hkb, hkb'] <;> rfl) ?_   -- parse.go:177
      refine aw_cond rfl (fun h2 => by simp at h2) (fun h2 => aw_skip ?_)   -- if t34
      refine awk_one (d + 1) [0, 1, 2, 3, 8, 10, 12] [d, d + 1 + 8, d + 1 + 10, d + 1 + 24] (by simp [hkb, hkb', hb1, hb2] <;> rfl) ?_   -- parse.go:180
      refine ⟨(j', acc ++ [.mk yk yc yn yf ys yks], m, nx2 + 8 + 2 + 3, nx2 + 8 + 2 + 5), ⟨by simp only; omega, hj', by simp; omega, by simp only; omega, by simp only; omega, hR⟩, by simp only; omega, ?_⟩
      simp only [List.map_append, hav, List.map_cons, List.map_nil, Qy.v, hyv, List.length_append, List.length_cons, List.length_nil]
      exact AS.le_refl _
end Go.Proofs.YtliogkkhofhfcaaGreatDoor

/- Query: the parser's conjunctions and disjunctions. No condition. -/
set_option linter.unusedSimpArgs false
set_option maxRecDepth 4000
namespace Go.Proofs.YtliogkkhofhfcaaGreatDoor
open Go.Eng

def andP (orf : Nat → PR) (ts : List Tok) (i : Nat) : PR := chainP (unP orf ts) ts [97, 110, 100] 1 i
def orP : Nat → List Tok → Nat → PR
  | 0, _, i => .error (i, 2)
  | n + 1, ts, i => chainP (andP (orP n ts) ts) ts [111, 114] 2 i
theorem andP_lt {orf : Nat → PR} {ts : List Tok} (ho : ∀ i x j, orf i = .ok (x, j) → i < j) : ∀ i x j, andP orf ts i = .ok (x, j) → i < j :=
  fun _ _ _ h => chainP_lt (fun _ _ _ h => unP_lt ho h) h
theorem orP_lt (ts : List Tok) : ∀ (n : Nat) (i : Nat) (x : Qy) (j : Nat), orP n ts i = .ok (x, j) → i < j
  | 0, i, x, j, h => by simp [orP] at h
  | n + 1, i, x, j, h => by
    rw [orP] at h
    exact chainP_lt (andP_lt (orP_lt ts n)) h

set_option maxHeartbeats 4000000 in
theorem and_acs (ts : List Tok) (hgd : Gd ts) (d v i : Nat) (hi : i < ts.length) (orf : Nat → PR)
    (hor : ∀ j, i < j → j < ts.length → ACSQ gv Tryz.prog 28 [.bp d v 4 0 0] [(d, pOb v (tokVs ts) j 0 0)] (PRes ts d v (orf j))) (hlt : ∀ i x j, orf i = .ok (x, j) → i < j) :
    ACSQ gv Tryz.prog 50 [.bp d v 4 0 0] [(d, pOb v (tokVs ts) i 0 0)] (PRes ts d v (andP orf ts i)) := by
  have hkb : ∀ k : Nat, ¬ d = d + 1 + k := fun k => by omega
  have hkb' : ∀ k : Nat, ¬ d + 1 + k = d := fun k => by omega
  have hch := chain_acs ts hgd d v i hi [97, 110, 100] 1 (unP orf ts) 70 _ Tryz.func70 rfl (by kernel_rfl) (fun j hij hj => unary_acs ts hgd d v j hj orf (fun j' h h' => hor j' (by omega) h')) (fun _ _ _ h => unP_lt hlt h)
  refine acsq_intro Tryz.func50 rfl (by show (1 : Nat) ≤ 10; omega) (fun w0 N0 nx0 hG => ?_)
  refine awk_step (d + 1) [0, 2] [d, d + 1 + 2] (by simp [Tryz.ntmps50] <;> rfl) ?_
  refine aw_seq (aw_region ?_)
  refine awlk_go (d + 1) 3 (by simp <;> rfl) ?_
  refine awl_callSQ hG hch Tryz.func49 rfl (by kernel_rfl) rfl rfl rfl (by simp <;> rfl) (fun k o hk => get_one (by simp [Eng.get, hkb]) hk) ?_
  intro r outs nx hR hnx
  have hnx' : nx0 ≤ nx := by simp at hnx; omega
  rw [andP]
  cases hC : chainP (unP orf ts) ts [97, 110, 100] 1 i with
  | error x =>
    obtain ⟨j, e⟩ := x
    rw [hC] at hR
    obtain ⟨rfl, rfl, hj⟩ := hR
    refine ⟨fun k hk => has_one hk, _, by simp [hkb, hkb'] <;> rfl, ?_⟩
    refine awlk_end (d + 1) [2, 3] [d, d + 1 + 2] (by simp [hkb, hkb'] <;> rfl) ?_
    exact aw_ret (endsSR (by simp only; omega) (by simp [Tryz.results50] <;> rfl) ⟨rfl, rfl, hj⟩ (fun k o hk => get_one (by simp [Eng.get, hkb]) hk))
  | ok x =>
    obtain ⟨⟨xk, xc, xn, xf, xs, xks⟩, j⟩ := x
    rw [hC] at hR
    obtain ⟨rfl, rfl, hj⟩ := hR
    have hpk := pureQ xks
    refine ⟨fun k hk => has_one hk, _, by simp [hkb, hkb', Qy.v] <;> rfl, ?_⟩
    generalize hxv : xks.map Qy.v = xv at hpk ⊢
    refine awlk_end (d + 1) [2, 3] [d, d + 1 + 2] (by simp [hkb, hkb'] <;> rfl) ?_
    exact aw_ret (endsSR (by simp only; omega) (by simp [Tryz.results50] <;> rfl) ⟨by simp [Qy.v, hxv], rfl, hj⟩ (fun k o hk => get_one (by simp [Eng.get, hkb]) hk))

set_option maxHeartbeats 4000000 in
theorem or_acs (ts : List Tok) (hgd : Gd ts) : ∀ (n d v i : Nat), i < ts.length → ts.length ≤ n + i →
    ACSQ gv Tryz.prog 28 [.bp d v 4 0 0] [(d, pOb v (tokVs ts) i 0 0)] (PRes ts d v (orP n ts i))
  | 0, d, v, i, hi, hn => by omega
  | n + 1, d, v, i, hi, hn => by
    have hkb : ∀ k : Nat, ¬ d = d + 1 + k := fun k => by omega
    have hkb' : ∀ k : Nat, ¬ d + 1 + k = d := fun k => by omega
    have hch := chain_acs ts hgd d v i hi [111, 114] 2 (andP (orP n ts) ts) 50 _ Tryz.func50 rfl (by kernel_rfl) (fun j hij hj => and_acs ts hgd d v j hj (orP n ts) (fun j' h h' => or_acs ts hgd n d v j' h' (by omega)) (orP_lt ts n)) (andP_lt (orP_lt ts n))
    refine acsq_intro Tryz.func28 rfl (by show (1 : Nat) ≤ 10; omega) (fun w0 N0 nx0 hG => ?_)
    refine awk_step (d + 1) [0, 2] [d, d + 1 + 2] (by simp [Tryz.ntmps28] <;> rfl) ?_
    refine aw_seq (aw_region ?_)
    refine awlk_go (d + 1) 3 (by simp <;> rfl) ?_
    refine awl_callSQ hG hch Tryz.func49 rfl (by kernel_rfl) rfl rfl rfl (by simp <;> rfl) (fun k o hk => get_one (by simp [Eng.get, hkb]) hk) ?_
    intro r outs nx hR hnx
    have hnx' : nx0 ≤ nx := by simp at hnx; omega
    rw [orP]
    cases hC : chainP (andP (orP n ts) ts) ts [111, 114] 2 i with
    | error x =>
      obtain ⟨j, e⟩ := x
      rw [hC] at hR
      obtain ⟨rfl, rfl, hj⟩ := hR
      refine ⟨fun k hk => has_one hk, _, by simp [hkb, hkb'] <;> rfl, ?_⟩
      refine awlk_end (d + 1) [2, 3] [d, d + 1 + 2] (by simp [hkb, hkb'] <;> rfl) ?_
      exact aw_ret (endsSR (by simp only; omega) (by simp [Tryz.results28] <;> rfl) ⟨rfl, rfl, hj⟩ (fun k o hk => get_one (by simp [Eng.get, hkb]) hk))
    | ok x =>
      obtain ⟨⟨xk, xc, xn, xf, xs, xks⟩, j⟩ := x
      rw [hC] at hR
      obtain ⟨rfl, rfl, hj⟩ := hR
      have hpk := pureQ xks
      refine ⟨fun k hk => has_one hk, _, by simp [hkb, hkb', Qy.v] <;> rfl, ?_⟩
      generalize hxv : xks.map Qy.v = xv at hpk ⊢
      refine awlk_end (d + 1) [2, 3] [d, d + 1 + 2] (by simp [hkb, hkb'] <;> rfl) ?_
      exact aw_ret (endsSR (by simp only; omega) (by simp [Tryz.results28] <;> rfl) ⟨by simp [Qy.v, hxv], rfl, hj⟩ (fun k o hk => get_one (by simp [Eng.get, hkb]) hk))
end Go.Proofs.YtliogkkhofhfcaaGreatDoor

/- Query: Parse. No condition. -/
set_option linter.unusedSimpArgs false
set_option maxRecDepth 4000
namespace Go.Proofs.YtliogkkhofhfcaaGreatDoor
open Go.Eng

theorem symb_text (c : UInt8) (r : List UInt8) : (symb c r).2.1.length ≤ r.length + 1 := by
  unfold symb
  split
  · simp
  split
  · simp
  split
  · split
    · simp
    split
    · simp
    · simp; omega
  split
  · rename_i h
    have : 1 ≤ r.length := by cases r with
      | nil => simp at h
      | cons a r => simp
    split <;> simp <;> omega
  · split <;> simp
def GdF (l : List Tok) (n : Nat) : Prop := 1 ≤ l.length ∧ l.length ≤ n + 1 ∧ (∀ i, i < l.length → (tkAt l i).1 ≠ 0 → (tkAt l i).1 ≠ 1 → i + 1 < l.length) ∧ ∀ i, (tkAt l i).2.2.length ≤ n
theorem GdF.cons {l : List Tok} {n m : Nat} {t : Tok} (h : GdF l n) (hm : n < m) (ht : t.2.2.length ≤ m) : GdF (t :: l) m := by
  obtain ⟨h1, h2, h3, h4⟩ := h
  refine ⟨by simp, by simp; omega, fun i hi => ?_, fun i => ?_⟩
  · cases i with
    | zero => intro _ _; simp; omega
    | succ i =>
      intro a b
      have := h3 i (by simpa using hi) a b
      simp; omega
  · cases i with
    | zero => exact ht
    | succ i => exact Nat.le_trans (h4 i) (by omega)
theorem GdF.mono {l : List Tok} {n m : Nat} (h : GdF l n) (hm : n ≤ m) : GdF l m := ⟨h.1, by have := h.2.1; omega, h.2.2.1, fun i => Nat.le_trans (h.2.2.2 i) hm⟩
theorem GdF.one {a : Nat} {k : Int} (n : Nat) (h : k = 0 ∨ k = 1) : GdF [(k, a, [])] n := by
  refine ⟨by simp, by simp, fun i hi a1 a2 => ?_, fun i => ?_⟩
  · have : i = 0 := by simpa using hi
    subst this
    rcases h with rfl | rfl
    · exact absurd rfl a1
    · exact absurd rfl a2
  · cases i <;> simp [tkAt]
theorem takeWhile_le (p : UInt8 → Bool) : ∀ l : List UInt8, (l.takeWhile p).length ≤ l.length := fun l => (List.takeWhile_prefix p).length_le
theorem gdF : ∀ (m : Nat) (s : List UInt8) (i : Nat), s.length < m → GdF (toksF m s i) s.length
  | 0, s, i, h => by omega
  | m + 1, [], i, h => GdF.one 0 (.inl rfl)
  | m + 1, c :: r, i, h => by
    simp only [List.length_cons] at h
    rw [toksF]
    split
    · exact (gdF m r (i + 1) (by omega)).mono (by simp)
    split
    · rename_i hc
      have hd : ((c :: r).dropWhile inWB).length ≤ r.length := by
        rw [List.dropWhile_cons, hc]
        simp only [if_true]
        exact (List.dropWhile_suffix _).length_le
      refine (gdF m ((c :: r).dropWhile inWB) _ (by omega)).cons (by simp only [List.length_cons]; omega) (takeWhile_le _ _)
    · split
      · rename_i h1
        have h2 : (symb c r).2.1 = [] := by
          revert h1
          unfold symb
          repeat' split
          all_goals intro h; first | rfl | cases h
        rw [h1, h2]
        exact GdF.one _ (.inr rfl)
      · refine (gdF m (r.drop ((symb c r).2.2 - 1)) _ (by simp; omega)).cons (by simp; omega) (symb_text c r)
theorem gd_toks (s : List UInt8) (hs : s.length ≤ 1000) : Gd (toks s 0) := by
  obtain ⟨h1, h2, h3, h4⟩ := gdF (s.length + 1) s 0 (by omega)
  exact ⟨by unfold toks; omega, h3, fun i => Nat.le_trans (h4 i) hs⟩
theorem toks_pos (s : List UInt8) : 0 < (toks s 0).length := (gdF (s.length + 1) s 0 (by omega)).1
def parseP (s : List UInt8) : Except (Nat × Int) Qy :=
  if 1000 < s.length then .error (0, 5) else match orP (toks s 0).length (toks s 0) 0 with
    | .error (j, e) => .error ((tkAt (toks s 0) j).2.1, e)
    | .ok (x, j) => if (tkAt (toks s 0) j).1 ≠ 0 then .error ((tkAt (toks s 0) j).2.1, 2) else if canonB x = true then .ok x else .error (0, 5)
def q0 : Qy := .mk 0 0 0 [] [] []
def parseV (s : List UInt8) : V := match parseP s with
  | .error (a, e) => .tup [q0.v, .int .i64 (a : Nat), .int .i64 e]
  | .ok x => .tup [x.v, .int .i64 0, .int .i64 0]
theorem relax_zero {a e : Int} : Relax (.tup [.agg [.int .i64 0, .int .i64 0, .int .i64 0, .str [], .str [], .nils], .int .i64 a, .int .i64 e]) (.tup [q0.v, .int .i64 a, .int .i64 e]) := by
  simp only [q0, Qy.v, List.map_nil]
  exact Relax.tup (.cons (Relax.agg (.cons (.refl _) (.cons (.refl _) (.cons (.refl _) (.cons (.refl _) (.cons (.refl _) (.cons (.nils 6) .nil))))))) (.refl _))
set_option maxHeartbeats 4000000 in
theorem parse_acq (s : List UInt8) : ACQ gv Tryz.prog 13 [.str s] (fun r => r = parseV s) := by
  refine ACQ.relaxP ?_
  refine acq_intro Tryz.func13 rfl (by show (1 : Nat) ≤ 46; omega) (fun w0 N0 hG => ?_)
  refine aw_step [0, 2] [2] (by simp [Tryz.ntmps13] <;> rfl) ?_   -- parse.go:111
  refine aw_seq ?_
  refine aw_step [0, 2, 10] [2] (by simp <;> rfl) ?_   -- parse.go:112
  refine aw_cond rfl (fun h1 => ?_) (fun h1 => aw_skip ?_)   -- if t10
  · have hb : 1000 < s.length := by simp at h1; omega
    have hP : parseV s = .tup [q0.v, .int .i64 (0 : Nat), .int .i64 5] := by unfold parseV parseP; rw [if_pos hb]
    rw [hP]
    refine aw_step [2, 3, 4] [2] (by simp <;> rfl) ?_   -- parse.go:113
    exact aw_ret (ends_ret (by simp [Tryz.results13] <;> rfl) relax_zero)
  have hb : s.length ≤ 1000 := by simp at h1; omega
  have hgd := gd_toks s hb
  have h0 := toks_pos s
  have hsp := split_ac s hb
  have hP : parseV s = match (match orP (toks s 0).length (toks s 0) 0 with
    | .error (j, e) => .error ((tkAt (toks s 0) j).2.1, e)
    | .ok (x, j) => if (tkAt (toks s 0) j).1 ≠ 0 then .error ((tkAt (toks s 0) j).2.1, 2) else if canonB x = true then .ok x else .error (0, 5) : Except (Nat × Int) Qy) with
    | .error (a, e) => .tup [q0.v, .int .i64 (a : Nat), .int .i64 e]
    | .ok x => .tup [x.v, .int .i64 0, .int .i64 0] := by unfold parseV parseP; rw [if_neg (by omega)] <;> rfl
  rw [hP]
  generalize toks s 0 = ts at *
  have hor := fun v => or_acs ts hgd ts.length 15 v 0 h0 (by omega)
  have htok := fun v j (h : j < ts.length) => token_acs ts 15 v j 0 0 h
  have hfail := fun v j (h : j < ts.length) => fail_acs ts 15 v j 0 0 2 h
  have hpt := tokVs_pure ts
  refine aw_seq (aw_region ?_)   -- parse.go:115
  refine awl_go 1 (by simp <;> rfl) ?_
  refine awl_call1 hsp Tryz.func27 rfl (by kernel_rfl) rfl rfl rfl rfl rfl (by simp <;> rfl) ?_
  refine awl_end [2, 5] [2, 15] (by simp <;> rfl) ?_
  refine aw_seq (aw_region ?_)   -- parse.go:116
  refine awl_go 1 (by simp <;> rfl) ?_
  refine awl_callSQ hG (hor _) Tryz.func28 rfl (by kernel_rfl) rfl rfl rfl (by simp <;> rfl) (fun k o hk => get_one (by simp [Eng.get]) hk) ?_
  intro r outs nx hR hnx
  cases hC : orP ts.length ts 0 with
  | error x =>
    obtain ⟨j, e⟩ := x
    rw [hC] at hR
    obtain ⟨rfl, rfl, hj⟩ := hR
    simp only
    refine ⟨fun k hk => has_one hk, _, by simp <;> rfl, ?_⟩
    refine awl_end [2, 5, 6, 7] [2, 6, 15] (by simp <;> rfl) ?_
    refine aw_seq ?_
    refine aw_seq (aw_region ?_)   -- parse.go:117
    refine awl_go 2 (by simp <;> rfl) ?_
    refine awl_skips 3 (by simp <;> rfl) ?_
    refine awl_end [2, 5, 6, 7, 27] [2, 6, 15] (by simp <;> rfl) ?_
    refine aw_cond rfl (fun h2 => by simp at h2) (fun h2 => aw_skip ?_)   -- if t27
    refine aw_seq ?_
    refine aw_step [2, 5, 6, 31] [2, 6, 15] (by simp <;> rfl) ?_   -- parse.go:120
    refine aw_cond rfl (fun h3 => ?_) (fun h3 => by simp at h3)   -- if t31
    refine aw_seq (aw_drawX [] hmix ?_)   -- parse.go:121
    refine at_go [(0, []), (1, []), (5, []), (2, []), (3, []), (6, []), (7, [])] (by kernel_rfl) (by simp <;> rfl) ?_
    refine at_fork [4, 8, 9] (by kernel_rfl) (fun q hq => ?_)
    simp only [List.mem_cons, List.not_mem_nil, or_false] at hq
    rcases hq with rfl | rfl | rfl
    · refine ⟨_, _, rfl, sx_go (by simp <;> rfl), ?_⟩
      refine at_fork [8, 9] (by kernel_rfl) (fun q hq => ?_)
      simp only [List.mem_cons, List.not_mem_nil, or_false] at hq
      rcases hq with rfl | rfl
      · refine ⟨_, _, rfl, sx_go (by simp <;> rfl), ?_⟩
        refine at_go [(9, []), (10, []), (11, [])] (by kernel_rfl) (by simp <;> rfl) ?_
        exact at_end [2, 3, 4] [2] (by kernel_rfl) (by simp <;> rfl) (aw_ret (ends_ret (by simp [Tryz.results13] <;> rfl) relax_zero))
      · refine ⟨_, _, rfl, sx_go (by simp <;> rfl), ?_⟩
        refine at_go [(8, []), (10, []), (11, [])] (by kernel_rfl) (by simp <;> rfl) ?_
        exact at_end [2, 3, 4] [2] (by kernel_rfl) (by simp <;> rfl) (aw_ret (ends_ret (by simp [Tryz.results13] <;> rfl) relax_zero))
    · refine ⟨_, _, rfl, sx_go (by simp <;> rfl), ?_⟩
      refine at_fork [4, 9] (by kernel_rfl) (fun q hq => ?_)
      simp only [List.mem_cons, List.not_mem_nil, or_false] at hq
      rcases hq with rfl | rfl
      · refine ⟨_, _, rfl, sx_go (by simp <;> rfl), ?_⟩
        refine at_go [(9, []), (10, []), (11, [])] (by kernel_rfl) (by simp <;> rfl) ?_
        exact at_end [2, 3, 4] [2] (by kernel_rfl) (by simp <;> rfl) (aw_ret (ends_ret (by simp [Tryz.results13] <;> rfl) relax_zero))
      · refine ⟨_, _, rfl, sx_go (by simp <;> rfl), ?_⟩
        refine at_go [(4, []), (10, []), (11, [])] (by kernel_rfl) (by simp <;> rfl) ?_
        exact at_end [2, 3, 4] [2] (by kernel_rfl) (by simp <;> rfl) (aw_ret (ends_ret (by simp [Tryz.results13] <;> rfl) relax_zero))
    · refine ⟨_, _, rfl, sx_go (by simp <;> rfl), ?_⟩
      refine at_go [(4, []), (8, []), (10, []), (11, [])] (by kernel_rfl) (by simp <;> rfl) ?_
      exact at_end [2, 3, 4] [2] (by kernel_rfl) (by simp <;> rfl) (aw_ret (ends_ret (by simp [Tryz.results13] <;> rfl) relax_zero))
  | ok x =>
    obtain ⟨x, j⟩ := x
    rw [hC] at hR
    obtain ⟨rfl, rfl, hj⟩ := hR
    simp only
    have hval := valid_acq x
    have hxx := x.v_pure
    obtain ⟨xk, xc, xn, xf, xs, xks⟩ := x
    have hpk := pureQ xks
    rw [Qy.v] at hval
    refine ⟨fun k hk => has_one hk, _, by simp [Qy.v] <;> rfl, ?_⟩
    generalize canonB (.mk xk xc xn xf xs xks) = cb at hval ⊢
    generalize hxv : xks.map Qy.v = xv at hpk hval ⊢
    refine awl_end [2, 5, 6, 7] [2, 6, 15] (by simp <;> rfl) ?_
    refine aw_seq ?_
    refine aw_seq (aw_region ?_)   -- parse.go:117
    refine awl_go 3 (by simp <;> rfl) ?_
    refine awl_callS1 (htok _ j hj) Tryz.func29 rfl (by kernel_rfl) (by simp [Eng.get]) (by simp) (by decide) (by simp <;> rfl) rfl rfl (by simp <;> rfl) (fun k o hk => get_one (by simp [Eng.get]) hk) (by simp <;> rfl) ?_
    refine awl_end [2, 5, 6, 7, 27] [2, 6, 15] (by simp <;> rfl) ?_
    refine aw_cond rfl (fun h2 => ?_) (fun h2 => aw_skip ?_)   -- if t27
    · have hn0 : (tkAt ts j).1 ≠ 0 := by simpa using h2
      rw [if_pos hn0]
      refine aw_region ?_   -- parse.go:118
      refine awl_go 1 (by simp <;> rfl) ?_
      refine awl_callS1 (hfail _ j hj) Tryz.func30 rfl (by kernel_rfl) (by simp [Eng.get]) (by simp) (by decide) rfl rfl rfl (by simp <;> rfl) (fun k o hk => get_one (by simp [Eng.get]) hk) (by simp <;> rfl) ?_
      refine awl_end [2, 5, 6, 7] [2, 6, 15] (by simp <;> rfl) ?_
      refine aw_seq ?_
      refine aw_step [2, 5, 6, 31] [2, 6, 15] (by simp <;> rfl) ?_   -- parse.go:120
      refine aw_cond rfl (fun h3 => ?_) (fun h3 => by simp at h3)   -- if t31
      refine aw_seq (aw_drawX [] hmix ?_)   -- parse.go:121
      refine at_go [(0, []), (1, []), (5, []), (2, []), (3, []), (6, []), (7, [])] (by kernel_rfl) (by simp <;> rfl) ?_
      refine at_fork [4, 8, 9] (by kernel_rfl) (fun q hq => ?_)
      simp only [List.mem_cons, List.not_mem_nil, or_false] at hq
      rcases hq with rfl | rfl | rfl
      · refine ⟨_, _, rfl, sx_go (by simp <;> rfl), ?_⟩
        refine at_fork [8, 9] (by kernel_rfl) (fun q hq => ?_)
        simp only [List.mem_cons, List.not_mem_nil, or_false] at hq
        rcases hq with rfl | rfl
        · refine ⟨_, _, rfl, sx_go (by simp <;> rfl), ?_⟩
          refine at_go [(9, []), (10, []), (11, [])] (by kernel_rfl) (by simp <;> rfl) ?_
          exact at_end [2, 3, 4] [2] (by kernel_rfl) (by simp <;> rfl) (aw_ret (ends_ret (by simp [Tryz.results13] <;> rfl) relax_zero))
        · refine ⟨_, _, rfl, sx_go (by simp <;> rfl), ?_⟩
          refine at_go [(8, []), (10, []), (11, [])] (by kernel_rfl) (by simp <;> rfl) ?_
          exact at_end [2, 3, 4] [2] (by kernel_rfl) (by simp <;> rfl) (aw_ret (ends_ret (by simp [Tryz.results13] <;> rfl) relax_zero))
      · refine ⟨_, _, rfl, sx_go (by simp <;> rfl), ?_⟩
        refine at_fork [4, 9] (by kernel_rfl) (fun q hq => ?_)
        simp only [List.mem_cons, List.not_mem_nil, or_false] at hq
        rcases hq with rfl | rfl
        · refine ⟨_, _, rfl, sx_go (by simp <;> rfl), ?_⟩
          refine at_go [(9, []), (10, []), (11, [])] (by kernel_rfl) (by simp <;> rfl) ?_
          exact at_end [2, 3, 4] [2] (by kernel_rfl) (by simp <;> rfl) (aw_ret (ends_ret (by simp [Tryz.results13] <;> rfl) relax_zero))
        · refine ⟨_, _, rfl, sx_go (by simp <;> rfl), ?_⟩
          refine at_go [(4, []), (10, []), (11, [])] (by kernel_rfl) (by simp <;> rfl) ?_
          exact at_end [2, 3, 4] [2] (by kernel_rfl) (by simp <;> rfl) (aw_ret (ends_ret (by simp [Tryz.results13] <;> rfl) relax_zero))
      · refine ⟨_, _, rfl, sx_go (by simp <;> rfl), ?_⟩
        refine at_go [(4, []), (8, []), (10, []), (11, [])] (by kernel_rfl) (by simp <;> rfl) ?_
        exact at_end [2, 3, 4] [2] (by kernel_rfl) (by simp <;> rfl) (aw_ret (ends_ret (by simp [Tryz.results13] <;> rfl) relax_zero))
    have hn0 : ¬ (tkAt ts j).1 ≠ 0 := by simpa using h2
    rw [if_neg hn0]
    refine aw_seq ?_
    refine aw_step [2, 5, 6, 31] [2, 6, 15] (by simp <;> rfl) ?_   -- parse.go:120
    refine aw_cond rfl (fun h5 => by simp at h5) (fun h5 => aw_skip ?_)   -- if t31
    refine aw_seq ?_
    refine aw_seq (aw_region ?_)   -- parse.go:123
    refine awl_go 1 (by simp <;> rfl) ?_
    refine awl_callQ hG hval Tryz.func10 rfl (by kernel_rfl) (by simp) rfl rfl rfl (by simp <;> rfl) (by simp [V.pureV, V.pureE]) (by simp <;> rfl) ?_
    refine awl_end [2, 6, 43] [2, 6] (by simp <;> rfl) ?_
    refine aw_cond rfl (fun h6 => ?_) (fun h6 => aw_skip ?_)   -- if t43
    · have hcb : cb = false := by simpa using h6
      rw [if_neg (by rw [hcb]; simp)]
      refine aw_step [2, 3, 4] [2] (by simp <;> rfl) ?_   -- parse.go:124
      exact aw_ret (ends_ret (by simp [Tryz.results13] <;> rfl) relax_zero)
    have hcb : cb = true := by simpa using h6
    rw [if_pos hcb]
    refine aw_step [2, 3, 4] [2] (by simp <;> rfl) ?_   -- parse.go:126
    exact aw_ret (ends_ret (by simp [Tryz.results13] <;> rfl) (by simp only [Qy.v, hxv]; exact Relax.refl _))
end Go.Proofs.YtliogkkhofhfcaaGreatDoor
