import Derived.Test.YtmkbhognijicjaaGreatDoorGK
/- Journals: the reference's reading of numbers and strings. No condition. -/
set_option linter.unusedSimpArgs false
set_option maxRecDepth 4000
namespace Go.Proofs.YtmkbhognijicjaaGreatDoor
open Go.Eng

theorem refNeed_ac (bs : List UInt8) (at_ n : Nat) (hb : bs.length ≤ 1048576) (hat : at_ ≤ bs.length) (_hn : n ≤ 1048576) : AC Tryz.prog 98 [.ro 1 (bys bs), .int .i64 at_, .int .i64 n] (fun r => r = .int .i64 (if at_ + n ≤ bs.length then 0 else 4)) := by
  have hl := bysL bs
  generalize bys bs = bv at hl
  have hmin : (if (1048576 : Int) < (bv.length : Int) then (1048576 : Int) else (bv.length : Int)) = bv.length := if_neg (by omega)
  obtain ⟨s, hs, hs'⟩ : ∃ s : Int, IntKind.i64.wrap ((bv.length : Int) - at_) = s ∧ s = (bv.length : Int) - at_ := ⟨_, rfl, wrap_in (by omega) (by omega)⟩
  refine ac_intro Tryz.func98 rfl (by show (3 : Nat) ≤ 17; omega) (fun w0 N0 => ?_)
  refine aw_step [0, 1, 2] [] (by simp [Tryz.ntmps98] <;> rfl) ?_   -- ref.go:123
  refine aw_seq ?_
  refine aw_step [0, 13] [] (by simp [hmin, hs] <;> rfl) ?_   -- ref.go:124
  refine aw_cond rfl (fun h1 => ?_) (fun h1 => aw_skip ?_)   -- if t13
  · refine aw_step [6] [] (by simp <;> rfl) ?_   -- ref.go:125
    refine aw_ret (ends_ret (by simp [Tryz.results98] <;> rfl) ?_)
    rw [if_pos (by simp at h1; omega)]
  refine aw_seq ?_
  refine aw_step [16] [] (by simp <;> rfl) ?_   -- ref.go:127
  refine aw_cond rfl (fun h2 => by simp at h2; omega) (fun h2 => aw_skip ?_)   -- if t16
  refine aw_step [6] [] (by simp <;> rfl) ?_   -- ref.go:130
  refine aw_ret (ends_ret (by simp [Tryz.results98] <;> rfl) ?_)
  rw [if_neg (by simp at h1; omega)]

def numV : Except Int (Nat × Nat) → V
  | .ok (x, a) => .tup [.int .u64 x, .int .i64 a, .int .i64 0]
  | .error er => .tup [.int .u64 0, .int .i64 0, .int .i64 er]
theorem add_shl (x y i : Nat) (hx : x < 128 ^ i) (hi : i ≤ 9) (hy : y < 128) (h9 : i = 9 → y ≤ 1) :
    IntKind.u64.wrap ((x : Int) + IntKind.u64.wrap ((y : Int) * 2 ^ min (7 * (i : Int)).toNat IntKind.u64.bits)) = ((x + y * 128 ^ i : Nat) : Int) := by
  obtain ⟨_, _, h3⟩ := or_shl x y i hx hi hy h9
  have e1 : (7 * (i : Int)).toNat = 7 * i := by omega
  have e2 : min (7 * i) 64 = 7 * i := by omega
  have e4 : (2 : Int) ^ (7 * i) = ((128 ^ i : Nat) : Int) := by
    have e3 : (2 : Nat) ^ (7 * i) = 128 ^ i := by rw [Nat.pow_mul]
    rw [← e3]; simp
  have hw : IntKind.u64.wrap ((y : Int) * 2 ^ min (7 * (i : Int)).toNat IntKind.u64.bits) = ((y * 128 ^ i : Nat) : Int) := by
    rw [e1]
    show IntKind.u64.wrap ((y : Int) * 2 ^ min (7 * i) 64) = _
    rw [e2, e4]
    have := u64_in (n := y * 128 ^ i) (by omega)
    rw [← this]
    congr 1
  rw [hw, ← Int.natCast_add]
  exact u64_in h3
set_option maxHeartbeats 4000000 in
theorem refRdV_ac (bs : List UInt8) (at0 : Nat) (hat0 : at0 ≤ bs.length) (hb : bs.length ≤ 1048576) : AC Tryz.prog 97 [.ro 1 (bys bs), .int .i64 at0] (fun r => r = numV (rdV bs 4 10 0 0 at0)) := by
  have hneed := fun (a : Nat) (h : a ≤ bs.length) => refNeed_ac bs a 1 hb h (by omega)
  have hg := fun (k : Nat) (h : k < bs.length) => nthB h
  have hl := bysL bs
  have hp := bys_pure bs
  generalize bys bs = bv at hneed hg hl hp
  refine ac_intro Tryz.func97 rfl (by show (2 : Nat) ≤ 54; omega) (fun w0 N0 => ?_)
  refine aw_step [0, 1] [] (by simp [Tryz.ntmps97] <;> rfl) ?_   -- ref.go:134
  refine aw_step [0, 1, 7] [] (by simp <;> rfl) ?_   -- ref.go:135
  refine aw_seq ?_
  refine aw_step [0, 1, 7, 8] [] (by simp <;> rfl) ?_   -- ref.go:136
  refine aw_block ?_
  refine aw_loop (fun p : Nat × Nat × Nat × Nat => ⟨[(0, .ro 1 bv), (1, .int .i64 p.2.2.1), (7, .int .u64 p.2.1), (8, .int .i64 p.1)], [], p.2.2.2, 54⟩) (fun p => p.1 ≤ 10 ∧ p.2.1 < 128 ^ p.1 ∧ p.2.2.1 ≤ bs.length ∧ rdV bs 4 (10 - p.1) p.1 p.2.1 p.2.2.1 = rdV bs 4 10 0 0 at0) (fun p => 10 - p.1) (0, 0, at0, _) ⟨by simp, by simp, hat0, rfl⟩ (AS.le_refl _) ?_
  rintro ⟨i, x, at_, nx⟩ ⟨hi, hx, hat, hR⟩
  simp only at hi hx hat hR
  refine aw_seq ?_
  refine aw_step [0, 1, 7, 8, 12] [] (by simp <;> rfl) ?_   -- ref.go:136
  refine aw_cond rfl (fun h1 => aw_skip ?_) (fun h1 => ?_)   -- if t12
  · have hi9 : i ≤ 9 := by simp at h1; omega
    obtain ⟨m, hm⟩ : ∃ m, 10 - i = m + 1 := ⟨9 - i, by omega⟩
    rw [hm, rdV] at hR
    have hnd := hneed at_ hat
    refine aw_seq ?_
    refine aw_block ?_
    refine aw_seq (aw_region ?_)   -- ref.go:137
    refine awl_go 2 (by simp <;> rfl) ?_
    refine awl_call1 hnd Tryz.func98 rfl (by kernel_rfl) rfl rfl rfl rfl (by simp [hp]) (by simp <;> rfl) ?_
    refine awl_end [0, 1, 7, 8, 9] [] (by simp <;> rfl) ?_
    refine aw_seq ?_
    refine aw_step [0, 1, 7, 8, 9, 19] [] (by simp <;> rfl) ?_   -- ref.go:138
    by_cases hlt : at_ < bs.length
    · have hgc : bs[at_]? = some bs[at_] := List.getElem?_eq_getElem hlt
      rw [hgc] at hR
      have ga := hg at_ hlt
      have hlt' : at_ < bv.length := by omega
      simp only at hR
      simp only [byV] at ga
      have h98 : (if at_ + 1 ≤ bs.length then (0 : Int) else 4) = 0 := if_pos (by omega)
      rw [h98]
      generalize bs[at_] = c at hR ga
      have hcl : c.toNat < 256 := c.toNat_lt
      have hwc : IntKind.u64.wrap (c.toNat : Int) = c.toNat := u64_in (by omega)
      have hwa := wrap_succ (k := at_) (by omega)
      refine aw_cond rfl (fun h2 => by simp at h2; omega) (fun h2 => aw_skip ?_)   -- if t19
      refine aw_step [0, 1, 7, 8, 10] [] (by simp [ga, hlt', hwc] <;> rfl) ?_   -- ref.go:141
      refine aw_step [0, 1, 7, 8, 10] [] (by simp [hwa] <;> rfl) ?_   -- ref.go:142
      refine aw_seq ?_
      refine aw_step [0, 1, 7, 8, 10, 41] [] (by simp <;> rfl) ?_   -- ref.go:143
      refine aw_cond rfl (fun h3 => ?_) (fun h3 => aw_skip ?_)   -- if t41
      · have hbad : (i = 9 ∧ 1 < c.toNat) ∨ (0 < i ∧ c.toNat = 0) := by
          simp only [Bool.or_eq_true, Bool.and_eq_true, decide_eq_true_eq] at h3
          omega
        rw [if_pos hbad] at hR
        refine aw_step [4, 5, 6] [] (by simp <;> rfl) ?_   -- ref.go:144
        refine aw_ret (ends_ret (by simp [Tryz.results97] <;> rfl) ?_)
        rw [← hR]; rfl
      have hgood : ¬ ((i = 9 ∧ 1 < c.toNat) ∨ (0 < i ∧ c.toNat = 0)) := by
        simp only [Bool.or_eq_false_iff, Bool.and_eq_false_iff, decide_eq_false_iff_not] at h3
        omega
      rw [if_neg hgood] at hR
      have hadd := add_shl x (c.toNat % 128) i hx hi9 (by omega) (fun h9 => by omega)
      obtain ⟨_, ho2, _⟩ := or_shl x (c.toNat % 128) i hx hi9 (by omega) (fun h9 => by omega)
      obtain ⟨si, hsi, hsi'⟩ : ∃ si : Int, IntKind.i64.wrap (7 * (i : Int)) = si ∧ si = 7 * (i : Int) := ⟨_, rfl, wrap_in (by omega) (by omega)⟩
      have hsu : IntKind.u64.wrap si = si := by rw [IntKind.wrap_u64]; omega
      rw [← hsi'] at hadd
      have hsn : ¬ si < 0 := by omega
      obtain ⟨cm, hcm, hcm'⟩ : ∃ cm : Int, (c.toNat : Int).tmod 128 = cm ∧ cm = ((c.toNat % 128 : Nat) : Int) := ⟨_, rfl, by rw [Int.tmod_eq_emod_of_nonneg (by omega)]; omega⟩
      rw [← hcm'] at hadd
      obtain ⟨ov, hov⟩ : ∃ ov : Int, IntKind.u64.wrap ((x : Int) + IntKind.u64.wrap (cm * 2 ^ min si.toNat IntKind.u64.bits)) = ov := ⟨_, rfl⟩
      rw [hov] at hadd
      have hwi := wrap_succ (k := i) (by omega)
      refine aw_step [0, 1, 7, 8, 10] [] (by simp [hcm, hsi, hsu, hsn, hov] <;> rfl) ?_   -- ref.go:146
      refine aw_step [0, 1, 7, 8, 51] [] (by simp <;> rfl) ?_   -- ref.go:147
      refine aw_cond rfl (fun h4 => ?_) (fun h4 => aw_skip ?_)   -- if t51
      · have hc128 : c.toNat < 128 := by simp at h4; omega
        rw [if_pos hc128] at hR
        rw [Nat.mod_eq_of_lt hc128] at hadd
        refine aw_step [4, 5, 6] [] (by simp <;> rfl) ?_   -- ref.go:148
        refine aw_ret (ends_ret (by simp [Tryz.results97] <;> rfl) ?_)
        rw [← hR, hadd]
        simp [numV]
      have hc128 : ¬ c.toNat < 128 := by simp at h4; omega
      rw [if_neg hc128] at hR
      refine aw_one [0, 1, 7, 8] [] (by simp [hwi] <;> rfl) ?_   -- ref.go:136
      refine ⟨(i + 1, x + c.toNat % 128 * 128 ^ i, at_ + 1, nx + 2 + 4 + 2 + 6 + 3 + 14 + 9 + 2 + 3), ⟨by simp only; omega, ho2, by simp only; omega, ?_⟩, by simp only; omega, ?_⟩
      · simp only
        rw [show 10 - (i + 1) = m by omega]
        exact hR
      · have hc1 : ((i + 1 : Nat) : Int) = (i : Int) + 1 := by omega
        have hc2 : ((at_ + 1 : Nat) : Int) = (at_ : Int) + 1 := by omega
        simp only [hadd, hc1, hc2]
        exact AS.le_refl _
    · have hnone : bs[at_]? = none := List.getElem?_eq_none (by omega)
      rw [hnone] at hR
      have h98 : (if at_ + 1 ≤ bs.length then (0 : Int) else 4) = 4 := if_neg (by omega)
      rw [h98]
      refine aw_cond rfl (fun h2 => ?_) (fun h2 => by simp at h2; omega)   -- if t19
      refine aw_step [4, 5, 6] [] (by simp <;> rfl) ?_   -- ref.go:139
      refine aw_ret (ends_ret (by simp [Tryz.results97] <;> rfl) ?_)
      rw [← hR]; rfl
  · have hi10 : i = 10 := by simp at h1; omega
    subst hi10
    refine aw_exit ?_
    refine aw_step [4, 5, 6] [] (by simp <;> rfl) ?_   -- ref.go:151
    refine aw_ret (ends_ret (by simp [Tryz.results97] <;> rfl) ?_)
    rw [← hR]; rfl

def nodeV : Except Int (Nd × Nat) → V
  | .ok (x, a) => .tup [x.v, .int .i64 a, .int .i64 0]
  | .error er => .tup [zNd.v, .int .i64 0, .int .i64 er]
theorem nodeRx (e : Int) : Relax (.tup [.agg [.int .i64 0, .int .i64 0, .int .i64 0, .str [], .nils], .int .i64 0, .int .i64 e]) (nodeV (.error e)) :=
  Relax.tup (.cons relax_zN (.refl _))
/-- A string of n bytes. -/
def rdS (bs : List UInt8) (t : Nat) (n a : Nat) : Except Int (Nd × Nat) := if 2000 < n then .error 5 else if a + n ≤ bs.length then .ok (.mk t 2 0 ((bs.drop a).take n) [], a + n) else .error 4
set_option maxHeartbeats 1000000 in
theorem refText_ac (bs : List UInt8) (t n a : Nat) (ha : a ≤ bs.length) (hb : bs.length ≤ 1048576) : AC Tryz.prog 99 [.ro 1 (bys bs), .int .i64 a, .int .u64 n, .agg [.int .i64 t, .int .i64 2, .int .i64 0, .str [], .nils]] (fun r => r = nodeV (rdS bs t n a)) := by
  refine AC.relaxP ?_
  have hneed := fun h => refNeed_ac bs a n hb ha h
  have hl := bysL bs
  have hp := bys_pure bs
  unfold rdS
  have hstr : bytesV (((bys bs).drop a).take n) = some ((bs.drop a).take n) := by
    have : ((bys bs).drop a).take n = bys ((bs.drop a).take n) := by simp
    rw [this, bytesV_bys]
  generalize hbv : bys bs = bv at hneed hl hp hstr
  refine ac_intro Tryz.func99 rfl (by show (4 : Nat) ≤ 38; omega) (fun w0 N0 => ?_)
  refine aw_step [0, 1, 2, 7, 8] [7, 8] (by simp [Tryz.ntmps99] <;> rfl) ?_   -- ref.go:203
  refine aw_seq ?_
  refine aw_step [0, 1, 2, 7, 8, 13] [7, 8] (by simp <;> rfl) ?_   -- ref.go:204
  refine aw_cond rfl (fun h1 => ?_) (fun h1 => aw_skip ?_)   -- if t13
  · rw [if_pos (by simp at h1; omega)]
    refine aw_step [8, 9, 10] [8] (by simp <;> rfl) ?_   -- ref.go:205
    exact aw_ret (ends_ret (by simp [Tryz.results99] <;> rfl) (nodeRx _))
  have h1' : ¬ 2000 < n := by simp at h1; omega
  rw [if_neg h1']
  have hwn : IntKind.i64.wrap (n : Int) = n := wrap_in (by omega) (by omega)
  have hnd := hneed (by omega)
  refine aw_seq (aw_region ?_)   -- ref.go:207
  refine awl_go 4 (by simp [hwn] <;> rfl) ?_
  refine awl_call1 hnd Tryz.func98 rfl (by kernel_rfl) rfl rfl rfl rfl (by simp [hp]) (by simp <;> rfl) ?_
  refine awl_end [0, 1, 2, 7, 8, 11] [7, 8] (by simp <;> rfl) ?_
  refine aw_seq ?_
  refine aw_step [0, 1, 2, 7, 8, 11, 21] [7, 8] (by simp <;> rfl) ?_   -- ref.go:208
  by_cases hle : a + n ≤ bs.length
  · rw [if_pos hle, if_pos hle]
    refine aw_cond rfl (fun h2 => by simp at h2; omega) (fun h2 => aw_skip ?_)   -- if t21
    obtain ⟨s, hs, hs'⟩ : ∃ s : Int, IntKind.i64.wrap ((a : Int) + n) = s ∧ s = ((a + n : Nat) : Int) := ⟨_, rfl, by rw [wrap_in (by omega) (by omega)]; omega⟩
    have hb1 : (a : Int) ≤ s ∧ s ≤ bv.length ∧ 0 ≤ s := by omega
    have hst : s.toNat - a = n := by omega
    refine aw_step [1, 2, 7, 8] [7, 8] (by simp [hwn, hs, hb1, hst, hstr] <;> rfl) ?_   -- ref.go:211
    refine aw_step [8, 9, 10] [8] (by simp [hwn, hs] <;> rfl) ?_   -- ref.go:212
    refine aw_ret (ends_ret (by simp [Tryz.results99] <;> rfl) ?_)
    rw [hs', nodeV]
    exact Relax.tup (.cons (relax_node _ _ _ _) (.refl _))
  · rw [if_neg hle, if_neg hle]
    refine aw_cond rfl (fun h2 => ?_) (fun h2 => by simp at h2; omega)   -- if t21
    refine aw_step [8, 9, 10] [8] (by simp <;> rfl) ?_   -- ref.go:209
    exact aw_ret (ends_ret (by simp [Tryz.results99] <;> rfl) (nodeRx _))
end Go.Proofs.YtmkbhognijicjaaGreatDoor

/- Journals: the reference's reading of trees. No condition. -/
set_option linter.unusedSimpArgs false
set_option maxRecDepth 4000
namespace Go.Proofs.YtmkbhognijicjaaGreatDoor
open Go.Eng

set_option maxHeartbeats 8000000 in
theorem refNode_ac (bs : List UInt8) (hb : bs.length ≤ 1048576) : ∀ (lv at0 : Nat), lv ≤ 8 → at0 ≤ bs.length →
    AC Tryz.prog 91 [.ro 1 (bys bs), .int .i64 at0, .int .i64 (9 - lv : Int)] (fun r => r = nodeV (rdN bs 4 lv at0)) := by
  intro lv
  induction lv with
  | zero =>
    intro at0 _ _
    refine AC.relaxP ?_
    refine ac_intro Tryz.func91 rfl (by show (3 : Nat) ≤ 129; omega) (fun w0 N0 => ?_)
    refine aw_step [0, 1, 2, 6] [6] (by simp [Tryz.ntmps91] <;> rfl) ?_   -- ref.go:155
    refine aw_seq ?_
    refine aw_step [0, 1, 2, 6, 18] [6] (by simp <;> rfl) ?_   -- ref.go:156
    refine aw_cond rfl (fun h1 => ?_) (fun h1 => by simp at h1)   -- if t18
    refine aw_step [6, 7, 8] [6] (by simp <;> rfl) ?_   -- ref.go:157
    exact aw_ret (ends_ret (by simp [Tryz.results91] <;> rfl) (nodeRx _))
  | succ lv ih =>
  intro at0 hlv hat
  refine AC.relaxP ?_
  have hnum := fun (a : Nat) (h : a ≤ bs.length) => refRdV_ac bs a h hb
  have hneed := fun (a : Nat) (h : a ≤ bs.length) => refNeed_ac bs a 1 hb h (by omega)
  have htext := fun (t n a : Nat) (h : a ≤ bs.length) => refText_ac bs t n a h hb
  have hg := fun (k : Nat) (h : k < bs.length) => nthB h
  have hl := bysL bs
  have hp := bys_pure bs
  generalize hres : rdN bs 4 (lv + 1) at0 = res
  rw [rdN] at hres
  obtain ⟨lvl, hlvl⟩ : ∃ l : Int, (9 - ((lv + 1 : Nat) : Int)) = l := ⟨_, rfl⟩
  rw [hlvl]
  have ih' := fun (a : Nat) (h : a ≤ bs.length) => ih a (by omega) h
  clear ih
  generalize bys bs = bv at hnum hneed htext hg hl hp ih'
  refine ac_intro Tryz.func91 rfl (by show (3 : Nat) ≤ 129; omega) (fun w0 N0 => ?_)
  refine aw_step [0, 1, 2, 6] [6] (by simp [Tryz.ntmps91] <;> rfl) ?_   -- ref.go:155
  refine aw_seq ?_
  refine aw_step [0, 1, 2, 6, 18] [6] (by simp <;> rfl) ?_   -- ref.go:156
  refine aw_cond rfl (fun h1 => by simp at h1; omega) (fun h1 => aw_skip ?_)   -- if t18
  have hn1 := hnum at0 hat
  refine aw_seq (aw_region ?_)   -- ref.go:159
  refine awl_go 2 (by simp <;> rfl) ?_
  cases hv : rdV bs 4 10 0 0 at0 with
  | error er =>
    have her := rdV_err (by omega) hv
    rw [hv, numV] at hn1
    rw [hv] at hres
    simp only at hres
    subst hres
    refine awl_call1 hn1 Tryz.func97 rfl (by kernel_rfl) rfl rfl rfl rfl (by simp [hp]) (by simp <;> rfl) ?_
    refine awl_end [0, 1, 2, 6, 9, 10] [6] (by simp <;> rfl) ?_
    refine aw_seq ?_
    refine aw_step [0, 1, 2, 6, 9, 10, 28] [6] (by simp <;> rfl) ?_   -- ref.go:160
    refine aw_cond rfl (fun h2 => ?_) (fun h2 => by simp [her] at h2)   -- if t28
    refine aw_step [6, 7, 8] [6] (by simp <;> rfl) ?_   -- ref.go:161
    exact aw_ret (ends_ret (by simp [Tryz.results91] <;> rfl) (nodeRx _))
  | ok p =>
  obtain ⟨tag, a1⟩ := p
  obtain ⟨htag, ha1, _⟩ := rdV_bound (i := 0) (by omega) (by simp) hat hv
  rw [hv, numV] at hn1
  rw [hv] at hres
  simp only at hres
  refine awl_call1 hn1 Tryz.func97 rfl (by kernel_rfl) rfl rfl rfl rfl (by simp [hp]) (by simp <;> rfl) ?_
  refine awl_end [0, 1, 2, 6, 9, 10] [6] (by simp <;> rfl) ?_
  refine aw_seq ?_
  refine aw_step [0, 1, 2, 6, 9, 10, 28] [6] (by simp <;> rfl) ?_   -- ref.go:160
  refine aw_cond rfl (fun h2 => by simp at h2) (fun h2 => aw_skip ?_)   -- if t28
  refine aw_seq ?_
  refine aw_step [0, 1, 2, 6, 9, 32] [6] (by simp <;> rfl) ?_   -- ref.go:163
  refine aw_cond rfl (fun h3 => ?_) (fun h3 => aw_skip ?_)   -- if t32
  · rw [if_pos (by simp at h3; omega)] at hres
    subst hres
    refine aw_step [6, 7, 8] [6] (by simp <;> rfl) ?_   -- ref.go:164
    exact aw_ret (ends_ret (by simp [Tryz.results91] <;> rfl) (nodeRx _))
  have hsml : ¬ 9999999 < tag := by simp at h3; omega
  rw [if_neg hsml] at hres
  have hwt : IntKind.i64.wrap (tag : Int) = tag := wrap_in (by omega) (by omega)
  have hnd := hneed a1 ha1
  refine aw_seq (aw_region ?_)   -- ref.go:166
  refine awl_go 2 (by simp <;> rfl) ?_
  refine awl_call1 hnd Tryz.func98 rfl (by kernel_rfl) rfl rfl rfl rfl (by simp [hp]) (by simp <;> rfl) ?_
  refine awl_end [0, 1, 2, 6, 9, 10] [6] (by simp <;> rfl) ?_
  refine aw_seq ?_
  refine aw_step [0, 1, 2, 6, 9, 10, 38] [6] (by simp <;> rfl) ?_   -- ref.go:167
  by_cases hlt : a1 < bs.length
  case neg =>
    have hnone : bs[a1]? = none := List.getElem?_eq_none (by omega)
    rw [hnone] at hres
    simp only at hres
    subst hres
    have h98 : (if a1 + 1 ≤ bs.length then (0 : Int) else 4) = 4 := if_neg (by omega)
    rw [h98]
    refine aw_cond rfl (fun h4 => ?_) (fun h4 => by simp at h4; omega)   -- if t38
    refine aw_step [6, 7, 8] [6] (by simp <;> rfl) ?_   -- ref.go:168
    exact aw_ret (ends_ret (by simp [Tryz.results91] <;> rfl) (nodeRx _))
  have hgc : bs[a1]? = some bs[a1] := List.getElem?_eq_getElem hlt
  rw [hgc] at hres
  simp only at hres
  have ga := hg a1 hlt
  have hlt' : a1 < bv.length := by omega
  have h98 : (if a1 + 1 ≤ bs.length then (0 : Int) else 4) = 0 := if_pos (by omega)
  rw [h98]
  refine aw_cond rfl (fun h4 => by simp at h4; omega) (fun h4 => aw_skip ?_)   -- if t38
  simp only [byV] at ga
  generalize bs[a1] = k at ga hres
  have hcl : k.toNat < 256 := k.toNat_lt
  have hwk : IntKind.i64.wrap (k.toNat : Int) = k.toNat := wrap_in (by omega) (by omega)
  have hwa := wrap_succ (k := a1) (by omega)
  refine aw_step [0, 1, 2, 6, 11] [6, 11] (by simp [ga, hlt', hwk, hwt] <;> rfl) ?_   -- ref.go:170
  refine aw_seq ?_
  refine aw_step [0, 1, 2, 6, 11, 56] [6, 11] (by simp <;> rfl) ?_   -- ref.go:171
  refine aw_cond rfl (fun h5 => ?_) (fun h5 => aw_skip ?_)   -- if t56
  · have hbad : k.toNat < 1 ∨ 3 < k.toNat := by simp at h5; omega
    rw [if_neg (by omega), if_neg (by omega), if_neg (by omega)] at hres
    subst hres
    refine aw_step [6, 7, 8] [6] (by simp <;> rfl) ?_   -- ref.go:172
    exact aw_ret (ends_ret (by simp [Tryz.results91] <;> rfl) (nodeRx _))
  have hk13 : 1 ≤ k.toNat ∧ k.toNat ≤ 3 := by simp at h5; omega
  have hn2 := hnum (a1 + 1) (by omega)
  have hc1 : ((a1 + 1 : Nat) : Int) = (a1 : Int) + 1 := by omega
  refine aw_seq (aw_region ?_)   -- ref.go:174
  refine awl_go 3 (by simp [hwa] <;> rfl) ?_
  cases hv2 : rdV bs 4 10 0 0 (a1 + 1) with
  | error er =>
    have her := rdV_err (by omega) hv2
    rw [hv2, numV] at hn2
    have hgoal : res = .error er := by
      rw [← hres]
      rcases (show k.toNat = 1 ∨ k.toNat = 2 ∨ k.toNat = 3 by omega) with h | h | h
      · rw [if_pos h, hv2]
      · rw [if_neg (by omega), if_pos h]; simp only [rdC, hv2]
      · rw [if_neg (by omega), if_neg (by omega), if_pos h]; simp only [rdC, hv2]
    rw [hgoal]
    refine awl_call1 hn2 Tryz.func97 rfl (by kernel_rfl) rfl rfl rfl rfl (by simp [hp]) (by simp <;> rfl) ?_
    refine awl_end [0, 1, 2, 6, 10, 11, 12] [6, 11] (by simp <;> rfl) ?_
    refine aw_seq ?_
    refine aw_step [0, 1, 2, 6, 10, 11, 12, 67] [6, 11] (by simp <;> rfl) ?_   -- ref.go:175
    refine aw_cond rfl (fun h6 => ?_) (fun h6 => by simp [her] at h6)   -- if t67
    refine aw_step [6, 7, 8] [6] (by simp <;> rfl) ?_   -- ref.go:176
    exact aw_ret (ends_ret (by simp [Tryz.results91] <;> rfl) (nodeRx _))
  | ok p =>
  obtain ⟨n, a2⟩ := p
  obtain ⟨hn64, ha2, _⟩ := rdV_bound (i := 0) (by omega) (by simp) (by omega) hv2
  rw [hv2, numV] at hn2
  refine awl_call1 hn2 Tryz.func97 rfl (by kernel_rfl) rfl rfl rfl rfl (by simp [hp]) (by simp <;> rfl) ?_
  refine awl_end [0, 1, 2, 6, 10, 11, 12] [6, 11] (by simp <;> rfl) ?_
  refine aw_seq ?_
  refine aw_step [0, 1, 2, 6, 10, 11, 12, 67] [6, 11] (by simp <;> rfl) ?_   -- ref.go:175
  refine aw_cond rfl (fun h6 => by simp at h6) (fun h6 => aw_skip ?_)   -- if t67
  refine aw_seq ?_
  refine aw_step [0, 1, 2, 6, 11, 12, 72] [6, 11] (by simp <;> rfl) ?_   -- ref.go:178
  refine aw_cond rfl (fun h7 => ?_) (fun h7 => aw_skip ?_)   -- if t72
  · have hk1 : k.toNat = 1 := by simp at h7; omega
    rw [if_pos hk1, hv2] at hres
    simp only [unfI_zag hn64] at hres
    unfold zag at hres
    obtain ⟨hf, hhf, hhf'⟩ : ∃ hf : Int, IntKind.i64.wrap (IntKind.u64.wrap ((n : Int) / 2)) = hf ∧ hf = ((n / 2 : Nat) : Int) := ⟨_, rfl, by rw [IntKind.wrap_u64, wrap_in (by omega) (by omega)]; omega⟩
    obtain ⟨md, hmd, hmd'⟩ : ∃ md : Int, (n : Int).tmod 2 = md ∧ md = ((n % 2 : Nat) : Int) := ⟨_, rfl, by rw [Int.tmod_eq_emod_of_nonneg (by omega)]; omega⟩
    obtain ⟨ng, hng, hng'⟩ : ∃ ng : Int, IntKind.i64.wrap (IntKind.i64.wrap (-hf) - 1) = ng ∧ ng = -((n / 2 : Nat) : Int) - 1 := ⟨_, rfl, by rw [wrap_in (x := -hf) (by omega) (by omega), wrap_in (by omega) (by omega)]; omega⟩
    refine aw_step [1, 6, 11, 12] [6, 11] (by simp [hhf] <;> rfl) ?_   -- ref.go:179
    refine aw_seq ?_
    refine aw_step [1, 6, 11, 79] [6, 11] (by simp [hmd] <;> rfl) ?_   -- ref.go:180
    refine aw_cond rfl (fun h8 => ?_) (fun h8 => aw_skip ?_)   -- if t79
    · rw [if_pos (by simp at h8; omega)] at hres
      subst hres
      refine aw_one [1, 6, 11] [6, 11] (by simp [hng] <;> rfl) ?_   -- ref.go:181
      refine aw_step [6, 7, 8] [6] (by simp <;> rfl) ?_   -- ref.go:183
      refine aw_ret (ends_ret (by simp [Tryz.results91] <;> rfl) ?_)
      rw [nodeV, hng', hk1]
      exact Relax.tup (.cons (relax_node _ _ _ _) (.refl _))
    rw [if_neg (by simp at h8; omega)] at hres
    subst hres
    refine aw_step [6, 7, 8] [6] (by simp <;> rfl) ?_   -- ref.go:183
    refine aw_ret (ends_ret (by simp [Tryz.results91] <;> rfl) ?_)
    rw [nodeV, hhf', hk1]
    exact Relax.tup (.cons (relax_node _ _ _ _) (.refl _))
  have hk1 : ¬ k.toNat = 1 := by simp at h7; omega
  rw [if_neg hk1] at hres
  refine aw_seq ?_
  refine aw_step [0, 1, 2, 6, 11, 12, 89] [6, 11] (by simp <;> rfl) ?_   -- ref.go:185
  refine aw_cond rfl (fun h9 => ?_) (fun h9 => aw_skip ?_)   -- if t89
  · have hk2 : k.toNat = 2 := by simp at h9; omega
    rw [if_pos hk2] at hres
    have ht := htext tag n a2 ha2
    have hgoal : res = rdS bs tag n a2 := by
      rw [← hres]
      simp only [rdC, hv2, rdS]
      by_cases h : 2000 < n
      · simp only [if_pos h]
      · simp only [if_neg h]
    rw [hgoal]
    have hk2' : ((k.toNat : Nat) : Int) = 2 := by omega
    rw [hk2']
    refine aw_seq (aw_region ?_)   -- ref.go:186
    refine awl_go 4 (by simp <;> rfl) ?_
    cases hs : rdS bs tag n a2 with
    | error er =>
      rw [hs, nodeV, zNd, Nd.v, List.map_nil] at ht
      refine awl_call1 ht Tryz.func99 rfl (by kernel_rfl) rfl rfl rfl rfl (by simp [hp]) (by simp <;> rfl) ?_
      refine awl_end [6, 7, 8] [6] (by simp <;> rfl) ?_
      refine aw_ret (ends_ret (by simp [Tryz.results91] <;> rfl) ?_)
      rw [nodeV, zNd, Nd.v, List.map_nil]
      exact .refl _
    | ok p =>
      obtain ⟨⟨xt, xk, xn, xs, xks⟩, a3⟩ := p
      rw [hs, nodeV, Nd.v] at ht
      have hpk := pureNd xks
      have hnv : nodeV (.ok (.mk xt xk xn xs xks, a3)) = .tup [.agg [.int .i64 xt, .int .i64 xk, .int .i64 xn, .str xs, .ro 5 (xks.map Nd.v)], .int .i64 a3, .int .i64 0] := by rw [nodeV, Nd.v]
      rw [hnv]
      generalize xks.map Nd.v = xkv at ht hpk
      refine awl_call1 ht Tryz.func99 rfl (by kernel_rfl) rfl rfl rfl rfl (by simp [hp]) (by simp <;> rfl) ?_
      refine awl_end [6, 7, 8] [6] (by simp <;> rfl) ?_
      exact aw_ret (ends_ret (by simp [Tryz.results91, hpk] <;> rfl) (.refl _))
  have hk2 : ¬ k.toNat = 2 := by simp at h9; omega
  have hk3 : k.toNat = 3 := by omega
  rw [if_neg hk2, if_pos hk3] at hres
  refine aw_seq ?_
  refine aw_step [0, 1, 2, 6, 11, 12, 99] [6, 11] (by simp <;> rfl) ?_   -- ref.go:188
  simp only [rdC, hv2] at hres
  refine aw_cond rfl (fun h10 => ?_) (fun h10 => aw_skip ?_)   -- if t99
  · rw [if_pos (by simp at h10; omega)] at hres
    simp only at hres
    subst hres
    refine aw_step [6, 7, 8] [6] (by simp <;> rfl) ?_   -- ref.go:189
    exact aw_ret (ends_ret (by simp [Tryz.results91] <;> rfl) (nodeRx _))
  have hn1024 : ¬ 1024 < n := by simp at h10; omega
  rw [if_neg hn1024] at hres
  simp only at hres
  have hwn : IntKind.i64.wrap (n : Int) = n := wrap_in (by omega) (by omega)
  refine aw_seq ?_
  refine aw_step [0, 1, 2, 6, 11, 12, 13] [6, 11] (by simp <;> rfl) ?_   -- ref.go:191
  refine aw_adoptC 11 4 200 5 42 [0, 1, 2, 6, 11, 12, 13] [6, 11, 200] (by simp <;> rfl) ?_
  refine aw_block ?_
  refine aw_loop (fun p : Nat × List Nd × Nat × Nat × Nat => ⟨[(0, .ro 1 bv), (1, .int .i64 p.2.2.1), (2, .int .i64 lvl), (6, .bp 6 0 5 0 0), (11, .bp 11 33 5 0 0), (12, .int .u64 n), (13, .int .i64 p.1)],
    [(6, ⟨0, 5, 42, [.agg [.int .i64 0, .int .i64 0, .int .i64 0, .str [], .nils]]⟩), (11, ⟨33, 5, 42, [.agg [.int .i64 tag, .int .i64 k.toNat, .int .i64 0, .str [], .sl 200 p.2.2.2.1 5 (p.2.1.map Nd.v).length]]⟩), (200, ⟨p.2.2.2.1, 5, 42, p.2.1.map Nd.v⟩)], p.2.2.2.2, 129⟩)
    (fun p => p.1 ≤ n ∧ p.2.1.length = p.1 ∧ p.2.2.1 ≤ bs.length ∧ preL p.2.1 (rdL (rdN bs 4 lv) (n - p.1) p.2.2.1) = rdL (rdN bs 4 lv) n a2) (fun p => n - p.1) (0, [], a2, _, _) ⟨Nat.zero_le _, rfl, ha2, ?_⟩ (by simp; exact AS.le_refl _) ?_
  · simp only [Nat.sub_zero]
    cases rdL (rdN bs 4 lv) n a2 with
    | error er => rfl
    | ok p => rfl
  rintro ⟨i, acc, at_, vr, nx⟩ ⟨hi, hacc, hat_, hR⟩
  simp only at hi hacc hat_ hR
  have hpacc := pureNd acc
  have hal : (acc.map Nd.v).length = i := by simpa using hacc
  simp only
  generalize hav : acc.map Nd.v = av at hpacc hal
  refine aw_seq ?_
  refine aw_step [0, 1, 2, 6, 11, 12, 13, 104] [6, 11, 200] (by simp [hwn] <;> rfl) ?_   -- ref.go:191
  refine aw_cond rfl (fun h11 => aw_skip ?_) (fun h11 => ?_)   -- if t104
  · have hin : i < n := by simp at h11; omega
    obtain ⟨m, hm⟩ : ∃ m, n - i = m + 1 := ⟨n - i - 1, by omega⟩
    rw [hm, rdL] at hR
    have hwl : IntKind.i64.wrap (lvl + 1) = 9 - (lv : Int) := by rw [wrap_in (by omega) (by omega)]; omega
    have hwi := wrap_succ (k := i) (by omega)
    have hcall := ih' at_ hat_
    have hb1 : i + 1 ≤ maxLen := by simp [maxLen]; omega
    have hb2 : (i + 1) * 64 ≤ 140737488355328 := by omega
    refine aw_seq ?_
    refine aw_block ?_
    refine aw_seq (aw_region ?_)   -- ref.go:192
    refine awl_go 4 (by simp [hwl] <;> rfl) ?_
    cases hx : rdN bs 4 lv at_ with
    | error er =>
      have her := rdN_err (by omega) _ _ hx
      rw [hx] at hR
      rw [hx, nodeV, zNd, Nd.v, List.map_nil] at hcall
      have hfin : rdL (rdN bs 4 lv) n a2 = .error er := hR.symm
      rw [hfin] at hres
      simp only at hres
      subst hres
      refine awl_call1 hcall Tryz.func91 rfl (by kernel_rfl) rfl rfl rfl rfl (by simp [hp]) (by simp <;> rfl) ?_
      refine awl_end [0, 2, 6, 11, 12, 13, 14, 15, 16] [6, 11, 14, 200] (by simp <;> rfl) ?_
      refine aw_seq ?_
      refine aw_step [0, 2, 6, 11, 12, 13, 14, 15, 16, 117] [6, 11, 14, 200] (by simp <;> rfl) ?_   -- ref.go:193
      refine aw_cond rfl (fun h12 => ?_) (fun h12 => by simp [her] at h12)   -- if t117
      refine aw_step [6, 7, 8] [6] (by simp <;> rfl) ?_   -- ref.go:194
      exact aw_ret (ends_ret (by simp [Tryz.results91] <;> rfl) (nodeRx _))
    | ok p =>
      obtain ⟨x, a3⟩ := p
      rw [hx] at hR
      simp only at hR
      have ha3 := rdN_bound hat_ hx
      have hR2 : preL (acc ++ [x]) (rdL (rdN bs 4 lv) m a3) = rdL (rdN bs 4 lv) n a2 := by
        rw [← hR]
        cases rdL (rdN bs 4 lv) m a3 with
        | error er => rfl
        | ok p => simp [preL]
      rcases hxx : x with ⟨xt, xk, xn, xs, xks⟩
      have hxv : x.v = .agg [.int .i64 xt, .int .i64 xk, .int .i64 xn, .str xs, .ro 5 (xks.map Nd.v)] := by rw [hxx, Nd.v]
      rw [hx, nodeV, hxv] at hcall
      have hpk := pureNd xks
      generalize hkvv : xks.map Nd.v = xkv at hcall hpk hxv
      refine awl_call1 hcall Tryz.func91 rfl (by kernel_rfl) rfl rfl rfl rfl (by simp [hp]) (by simp <;> rfl) ?_
      refine awl_end [0, 2, 6, 11, 12, 13, 14, 15, 16] [6, 11, 14, 200] (by simp <;> rfl) ?_
      refine aw_seq ?_
      refine aw_step [0, 2, 6, 11, 12, 13, 14, 15, 16, 117] [6, 11, 14, 200] (by simp <;> rfl) ?_   -- ref.go:193
      refine aw_cond rfl (fun h12 => by simp at h12) (fun h12 => aw_skip ?_)   -- if t117
      refine aw_step [0, 2, 6, 11, 12, 13, 15] [6, 11, 200] (by simp [hal, hb1, hb2] <;> rfl) ?_   -- ref.go:196
      refine aw_one [0, 1, 2, 6, 11, 12, 13] [6, 11, 200] (by simp <;> rfl) ?_   -- ref.go:197
      refine aw_one [0, 1, 2, 6, 11, 12, 13] [6, 11, 200] (by simp [hwi] <;> rfl) ?_   -- ref.go:191
      refine ⟨(i + 1, acc ++ [x], a3, nx + 4 + 13 + 2 + 4, nx + 4 + 13 + 2 + 7 + 2 + 3), ⟨by simp only; omega, by simp [hacc], ha3, ?_⟩, by simp only; omega, ?_⟩
      · simp only
        rw [show n - (i + 1) = m by omega]
        exact hR2
      · have hc1 : ((i + 1 : Nat) : Int) = (i : Int) + 1 := by omega
        simp only [hc1, List.map_append, hav, List.map_cons, List.map_nil, hxv, List.length_append, List.length_cons, List.length_nil, hal]
        exact AS.le_refl _
  · have hin : i = n := by simp at h11; omega
    subst hin
    rw [Nat.sub_self, rdL] at hR
    simp only [preL, List.append_nil] at hR
    rw [← hR] at hres
    simp only at hres
    subst hres
    refine aw_exit ?_
    refine aw_freeze 200 [1, 6, 11] [6, 11] (by simp [hpacc] <;> rfl) ?_
    refine aw_step [6, 7, 8] [6] (by simp <;> rfl) ?_   -- ref.go:199
    refine aw_ret (ends_ret (by simp [Tryz.results91, hpacc] <;> rfl) ?_)
    simp only [nodeV, Nd.v, hav, hk3]
    exact .refl _

theorem refDecode10_ac (bs : List UInt8) (hb : bs.length ≤ 1048576) : AC Tryz.prog 82 [.ro 1 (bys bs)] (fun r => r = nodeV (rdN bs 4 8 0)) := by
  have hc := refNode_ac bs hb 8 0 (by omega) (by omega)
  have hp := bys_pure bs
  have hc' : AC Tryz.prog 91 [.ro 1 (bys bs), .int .i64 0, .int .i64 1] (fun r => r = nodeV (rdN bs 4 8 0)) := hc
  generalize bys bs = bv at hc' hp
  have hform : ∃ (t k n : Int) (s : List UInt8) (ks : List Nd) (a er : Int), nodeV (rdN bs 4 8 0) = .tup [.agg [.int .i64 t, .int .i64 k, .int .i64 n, .str s, .ro 5 (ks.map Nd.v)], .int .i64 a, .int .i64 er] := by
    cases rdN bs 4 8 0 with
    | error er => exact ⟨0, 0, 0, [], [], 0, er, by simp [nodeV, zNd, Nd.v]⟩
    | ok p => obtain ⟨⟨t, k, n, s, ks⟩, a⟩ := p; exact ⟨t, k, n, s, ks, a, 0, by simp [nodeV, Nd.v]⟩
  obtain ⟨t, k, n, s, ks, a, er, hf⟩ := hform
  rw [hf] at hc' ⊢
  have hpk := pureNd ks
  generalize ks.map Nd.v = kv at hc' hpk ⊢
  refine ac_intro Tryz.func82 rfl (by show (1 : Nat) ≤ 10; omega) (fun w0 N0 => ?_)
  refine aw_step [0, 2] [2] (by simp [Tryz.ntmps82] <;> rfl) ?_   -- ref.go:216
  refine aw_seq (aw_region ?_)   -- ref.go:217
  refine awl_go 1 (by simp <;> rfl) ?_
  refine awl_call1 hc' Tryz.func91 rfl (by kernel_rfl) rfl rfl rfl rfl (by simp [hp]) (by simp <;> rfl) ?_
  refine awl_end [2, 3, 4] [2] (by simp <;> rfl) ?_
  exact aw_ret (ends_ret (by simp [Tryz.results82, hpk] <;> rfl) rfl)
end Go.Proofs.YtmkbhognijicjaaGreatDoor

/- Journals: the reference's reading of a journal. No condition. -/
set_option linter.unusedSimpArgs false
set_option maxRecDepth 4000
namespace Go.Proofs.YtmkbhognijicjaaGreatDoor
open Go.Eng

def entW : Except Int (Nd × Nat × Nat) → V
  | .ok (x, a, s) => .tup [x.v, .int .i64 a, .int .u64 s, .int .i64 0]
  | .error e => .tup [zNd.v, .int .i64 0, .int .u64 0, .int .i64 e]
theorem entRx (e : Int) : Relax (.tup [.agg [.int .i64 0, .int .i64 0, .int .i64 0, .str [], .nils], .int .i64 0, .int .u64 0, .int .i64 e]) (entW (.error e)) :=
  Relax.tup (.cons relax_zN (.refl _))
set_option maxHeartbeats 4000000 in
theorem refEntry_ac (l : List UInt8) (sum : Nat) (n : Int) (hs : sum < 2 ^ 64) : AC Tryz.prog 66 [.ro 1 (bys l), .int .i64 n, .int .u64 sum] (fun r => r = entW (entD l sum n)) := by
  refine AC.relaxP ?_
  have hl := bysL l
  have hp := bys_pure l
  have hg1 := fun h => refGet_ac l 4 h
  have hg2 := fun h => refGet_ac (l.drop (4 + getB (l.take 4))) 8 h
  have hc := refChain_ac sum hs (l.take (4 + getB (l.take 4)))
  have hd := fun h => refDecode10_ac ((l.drop 4).take (getB (l.take 4))) h
  have e2 : bys (l.drop (4 + getB (l.take 4))) = (bys l).drop (4 + getB (l.take 4)) := by simp
  have e3 : bys (l.take (4 + getB (l.take 4))) = (bys l).take (4 + getB (l.take 4)) := by simp
  have e4 : bys ((l.drop 4).take (getB (l.take 4))) = ((bys l).drop 4).take (getB (l.take 4)) := by simp
  simp only [e2] at hg2
  rw [e3] at hc
  simp only [e4] at hd
  clear e2 e3 e4
  unfold entD
  generalize hS : getB (l.take 4) = sz at *
  generalize hC : chn sum (l.take (4 + sz)) = ch at *
  have hch : 0 ≤ ch ∧ ch < 2 ^ 64 := by rw [← hC]; exact chn_range _ _
  generalize hK : getB ((l.drop (4 + sz)).take 8) = ck at *
  generalize hlv : bys l = lv at *
  refine ac_intro Tryz.func66 rfl (by show (3 : Nat) ≤ 70; omega) (fun w0 N0 => ?_)
  refine aw_step [0, 1, 2, 6] [6] (by simp [Tryz.ntmps66] <;> rfl) ?_   -- ref.go:30
  refine aw_seq ?_
  refine aw_step [0, 2, 6, 17] [6] (by simp <;> rfl) ?_   -- ref.go:31
  refine aw_cond rfl (fun h1 => ?_) (fun h1 => aw_skip ?_)   -- if t17
  · have h1' : 300 ≤ n := by simp at h1; exact h1
    rw [if_pos h1']
    refine aw_step [6, 7, 8, 9] [6] (by simp <;> rfl) ?_   -- ref.go:32
    exact aw_ret (ends_ret (by simp [Tryz.results66] <;> rfl) (entRx _))
  have h1' : ¬ 300 ≤ n := by simp at h1; omega
  rw [if_neg h1']
  refine aw_seq ?_
  refine aw_step [0, 2, 6, 21] [6] (by simp <;> rfl) ?_   -- ref.go:34
  refine aw_cond rfl (fun h2 => ?_) (fun h2 => aw_skip ?_)   -- if t21
  · have h2' : l.length < 4 := by simp at h2; omega
    rw [if_pos h2']
    refine aw_step [6, 7, 8, 9] [6] (by simp <;> rfl) ?_   -- ref.go:35
    exact aw_ret (ends_ret (by simp [Tryz.results66] <;> rfl) (entRx _))
  have h2' : ¬ l.length < 4 := by simp at h2; omega
  rw [if_neg h2']
  have hg1' := hg1 (by omega)
  refine aw_seq (aw_region ?_)   -- ref.go:37
  refine awl_go 1 (by simp <;> rfl) ?_
  refine awl_call1 hg1' Tryz.func81 rfl (by kernel_rfl) rfl rfl rfl (by simp <;> rfl) (by simp [hp]) (by simp <;> rfl) ?_
  refine awl_end [0, 2, 6, 10] [6] (by simp <;> rfl) ?_
  refine aw_seq ?_
  refine aw_step [0, 2, 6, 10, 26] [6] (by simp <;> rfl) ?_   -- ref.go:38
  refine aw_cond rfl (fun h3 => ?_) (fun h3 => aw_skip ?_)   -- if t26
  · have h3' : 2000 < sz := by simp at h3; omega
    rw [if_pos h3']
    refine aw_step [6, 7, 8, 9] [6] (by simp <;> rfl) ?_   -- ref.go:39
    exact aw_ret (ends_ret (by simp [Tryz.results66] <;> rfl) (entRx _))
  have h3' : ¬ 2000 < sz := by simp at h3; omega
  rw [if_neg h3']
  have hw1 : IntKind.i64.wrap (sz : Int) = sz := wrap_in (by omega) (by omega)
  obtain ⟨en, hen, hen'⟩ : ∃ en : Int, IntKind.i64.wrap (4 + (sz : Int)) = en ∧ en = ((4 + sz : Nat) : Int) := ⟨_, rfl, by rw [wrap_in (by omega) (by omega)]; omega⟩
  obtain ⟨e8, he8, he8'⟩ : ∃ e8 : Int, IntKind.i64.wrap (en + 8) = e8 ∧ e8 = ((4 + sz + 8 : Nat) : Int) := ⟨_, rfl, by rw [wrap_in (by omega) (by omega)]; omega⟩
  have hent : en.toNat = 4 + sz := by omega
  have he8t : e8.toNat = 4 + sz + 8 := by omega
  refine aw_step [0, 2, 6, 10, 11] [6] (by simp [hw1, hen] <;> rfl) ?_   -- ref.go:41
  refine aw_seq ?_
  refine aw_step [0, 2, 6, 10, 11, 35] [6] (by simp [he8] <;> rfl) ?_   -- ref.go:42
  refine aw_cond rfl (fun h4 => ?_) (fun h4 => aw_skip ?_)   -- if t35
  · have h4' : l.length < 4 + sz + 8 := by simp at h4; omega
    rw [if_pos h4']
    refine aw_step [6, 7, 8, 9] [6] (by simp <;> rfl) ?_   -- ref.go:43
    exact aw_ret (ends_ret (by simp [Tryz.results66] <;> rfl) (entRx _))
  have h4' : ¬ l.length < 4 + sz + 8 := by simp at h4; omega
  rw [if_neg h4']
  have hb1 : 0 ≤ en ∧ en ≤ lv.length := by omega
  have hb3 : (4 : Int) ≤ en := by omega
  have hc' : AC Tryz.prog 45 [.int .u64 sum, .ro 1 (lv.take en.toNat)] (fun r => r = .int .u64 ch) := by rw [hent]; exact hc
  have hg2' : AC Tryz.prog 81 [.ro 1 ((lv.drop en.toNat).take (lv.length - en.toNat)), .int .i64 8] (fun r => r = .int .u64 ck) := by
    rw [hent, List.take_of_length_le (by simp)]
    exact hg2 (by simp; omega)
  have hd' : AC Tryz.prog 82 [.ro 1 ((lv.drop 4).take (en.toNat - 4))] (fun r => r = nodeV (rdN ((l.drop 4).take sz) 4 8 0)) := by rw [hent, show 4 + sz - 4 = sz by omega]; exact hd (by simp; omega)
  refine aw_seq (aw_region ?_)   -- ref.go:45
  refine awl_go 4 (by simp [hb1] <;> rfl) ?_
  refine awl_call1 hc' Tryz.func45 rfl (by kernel_rfl) rfl rfl rfl (by simp <;> rfl) (by simp [hp]) (by simp <;> rfl) ?_
  refine awl_end [0, 6, 10, 11, 12] [6] (by simp <;> rfl) ?_
  refine aw_seq ?_
  refine aw_seq (aw_region ?_)   -- ref.go:46
  refine awl_go 3 (by simp [hb1] <;> rfl) ?_
  refine awl_call1 hg2' Tryz.func81 rfl (by kernel_rfl) rfl rfl rfl (by simp <;> rfl) (by simp [hp]) (by simp <;> rfl) ?_
  refine awl_end [0, 6, 10, 11, 12, 47] [6] (by simp <;> rfl) ?_
  refine aw_cond rfl (fun h5 => ?_) (fun h5 => aw_skip ?_)   -- if t47
  · have h5' : (ck : Int) ≠ ch := by simpa using h5
    rw [if_pos h5']
    refine aw_step [6, 7, 8, 9] [6] (by simp <;> rfl) ?_   -- ref.go:47
    exact aw_ret (ends_ret (by simp [Tryz.results66] <;> rfl) (entRx _))
  have h5' : ¬ (ck : Int) ≠ ch := by simpa using h5
  rw [if_neg h5']
  refine aw_seq (aw_region ?_)   -- ref.go:49
  refine awl_go 3 (by simp [hb1, hb3] <;> rfl) ?_
  cases hx : rdN ((l.drop 4).take sz) 4 8 0 with
  | error er =>
    have hd2 : AC Tryz.prog 82 [.ro 1 ((lv.drop 4).take (en.toNat - 4))] (fun r => r = .tup [.agg [.int .i64 0, .int .i64 0, .int .i64 0, .str [], .ro 5 []], .int .i64 0, .int .i64 er]) := by
      rw [hx] at hd'
      simpa only [nodeV, zNd, Nd.v, List.map_nil] using hd'
    refine awl_call1 hd2 Tryz.func82 rfl (by kernel_rfl) rfl rfl rfl (by simp <;> rfl) (by simp [hp]) (by simp <;> rfl) ?_
    refine awl_end [6, 10, 11, 12, 13, 14, 15] [6, 13] (by simp <;> rfl) ?_
    have her := rdN_err (by omega) _ _ hx
    refine aw_seq ?_
    refine aw_step [6, 11, 12, 13, 64] [6, 13] (by simp [hw1, her] <;> rfl) ?_   -- ref.go:50
    refine aw_cond rfl (fun h6 => ?_) (fun h6 => by simp [her] at h6)   -- if t64
    refine aw_step [6, 7, 8, 9] [6] (by simp <;> rfl) ?_   -- ref.go:51
    exact aw_ret (ends_ret (by simp [Tryz.results66] <;> rfl) (entRx _))
  | ok p =>
    obtain ⟨x, a⟩ := p
    have hd2 : AC Tryz.prog 82 [.ro 1 ((lv.drop 4).take (en.toNat - 4))] (fun r => r = .tup [x.v, .int .i64 a, .int .i64 0]) := by
      rw [hx] at hd'
      exact hd'
    rcases hxx : x with ⟨xt, xk, xn, xs, xks⟩
    have hxv : x.v = .agg [.int .i64 xt, .int .i64 xk, .int .i64 xn, .str xs, .ro 5 (xks.map Nd.v)] := by rw [hxx, Nd.v]
    rw [hxv] at hd2
    have hpk := pureNd xks
    generalize hkvv : xks.map Nd.v = xkv at hd2 hpk hxv
    refine awl_call1 hd2 Tryz.func82 rfl (by kernel_rfl) rfl rfl rfl (by simp <;> rfl) (by simp [hp]) (by simp <;> rfl) ?_
    refine awl_end [6, 10, 11, 12, 13, 14, 15] [6, 13] (by simp <;> rfl) ?_
    refine aw_seq ?_
    refine aw_step [6, 11, 12, 13, 64] [6, 13] (by simp [hw1] <;> rfl) ?_   -- ref.go:50
    refine aw_cond rfl (fun h6 => ?_) (fun h6 => aw_skip ?_)   -- if t64
    · have h6' : ¬ a = sz := by simp at h6; omega
      refine aw_step [6, 7, 8, 9] [6] (by simp <;> rfl) ?_   -- ref.go:51
      refine aw_ret (ends_ret (by simp [Tryz.results66] <;> rfl) ?_)
      simp only [if_neg h6']
      exact entRx _
    have h6' : a = sz := by simp at h6; omega
    refine aw_step [6, 7, 8, 9] [6] (by simp [he8] <;> rfl) ?_   -- ref.go:53
    refine aw_ret (ends_ret (by simp [Tryz.results66] <;> rfl) ?_)
    simp only [if_pos h6']
    unfold entW
    simp only [← hxx, hxv, he8']
    rw [show ((ch.toNat : Nat) : Int) = ch by omega]
    exact .refl _

/-- Reads entries while there are bytes: the trees, how far, the last digest, the code. -/
def rdK (l : List UInt8) : Nat → Nat → Nat → List Nd → List Nd × Nat × Nat × Int
  | 0, at_, s, ns => (ns, at_, s, 5)
  | f + 1, at_, s, ns => if l.length ≤ at_ then (ns, at_, s, 0) else match entD (l.drop at_) s ns.length with
    | .error e => (ns, at_, s, e)
    | .ok (x, k, s') => rdK l f (at_ + k) s' (ns ++ [x])
def rdK0 (l : List UInt8) : List Nd × Nat × Nat × Int := rdK l 301 0 14695981039346656037 []
def kV (r : List Nd × Nat × Nat × Int) : V := .tup [.ro 5 (r.1.map Nd.v), .int .i64 r.2.1, .int .u64 r.2.2.1, .int .i64 r.2.2.2]
theorem rdK_rdJ (l : List UInt8) : ∀ (f at_ s : Nat) (ns : List Nd), rdJ l f at_ s ns = ((rdK l f at_ s ns).1, (rdK l f at_ s ns).2.1, (rdK l f at_ s ns).2.2.2)
  | 0, at_, s, ns => rfl
  | f + 1, at_, s, ns => by
    rw [rdJ, rdK]
    by_cases h : l.length ≤ at_
    · rw [if_pos h, if_pos h]
    · rw [if_neg h, if_neg h]
      cases hx : entD (l.drop at_) s ns.length with
      | error e => rfl
      | ok p => exact rdK_rdJ l f _ _ _
theorem rdK0_rdJ (l : List UInt8) : rdJ0 l = ((rdK0 l).1, (rdK0 l).2.1, (rdK0 l).2.2.2) := rdK_rdJ l _ _ _ _
theorem rdK_run {l : List UInt8} : ∀ (f at_ s : Nat) (ns : List Nd), Run l at_ s ns → Run l (rdK l f at_ s ns).2.1 (rdK l f at_ s ns).2.2.1 (rdK l f at_ s ns).1
  | 0, at_, s, ns, h => h
  | f + 1, at_, s, ns, h => by
    rw [rdK]
    split
    · exact h
    · split
      · exact h
      · rename_i x k s' hx
        exact rdK_run f _ _ _ (.step h hx)
theorem rdK0_run (l : List UInt8) : Run l (rdK0 l).2.1 (rdK0 l).2.2.1 (rdK0 l).1 := rdK_run _ _ _ _ .start
theorem rdK_dig (l : List UInt8) : ((rdK0 l).2.2.1 : Int) = endD (l.take (rdK0 l).2.1) := (rdK0_run l).dig

set_option maxHeartbeats 4000000 in
theorem refRead_ac (l : List UInt8) (hlen : l.length ≤ 2 ^ 40) : AC Tryz.prog 41 [.ro 1 (bys l)] (fun r => r = kV (rdK0 l)) := by
  have hp := bys_pure l
  have hl := bysL l
  have hdr : ∀ k, bys (l.drop k) = (bys l).drop k := by intro k; simp
  have hent : ∀ (k s : Nat) (n : Int), s < 2 ^ 64 → AC Tryz.prog 66 [.ro 1 ((bys l).drop k), .int .i64 n, .int .u64 s] (fun r => r = entW (entD (l.drop k) s n)) := by
    intro k s n hs
    rw [← hdr]
    exact refEntry_ac _ _ _ hs
  clear hdr
  generalize hlv : bys l = lv at hp hl hent
  refine ac_intro Tryz.func41 rfl (by show (1 : Nat) ≤ 47; omega) (fun w0 N0 => ?_)
  refine aw_step [0] [] (by simp [Tryz.ntmps41] <;> rfl) ?_   -- ref.go:57
  refine aw_step [0, 6] [] (by simp <;> rfl) ?_   -- ref.go:58
  refine aw_step [0, 6, 7] [] (by simp <;> rfl) ?_   -- ref.go:59
  refine aw_seq (aw_region ?_)   -- ref.go:60
  refine awl_call1 refOfNil_ac Tryz.func65 rfl (by kernel_rfl) rfl rfl rfl rfl rfl (by simp <;> rfl) ?_
  refine awl_end [0, 6, 7, 8] [] (by simp <;> rfl) ?_
  refine aw_adoptS 6 100 5 42 [0, 6, 7, 8] [100] (by simp <;> rfl) (by simp <;> rfl) ?_
  refine aw_seq ?_
  refine aw_block ?_
  refine aw_loop (fun p : Nat × Nat × List Nd × Nat × Nat => ⟨[(0, .ro 1 lv), (6, .sl 100 p.2.2.2.1 5 (p.2.2.1.map Nd.v).length), (7, .int .i64 p.1), (8, .int .u64 p.2.1)], [(100, ⟨p.2.2.2.1, 5, 42, p.2.2.1.map Nd.v⟩)], p.2.2.2.2, 47⟩)
    (fun p => p.2.2.1.length ≤ 300 ∧ p.1 ≤ l.length ∧ p.2.1 < 2 ^ 64 ∧ rdK l (301 - p.2.2.1.length) p.1 p.2.1 p.2.2.1 = rdK0 l) (fun p => 301 - p.2.2.1.length) (0, 14695981039346656037, [], _, _) ⟨by simp, by simp, by simp, rfl⟩ (by simp [dig0]; exact AS.le_refl _) ?_
  rintro ⟨at_, sum, acc, vr, nx⟩ ⟨hacc, hat_, hsum, hR⟩
  simp only at hacc hat_ hsum hR
  have hpacc := pureNd acc
  have hal : (acc.map Nd.v).length = acc.length := by simp
  obtain ⟨m, hm⟩ : ∃ m, 301 - acc.length = m + 1 := ⟨300 - acc.length, by omega⟩
  rw [hm, rdK] at hR
  simp only
  generalize hav : acc.map Nd.v = av at hpacc hal
  have hb1 : av.length + 1 ≤ maxLen := by simp [maxLen]; omega
  have hb2 : (av.length + 1) * 64 ≤ 140737488355328 := by omega
  refine aw_seq ?_
  refine aw_step [0, 6, 7, 8, 17] [100] (by simp <;> rfl) ?_   -- ref.go:61
  refine aw_cond rfl (fun h1 => aw_skip ?_) (fun h1 => ?_)   -- if t17
  · have h1' : ¬ l.length ≤ at_ := by simp at h1; omega
    rw [if_neg h1'] at hR
    have hbd : (at_ : Int) ≤ lv.length := by omega
    have hta : lv.length - at_ = (lv.drop at_).length := by simp
    have hent' : AC Tryz.prog 66 [.ro 1 ((lv.drop at_).take (lv.length - at_)), .int .i64 av.length, .int .u64 sum] (fun r => r = entW (entD (l.drop at_) sum acc.length)) := by
      rw [hta, List.take_length, hal]
      exact hent at_ sum _ hsum
    refine aw_block ?_
    refine aw_seq (aw_region ?_)   -- ref.go:62
    refine awl_go 6 (by simp [hbd] <;> rfl) ?_
    cases hx : entD (l.drop at_) sum acc.length with
    | error er =>
      have her := entD_err hx
      rw [hx] at hR hent'
      simp only at hR
      simp only [entW, zNd, Nd.v, List.map_nil] at hent'
      refine awl_call1 hent' Tryz.func66 rfl (by kernel_rfl) rfl rfl rfl (by simp <;> rfl) (by simp [hp]) (by simp <;> rfl) ?_
      refine awl_end [0, 6, 7, 8, 9, 10, 11, 12] [9, 100] (by simp <;> rfl) ?_
      refine aw_seq ?_
      refine aw_step [0, 6, 7, 8, 9, 10, 11, 12, 31] [9, 100] (by simp <;> rfl) ?_   -- ref.go:63
      refine aw_cond rfl (fun h2 => ?_) (fun h2 => by simp [her] at h2)   -- if t31
      refine aw_freeze 100 [6, 7, 8, 12] [] (by simp [hpacc] <;> rfl) ?_
      refine aw_step [2, 3, 4, 5] [] (by simp <;> rfl) ?_   -- ref.go:64
      refine aw_ret (ends_ret (by simp [Tryz.results41] <;> rfl) ?_)
      rw [← hR, kV]
      simp [hav]
    | ok p =>
      obtain ⟨x, k, s'⟩ := p
      obtain ⟨hk1, hk2, hk3, hk4, hk5⟩ := entD_ok hx
      rw [hx] at hR hent'
      simp only at hR
      simp only [List.length_drop] at hk3
      rcases hxx : x with ⟨xt, xk, xn, xs, xks⟩
      have hxv : x.v = .agg [.int .i64 xt, .int .i64 xk, .int .i64 xn, .str xs, .ro 5 (xks.map Nd.v)] := by rw [hxx, Nd.v]
      simp only [entW, hxv] at hent'
      have hpk := pureNd xks
      generalize hkvv : xks.map Nd.v = xkv at hent' hpk hxv
      have hwk : IntKind.i64.wrap ((at_ : Int) + k) = (at_ : Int) + k := wrap_in (by omega) (by omega)
      refine awl_call1 hent' Tryz.func66 rfl (by kernel_rfl) rfl rfl rfl (by simp <;> rfl) (by simp [hp]) (by simp <;> rfl) ?_
      refine awl_end [0, 6, 7, 8, 9, 10, 11, 12] [9, 100] (by simp <;> rfl) ?_
      refine aw_seq ?_
      refine aw_step [0, 6, 7, 8, 9, 10, 11, 12, 31] [9, 100] (by simp <;> rfl) ?_   -- ref.go:63
      refine aw_cond rfl (fun h2 => by simp at h2) (fun h2 => aw_skip ?_)   -- if t31
      refine aw_step [0, 6, 7, 10, 11] [100] (by simp [hb1, hb2] <;> rfl) ?_   -- ref.go:66
      refine aw_step [0, 6, 7, 11] [100] (by simp [hwk] <;> rfl) ?_   -- ref.go:67
      refine aw_one [0, 6, 7, 8] [100] (by simp <;> rfl) ?_   -- ref.go:68
      refine ⟨(at_ + k, s', acc ++ [x], nx + 4 + 17 + 2 + 3, nx + 4 + 17 + 2 + 5 + 4 + 2), ⟨by simp; omega, by simp only; omega, hk5, ?_⟩, by simp; omega, ?_⟩
      · simp only [List.length_append, List.length_cons, List.length_nil]
        rw [show 301 - (acc.length + (0 + 1)) = m by omega]
        exact hR
      · have hc1 : ((at_ + k : Nat) : Int) = (at_ : Int) + k := by omega
        simp only [hc1, List.map_append, hav, List.map_cons, List.map_nil, hxv, List.length_append, List.length_cons, List.length_nil]
        exact AS.le_refl _
  · have h1' : l.length ≤ at_ := by simp at h1; omega
    rw [if_pos h1'] at hR
    refine aw_exit ?_
    refine aw_freeze 100 [6, 7, 8] [] (by simp [hpacc] <;> rfl) ?_
    refine aw_step [2, 3, 4, 5] [] (by simp <;> rfl) ?_   -- ref.go:70
    refine aw_ret (ends_ret (by simp [Tryz.results41] <;> rfl) ?_)
    rw [← hR, kV]
    simp [hav]
end Go.Proofs.YtmkbhognijicjaaGreatDoor
