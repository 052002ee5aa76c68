import Derived.Test.YtmkbhognijicjaaGreatDoorGB
/- Resume: the lengths of varints. No condition. -/
set_option linter.unusedSimpArgs false
set_option maxRecDepth 4000
namespace Go.Proofs.YtmkbhognijicjaaGreatDoor
open Go.Eng

theorem u8_range (x : Int) : 0 ≤ IntKind.u8.wrap x ∧ IntKind.u8.wrap x < 256 := by
  rw [IntKind.wrap_u8]; omega
def tab8 : List UInt8 := [0, 1] ++ List.replicate 2 2 ++ List.replicate 4 3 ++ List.replicate 8 4 ++ List.replicate 16 5 ++ List.replicate 32 6 ++ List.replicate 64 7 ++ List.replicate 128 8
theorem tab8_len : tab8.length = 256 := by decide +kernel
theorem tab8_le : ∀ b ∈ tab8, b.toNat ≤ 8 := by decide +kernel
def la (x : Int) : Int × Int := if decide (4294967296 ≤ x) = true then (x.fdiv 4294967296, 32) else (x, 0)
def lb (p : Int × Int) : Int × Int := if decide (65536 ≤ p.1) = true then (p.1.fdiv 65536, p.2 + 16) else p
def lc (p : Int × Int) : Int × Int := if decide (256 ≤ p.1) = true then (p.1.fdiv 256, p.2 + 8) else p
def t8 (x : Int) : Int := ((nth tab8 (IntKind.u8.wrap x).toNat).getD 0).toNat
def l64 (x : Int) : Int := (lc (lb (la x))).2 + t8 (lc (lb (la x))).1
theorem la_b (x : Int) : 0 ≤ (la x).2 ∧ (la x).2 ≤ 32 := by unfold la; split <;> simp
theorem lb_b (p : Int × Int) : p.2 ≤ (lb p).2 ∧ (lb p).2 ≤ p.2 + 16 := by unfold lb; split <;> (try simp only) <;> omega
theorem lc_b (p : Int × Int) : p.2 ≤ (lc p).2 ∧ (lc p).2 ≤ p.2 + 8 := by unfold lc; split <;> (try simp only) <;> omega
theorem t8_at (x : Int) : ∃ b, nth tab8 (IntKind.u8.wrap x).toNat = some b ∧ t8 x = b.toNat ∧ b.toNat ≤ 8 := by
  have hu := u8_range x
  have hml : (IntKind.u8.wrap x).toNat < tab8.length := by rw [tab8_len]; omega
  have hmn : nth tab8 (IntKind.u8.wrap x).toNat = some tab8[(IntKind.u8.wrap x).toNat] := by rw [nth_eq]; simp [hml]
  exact ⟨_, hmn, by rw [t8, hmn]; rfl, tab8_le _ (List.getElem_mem hml)⟩
theorem l64_b (x : Int) : 0 ≤ l64 x ∧ l64 x ≤ 64 := by
  have h1 := la_b x
  have h2 := lb_b (la x)
  have h3 := lc_b (lb (la x))
  obtain ⟨b, _, h4, h5⟩ := t8_at (lc (lb (la x))).1
  unfold l64
  omega

set_option maxRecDepth 100000 in
set_option maxHeartbeats 1000000 in
theorem len64_ac (x : Int) : AC Tryz.prog 90 [.int .u64 x] (fun r => r = .int .i64 (l64 x)) := by
  refine ac_intro Tryz.func90 rfl (by show (1 : Nat) ≤ 25; omega) (fun w0 N0 => ?_)
  refine aw_step [0, 2] [] (by simp [Tryz.ntmps90] <;> rfl) ?_   -- bits.go:337
  refine aw_viale ⟨[(0, .int .u64 (la x).1), (2, .int .i64 (la x).2)], [], 1000, 25⟩ ?_ ?_
  · refine aw_step [0, 2, 4] [] (by simp <;> rfl) ?_   -- bits.go:338
    refine aw_cond rfl (fun h1 => ?_) (fun h1 => aw_skip ?_)   -- if t4
    · refine aw_step [0] [] (by simp <;> rfl) ?_   -- bits.go:339
      refine aw_one [0, 2] [] (by simp <;> rfl) ?_   -- bits.go:340
      refine ⟨rfl, ?_⟩
      rw [la, if_pos h1]
      exact le_nx rfl rfl rfl (by simp)
    · refine ⟨rfl, ?_⟩
      rw [la, if_neg (by rw [h1]; simp)]
      exact le_to [0, 2] [] (by simp <;> rfl) (by simp <;> rfl) rfl (by simp)
  have hb1 := la_b x
  unfold l64
  generalize la x = p1 at hb1
  obtain ⟨x1, n1⟩ := p1
  simp only at hb1
  have hw1 : IntKind.i64.wrap (n1 + 16) = n1 + 16 := wrap_in (by omega) (by omega)
  refine aw_viale ⟨[(0, .int .u64 (lb (x1, n1)).1), (2, .int .i64 (lb (x1, n1)).2)], [], 2000, 25⟩ ?_ ?_
  · refine aw_step [0, 2, 8] [] (by simp <;> rfl) ?_   -- bits.go:342
    refine aw_cond rfl (fun h1 => ?_) (fun h1 => aw_skip ?_)   -- if t8
    · refine aw_step [0, 2] [] (by simp <;> rfl) ?_   -- bits.go:343
      refine aw_one [0, 2] [] (by simp [hw1] <;> rfl) ?_   -- bits.go:344
      refine ⟨rfl, ?_⟩
      rw [lb, if_pos h1]
      exact le_nx rfl rfl rfl (by simp)
    · refine ⟨rfl, ?_⟩
      rw [lb, if_neg (by rw [h1]; simp)]
      exact le_to [0, 2] [] (by simp <;> rfl) (by simp <;> rfl) rfl (by simp)
  have hb2 := lb_b (x1, n1)
  generalize lb (x1, n1) = p2 at hb2
  obtain ⟨x2, n2⟩ := p2
  simp only at hb2
  have hw2 : IntKind.i64.wrap (n2 + 8) = n2 + 8 := wrap_in (by omega) (by omega)
  refine aw_viale ⟨[(0, .int .u64 (lc (x2, n2)).1), (2, .int .i64 (lc (x2, n2)).2)], [], 3000, 25⟩ ?_ ?_
  · refine aw_step [0, 2, 14] [] (by simp <;> rfl) ?_   -- bits.go:346
    refine aw_cond rfl (fun h1 => ?_) (fun h1 => aw_skip ?_)   -- if t14
    · refine aw_step [0, 2] [] (by simp <;> rfl) ?_   -- bits.go:347
      refine aw_one [0, 2] [] (by simp [hw2] <;> rfl) ?_   -- bits.go:348
      refine ⟨rfl, ?_⟩
      rw [lc, if_pos h1]
      exact le_nx rfl rfl rfl (by simp)
    · refine ⟨rfl, ?_⟩
      rw [lc, if_neg (by rw [h1]; simp)]
      exact le_to [0, 2] [] (by simp <;> rfl) (by simp <;> rfl) rfl (by simp)
  have hb3 := lc_b (x2, n2)
  generalize lc (x2, n2) = p3 at hb3
  obtain ⟨x3, n3⟩ := p3
  simp only at hb3
  generalize hc : ByteArray.mk _ = c0
  have hL : c0.data.toList = tab8 := by rw [← hc]; decide +kernel
  clear hc
  obtain ⟨b, hmn, ht, hb⟩ := t8_at x3
  have hu := u8_range x3
  rw [ht]
  obtain ⟨m, hm⟩ := Int.eq_ofNat_of_zero_le hu.1
  rw [hm] at hmn
  simp only [Int.toNat_natCast] at hmn
  have hwb : IntKind.i64.wrap (b.toNat : Int) = b.toNat := wrap_in (by omega) (by omega)
  have hws : IntKind.i64.wrap (n3 + b.toNat) = n3 + b.toNat := wrap_in (by omega) (by omega)
  generalize tab8 = L at hL hmn
  refine aw_step [2] [] (by simp [hL, hm, hmn, hwb, hws] <;> rfl) ?_   -- bits.go:350
  exact aw_ret (ends_ret (by simp [Tryz.results90] <;> rfl) rfl)

/-- The length of a varint. -/
def vl (x : Int) : Int := (l64 (bits .or .u64 x 1) + 6) / 7
theorem vl_b (x : Int) : 0 ≤ vl x ∧ vl x ≤ 10 := by
  have := l64_b (bits .or .u64 x 1)
  unfold vl
  omega
theorem varintLen_ac (x : Int) : AC Tryz.prog 78 [.int .u64 x] (fun r => r = .int .i64 (vl x)) := by
  have hc := len64_ac (bits .or .u64 x 1)
  have hb := l64_b (bits .or .u64 x 1)
  unfold vl
  generalize l64 (bits .or .u64 x 1) = k at hc hb
  have hw : IntKind.i64.wrap (k + 6) = k + 6 := wrap_in (by omega) (by omega)
  have hq : (k + 6).tdiv 7 = (k + 6) / 7 := Int.tdiv_eq_ediv_of_nonneg (by omega)
  have hw2 : IntKind.i64.wrap ((k + 6) / 7) = (k + 6) / 7 := wrap_in (by omega) (by omega)
  refine ac_intro Tryz.func78 rfl (by show (1 : Nat) ≤ 8; omega) (fun w0 N0 => ?_)
  refine aw_step [0] [] (by simp [Tryz.ntmps78] <;> rfl) ?_   -- codec.go:50
  refine aw_seq (aw_region ?_)   -- codec.go:51
  refine awl_go 2 (by simp <;> rfl) ?_
  refine awl_call1 hc Tryz.func90 rfl (by kernel_rfl) rfl rfl rfl rfl rfl (by simp <;> rfl) ?_
  refine awl_end [2] [] (by simp [hw, hq, hw2] <;> rfl) ?_
  exact aw_ret (ends_ret (by simp [Tryz.results78] <;> rfl) rfl)

theorem fold_ac (n : Int) : AC Tryz.prog 79 [.int .i64 n] (fun r => ∃ k : Int, r = .int .u64 k) := by
  refine ac_intro Tryz.func79 rfl (by show (1 : Nat) ≤ 10; omega) (fun w0 N0 => ?_)
  refine aw_step [0] [] (by simp [Tryz.ntmps79] <;> rfl) ?_   -- codec.go:40
  refine aw_step [2] [] (by simp <;> rfl) ?_   -- codec.go:41
  exact aw_ret (ends_ret (by simp [Tryz.results79] <;> rfl) ⟨_, rfl⟩)
end Go.Proofs.YtmkbhognijicjaaGreatDoor

/- Resume: the measure of a tree that fits. No condition. -/
set_option linter.unusedSimpArgs false
set_option maxRecDepth 4000
namespace Go.Proofs.YtmkbhognijicjaaGreatDoor
open Go.Eng

def sumC (c : Nd → Int) : List Nd → Int
  | [] => 0
  | x :: r => c x + sumC c r
theorem sumC_nonneg {c : Nd → Int} : ∀ {l : List Nd}, (∀ x ∈ l, 0 ≤ c x) → 0 ≤ sumC c l
  | [], _ => by simp [sumC]
  | x :: r, h => by
    have h1 := h x (by simp)
    have h2 := sumC_nonneg (c := c) (l := r) (fun y hy => h y (by simp [hy]))
    simp only [sumC]; omega
theorem sumC_take {c : Nd → Int} : ∀ {l : List Nd} {k : Nat} (h : k < l.length), sumC c (l.take (k + 1)) = sumC c (l.take k) + c l[k]
  | x :: r, 0, _ => by simp [sumC]
  | x :: r, k + 1, h => by
    have := sumC_take (c := c) (l := r) (k := k) (by simpa using h)
    simp only [List.take_succ_cons, sumC, List.getElem_cons_succ]
    rw [this]; omega
theorem sumC_le {c : Nd → Int} : ∀ {l : List Nd} (k : Nat), (∀ x ∈ l, 0 ≤ c x) → sumC c (l.take k) ≤ sumC c l
  | [], k, _ => by simp [sumC]
  | x :: r, 0, h => by simpa [sumC] using sumC_nonneg h
  | x :: r, k + 1, h => by
    have := sumC_le (c := c) (l := r) k (fun y hy => h y (by simp [hy]))
    simp only [List.take_succ_cons, sumC]; omega

set_option maxRecDepth 100000 in
set_option maxHeartbeats 4000000 in
theorem measure_ac (t kd n : Int) (s : List UInt8) (l : List Nd) (lv room : Int) (c : Nd → Int) (ht : 0 ≤ t ∧ t ≤ 9999999) (hlv : 1 ≤ lv ∧ lv ≤ 8) (hr : room ≤ 1048576)
    (hkind : (kd = 1 ∧ s = [] ∧ l = []) ∨ (kd = 2 ∧ n = 0 ∧ l = [] ∧ s.length ≤ 2000) ∨ (kd = 3 ∧ n = 0 ∧ s = [] ∧ l.length ≤ 1024))
    (hc : ∀ x ∈ l, 0 ≤ c x) (hkids : ∀ x ∈ l, ∀ r, c x ≤ r → r ≤ 1048576 → AC Tryz.prog 57 [x.v, .int .i64 (lv + 1), .int .i64 r] (fun q => ∃ k : Int, q = .tup [.int .i64 k, .bool true] ∧ 0 ≤ k ∧ k ≤ c x))
    (hroom : 21 + s.length + sumC c l ≤ room) :
    AC Tryz.prog 57 [(Nd.mk t kd n s l).v, .int .i64 lv, .int .i64 room] (fun q => ∃ k : Int, q = .tup [.int .i64 k, .bool true] ∧ 0 ≤ k ∧ k ≤ 21 + s.length + sumC c l) := by
  have hga := fun (k : Nat) (h : k < l.length) => nthN h
  have hla : (l.map Nd.v).length = l.length := by simp
  have hl0 : l = [] → l.map Nd.v = [] := by rintro rfl; rfl
  have hsn : (0 : Int) ≤ s.length := by omega
  have hcn := sumC_nonneg hc
  have hs2 : (s.length : Int) ≤ 2000 := by
    rcases hkind with ⟨_, h, _⟩ | ⟨_, _, _, h⟩ | ⟨_, _, h, _⟩
    · rw [h]; simp
    · omega
    · rw [h]; simp
  have hl2 : (l.length : Int) ≤ 1024 := by
    rcases hkind with ⟨_, _, h⟩ | ⟨_, _, h, _⟩ | ⟨_, _, _, h⟩
    · rw [h]; simp
    · rw [h]; simp
    · omega
  rw [Nd.v]
  generalize l.map Nd.v = kv at hga hla hl0
  have hkv2 : ¬ (1024 : Int) < kv.length := by omega
  have hss2 : ¬ (2000 : Int) < s.length := by omega
  have g1 : ¬ 8 < lv := by omega
  have g2 : ¬ t < 0 := by omega
  have g3 : ¬ 9999999 < t := by omega
  refine ac_intro Tryz.func57 rfl (by show (3 : Nat) ≤ 130; omega) (fun w0 N0 => ?_)
  refine aw_step [1, 2, 3] [3] (by simp [Tryz.ntmps57] <;> rfl) ?_   -- codec.go:55
  refine aw_seq ?_
  refine aw_step [1, 2, 3, 24] [3] (by simp [g1, g2, g3] <;> rfl) ?_   -- codec.go:56
  refine aw_cond rfl (fun h1 => by simp at h1) (fun h1 => aw_skip ?_)   -- if t24
  refine aw_seq ?_
  refine aw_step [1, 2, 3, 53] [3] (by simp <;> rfl) ?_   -- codec.go:59
  refine aw_cond rfl (fun h2 => ?_) (fun h2 => aw_skip ?_)   -- if t53
  · exfalso
    rcases hkind with ⟨rfl, rfl, h⟩ | ⟨rfl, rfl, h, _⟩ | ⟨rfl, rfl, rfl, _⟩
    · rw [hl0 h] at h2; simp at h2
    · rw [hl0 h] at h2; simp at h2
    · simp at h2
  refine aw_seq (aw_region ?_)   -- codec.go:62
  refine awl_go 3 (by simp <;> rfl) ?_
  have hv1 := vl_b (IntKind.u64.wrap t)
  have hva1 := varintLen_ac (IntKind.u64.wrap t)
  generalize vl (IntKind.u64.wrap t) = k1 at hv1 hva1
  have hw1 : IntKind.i64.wrap (k1 + 1) = k1 + 1 := wrap_in (by omega) (by omega)
  refine awl_call1 hva1 Tryz.func78 rfl (by kernel_rfl) rfl rfl rfl rfl rfl (by simp <;> rfl) ?_
  refine awl_end [1, 2, 3, 8] [3] (by simp [hw1] <;> rfl) ?_
  refine aw_viaE (fun p : Int × Nat => ⟨[(1, .int .i64 lv), (2, .int .i64 room), (3, .bp 3 0 5 0 0), (8, .int .i64 p.1)], [(3, ⟨0, 5, 42, [.agg [.int .i64 t, .int .i64 kd, .int .i64 n, .str s, .ro 5 kv]]⟩)], p.2, 130⟩) (fun p => 0 ≤ p.1 ∧ p.1 ≤ 21 + s.length) ?_ ?_
  · refine aw_step [1, 2, 3, 8, 60] [3] (by simp <;> rfl) ?_   -- codec.go:63
    refine aw_block ?_
    refine aw_step [1, 2, 3, 8, 60, 61] [3] (by simp <;> rfl) ?_   -- codec.go:64
    refine aw_cond rfl (fun h3 => ?_) (fun h3 => ?_)   -- if t61
    · refine aw_region ?_   -- codec.go:65
      refine awl_go 3 (by simp <;> rfl) ?_
      refine awl_call rfl rfl rfl Tryz.func79 rfl (by kernel_rfl) rfl (by simp) (fold_ac _) ?_
      rintro r ⟨k2, rfl⟩
      refine ⟨_, rfl, ?_⟩
      have hv3 := vl_b k2
      have hva3 := varintLen_ac k2
      generalize vl k2 = k3 at hv3 hva3
      have hw3 : IntKind.i64.wrap (k1 + 1 + k3) = k1 + 1 + k3 := wrap_in (by omega) (by omega)
      refine awl_call1 hva3 Tryz.func78 rfl (by kernel_rfl) rfl rfl rfl rfl rfl (by simp <;> rfl) ?_
      refine awl_end [1, 2, 3, 8] [3] (by simp [hw3] <;> rfl) ?_
      exact ⟨(k1 + 1 + k3, _), ⟨by simp only; omega, by simp only; omega⟩, AS.le_refl _⟩
    · refine aw_step [1, 2, 3, 8, 60, 69] [3] (by simp <;> rfl) ?_   -- codec.go:66
      refine aw_cond rfl (fun h4 => ?_) (fun h4 => ?_)   -- if t69
      · have hv3 := vl_b (IntKind.u64.wrap s.length)
        have hva3 := varintLen_ac (IntKind.u64.wrap s.length)
        generalize vl (IntKind.u64.wrap s.length) = k3 at hv3 hva3
        have hw3 : IntKind.i64.wrap (k3 + s.length) = k3 + s.length := wrap_in (by omega) (by omega)
        have hw4 : IntKind.i64.wrap (k1 + 1 + (k3 + s.length)) = k1 + 1 + (k3 + s.length) := wrap_in (by omega) (by omega)
        refine aw_draw [(0, []), (1, []), (6, []), (2, []), (3, []), (4, []), (5, []), (7, []), (8, []), (9, []), (10, []), (11, [])] hmix (by kernel_rfl) ?_   -- codec.go:67
        refine awo_go 6 (by simp <;> rfl) ?_
        refine awo_call (fun hg => hva3) Tryz.func78 rfl (by kernel_rfl) rfl rfl (by simp <;> rfl) rfl rfl (by simp <;> rfl) (by simp) (by simp <;> rfl) ?_
        refine awo_end [1, 2, 3, 8] [3] (by simp [hw3, hw4] <;> rfl) ?_
        exact ⟨(k1 + 1 + (k3 + s.length), _), ⟨by simp only; omega, by simp only; omega⟩, AS.le_refl _⟩
      · refine aw_step [1, 2, 3, 8, 82] [3] (by simp <;> rfl) ?_   -- codec.go:68
        refine aw_cond rfl (fun h5 => ?_) (fun h5 => ?_)   -- if t82
        · refine aw_region ?_   -- codec.go:69
          refine awl_go 5 (by simp <;> rfl) ?_
          have hv3 := vl_b (IntKind.u64.wrap kv.length)
          have hva3 := varintLen_ac (IntKind.u64.wrap kv.length)
          generalize vl (IntKind.u64.wrap kv.length) = k3 at hv3 hva3
          have hw3 : IntKind.i64.wrap (k1 + 1 + k3) = k1 + 1 + k3 := wrap_in (by omega) (by omega)
          refine awl_call1 hva3 Tryz.func78 rfl (by kernel_rfl) rfl rfl rfl rfl rfl (by simp <;> rfl) ?_
          refine awl_end [1, 2, 3, 8] [3] (by simp [hw3] <;> rfl) ?_
          exact ⟨(k1 + 1 + k3, _), ⟨by simp only; omega, by simp only; omega⟩, AS.le_refl _⟩
        · exfalso
          simp at h3 h4 h5
          omega
  rintro ⟨sz, nx0⟩ ⟨hsz, hsz'⟩
  simp only at hsz hsz'
  have hroom2 : ¬ room < sz := by omega
  refine aw_seq ?_
  refine aw_step [1, 2, 3, 8, 105] [3] (by simp [hkv2, hss2, hroom2] <;> rfl) ?_   -- codec.go:73
  refine aw_cond rfl (fun h4 => by simp at h4) (fun h4 => aw_skip ?_)   -- if t105
  refine aw_seq ?_
  refine aw_step [1, 2, 8, 107, 108, 109] [] (by simp <;> rfl) ?_   -- codec.go:76
  refine aw_block ?_
  refine aw_loop (fun p : Nat × Int × Nat => ⟨[(1, .int .i64 lv), (2, .int .i64 room), (8, .int .i64 p.2.1), (107, .ro 5 kv), (108, .int .i64 kv.length), (109, .int .i64 p.1)], [], p.2.2, 130⟩) (fun p => p.1 ≤ l.length ∧ 0 ≤ p.2.1 ∧ p.2.1 ≤ 21 + s.length + sumC c (l.take p.1)) (fun p => l.length - p.1) (0, sz, _) ⟨Nat.zero_le _, hsz, by simpa [sumC] using hsz'⟩ (AS.le_refl _) ?_
  rintro ⟨k, q, nx⟩ ⟨hk, hq0, hq1⟩
  simp only at hk hq0 hq1
  have hsl := sumC_le (c := c) (l := l) k hc
  refine aw_step [1, 2, 8, 107, 108, 109, 110] [] (by simp <;> rfl) ?_   -- codec.go:76
  refine aw_seq ?_
  refine aw_cond rfl (fun h5 => aw_skip ?_) (fun h5 => ?_)   -- if t110
  · have hlt : k < l.length := by simp at h5; omega
    have hlt' : k < kv.length := by omega
    have ga := hga k hlt
    have hst := sumC_take (c := c) hlt
    have hsl1 := sumC_le (c := c) (l := l) (k + 1) hc
    have hcall := hkids l[k] (List.getElem_mem hlt) (room - q) (by omega) (by omega)
    have hwk := wrap_succ (k := k) (by omega)
    have hwl : IntKind.i64.wrap (lv + 1) = lv + 1 := wrap_in (by omega) (by omega)
    have hwr : IntKind.i64.wrap (room - q) = room - q := wrap_in (by omega) (by omega)
    generalize c l[k] = ck at hst hcall
    rcases hkk : l[k] with ⟨kt, kk, kn, kss, kks⟩
    rw [hkk] at ga hcall
    rw [Nd.v] at ga hcall
    generalize kks.map Nd.v = kkv at ga hcall
    refine aw_seq ?_
    refine aw_block ?_
    refine aw_step [1, 2, 8, 10, 107, 108, 109] [10] (by simp [ga, hlt'] <;> rfl) ?_   -- codec.go:76
    refine aw_seq (aw_region ?_)   -- codec.go:77
    refine awl_go 6 (by simp [hwl, hwr] <;> rfl) ?_
    refine awl_call rfl rfl rfl Tryz.func57 rfl (by kernel_rfl) rfl (by simp) hcall ?_
    rintro r ⟨p, rfl, hp0, hp1⟩
    have hwp : IntKind.i64.wrap (q + p) = q + p := wrap_in (by omega) (by omega)
    refine ⟨_, rfl, ?_⟩
    refine awl_end [1, 2, 8, 11, 12, 107, 108, 109] [] (by simp <;> rfl) ?_
    refine aw_seq ?_
    refine aw_step [1, 2, 8, 11, 107, 108, 109, 124] [] (by simp <;> rfl) ?_   -- codec.go:78
    refine aw_cond rfl (fun h6 => by simp at h6) (fun h6 => aw_skip ?_)   -- if t124
    refine aw_one [1, 2, 8, 107, 108, 109] [] (by simp [hwp] <;> rfl) ?_   -- codec.go:81
    refine aw_one [1, 2, 8, 107, 108, 109] [] (by simp [hwk] <;> rfl) ?_   -- codec.go:76
    exact ⟨(k + 1, q + p, _), ⟨hlt, by simp only; omega, by simp only; omega⟩, by simp only; omega, AS.le_refl _⟩
  · refine aw_exit ?_
    refine aw_step [6, 7] [] (by simp <;> rfl) ?_   -- codec.go:83
    refine aw_ret (ends_ret (by simp [Tryz.results57] <;> rfl) ?_)
    exact ⟨q, rfl, hq0, by omega⟩
end Go.Proofs.YtmkbhognijicjaaGreatDoor

/- Joins: bytes, varints, and the functions that write them. No condition. -/
set_option linter.unusedSimpArgs false
set_option maxRecDepth 4000
namespace Go.Proofs.YtmkbhognijicjaaGreatDoor
open Go.Eng

theorem bits_nat (a b : Nat) (h8 : a < 2 ^ 64 ∧ b < 2 ^ 64) : bits .or .u64 a b = ((a ||| b : Nat) : Int) ∧ bits .and .u64 a b = ((a &&& b : Nat) : Int) ∧ bits .xor .u64 a b = ((a ^^^ b : Nat) : Int) := by
  have ha : BitVec.ofInt 64 (a : Int) = BitVec.ofNat 64 a := by simp
  have hb : BitVec.ofInt 64 (b : Int) = BitVec.ofNat 64 b := by simp
  have h1 : a ||| b < 2 ^ 64 := Nat.or_lt_two_pow h8.1 h8.2
  have h2 : a &&& b < 2 ^ 64 := Nat.and_lt_two_pow _ h8.2
  have h3 : a ^^^ b < 2 ^ 64 := Nat.xor_lt_two_pow h8.1 h8.2
  have hw : ∀ n : Nat, n < 2 ^ 64 → IntKind.u64.wrap (n : Int) = n := fun n hn => by rw [IntKind.wrap_u64]; omega
  refine ⟨?_, ?_, ?_⟩
  · show IntKind.u64.wrap ((BitVec.ofInt 64 (a : Int) ||| BitVec.ofInt 64 (b : Int)).toNat : Int) = _
    rw [ha, hb, BitVec.toNat_or, BitVec.toNat_ofNat, BitVec.toNat_ofNat, Nat.mod_eq_of_lt h8.1, Nat.mod_eq_of_lt h8.2]
    exact hw _ h1
  · show IntKind.u64.wrap ((BitVec.ofInt 64 (a : Int) &&& BitVec.ofInt 64 (b : Int)).toNat : Int) = _
    rw [ha, hb, BitVec.toNat_and, BitVec.toNat_ofNat, BitVec.toNat_ofNat, Nat.mod_eq_of_lt h8.1, Nat.mod_eq_of_lt h8.2]
    exact hw _ h2
  · show IntKind.u64.wrap ((BitVec.ofInt 64 (a : Int) ^^^ BitVec.ofInt 64 (b : Int)).toNat : Int) = _
    rw [ha, hb, BitVec.toNat_xor, BitVec.toNat_ofNat, BitVec.toNat_ofNat, Nat.mod_eq_of_lt h8.1, Nat.mod_eq_of_lt h8.2]
    exact hw _ h3
theorem bits_nat8 (a b : Nat) (h8 : a < 2 ^ 8 ∧ b < 2 ^ 8) : bits .or .u8 a b = ((a ||| b : Nat) : Int) ∧ bits .and .u8 a b = ((a &&& b : Nat) : Int) := by
  have ha : BitVec.ofInt 8 (a : Int) = BitVec.ofNat 8 a := by simp
  have hb : BitVec.ofInt 8 (b : Int) = BitVec.ofNat 8 b := by simp
  have h1 : a ||| b < 2 ^ 8 := Nat.or_lt_two_pow h8.1 h8.2
  have h2 : a &&& b < 2 ^ 8 := Nat.and_lt_two_pow _ h8.2
  have hw : ∀ n : Nat, n < 2 ^ 8 → IntKind.u8.wrap (n : Int) = n := fun n hn => by rw [IntKind.wrap_u8]; omega
  refine ⟨?_, ?_⟩
  · show IntKind.u8.wrap ((BitVec.ofInt 8 (a : Int) ||| BitVec.ofInt 8 (b : Int)).toNat : Int) = _
    rw [ha, hb, BitVec.toNat_or, BitVec.toNat_ofNat, BitVec.toNat_ofNat, Nat.mod_eq_of_lt h8.1, Nat.mod_eq_of_lt h8.2]
    exact hw _ h1
  · show IntKind.u8.wrap ((BitVec.ofInt 8 (a : Int) &&& BitVec.ofInt 8 (b : Int)).toNat : Int) = _
    rw [ha, hb, BitVec.toNat_and, BitVec.toNat_ofNat, BitVec.toNat_ofNat, Nat.mod_eq_of_lt h8.1, Nat.mod_eq_of_lt h8.2]
    exact hw _ h2
theorem or128 : ∀ n : Nat, n < 256 → n ||| 128 = n % 128 + 128 := by decide +kernel

/-- A number in groups of seven bits. -/
def vEnc (x : Nat) : List UInt8 := if h : x < 128 then [UInt8.ofNat x] else UInt8.ofNat (x % 128 + 128) :: vEnc (x / 128)
termination_by x
decreasing_by omega
theorem vEnc_lt {x : Nat} (h : x < 128) : vEnc x = [UInt8.ofNat x] := by rw [vEnc, dif_pos h]
theorem vEnc_ge {x : Nat} (h : 128 ≤ x) : vEnc x = UInt8.ofNat (x % 128 + 128) :: vEnc (x / 128) := by rw [vEnc, dif_neg (by omega)]
theorem vEnc_len : ∀ (k : Nat) (x : Nat), x < 128 ^ (k + 1) → (vEnc x).length ≤ k + 1
  | 0, x, h => by rw [vEnc_lt (by simpa using h)]; simp
  | k + 1, x, h => by
    by_cases h1 : x < 128
    · rw [vEnc_lt h1]; simp
    · rw [vEnc_ge (by omega)]
      have := vEnc_len k (x / 128) (by rw [Nat.div_lt_iff_lt_mul (by omega)]; rw [Nat.pow_succ] at h; exact h)
      simp only [List.length_cons]
      omega
theorem vEnc_len64 {x : Nat} (h : x < 2 ^ 64) : (vEnc x).length ≤ 10 := vEnc_len 9 x (Nat.lt_trans h (by decide))
abbrev bys (l : List UInt8) : List V := l.map byV
theorem bys_flat (l : List UInt8) : (bys l).all flatE = true := by
  rw [List.all_eq_true]
  intro x hx
  simp only [List.mem_map] at hx
  obtain ⟨b, _, rfl⟩ := hx
  rfl
theorem bys_pure (l : List UInt8) : (bys l).all V.pureE = true := by
  rw [List.all_eq_true]
  intro x hx
  simp only [List.mem_map] at hx
  obtain ⟨b, _, rfl⟩ := hx
  rfl
theorem byV_of {n : Nat} (h : n < 256) : byV (UInt8.ofNat n) = .int .u8 n := by
  unfold byV
  rw [UInt8.toNat_ofNat', Nat.mod_eq_of_lt (by omega)]

set_option maxHeartbeats 1000000 in
theorem appendVarint_aca (es : List UInt8) (x : Nat) (hx : x < 2 ^ 64) (hl : es.length ≤ 2 ^ 40) : ACA Tryz.prog 80 [.int .u64 x] 1 5 (bys es) (bys (vEnc x)) := by
  have hvl := vEnc_len64 hx
  refine aca_intro Tryz.func80 rfl (by show (2 : Nat) ≤ 20; omega) (fun d v w0 N0 nx0 => ?_)
  refine awk_step (d + 1) [0, 1] [d] (by simp [Tryz.ntmps80] <;> rfl) ?_   -- codec.go:134
  refine aw_seq ?_
  refine aw_block ?_
  refine aw_loop (fun p : List UInt8 × Nat × Nat × Nat => ⟨[(0, .sl d p.2.2.1 1 (bys (es ++ p.1)).length), (1, .int .u64 p.2.1)], [(d, ⟨p.2.2.1, 1, 5, bys (es ++ p.1)⟩)], p.2.2.2, 20⟩) (fun p => p.1 ++ vEnc p.2.1 = vEnc x ∧ p.2.1 < 2 ^ 64 ∧ nx0 ≤ p.2.2.2) (fun p => p.2.1) ([], x, v, nx0 + 1) ⟨rfl, hx, by simp only; omega⟩ (by simp only [List.append_nil, List.length_map]; exact AS.le_refl _) ?_
  rintro ⟨p, y, v', nx⟩ ⟨hp, hy, hnx⟩
  simp only at hp hy hnx
  have hpl : p.length ≤ 10 := by have := congrArg List.length hp; simp at this; omega
  have hb1 : es.length + p.length + 1 ≤ maxLen := by simp [maxLen]; omega
  have hb2 : es.length + p.length ≤ 140737488355327 := by omega
  refine aw_seq ?_
  refine awk_step (d + 1) [0, 1, 6] [d] (by simp <;> rfl) ?_   -- codec.go:135
  refine aw_cond rfl (fun h1 => aw_skip ?_) (fun h1 => ?_)   -- if t6
  · have hge : 128 ≤ y := by simp at h1; omega
    obtain ⟨wy, ob, sy, hw, hor, hob, hsh, hsy⟩ : ∃ wy ob sy : Int, IntKind.u8.wrap (y : Int) = wy ∧ bits .or .u8 wy 128 = ob ∧ V.int .u8 ob = byV (UInt8.ofNat (y % 128 + 128)) ∧ (y : Int).fdiv (2 ^ min (7 : Int).toNat IntKind.u64.bits) = sy ∧ sy = ((y / 128 : Nat) : Int) := by
      refine ⟨_, _, _, rfl, rfl, ?_, rfl, ?_⟩
      · have hw : IntKind.u8.wrap (y : Int) = ((y % 256 : Nat) : Int) := by rw [IntKind.wrap_u8]; omega
        rw [byV_of (by omega), hw]
        have := (bits_nat8 (y % 256) 128 ⟨by omega, by omega⟩).1
        rw [or128 _ (by omega)] at this
        rw [show (128 : Int) = ((128 : Nat) : Int) from rfl, this]
        congr 2
        omega
      · show (y : Int).fdiv 128 = _
        rw [Int.fdiv_eq_ediv_of_nonneg _ (by omega)]
        omega
    refine aw_block ?_
    refine awk_step (d + 1) [0, 1] [d] (by simp [hw, hor, hb1, hb2] <;> rfl) ?_   -- codec.go:136
    have hsh' : (y : Int).fdiv (2 ^ min 7 IntKind.u64.bits) = sy := hsh
    refine awk_one (d + 1) [0, 1] [d] (by simp [hsh'] <;> rfl) ?_   -- codec.go:137
    refine ⟨(p ++ [UInt8.ofNat (y % 128 + 128)], y / 128, nx + 2 + 5, nx + 12), ⟨?_, by simp only; omega, by simp only; omega⟩, by simp only; omega, ?_⟩
    · simp only [List.append_assoc, List.singleton_append]
      rw [← vEnc_ge hge]
      exact hp
    · simp only [hob, hsy, List.map_append, List.append_assoc, List.map_cons, List.map_nil, List.length_append, List.length_map, List.length_cons, List.length_nil]
      exact AS.le_refl _
  · have hlt : y < 128 := by simp at h1; omega
    obtain ⟨wy, hw, hob⟩ : ∃ wy : Int, IntKind.u8.wrap (y : Int) = wy ∧ V.int .u8 wy = byV (UInt8.ofNat y) := by
      refine ⟨_, rfl, ?_⟩
      rw [byV_of (by omega), IntKind.wrap_u8]
      congr 1
      omega
    rw [vEnc_lt hlt] at hp
    refine aw_exit ?_
    refine awk_step (d + 1) [4] [d] (by simp [hw, hb1, hb2] <;> rfl) ?_   -- codec.go:139
    refine aw_ret ?_
    rw [← hp]
    refine endsA (v' := nx + 2 + 4) (by simp only; omega) ?_ ?_
    · simp [Tryz.results80]; omega
    · simp [hob]
end Go.Proofs.YtmkbhognijicjaaGreatDoor

/- Joins: digests, numbers in bytes, copies and prefixes of bytes. No condition. -/
set_option linter.unusedSimpArgs false
set_option maxRecDepth 4000
namespace Go.Proofs.YtmkbhognijicjaaGreatDoor
open Go.Eng

theorem nthB {l : List UInt8} {k : Nat} (h : k < l.length) : nth (bys l) k = some (byV l[k]) := by rw [nth_eq]; simp [h]
theorem bysL (l : List UInt8) : (bys l).length = l.length := by simp
theorem u64_in {n : Nat} (h : n < 2 ^ 64) : IntKind.u64.wrap (n : Int) = n := by rw [IntKind.wrap_u64]; omega

/-- One byte more of a digest. -/
def dig1 (h : Int) (c : UInt8) : Int := IntKind.u64.wrap (bits .xor .u64 h (IntKind.u64.wrap (c.toNat : Int)) * 1099511628211)
def dig (h : Int) (l : List UInt8) : Int := l.foldl dig1 h
theorem dig1_range (h : Int) (c : UInt8) : 0 ≤ dig1 h c ∧ dig1 h c < 2 ^ 64 := by unfold dig1; rw [IntKind.wrap_u64]; omega
theorem dig_take {l : List UInt8} {k : Nat} (h : Int) (hk : k < l.length) : dig h (l.take (k + 1)) = dig1 (dig h (l.take k)) l[k] := by
  unfold dig
  rw [List.take_succ_eq_append_getElem hk, List.foldl_append]
  rfl
theorem dig_app (h : Int) (a b : List UInt8) : dig h (a ++ b) = dig (dig h a) b := List.foldl_append

set_option maxHeartbeats 1000000 in
theorem add_ac (h : Int) (l : List UInt8) : AC Tryz.prog 59 [.int .u64 h, .ro 1 (bys l)] (fun r => r = .int .u64 (dig h l)) := by
  have hg := fun (k : Nat) (h : k < l.length) => nthB h
  have hl := bysL l
  generalize bys l = lv at hg hl
  refine ac_lenR 1 rfl (fun hmax => ?_)
  unfold maxLen at hmax
  refine ac_intro Tryz.func59 rfl (by show (2 : Nat) ≤ 20; omega) (fun w0 N0 => ?_)
  refine aw_step [0, 1] [] (by simp [Tryz.ntmps59] <;> rfl) ?_   -- digest.go:21
  refine aw_seq ?_
  refine aw_step [0, 7, 8, 9] [] (by simp <;> rfl) ?_   -- digest.go:22
  refine aw_block ?_
  refine aw_count (fun k nx => ⟨[(0, .int .u64 (dig h (l.take k))), (7, .ro 1 lv), (8, .int .i64 lv.length), (9, .int .i64 k)], [], nx, 20⟩) (fun k => True) l.length _ trivial (by simp [dig]; exact AS.le_refl _) ?_
  intro k nx hk _
  refine aw_step [0, 7, 8, 9, 10] [] (by simp <;> rfl) ?_   -- digest.go:22
  refine aw_seq ?_
  refine aw_cond rfl (fun h1 => aw_skip ?_) (fun h1 => ?_)   -- if t10
  · have hlt : k < l.length := by simp at h1; omega
    have hlt' : k < lv.length := by omega
    have ga := hg k hlt
    have hw := wrap_succ (k := k) (by omega)
    have hd := dig_take h hlt
    simp only [byV] at ga
    generalize hc : l[k] = c at ga hd
    generalize dig h (l.take k) = q at hd
    unfold dig1 at hd
    refine aw_seq ?_
    refine aw_block ?_
    refine aw_step [0, 6, 7, 8, 9] [] (by simp [ga, hlt'] <;> rfl) ?_   -- digest.go:22
    refine aw_one [0, 7, 8, 9] [] (by simp <;> rfl) ?_   -- digest.go:23
    refine aw_one [0, 7, 8, 9] [] (by simp [hw] <;> rfl) ?_   -- digest.go:22
    simp only [hd]
    exact ⟨hlt, trivial, _, AS.le_refl _⟩
  · refine aw_exit ?_
    refine aw_step [4] [] (by simp <;> rfl) ?_   -- digest.go:25
    refine aw_ret (ends_ret (by simp [Tryz.results59] <;> rfl) ?_)
    have hkl : k = l.length := by simp at h1; omega
    rw [hkl, List.take_length]

/-- A number in n bytes, the greatest first. -/
def putB (x : Nat) : Nat → List UInt8
  | 0 => []
  | n + 1 => UInt8.ofNat (x / 256 ^ n % 256) :: putB x n
theorem putB_len (x : Nat) : ∀ n, (putB x n).length = n
  | 0 => rfl
  | n + 1 => by simp [putB, putB_len x n]

/-- What a shift by whole bytes leaves. -/
theorem shr_byte (x : Nat) (k : Nat) (hk : k ≤ 7) : (x : Int).fdiv (2 ^ min (8 * (k : Int)).toNat IntKind.u64.bits) = ((x / 256 ^ k : Nat) : Int) := by
  have h8 : k = 0 ∨ k = 1 ∨ k = 2 ∨ k = 3 ∨ k = 4 ∨ k = 5 ∨ k = 6 ∨ k = 7 := by omega
  rcases h8 with rfl | rfl | rfl | rfl | rfl | rfl | rfl | rfl
  · show (x : Int).fdiv 1 = _; rw [Int.fdiv_eq_ediv_of_nonneg _ (by decide)]; omega
  · show (x : Int).fdiv 256 = _; rw [Int.fdiv_eq_ediv_of_nonneg _ (by decide)]; omega
  · show (x : Int).fdiv 65536 = _; rw [Int.fdiv_eq_ediv_of_nonneg _ (by decide)]; omega
  · show (x : Int).fdiv 16777216 = _; rw [Int.fdiv_eq_ediv_of_nonneg _ (by decide)]; omega
  · show (x : Int).fdiv 4294967296 = _; rw [Int.fdiv_eq_ediv_of_nonneg _ (by decide)]; omega
  · show (x : Int).fdiv 1099511627776 = _; rw [Int.fdiv_eq_ediv_of_nonneg _ (by decide)]; omega
  · show (x : Int).fdiv 281474976710656 = _; rw [Int.fdiv_eq_ediv_of_nonneg _ (by decide)]; omega
  · show (x : Int).fdiv 72057594037927936 = _; rw [Int.fdiv_eq_ediv_of_nonneg _ (by decide)]; omega

theorem and255 (a : Nat) (h : a < 2 ^ 64) : bits .and .u64 (a : Int) 255 = ((a % 256 : Nat) : Int) := by
  have := (bits_nat a 255 ⟨h, by decide⟩).2.1
  rw [show (255 : Int) = ((255 : Nat) : Int) from rfl, this]
  congr 1
  exact Nat.and_two_pow_sub_one_eq_mod a 8

set_option maxHeartbeats 1000000 in
theorem number8_ac (h : Int) (n : Nat) (hn : n < 2 ^ 64) : AC Tryz.prog 60 [.int .u64 h, .int .u64 n] (fun r => r = .int .u64 (dig h (putB n 8))) := by
  refine ac_intro Tryz.func60 rfl (by show (2 : Nat) ≤ 18; omega) (fun w0 N0 => ?_)
  refine aw_step [0, 1] [] (by simp [Tryz.ntmps60] <;> rfl) ?_   -- digest.go:29
  refine aw_seq ?_
  refine aw_step [0, 1, 5] [] (by simp <;> rfl) ?_   -- digest.go:30
  refine aw_block ?_
  refine aw_loop (fun p : Nat × Int × Nat => ⟨[(0, .int .u64 p.2.1), (1, .int .u64 n), (5, .int .i64 (8 * (p.1 : Int) - 8))], [], p.2.2, 18⟩) (fun p => p.1 ≤ 8 ∧ dig p.2.1 (putB n p.1) = dig h (putB n 8)) (fun p => p.1) (8, h, _) ⟨Nat.le_refl _, rfl⟩ (AS.le_refl _) ?_
  rintro ⟨k, q, nx⟩ ⟨hk, hq⟩
  simp only at hk hq
  refine aw_seq ?_
  refine aw_step [0, 1, 5, 7] [] (by simp <;> rfl) ?_   -- digest.go:30
  refine aw_cond rfl (fun h1 => aw_skip ?_) (fun h1 => ?_)   -- if t7
  · have hpos : 0 < k := by simp at h1; omega
    obtain ⟨j, rfl⟩ : ∃ j, k = j + 1 := ⟨k - 1, by omega⟩
    have hsh := shr_byte n j (by omega)
    have h64 : n / 256 ^ j < 2 ^ 64 := Nat.lt_of_le_of_lt (Nat.div_le_self _ _) hn
    have hand := and255 (n / 256 ^ j) h64
    obtain ⟨e8, he8, he8'⟩ : ∃ e8 : Int, 8 * ((j + 1 : Nat) : Int) - 8 = e8 ∧ e8 = 8 * (j : Int) := ⟨_, rfl, by omega⟩
    rw [← he8'] at hsh
    have hnn : ¬ e8 < 0 := by omega
    obtain ⟨sv, hsv⟩ : ∃ sv : Int, (n : Int).fdiv (2 ^ min e8.toNat IntKind.u64.bits) = sv := ⟨_, rfl⟩
    have hsv2 : sv = ((n / 256 ^ j : Nat) : Int) := by rw [← hsv, hsh]
    rw [← hsv2] at hand
    obtain ⟨av, hav⟩ : ∃ av : Int, bits .and .u64 sv 255 = av := ⟨_, rfl⟩
    have hav2 : av = ((n / 256 ^ j % 256 : Nat) : Int) := by rw [← hav, hand]
    have hwe : IntKind.i64.wrap (e8 - 8) = 8 * (j : Int) - 8 := by rw [wrap_in (by omega) (by omega)]; omega
    rw [he8]
    refine aw_seq ?_
    refine aw_block ?_
    refine aw_one [0, 1, 5] [] (by simp [hsv, hav, hnn] <;> rfl) ?_   -- digest.go:31
    refine aw_one [0, 1, 5] [] (by simp [hwe] <;> rfl) ?_   -- digest.go:30
    refine ⟨(j, dig1 q (UInt8.ofNat (n / 256 ^ j % 256)), nx + 13), ⟨by simp only; omega, ?_⟩, by simp only; omega, ?_⟩
    · rw [← hq]; rfl
    · have : dig1 q (UInt8.ofNat (n / 256 ^ j % 256)) = IntKind.u64.wrap (bits .xor .u64 q av * 1099511628211) := by
        unfold dig1
        rw [UInt8.toNat_ofNat', Nat.mod_eq_of_lt (by omega), u64_in (by omega), hav2]
      simp only [this]
      exact AS.le_refl _
  · have hk0 : k = 0 := by simp at h1; omega
    subst hk0
    refine aw_exit ?_
    refine aw_step [4] [] (by simp <;> rfl) ?_   -- digest.go:33
    refine aw_ret (ends_ret (by simp [Tryz.results60] <;> rfl) ?_)
    rw [← hq]; rfl

/-- The first digest. -/
def dig0 : Int := 14695981039346656037
theorem of_ac (l : List UInt8) : AC Tryz.prog 46 [.ro 1 (bys l)] (fun r => r = .int .u64 (dig dig0 l)) := by
  have hc := add_ac dig0 l
  refine ac_intro Tryz.func46 rfl (by show (1 : Nat) ≤ 5; omega) (fun w0 N0 => ?_)
  refine aw_step [0] [] (by simp [Tryz.ntmps46] <;> rfl) ?_   -- digest.go:16
  refine aw_seq (aw_region ?_)   -- digest.go:17
  refine awl_go 1 (by simp <;> rfl) ?_
  refine awl_call1 hc Tryz.func59 rfl (by kernel_rfl) rfl rfl rfl rfl rfl (by simp <;> rfl) ?_
  refine awl_end [2] [] (by simp <;> rfl) ?_
  exact aw_ret (ends_ret (by simp [Tryz.results46] <;> rfl) rfl)
theorem ofNil_ac : AC Tryz.prog 46 [.nils] (fun r => r = .int .u64 dig0) := AC.argsR (of_ac []) (.cons (Relax.nils 1) .nil)
/-- The digest that links bytes to the one before. -/
def chn (prev : Nat) (l : List UInt8) : Int := dig (dig dig0 (putB prev 8)) l
theorem chain_ac (prev : Nat) (hp : prev < 2 ^ 64) (l : List UInt8) : AC Tryz.prog 35 [.int .u64 prev, .ro 1 (bys l)] (fun r => r = .int .u64 (chn prev l)) := by
  have hc := number8_ac dig0 prev hp
  have hc2 := add_ac (dig dig0 (putB prev 8)) l
  have hp := bys_pure l
  unfold chn
  generalize dig dig0 (putB prev 8) = q at hc hc2
  generalize bys l = lv at hc2
  refine ac_intro Tryz.func35 rfl (by show (2 : Nat) ≤ 9; omega) (fun w0 N0 => ?_)
  refine aw_step [0, 1] [] (by simp [Tryz.ntmps35] <;> rfl) ?_   -- digest.go:37
  refine aw_seq (aw_region ?_)   -- digest.go:38
  refine awl_go 1 (by simp <;> rfl) ?_
  refine awl_call1 hc Tryz.func60 rfl (by kernel_rfl) rfl rfl rfl rfl rfl (by simp <;> rfl) ?_
  refine awl_go 1 (by simp <;> rfl) ?_
  refine awl_call1 hc2 Tryz.func59 rfl (by kernel_rfl) rfl rfl rfl rfl rfl (by simp <;> rfl) ?_
  refine awl_end [4] [] (by simp <;> rfl) ?_
  exact aw_ret (ends_ret (by simp [Tryz.results35] <;> rfl) rfl)

/-- The number that bytes denote, the greatest first. -/
def getB (l : List UInt8) : Nat := l.foldl (fun v c => (v * 256 + c.toNat) % 2 ^ 64) 0
theorem getB_take {l : List UInt8} {k : Nat} (hk : k < l.length) : getB (l.take (k + 1)) = (getB (l.take k) * 256 + l[k].toNat) % 2 ^ 64 := by
  unfold getB
  rw [List.take_succ_eq_append_getElem hk, List.foldl_append]
  rfl
theorem getB_lt (l : List UInt8) : getB l < 2 ^ 64 := by
  rcases l.eq_nil_or_concat with rfl | ⟨l', b, rfl⟩
  · decide
  · unfold getB
    rw [List.concat_eq_append, List.foldl_append]
    exact Nat.mod_lt _ (by decide)
theorem shl_or (v c : Nat) (hc : c < 256) : bits .or .u64 (IntKind.u64.wrap ((v : Int) * 2 ^ min (8 : Int).toNat IntKind.u64.bits)) (IntKind.u64.wrap (c : Int)) = (((v * 256 + c) % 2 ^ 64 : Nat) : Int) := by
  have h1 : IntKind.u64.wrap ((v : Int) * 2 ^ min (8 : Int).toNat IntKind.u64.bits) = ((v * 256 % 2 ^ 64 : Nat) : Int) := by
    show IntKind.u64.wrap ((v : Int) * 256) = _
    rw [IntKind.wrap_u64]; omega
  rw [h1, u64_in (by omega), (bits_nat _ _ ⟨Nat.mod_lt _ (by decide), by omega⟩).1]
  congr 1
  have h2 : v * 256 % 2 ^ 64 = 2 ^ 8 * (v % 2 ^ 56) := by omega
  rw [h2, ← Nat.two_pow_add_eq_or_of_lt (by omega)]
  omega

set_option maxHeartbeats 1000000 in
theorem get_ac (l : List UInt8) : AC Tryz.prog 61 [.ro 1 (bys l)] (fun r => r = .int .u64 (getB l)) := by
  have hg := fun (k : Nat) (h : k < l.length) => nthB h
  have hl := bysL l
  generalize bys l = lv at hg hl
  refine ac_lenR 0 rfl (fun hmax => ?_)
  unfold maxLen at hmax
  refine ac_intro Tryz.func61 rfl (by show (1 : Nat) ≤ 19; omega) (fun w0 N0 => ?_)
  refine aw_step [0] [] (by simp [Tryz.ntmps61] <;> rfl) ?_   -- journal.go:38
  refine aw_step [0, 3] [] (by simp <;> rfl) ?_   -- journal.go:39
  refine aw_seq ?_
  refine aw_step [3, 6, 7, 8] [] (by simp <;> rfl) ?_   -- journal.go:40
  refine aw_block ?_
  refine aw_count (fun k nx => ⟨[(3, .int .u64 (getB (l.take k))), (6, .ro 1 lv), (7, .int .i64 lv.length), (8, .int .i64 k)], [], nx, 19⟩) (fun k => True) l.length _ trivial (by simp [getB]; exact AS.le_refl _) ?_
  intro k nx hk _
  refine aw_step [3, 6, 7, 8, 9] [] (by simp <;> rfl) ?_   -- journal.go:40
  refine aw_seq ?_
  refine aw_cond rfl (fun h1 => aw_skip ?_) (fun h1 => ?_)   -- if t9
  · have hlt : k < l.length := by simp at h1; omega
    have hlt' : k < lv.length := by omega
    have ga := hg k hlt
    have hw := wrap_succ (k := k) (by omega)
    have hd := getB_take hlt
    simp only [byV] at ga
    generalize hc : l[k] = c at ga hd
    have hor := shl_or (getB (l.take k)) c.toNat c.toNat_lt
    rw [← hd] at hor
    generalize getB (l.take k) = q at hor
    generalize getB (l.take (k + 1)) = q' at hor
    have hor' : bits .or .u64 (IntKind.u64.wrap ((q : Int) * 2 ^ min 8 IntKind.u64.bits)) (IntKind.u64.wrap (c.toNat : Int)) = (q' : Int) := hor
    refine aw_seq ?_
    refine aw_block ?_
    refine aw_step [3, 5, 6, 7, 8] [] (by simp [ga, hlt'] <;> rfl) ?_   -- journal.go:40
    refine aw_one [3, 6, 7, 8] [] (by simp [hor'] <;> rfl) ?_   -- journal.go:41
    refine aw_one [3, 6, 7, 8] [] (by simp [hw] <;> rfl) ?_   -- journal.go:40
    exact ⟨hlt, trivial, _, AS.le_refl _⟩
  · refine aw_exit ?_
    refine aw_step [2] [] (by simp <;> rfl) ?_   -- journal.go:43
    refine aw_ret (ends_ret (by simp [Tryz.results61] <;> rfl) ?_)
    have hkl : k = l.length := by simp at h1; omega
    rw [hkl, List.take_length]
end Go.Proofs.YtmkbhognijicjaaGreatDoor
