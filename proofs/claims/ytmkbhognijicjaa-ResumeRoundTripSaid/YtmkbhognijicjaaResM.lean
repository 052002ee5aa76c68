/- Resume: the lengths of varints. No condition. -/
import Derived.Test.YtmkbhognijicjaaResL
import Derived.Test.YtmkbhognijicjaaEng30
set_option linter.unusedSimpArgs false
namespace Go.Proofs.Ytmkbhognijicjaa
open Go.Eng

theorem u8_range (x : Int) : 0 ≤ IntKind.u8.wrap x ∧ IntKind.u8.wrap x < 256 := by
  rw [IntKind.wrap_u8]; omega
def tab8 : List UInt8 := [0, 1] ++ List.replicate 2 2 ++ List.replicate 4 3 ++ List.replicate 8 4 ++ List.replicate 16 5 ++ List.replicate 32 6 ++ List.replicate 64 7 ++ List.replicate 128 8
theorem tab8_len : tab8.length = 256 := by decide +kernel
theorem tab8_le : ∀ b ∈ tab8, b.toNat ≤ 8 := by decide +kernel
def la (x : Int) : Int × Int := if decide (4294967296 ≤ x) = true then (x.fdiv 4294967296, 32) else (x, 0)
def lb (p : Int × Int) : Int × Int := if decide (65536 ≤ p.1) = true then (p.1.fdiv 65536, p.2 + 16) else p
def lc (p : Int × Int) : Int × Int := if decide (256 ≤ p.1) = true then (p.1.fdiv 256, p.2 + 8) else p
def t8 (x : Int) : Int := ((nth tab8 (IntKind.u8.wrap x).toNat).getD 0).toNat
def l64 (x : Int) : Int := (lc (lb (la x))).2 + t8 (lc (lb (la x))).1
theorem la_b (x : Int) : 0 ≤ (la x).2 ∧ (la x).2 ≤ 32 := by unfold la; split <;> simp
theorem lb_b (p : Int × Int) : p.2 ≤ (lb p).2 ∧ (lb p).2 ≤ p.2 + 16 := by unfold lb; split <;> (try simp only) <;> omega
theorem lc_b (p : Int × Int) : p.2 ≤ (lc p).2 ∧ (lc p).2 ≤ p.2 + 8 := by unfold lc; split <;> (try simp only) <;> omega
theorem t8_at (x : Int) : ∃ b, nth tab8 (IntKind.u8.wrap x).toNat = some b ∧ t8 x = b.toNat ∧ b.toNat ≤ 8 := by
  have hu := u8_range x
  have hml : (IntKind.u8.wrap x).toNat < tab8.length := by rw [tab8_len]; omega
  have hmn : nth tab8 (IntKind.u8.wrap x).toNat = some tab8[(IntKind.u8.wrap x).toNat] := by rw [nth_eq]; simp [hml]
  exact ⟨_, hmn, by rw [t8, hmn]; rfl, tab8_le _ (List.getElem_mem hml)⟩
theorem l64_b (x : Int) : 0 ≤ l64 x ∧ l64 x ≤ 64 := by
  have h1 := la_b x
  have h2 := lb_b (la x)
  have h3 := lc_b (lb (la x))
  obtain ⟨b, _, h4, h5⟩ := t8_at (lc (lb (la x))).1
  unfold l64
  omega

set_option maxRecDepth 100000 in
set_option maxHeartbeats 1000000 in
theorem len64_ac (x : Int) : AC Try.prog 34 [.int .u64 x] (fun r => r = .int .i64 (l64 x)) := by
  refine ac_intro Try.func34 rfl (by show (1 : Nat) ≤ 25; omega) (fun w0 N0 => ?_)
  refine aw_step [0, 2] [] (by simp [Try.ntmps34] <;> rfl) ?_   -- bits.go:337
  refine aw_viale ⟨[(0, .int .u64 (la x).1), (2, .int .i64 (la x).2)], [], 1000, 25⟩ ?_ ?_
  · refine aw_step [0, 2, 4] [] (by simp <;> rfl) ?_   -- bits.go:338
    refine aw_cond rfl (fun h1 => ?_) (fun h1 => aw_skip ?_)   -- if t4
    · refine aw_step [0] [] (by simp <;> rfl) ?_   -- bits.go:339
      refine aw_one [0, 2] [] (by simp <;> rfl) ?_   -- bits.go:340
      refine ⟨rfl, ?_⟩
      rw [la, if_pos h1]
      exact le_nx rfl rfl rfl (by simp)
    · refine ⟨rfl, ?_⟩
      rw [la, if_neg (by rw [h1]; simp)]
      exact le_to [0, 2] [] (by simp <;> rfl) (by simp <;> rfl) rfl (by simp)
  have hb1 := la_b x
  unfold l64
  generalize la x = p1 at hb1
  obtain ⟨x1, n1⟩ := p1
  simp only at hb1
  have hw1 : IntKind.i64.wrap (n1 + 16) = n1 + 16 := wrap_in (by omega) (by omega)
  refine aw_viale ⟨[(0, .int .u64 (lb (x1, n1)).1), (2, .int .i64 (lb (x1, n1)).2)], [], 2000, 25⟩ ?_ ?_
  · refine aw_step [0, 2, 8] [] (by simp <;> rfl) ?_   -- bits.go:342
    refine aw_cond rfl (fun h1 => ?_) (fun h1 => aw_skip ?_)   -- if t8
    · refine aw_step [0, 2] [] (by simp <;> rfl) ?_   -- bits.go:343
      refine aw_one [0, 2] [] (by simp [hw1] <;> rfl) ?_   -- bits.go:344
      refine ⟨rfl, ?_⟩
      rw [lb, if_pos h1]
      exact le_nx rfl rfl rfl (by simp)
    · refine ⟨rfl, ?_⟩
      rw [lb, if_neg (by rw [h1]; simp)]
      exact le_to [0, 2] [] (by simp <;> rfl) (by simp <;> rfl) rfl (by simp)
  have hb2 := lb_b (x1, n1)
  generalize lb (x1, n1) = p2 at hb2
  obtain ⟨x2, n2⟩ := p2
  simp only at hb2
  have hw2 : IntKind.i64.wrap (n2 + 8) = n2 + 8 := wrap_in (by omega) (by omega)
  refine aw_viale ⟨[(0, .int .u64 (lc (x2, n2)).1), (2, .int .i64 (lc (x2, n2)).2)], [], 3000, 25⟩ ?_ ?_
  · refine aw_step [0, 2, 14] [] (by simp <;> rfl) ?_   -- bits.go:346
    refine aw_cond rfl (fun h1 => ?_) (fun h1 => aw_skip ?_)   -- if t14
    · refine aw_step [0, 2] [] (by simp <;> rfl) ?_   -- bits.go:347
      refine aw_one [0, 2] [] (by simp [hw2] <;> rfl) ?_   -- bits.go:348
      refine ⟨rfl, ?_⟩
      rw [lc, if_pos h1]
      exact le_nx rfl rfl rfl (by simp)
    · refine ⟨rfl, ?_⟩
      rw [lc, if_neg (by rw [h1]; simp)]
      exact le_to [0, 2] [] (by simp <;> rfl) (by simp <;> rfl) rfl (by simp)
  have hb3 := lc_b (x2, n2)
  generalize lc (x2, n2) = p3 at hb3
  obtain ⟨x3, n3⟩ := p3
  simp only at hb3
  generalize hc : ByteArray.mk _ = c0
  have hL : c0.data.toList = tab8 := by rw [← hc]; decide +kernel
  clear hc
  obtain ⟨b, hmn, ht, hb⟩ := t8_at x3
  have hu := u8_range x3
  rw [ht]
  obtain ⟨m, hm⟩ := Int.eq_ofNat_of_zero_le hu.1
  rw [hm] at hmn
  simp only [Int.toNat_natCast] at hmn
  have hwb : IntKind.i64.wrap (b.toNat : Int) = b.toNat := wrap_in (by omega) (by omega)
  have hws : IntKind.i64.wrap (n3 + b.toNat) = n3 + b.toNat := wrap_in (by omega) (by omega)
  generalize tab8 = L at hL hmn
  refine aw_step [2] [] (by simp [hL, hm, hmn, hwb, hws] <;> rfl) ?_   -- bits.go:350
  exact aw_ret (ends_ret (by simp [Try.results34] <;> rfl) rfl)

/-- The length of a varint. -/
def vl (x : Int) : Int := (l64 (bits .or .u64 x 1) + 6) / 7
theorem vl_b (x : Int) : 0 ≤ vl x ∧ vl x ≤ 10 := by
  have := l64_b (bits .or .u64 x 1)
  unfold vl
  omega
theorem varintLen_ac (x : Int) : AC Try.prog 29 [.int .u64 x] (fun r => r = .int .i64 (vl x)) := by
  have hc := len64_ac (bits .or .u64 x 1)
  have hb := l64_b (bits .or .u64 x 1)
  unfold vl
  generalize l64 (bits .or .u64 x 1) = k at hc hb
  have hw : IntKind.i64.wrap (k + 6) = k + 6 := wrap_in (by omega) (by omega)
  have hq : (k + 6).tdiv 7 = (k + 6) / 7 := Int.tdiv_eq_ediv_of_nonneg (by omega)
  have hw2 : IntKind.i64.wrap ((k + 6) / 7) = (k + 6) / 7 := wrap_in (by omega) (by omega)
  refine ac_intro Try.func29 rfl (by show (1 : Nat) ≤ 8; omega) (fun w0 N0 => ?_)
  refine aw_step [0] [] (by simp [Try.ntmps29] <;> rfl) ?_   -- codec.go:50
  refine aw_seq (aw_region ?_)   -- codec.go:51
  refine awl_go 2 (by simp <;> rfl) ?_
  refine awl_call1 hc Try.func34 rfl (by kernel_rfl) rfl rfl rfl rfl rfl (by simp <;> rfl) ?_
  refine awl_end [2] [] (by simp [hw, hq, hw2] <;> rfl) ?_
  exact aw_ret (ends_ret (by simp [Try.results29] <;> rfl) rfl)

theorem fold_ac (n : Int) : AC Try.prog 30 [.int .i64 n] (fun r => ∃ k : Int, r = .int .u64 k) := by
  refine ac_intro Try.func30 rfl (by show (1 : Nat) ≤ 10; omega) (fun w0 N0 => ?_)
  refine aw_step [0] [] (by simp [Try.ntmps30] <;> rfl) ?_   -- codec.go:40
  refine aw_step [2] [] (by simp <;> rfl) ?_   -- codec.go:41
  exact aw_ret (ends_ret (by simp [Try.results30] <;> rfl) ⟨_, rfl⟩)
end Go.Proofs.Ytmkbhognijicjaa
