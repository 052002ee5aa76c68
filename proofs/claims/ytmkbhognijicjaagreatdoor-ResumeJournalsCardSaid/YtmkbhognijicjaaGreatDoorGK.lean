import Derived.Test.YtmkbhognijicjaaGreatDoorGJ
import Derived.Test.YtmkbhognijicjaaGreatDoorGC
import Derived.Test.YtmkbhognijicjaaGreatDoorGI
import Derived.Test.YtmkbhognijicjaaGreatDoorE9
/- Journals: the reference's digests and numbers in bytes. No condition. -/
set_option linter.unusedSimpArgs false
set_option maxRecDepth 4000
namespace Go.Proofs.YtmkbhognijicjaaGreatDoor
open Go.Eng

theorem refExtend_ac (h : Int) (c : UInt8) : AC Tryz.prog 84 [.int .u64 h, byV c] (fun r => r = .int .u64 (dig1 h c)) := by
  unfold dig1 byV
  refine ac_intro Tryz.func84 rfl (by show (2 : Nat) ≤ 10; omega) (fun w0 N0 => ?_)
  refine aw_step [0, 1] [] (by simp [Tryz.ntmps84] <;> rfl) ?_   -- ref.go:9
  refine aw_step [4] [] (by simp <;> rfl) ?_   -- ref.go:10
  exact aw_ret (ends_ret (by simp [Tryz.results84] <;> rfl) rfl)

set_option maxHeartbeats 1000000 in
theorem refAdd_ac (h : Int) (l : List UInt8) : AC Tryz.prog 69 [.int .u64 h, .ro 1 (bys l)] (fun r => r = .int .u64 (dig h l)) := by
  have hg := fun (k : Nat) (h : k < l.length) => nthB h
  have hl := bysL l
  generalize bys l = lv at hg hl
  refine ac_lenR 1 rfl (fun hmax => ?_)
  unfold maxLen at hmax
  refine ac_intro Tryz.func69 rfl (by show (2 : Nat) ≤ 19; omega) (fun w0 N0 => ?_)
  refine aw_step [0, 1] [] (by simp [Tryz.ntmps69] <;> rfl) ?_   -- ref.go:14
  refine aw_seq ?_
  refine aw_step [0, 1, 5] [] (by simp <;> rfl) ?_   -- ref.go:15
  refine aw_block ?_
  refine aw_count (fun k nx => ⟨[(0, .int .u64 (dig h (l.take k))), (1, .ro 1 lv), (5, .int .i64 k)], [], nx, 19⟩) (fun k => True) l.length _ trivial (by simp [dig]; exact AS.le_refl _) ?_
  intro k nx hk _
  refine aw_seq ?_
  refine aw_step [0, 1, 5, 9] [] (by simp <;> rfl) ?_   -- ref.go:15
  refine aw_cond rfl (fun h1 => aw_skip ?_) (fun h1 => ?_)   -- if t9
  · have hlt : k < l.length := by simp at h1; omega
    have hlt' : k < lv.length := by omega
    have ga := hg k hlt
    have hw := wrap_succ (k := k) (by omega)
    have hd := dig_take h hlt
    generalize hc : l[k] = c at ga hd
    have hx := refExtend_ac (dig h (l.take k)) c
    rw [← hd] at hx
    simp only [byV] at ga hx
    generalize dig h (l.take k) = q at hx
    generalize dig h (l.take (k + 1)) = q' at hx
    refine aw_seq ?_
    refine aw_block ?_
    refine aw_region ?_   -- ref.go:16
    refine awl_go 5 (by simp [ga, hlt'] <;> rfl) ?_
    refine awl_call1 hx Tryz.func84 rfl (by kernel_rfl) rfl rfl rfl rfl rfl (by simp <;> rfl) ?_
    refine awl_end [0, 1, 5] [] (by simp <;> rfl) ?_
    refine aw_one [0, 1, 5] [] (by simp [hw] <;> rfl) ?_   -- ref.go:15
    exact ⟨hlt, trivial, _, AS.le_refl _⟩
  · refine aw_exit ?_
    refine aw_step [4] [] (by simp <;> rfl) ?_   -- ref.go:18
    refine aw_ret (ends_ret (by simp [Tryz.results69] <;> rfl) ?_)
    have hkl : k = l.length := by simp at h1; omega
    rw [hkl, List.take_length]
theorem refOf_ac (l : List UInt8) : AC Tryz.prog 65 [.ro 1 (bys l)] (fun r => r = .int .u64 (dig dig0 l)) := by
  have hc := refAdd_ac dig0 l
  refine ac_intro Tryz.func65 rfl (by show (1 : Nat) ≤ 5; omega) (fun w0 N0 => ?_)
  refine aw_step [0] [] (by simp [Tryz.ntmps65] <;> rfl) ?_   -- ref.go:22
  refine aw_seq (aw_region ?_)   -- ref.go:23
  refine awl_go 1 (by simp <;> rfl) ?_
  refine awl_call1 hc Tryz.func69 rfl (by kernel_rfl) rfl rfl rfl rfl rfl (by simp <;> rfl) ?_
  refine awl_end [2] [] (by simp <;> rfl) ?_
  exact aw_ret (ends_ret (by simp [Tryz.results65] <;> rfl) rfl)
theorem refOfNil_ac : AC Tryz.prog 65 [.nils] (fun r => r = .int .u64 dig0) := AC.argsR (refOf_ac []) (.cons (Relax.nils 1) .nil)

set_option maxHeartbeats 1000000 in
theorem refNumber8_ac (h : Int) (n : Nat) (_hn : n < 2 ^ 64) : AC Tryz.prog 70 [.int .u64 h, .int .u64 n] (fun r => r = .int .u64 (dig h (putB n 8))) := by
  refine ac_intro Tryz.func70 rfl (by show (2 : Nat) ≤ 19; omega) (fun w0 N0 => ?_)
  refine aw_step [0, 1] [] (by simp [Tryz.ntmps70] <;> rfl) ?_   -- ref.go:27
  refine aw_seq ?_
  refine aw_step [0, 1, 5] [] (by simp <;> rfl) ?_   -- ref.go:28
  refine aw_block ?_
  refine aw_loop (fun p : Nat × Int × Nat => ⟨[(0, .int .u64 p.2.1), (1, .int .u64 n), (5, .int .i64 ((p.1 : Int) - 1))], [], p.2.2, 19⟩) (fun p => p.1 ≤ 8 ∧ dig p.2.1 (putB n p.1) = dig h (putB n 8)) (fun p => p.1) (8, h, _) ⟨Nat.le_refl _, rfl⟩ (AS.le_refl _) ?_
  rintro ⟨k, q, nx⟩ ⟨hk, hq⟩
  simp only at hk hq
  refine aw_seq ?_
  refine aw_step [0, 1, 5, 7] [] (by simp <;> rfl) ?_   -- ref.go:28
  refine aw_cond rfl (fun h1 => aw_skip ?_) (fun h1 => ?_)   -- if t7
  · have hpos : 0 < k := by simp at h1; omega
    obtain ⟨j, rfl⟩ : ∃ j, k = j + 1 := ⟨k - 1, by omega⟩
    have hsh := shr_byte n j (by omega)
    obtain ⟨e1, he1, he1'⟩ : ∃ e1 : Int, ((j + 1 : Nat) : Int) - 1 = e1 ∧ e1 = (j : Int) := ⟨_, rfl, by omega⟩
    have hu : IntKind.u64.wrap e1 = e1 := by rw [he1']; exact u64_in (by omega)
    obtain ⟨e8, he8, he8'⟩ : ∃ e8 : Int, IntKind.u64.wrap (8 * e1) = e8 ∧ e8 = 8 * (j : Int) := ⟨_, rfl, by rw [IntKind.wrap_u64]; omega⟩
    rw [← he8'] at hsh
    have hnn : ¬ e8 < 0 := by omega
    obtain ⟨sv, hsv⟩ : ∃ sv : Int, (n : Int).fdiv (2 ^ min e8.toNat IntKind.u64.bits) = sv := ⟨_, rfl⟩
    have hsv2 : sv = ((n / 256 ^ j : Nat) : Int) := by rw [← hsv, hsh]
    obtain ⟨av, hav⟩ : ∃ av : Int, IntKind.u8.wrap sv = av := ⟨_, rfl⟩
    have hav2 : av = ((n / 256 ^ j % 256 : Nat) : Int) := by rw [← hav, hsv2, IntKind.wrap_u8]; omega
    have hwe : IntKind.i64.wrap (e1 - 1) = (j : Int) - 1 := by rw [wrap_in (by omega) (by omega)]; omega
    have hx := refExtend_ac q (UInt8.ofNat (n / 256 ^ j % 256))
    rw [byV_of (by omega), ← hav2] at hx
    rw [he1]
    refine aw_seq ?_
    refine aw_block ?_
    refine aw_region ?_   -- ref.go:29
    refine awl_go 7 (by simp [hu, he8, hsv, hav, hnn] <;> rfl) ?_
    refine awl_call1 hx Tryz.func84 rfl (by kernel_rfl) rfl rfl rfl rfl rfl (by simp <;> rfl) ?_
    refine awl_end [0, 1, 5] [] (by simp <;> rfl) ?_
    refine aw_one [0, 1, 5] [] (by simp [hwe] <;> rfl) ?_   -- ref.go:28
    refine ⟨(j, dig1 q (UInt8.ofNat (n / 256 ^ j % 256)), _), ⟨by simp only; omega, ?_⟩, by simp only; omega, AS.le_refl _⟩
    rw [← hq]; rfl
  · have hk0 : k = 0 := by simp at h1; omega
    subst hk0
    refine aw_exit ?_
    refine aw_step [4] [] (by simp <;> rfl) ?_   -- ref.go:31
    refine aw_ret (ends_ret (by simp [Tryz.results70] <;> rfl) ?_)
    rw [← hq]; rfl
theorem refChain_ac (prev : Nat) (hp : prev < 2 ^ 64) (l : List UInt8) : AC Tryz.prog 45 [.int .u64 prev, .ro 1 (bys l)] (fun r => r = .int .u64 (chn prev l)) := by
  have hc := refNumber8_ac dig0 prev hp
  have hc2 := refAdd_ac (dig dig0 (putB prev 8)) l
  unfold chn
  have hp := bys_pure l
  generalize dig dig0 (putB prev 8) = q at hc hc2
  generalize bys l = lv at hc2
  refine ac_intro Tryz.func45 rfl (by show (2 : Nat) ≤ 9; omega) (fun w0 N0 => ?_)
  refine aw_step [0, 1] [] (by simp [Tryz.ntmps45] <;> rfl) ?_   -- ref.go:35
  refine aw_seq (aw_region ?_)   -- ref.go:36
  refine awl_go 1 (by simp <;> rfl) ?_
  refine awl_call1 hc Tryz.func70 rfl (by kernel_rfl) rfl rfl rfl rfl rfl (by simp <;> rfl) ?_
  refine awl_go 1 (by simp <;> rfl) ?_
  refine awl_call1 hc2 Tryz.func69 rfl (by kernel_rfl) rfl rfl rfl rfl rfl (by simp <;> rfl) ?_
  refine awl_end [4] [] (by simp <;> rfl) ?_
  exact aw_ret (ends_ret (by simp [Tryz.results45] <;> rfl) rfl)

set_option maxHeartbeats 1000000 in
theorem refGet_ac (l : List UInt8) (n : Nat) (hn : n ≤ l.length) : AC Tryz.prog 81 [.ro 1 (bys l), .int .i64 n] (fun r => r = .int .u64 (getB (l.take n))) := by
  have hg := fun (k : Nat) (h : k < l.length) => nthB h
  have hl := bysL l
  generalize bys l = lv at hg hl
  refine ac_lenR 0 rfl (fun hmax => ?_)
  unfold maxLen at hmax
  refine ac_intro Tryz.func81 rfl (by show (2 : Nat) ≤ 21; omega) (fun w0 N0 => ?_)
  refine aw_step [0, 1] [] (by simp [Tryz.ntmps81] <;> rfl) ?_   -- ref.go:11
  refine aw_step [0, 1, 5] [] (by simp <;> rfl) ?_   -- ref.go:12
  refine aw_seq ?_
  refine aw_step [0, 1, 5, 6] [] (by simp <;> rfl) ?_   -- ref.go:13
  refine aw_block ?_
  refine aw_count (fun k nx => ⟨[(0, .ro 1 lv), (1, .int .i64 n), (5, .int .u64 (getB (l.take k))), (6, .int .i64 k)], [], nx, 21⟩) (fun k => k ≤ n) n _ (Nat.zero_le _) (by simp [getB]; exact AS.le_refl _) ?_
  intro k nx hk hI
  refine aw_seq ?_
  refine aw_step [0, 1, 5, 6, 9] [] (by simp <;> rfl) ?_   -- ref.go:13
  refine aw_cond rfl (fun h1 => aw_skip ?_) (fun h1 => ?_)   -- if t9
  · have hltn : k < n := by simp at h1; omega
    have hlt : k < l.length := by omega
    have hlt' : k < lv.length := by omega
    have ga := hg k hlt
    have hw := wrap_succ (k := k) (by omega)
    have hd := getB_take hlt
    simp only [byV] at ga
    generalize hc : l[k] = c at ga hd
    have hc8 := c.toNat_lt
    obtain ⟨s, hs, hs'⟩ : ∃ s : Int, IntKind.u64.wrap (IntKind.u64.wrap ((getB (l.take k) : Int) * 256) + IntKind.u64.wrap (c.toNat : Int)) = s ∧ s = (getB (l.take (k + 1)) : Int) := ⟨_, rfl, by rw [hd, IntKind.wrap_u64, IntKind.wrap_u64, IntKind.wrap_u64]; omega⟩
    generalize getB (l.take k) = q at hs
    generalize getB (l.take (k + 1)) = q' at hs'
    refine aw_seq ?_
    refine aw_block ?_
    refine aw_one [0, 1, 5, 6] [] (by simp [ga, hlt', hs, hs'] <;> rfl) ?_   -- ref.go:14
    refine aw_one [0, 1, 5, 6] [] (by simp [hw] <;> rfl) ?_   -- ref.go:13
    exact ⟨hltn, by omega, _, AS.le_refl _⟩
  · refine aw_exit ?_
    refine aw_step [4] [] (by simp <;> rfl) ?_   -- ref.go:16
    refine aw_ret (ends_ret (by simp [Tryz.results81] <;> rfl) ?_)
    have hkl : k = n := by simp at h1; omega
    rw [hkl]

set_option maxHeartbeats 1000000 in
theorem refExtends_ac (a b : List UInt8) : AC Tryz.prog 26 [.ro 1 (bys a), .ro 1 (bys b)] (fun r => r = .bool (begB a b)) := by
  have hga := fun (k : Nat) (h : k < a.length) => nthB h
  have hgb := fun (k : Nat) (h : k < b.length) => nthB h
  have hla := bysL a
  have hlb := bysL b
  generalize bys a = av at hga hla
  generalize bys b = bv at hgb hlb
  refine ac_lenR 1 rfl (fun hmax => ?_)
  unfold maxLen at hmax
  refine ac_intro Tryz.func26 rfl (by show (2 : Nat) ≤ 26; omega) (fun w0 N0 => ?_)
  refine aw_step [0, 1] [] (by simp [Tryz.ntmps26] <;> rfl) ?_   -- ref.go:128
  refine aw_seq ?_
  refine aw_step [0, 1, 11] [] (by simp <;> rfl) ?_   -- ref.go:129
  refine aw_cond rfl (fun h1 => ?_) (fun h1 => aw_skip ?_)   -- if t11
  · have h1' : a.length < b.length := by simp at h1; omega
    refine aw_step [4] [] (by simp <;> rfl) ?_   -- ref.go:130
    refine aw_ret (ends_ret (by simp [Tryz.results26] <;> rfl) ?_)
    simp [begB]; omega
  have h1' : b.length ≤ a.length := by simp at h1; omega
  refine aw_seq ?_
  refine aw_step [0, 12, 13, 14] [] (by simp <;> rfl) ?_   -- ref.go:132
  refine aw_block ?_
  refine aw_count (fun k nx => ⟨[(0, .ro 1 av), (12, .ro 1 bv), (13, .int .i64 bv.length), (14, .int .i64 k)], [], nx, 26⟩) (fun k => k ≤ b.length ∧ a.take k = b.take k) b.length _ (by simp) (AS.le_refl _) ?_
  intro k nx hk hI
  refine aw_step [0, 12, 13, 14, 15] [] (by simp <;> rfl) ?_   -- ref.go:132
  refine aw_seq ?_
  refine aw_cond rfl (fun h2 => aw_skip ?_) (fun h2 => ?_)   -- if t15
  · have hlt : k < b.length := by simp at h2; omega
    have ga := hga k (by omega)
    have gb := hgb k hlt
    have hb1 : k < av.length := by omega
    have hb2 : k < bv.length := by omega
    have hw := wrap_succ (k := k) (by omega)
    have hta := List.take_succ_eq_append_getElem (l := a) (i := k) (by omega)
    have htb := List.take_succ_eq_append_getElem (l := b) (i := k) hlt
    simp only [byV] at ga gb
    have hinj := byV_inj a[k] b[k]
    have hne : a[k] ≠ b[k] → begB a b = false := by
      intro hne
      cases hbb : begB a b with
      | false => rfl
      | true =>
        simp only [begB, Bool.and_eq_true, decide_eq_true_eq] at hbb
        apply absurd _ hne
        have := congrArg (fun l => l[k]?) hbb.2
        simp [List.getElem?_take, hlt, show k < a.length by omega] at this
        exact this
    generalize a[k] = x at *
    generalize b[k] = y at *
    refine aw_seq ?_
    refine aw_block ?_
    refine aw_step [0, 5, 6, 12, 13, 14] [] (by simp [gb, hb2] <;> rfl) ?_   -- ref.go:132
    refine aw_step [0, 12, 13, 14, 24] [] (by simp [ga, hb1] <;> rfl) ?_   -- ref.go:133
    refine aw_cond rfl (fun h3 => ?_) (fun h3 => aw_skip ?_)   -- if t24
    · have h3' : x ≠ y := by simp [hinj] at h3; exact h3
      refine aw_step [4] [] (by simp <;> rfl) ?_   -- ref.go:134
      refine aw_ret (ends_ret (by simp [Tryz.results26] <;> rfl) ?_)
      rw [hne h3']
    have h3' : x = y := by simp [hinj] at h3; exact h3
    refine aw_one [0, 12, 13, 14] [] (by simp [hw] <;> rfl) ?_   -- ref.go:132
    exact ⟨hlt, ⟨by omega, by rw [hta, htb, hI.2, h3']⟩, _, AS.le_refl _⟩
  · refine aw_exit ?_
    refine aw_step [4] [] (by simp <;> rfl) ?_   -- ref.go:137
    refine aw_ret (ends_ret (by simp [Tryz.results26] <;> rfl) ?_)
    have hkl : k = b.length := by simp at h2; omega
    obtain ⟨_, h⟩ := hI
    rw [hkl, List.take_length] at h
    simp [begB, h, h1']
end Go.Proofs.YtmkbhognijicjaaGreatDoor

/- Journals: the reference's encoding of trees. No condition. -/
set_option linter.unusedSimpArgs false
set_option maxRecDepth 4000
namespace Go.Proofs.YtmkbhognijicjaaGreatDoor
open Go.Eng

theorem xor_ones (a : BitVec 64) : (a ^^^ BitVec.allOnes 64).toNat = 2 ^ 64 - 1 - a.toNat := by
  rw [BitVec.xor_allOnes, BitVec.toNat_not]
/-- A number of 64 bits. -/
def I64 (n : Int) : Prop := -9223372036854775808 ≤ n ∧ n < 9223372036854775808
def zig (n : Int) : Nat := if n < 0 then (2 * (-(n + 1)) + 1).toNat else (2 * n).toNat
theorem foldN_zig {n : Int} (h : I64 n) : foldN n = zig n := by
  unfold I64 at h
  unfold foldN foldI zig
  by_cases hn : n < 0
  · rw [if_pos hn]
    have h1 : IntKind.u64.wrap (n.fdiv (2 ^ 63)) = 18446744073709551615 := by
      have : n.fdiv (2 ^ 63) = -1 := by rw [Int.fdiv_eq_ediv_of_nonneg _ (by decide)]; omega
      rw [this, IntKind.wrap_u64]; rfl
    have h2 : IntKind.u64.wrap (IntKind.u64.wrap n * 2) = 2 * n + 18446744073709551616 := by
      rw [IntKind.wrap_u64, IntKind.wrap_u64]; omega
    rw [h1, h2]
    show (IntKind.u64.wrap ((BitVec.ofInt 64 (2 * n + 18446744073709551616) ^^^ BitVec.allOnes 64).toNat : Int)).toNat = _
    rw [xor_ones, BitVec.toNat_ofInt, IntKind.wrap_u64]
    omega
  · rw [if_neg hn]
    have h1 : IntKind.u64.wrap (n.fdiv (2 ^ 63)) = 0 := by
      have : n.fdiv (2 ^ 63) = 0 := by rw [Int.fdiv_eq_ediv_of_nonneg _ (by decide)]; omega
      rw [this, IntKind.wrap_u64]; rfl
    have h2 : IntKind.u64.wrap (IntKind.u64.wrap n * 2) = 2 * n := by
      rw [IntKind.wrap_u64, IntKind.wrap_u64]; omega
    rw [h1, h2]
    show (IntKind.u64.wrap ((BitVec.ofInt 64 (2 * n) ^^^ BitVec.ofInt 64 0).toNat : Int)).toNat = _
    have : BitVec.ofInt 64 0 = 0#64 := rfl
    rw [this, BitVec.xor_zero, BitVec.toNat_ofInt, IntKind.wrap_u64]
    omega
def zag (x : Nat) : Int := if x % 2 = 1 then -((x / 2 : Nat) : Int) - 1 else ((x / 2 : Nat) : Int)
theorem unfI_zag {x : Nat} (h : x < 2 ^ 64) : unfI x = zag x := by
  unfold unfI zag
  have h1 : IntKind.i64.wrap ((x : Int).fdiv (2 ^ min 1 IntKind.u64.bits)) = ((x / 2 : Nat) : Int) := by
    show IntKind.i64.wrap ((x : Int).fdiv 2) = _
    rw [Int.fdiv_eq_ediv_of_nonneg _ (by decide), wrap_in (by omega) (by omega)]; omega
  have h2 : bits .and .u64 (x : Int) 1 = ((x % 2 : Nat) : Int) := by
    have := (bits_nat x 1 ⟨h, by decide⟩).2.1
    rw [show (1 : Int) = ((1 : Nat) : Int) from rfl, this]
    congr 1
    exact Nat.and_two_pow_sub_one_eq_mod x 1
  rw [h1, h2, wrap_in (x := ((x % 2 : Nat) : Int)) (by omega) (by omega)]
  by_cases hx : x % 2 = 1
  · rw [if_pos hx, hx]
    have h3 : IntKind.i64.wrap (-((1 : Nat) : Int)) = -1 := by rw [wrap_in (by omega) (by omega)]; rfl
    rw [h3]
    show IntKind.i64.wrap ((BitVec.ofInt 64 ((x / 2 : Nat) : Int) ^^^ BitVec.allOnes 64).toNat : Int) = _
    rw [xor_ones, BitVec.toNat_ofInt, IntKind.wrap_i64]
    omega
  · rw [if_neg hx]
    have h0 : x % 2 = 0 := by omega
    rw [h0]
    have h3 : IntKind.i64.wrap (-((0 : Nat) : Int)) = 0 := by rw [wrap_in (by omega) (by omega)]; rfl
    rw [h3]
    show IntKind.i64.wrap ((BitVec.ofInt 64 ((x / 2 : Nat) : Int) ^^^ BitVec.ofInt 64 0).toNat : Int) = _
    have : BitVec.ofInt 64 0 = 0#64 := rfl
    rw [this, BitVec.xor_zero, BitVec.toNat_ofInt, IntKind.wrap_i64]
    omega
theorem zag_range {x : Nat} (h : x < 2 ^ 64) : I64 (zag x) := by unfold zag I64; split <;> omega
theorem zig_zag (x : Nat) : zig (zag x) = x := by
  unfold zig zag
  by_cases h : x % 2 = 1
  · simp only [if_pos h]; split <;> omega
  · simp only [if_neg h]; split <;> omega

set_option maxHeartbeats 1000000 in
theorem refVarint_aca (es : List UInt8) (x : Nat) (hx : x < 2 ^ 64) (hl : es.length ≤ 2 ^ 40) : ACA Tryz.prog 83 [.int .u64 x] 1 5 (bys es) (bys (vEnc x)) := by
  have hvl := vEnc_len64 hx
  refine aca_intro Tryz.func83 rfl (by show (2 : Nat) ≤ 21; omega) (fun d v w0 N0 nx0 => ?_)
  refine awk_step (d + 1) [0, 1] [d] (by simp [Tryz.ntmps83] <;> rfl) ?_   -- ref.go:50
  refine aw_seq ?_
  refine aw_block ?_
  refine aw_loop (fun p : List UInt8 × Nat × Nat × Nat => ⟨[(0, .sl d p.2.2.1 1 (bys (es ++ p.1)).length), (1, .int .u64 p.2.1)], [(d, ⟨p.2.2.1, 1, 5, bys (es ++ p.1)⟩)], p.2.2.2, 21⟩) (fun p => p.1 ++ vEnc p.2.1 = vEnc x ∧ p.2.1 < 2 ^ 64 ∧ nx0 ≤ p.2.2.2) (fun p => p.2.1) ([], x, v, nx0 + 1) ⟨rfl, hx, by simp only; omega⟩ (by simp only [List.append_nil, List.length_map]; exact AS.le_refl _) ?_
  rintro ⟨p, y, v', nx⟩ ⟨hp, hy, hnx⟩
  simp only at hp hy hnx
  have hpl : p.length ≤ 10 := by have := congrArg List.length hp; simp at this; omega
  have hb1 : es.length + p.length + 1 ≤ maxLen := by simp [maxLen]; omega
  have hb2 : es.length + p.length ≤ 140737488355327 := by omega
  refine aw_seq ?_
  refine awk_step (d + 1) [0, 1, 6] [d] (by simp <;> rfl) ?_   -- ref.go:51
  refine aw_cond rfl (fun h1 => aw_skip ?_) (fun h1 => ?_)   -- if t6
  · have hge : 128 ≤ y := by simp at h1; omega
    obtain ⟨wy, ob, sy, hw, hor, hob, hsh, hsy⟩ : ∃ wy ob sy : Int, (y : Int).tmod 128 = wy ∧ IntKind.u8.wrap (IntKind.u64.wrap (wy + 128)) = ob ∧ V.int .u8 ob = byV (UInt8.ofNat (y % 128 + 128)) ∧ IntKind.u64.wrap ((y : Int) / 128) = sy ∧ sy = ((y / 128 : Nat) : Int) := by
      refine ⟨_, _, _, rfl, rfl, ?_, rfl, ?_⟩
      · rw [byV_of (by omega), Int.tmod_eq_emod_of_nonneg (by omega), IntKind.wrap_u64, IntKind.wrap_u8]
        congr 1
        omega
      · rw [IntKind.wrap_u64]
        omega
    refine aw_block ?_
    refine awk_step (d + 1) [0, 1] [d] (by simp [hw, hor, hb1, hb2] <;> rfl) ?_   -- ref.go:52
    refine awk_one (d + 1) [0, 1] [d] (by simp [hsh] <;> rfl) ?_   -- ref.go:53
    refine ⟨(p ++ [UInt8.ofNat (y % 128 + 128)], y / 128, nx + 2 + 6, nx + 13), ⟨?_, by simp only; omega, by simp only; omega⟩, by simp only; omega, ?_⟩
    · simp only [List.append_assoc, List.singleton_append]
      rw [← vEnc_ge hge]
      exact hp
    · simp only [hob, hsy, List.map_append, List.append_assoc, List.map_cons, List.map_nil, List.length_append, List.length_map, List.length_cons, List.length_nil]
      exact AS.le_refl _
  · have hlt : y < 128 := by simp at h1; omega
    obtain ⟨wy, hw, hob⟩ : ∃ wy : Int, IntKind.u8.wrap (y : Int) = wy ∧ V.int .u8 wy = byV (UInt8.ofNat y) := by
      refine ⟨_, rfl, ?_⟩
      rw [byV_of (by omega), IntKind.wrap_u8]
      congr 1
      omega
    rw [vEnc_lt hlt] at hp
    refine aw_exit ?_
    refine awk_step (d + 1) [4] [d] (by simp [hw, hb1, hb2] <;> rfl) ?_   -- ref.go:55
    refine aw_ret ?_
    rw [← hp]
    refine endsA (v' := nx + 2 + 4) (by simp only; omega) ?_ ?_
    · simp [Tryz.results83]; omega
    · simp [hob]

/-- A tree that fits, with so many levels left. -/
def Fit : Nat → Nd → Prop
  | 0, _ => False
  | m + 1, .mk t k n s ks => 0 ≤ t ∧ t ≤ 9999999 ∧ I64 n ∧ ((k = 1 ∧ s = [] ∧ ks = []) ∨ (k = 2 ∧ n = 0 ∧ ks = [] ∧ s.length ≤ 2000) ∨ (k = 3 ∧ n = 0 ∧ s = [] ∧ ks.length ≤ 1024)) ∧ ∀ x ∈ ks, Fit m x

set_option maxHeartbeats 2000000 in
theorem refFits_ac : ∀ (m : Nat) (x : Nd) (lv : Int), Fit m x → lv + m = 9 → 1 ≤ lv → AC Tryz.prog 67 [x.v, .int .i64 lv] (fun r => r = .bool true) := by
  intro m
  induction m with
  | zero => intro x lv h; exact h.elim
  | succ m ih =>
  intro x lv h hlv hlv1
  obtain ⟨t, k, n, s, ks⟩ := x
  rw [Fit] at h
  obtain ⟨h1, h2, h3, h4, h5⟩ := h
  have hsl : s.length ≤ 2000 ∧ ks.length ≤ 1024 ∧ 1 ≤ k ∧ k ≤ 3 ∧ (k ≠ 1 → n = 0) ∧ (k ≠ 2 → s.length = 0) ∧ (k ≠ 3 → ks.length = 0) := by
    rcases h4 with ⟨rfl, rfl, rfl⟩ | ⟨rfl, rfl, rfl, h⟩ | ⟨rfl, rfl, rfl, h⟩ <;> simp <;> omega
  obtain ⟨q1, q2, q3, q4, q5, q6, q7⟩ := hsl
  have hkl : (ks.map Nd.v).length = ks.length := by simp
  have hga := fun (k : Nat) (h : k < ks.length) => nthN h
  have hwl : IntKind.i64.wrap (lv + 1) = lv + 1 := wrap_in (by omega) (by omega)
  have hcall : ∀ (i : Nat) (hi : i < ks.length), AC Tryz.prog 67 [ks[i].v, .int .i64 (lv + 1)] (fun r => r = .bool true) := fun i hi => ih ks[i] (lv + 1) (h5 _ (List.getElem_mem hi)) (by omega) (by omega)
  rw [Nd.v]
  generalize ks.map Nd.v = kv at hkl hga
  refine ac_intro Tryz.func67 rfl (by show (2 : Nat) ≤ 84; omega) (fun w0 N0 => ?_)
  refine aw_step [1, 2] [2] (by simp [Tryz.ntmps67] <;> rfl) ?_   -- ref.go:31
  refine aw_seq ?_
  refine aw_step [1, 2, 29] [2] (by simp <;> rfl) ?_   -- ref.go:32
  refine aw_cond rfl (fun h1 => by simp at h1; omega) (fun _ => aw_skip ?_)   -- if t29
  refine aw_seq ?_
  refine aw_step [1, 2, 59] [2] (by simp <;> rfl) ?_   -- ref.go:35
  refine aw_cond rfl (fun h2 => by simp at h2; exfalso; omega) (fun _ => aw_skip ?_)   -- if t59
  refine aw_seq ?_
  refine aw_step [1, 2, 67] [2] (by simp <;> rfl) ?_   -- ref.go:38
  refine aw_cond rfl (fun h3 => by simp at h3; omega) (fun _ => aw_skip ?_)   -- if t67
  refine aw_seq ?_
  refine aw_step [1, 2, 5] [2] (by simp <;> rfl) ?_   -- ref.go:41
  refine aw_block ?_
  refine aw_count (fun i nx => ⟨[(1, .int .i64 lv), (2, .bp 2 0 5 0 0), (5, .int .i64 i)], [(2, ⟨0, 5, 42, [.agg [.int .i64 t, .int .i64 k, .int .i64 n, .str s, .ro 5 kv]]⟩)], nx, 84⟩) (fun i => i ≤ ks.length) ks.length _ (Nat.zero_le _) (AS.le_refl _) ?_
  intro i nx hi hI
  refine aw_seq ?_
  refine aw_step [1, 2, 5, 72] [2] (by simp <;> rfl) ?_   -- ref.go:41
  refine aw_cond rfl (fun h4 => aw_skip ?_) (fun h4 => ?_)   -- if t72
  · have hlt : i < ks.length := by simp at h4; omega
    have hlt' : i < kv.length := by omega
    have ga := hga i hlt
    have hc := hcall i hlt
    have hw := wrap_succ (k := i) (by omega)
    have hpx := Nd.v_pure ks[i]
    rcases hkk : ks[i] with ⟨kt, kk, kn', kss, kks⟩
    rw [hkk] at ga hc hpx
    rw [Nd.v] at ga hc hpx
    generalize kks.map Nd.v = kkv at ga hc hpx
    refine aw_seq ?_
    refine aw_block ?_
    refine aw_seq (aw_region ?_)   -- ref.go:42
    refine awl_go 7 (by simp [ga, hlt', hwl] <;> rfl) ?_
    refine awl_call1 hc Tryz.func67 rfl (by kernel_rfl) rfl rfl rfl rfl (by simp) (by simp <;> rfl) ?_
    refine awl_end [1, 2, 5, 83] [2] (by simp <;> rfl) ?_
    refine aw_cond rfl (fun h5 => by simp at h5) (fun h5 => aw_skip ?_)   -- if t83
    refine aw_one [1, 2, 5] [2] (by simp [hw] <;> rfl) ?_   -- ref.go:41
    exact ⟨hlt, by omega, _, AS.le_refl _⟩
  · refine aw_exit ?_
    refine aw_step [4] [] (by simp <;> rfl) ?_   -- ref.go:46
    exact aw_ret (ends_ret (by simp [Tryz.results67] <;> rfl) rfl)
end Go.Proofs.YtmkbhognijicjaaGreatDoor

/- Journals: the reference's write and Encode. No condition. -/
set_option linter.unusedSimpArgs false
set_option maxRecDepth 4000
namespace Go.Proofs.YtmkbhognijicjaaGreatDoor
open Go.Eng

theorem Fit.wf : ∀ {m : Nat} {x : Nd}, Fit m x → Wf x
  | 0, _, h => h.elim
  | m + 1, .mk t k n s ks, h => by
    rw [Fit] at h
    obtain ⟨h1, h2, h3, h4, h5⟩ := h
    rw [Wf]
    refine ⟨h1, h2, ?_, ?_, ?_, ?_, fun x hx => (h5 x hx).wf⟩
    all_goals rcases h4 with ⟨rfl, rfl, rfl⟩ | ⟨rfl, rfl, rfl, h⟩ | ⟨rfl, rfl, rfl, h⟩ <;> first | omega | (simp; done) | (simp; omega)

set_option maxHeartbeats 8000000 in
theorem refWrite_aca : ∀ (m : Nat) (x : Nd) (es : List UInt8), Fit m x → es.length + (byN x).length ≤ 1048576 → ACA Tryz.prog 68 [x.v] 1 5 (bys es) (bys (byN x)) := by
  intro m
  induction m with
  | zero => intro x es h; exact h.elim
  | succ m ih =>
  intro x es hfit hlen
  have hwf := hfit.wf
  obtain ⟨t, kd, n, s, ks⟩ := x
  rw [Fit] at hfit
  obtain ⟨_, _, hn64, _, hfk⟩ := hfit
  have ih' : ∀ y ∈ ks, ∀ es' : List UInt8, es'.length + (byN y).length ≤ 1048576 → ACA Tryz.prog 68 [y.v] 1 5 (bys es') (bys (byN y)) := fun y hy es' hl => ih y es' (hfk y hy) hl
  rw [Wf] at hwf
  obtain ⟨ht0, ht1, hk0, hk1, hs, hks, _⟩ := hwf
  rw [byN] at hlen ⊢
  simp only [List.length_append, List.length_cons] at hlen
  have hkl : (ks.map Nd.v).length = ks.length := by simp
  have hga := fun (k : Nat) (h : k < ks.length) => nthN h
  rw [Nd.v]
  generalize ks.map Nd.v = kv at hkl hga
  refine aca_intro Tryz.func68 rfl (by show (2 : Nat) ≤ 74; omega) (fun d v w0 N0 nx0 => ?_)
  obtain ⟨tn, htn⟩ : ∃ tn : Nat, t = tn := ⟨t.toNat, by omega⟩
  obtain ⟨kn, hkn⟩ : ∃ kn : Nat, kd = kn := ⟨kd.toNat, by omega⟩
  subst htn
  subst hkn
  simp only [Int.toNat_natCast] at hlen ⊢
  have hwt : IntKind.u64.wrap (tn : Int) = tn := u64_in (by omega)
  obtain ⟨bk, hbk, hob⟩ : ∃ bk : Int, IntKind.u8.wrap (kn : Int) = bk ∧ V.int .u8 bk = byV (UInt8.ofNat kn) := by
    refine ⟨_, rfl, ?_⟩
    rw [byV_of (by omega), IntKind.wrap_u8]
    congr 1
    omega
  have hc1 := refVarint_aca es tn (by omega) (by omega)
  have hf1 : (bys es ++ bys (vEnc tn)).all flatE = true := by rw [List.all_append, bys_flat, bys_flat]; rfl
  generalize hv1 : vEnc tn = v1 at hc1 hf1 hlen
  have hb1 : es.length + v1.length + 1 ≤ maxLen := by simp [maxLen]; omega
  have hb2 : es.length + v1.length ≤ 140737488355327 := by omega
  refine awk_step (d + 1) [0, 3] [d, d + 1 + 3] (by simp [Tryz.ntmps68] <;> rfl) ?_   -- ref.go:59
  refine aw_seq ?_
  refine awk_step (d + 1) [0, 3, 9] [d, d + 1 + 3] (by simp <;> rfl) ?_   -- ref.go:60
  refine aw_cond rfl (fun h1 => by simp at h1; omega) (fun _ => aw_skip ?_)   -- if t9
  refine aw_seqE ⟨[(0, .sl d (nx0 + 2 + 3 + 9) 1 (bys (es ++ v1 ++ [UInt8.ofNat kn])).length), (3, .bp (d + 1 + 3) nx0 5 0 0)], [(d, ⟨nx0 + 2 + 3 + 9, 1, 5, bys (es ++ v1 ++ [UInt8.ofNat kn])⟩), (d + 1 + 3, ⟨nx0, 5, 42, [.agg [.int .i64 tn, .int .i64 kn, .int .i64 n, .str s, .ro 5 kv]]⟩)], nx0 + 2 + 3 + 11, 74⟩ (awk_drawX (d + 1) [4] hmix ?_) ?_
  · refine at_go [(0, []), (1, []), (5, []), (2, [19]), (3, [])] (by kernel_rfl) (by simp [hwt] <;> rfl) ?_
    refine at_fork [4, 6] (by kernel_rfl) (fun i hi => ?_)
    simp only [List.mem_cons, List.not_mem_nil, or_false] at hi
    rcases hi with rfl | rfl
    · refine ⟨_, _, rfl, sx_callA (d := d) (v := v) (by decide) hc1 hf1 Tryz.func83 rfl (by kernel_rfl) rfl rfl rfl (by simp <;> rfl) (by simp <;> rfl) (by simp <;> rfl), ?_⟩
      refine at_go [(6, [19]), (7, []), (8, []), (9, []), (10, [])] (by kernel_rfl) (by simp [hbk, hb1, hb2] <;> rfl) ?_
      exact at_end [0, 3] [d, d + 1 + 3] (by kernel_rfl) (by simp <;> rfl) (by simp [hob]; try omega)
    · refine ⟨_, _, rfl, sx_go (by simp <;> rfl), ?_⟩
      refine at_go [(7, [])] (by kernel_rfl) (by simp [hbk] <;> rfl) ?_
      refine at_fork [4, 8] (by kernel_rfl) (fun i hi => ?_)
      simp only [List.mem_cons, List.not_mem_nil, or_false] at hi
      rcases hi with rfl | rfl
      · refine ⟨_, _, rfl, sx_callA (d := d) (v := v) (by decide) hc1 hf1 Tryz.func83 rfl (by kernel_rfl) rfl rfl rfl (by simp <;> rfl) (by simp <;> rfl) (by simp <;> rfl), ?_⟩
        refine at_go [(8, []), (9, []), (10, [])] (by kernel_rfl) (by simp [hb1, hb2] <;> rfl) ?_
        exact at_end [0, 3] [d, d + 1 + 3] (by kernel_rfl) (by simp <;> rfl) (by simp [hob]; try omega)
      · refine ⟨_, _, rfl, sx_go (by simp <;> rfl), ?_⟩
        refine at_fork [4] (by kernel_rfl) (fun i hi => ?_)
        simp only [List.mem_cons, List.not_mem_nil, or_false] at hi
        subst hi
        refine ⟨_, _, rfl, sx_callA (d := d) (v := v) (by decide) hc1 hf1 Tryz.func83 rfl (by kernel_rfl) rfl rfl rfl (by simp <;> rfl) (by simp <;> rfl) (by simp <;> rfl), ?_⟩
        refine at_go [(9, []), (10, [])] (by kernel_rfl) (by simp [hb1, hb2] <;> rfl) ?_
        exact at_end [0, 3] [d, d + 1 + 3] (by kernel_rfl) (by simp <;> rfl) (by simp [hob]; try omega)
  obtain ⟨q1, hq1⟩ : ∃ q1, q1 = es ++ v1 ++ [UInt8.ofNat kn] := ⟨_, rfl⟩
  rw [← hq1]
  have hq1l : q1.length = es.length + v1.length + 1 := by rw [hq1]; simp; omega
  have hfin : ∀ rest, bys es ++ bys (v1 ++ UInt8.ofNat kn :: rest) = bys (q1 ++ rest) := by intro rest; simp [hq1]
  rw [hfin]
  refine aw_seq ?_
  refine awk_step (d + 1) [0, 3, 23] [d, d + 1 + 3] (by simp <;> rfl) ?_   -- ref.go:64
  refine aw_cond rfl (fun h1 => ?_) (fun h1 => aw_skip ?_)   -- if t23
  · have hkn : ((kn : Nat) : Int) = 1 := by simp at h1; omega
    rw [if_pos hkn] at hlen ⊢
    rw [foldN_zig hn64] at hlen ⊢
    have hz : zig n < 2 ^ 64 := by rw [← foldN_zig hn64]; exact foldN_lt n
    have hc3 := refVarint_aca q1 (zig n) hz (by omega)
    have hf3 : (bys q1 ++ bys (vEnc (zig n))).all flatE = true := by rw [List.all_append, bys_flat, bys_flat]; rfl
    unfold I64 at hn64
    refine awk_step (d + 1) [0, 3, 5] [d, d + 1 + 3] (by simp <;> rfl) ?_   -- ref.go:65
    refine aw_seq ?_
    refine awk_step (d + 1) [0, 3, 5, 30] [d, d + 1 + 3] (by simp <;> rfl) ?_   -- ref.go:66
    refine aw_cond rfl (fun h3 => ?_) (fun h3 => aw_skip ?_)   -- if t30
    · have hneg : n < 0 := by simp at h3; omega
      obtain ⟨z1, hz1, hz1'⟩ : ∃ z1 : Int, IntKind.u64.wrap (IntKind.u64.wrap (2 * IntKind.u64.wrap (IntKind.i64.wrap (-(IntKind.i64.wrap (n + 1))))) + 1) = z1 ∧ z1 = zig n := by
        refine ⟨_, rfl, ?_⟩
        rw [wrap_in (x := n + 1) (by omega) (by omega), wrap_in (by omega) (by omega)]
        simp only [IntKind.wrap_u64]
        unfold zig
        rw [if_pos hneg]
        omega
      subst hz1'
      generalize hv2 : vEnc (zig n) = v2 at hc3 hf3
      refine awk_one (d + 1) [0, 5] [d] (by simp [hz1] <;> rfl) ?_   -- ref.go:67
      refine aw_seq (aw_region ?_)   -- ref.go:69
      refine awlk_go (d + 1) 2 (by simp <;> rfl) ?_
      refine awl_callA (d := d) (v := nx0 + 2 + 3 + 9) hc3 hf3 Tryz.func83 rfl (by kernel_rfl) (by decide) rfl rfl rfl (by simp <;> rfl) (by simp <;> rfl) (by simp <;> rfl) ?_
      refine awlk_end (d + 1) [4] [d] (by simp <;> rfl) ?_
      refine aw_ret ?_
      exact endsA (v' := nx0 + 2 + 3 + 11 + 3 + 5 + 3 + 8 + 2) (by simp only; omega) (by simp [Tryz.results68]) (by simp)
    · have hneg : ¬ n < 0 := by simp at h3; omega
      obtain ⟨z1, hz1, hz1'⟩ : ∃ z1 : Int, IntKind.u64.wrap (2 * IntKind.u64.wrap n) = z1 ∧ z1 = zig n := by
        refine ⟨_, rfl, ?_⟩
        simp only [IntKind.wrap_u64]
        unfold zig
        rw [if_neg hneg]
        omega
      subst hz1'
      rw [hz1]
      generalize hv2 : vEnc (zig n) = v2 at hc3 hf3
      refine aw_seq (aw_region ?_)   -- ref.go:69
      refine awlk_go (d + 1) 2 (by simp <;> rfl) ?_
      refine awl_callA (d := d) (v := nx0 + 2 + 3 + 9) hc3 hf3 Tryz.func83 rfl (by kernel_rfl) (by decide) rfl rfl rfl (by simp <;> rfl) (by simp <;> rfl) (by simp <;> rfl) ?_
      refine awlk_end (d + 1) [4] [d] (by simp <;> rfl) ?_
      refine aw_ret ?_
      exact endsA (v' := nx0 + 2 + 3 + 11 + 3 + 5 + 3 + 2) (by simp only; omega) (by simp [Tryz.results68]) (by simp)
  have hkn1 : ¬ ((kn : Nat) : Int) = 1 := by simp at h1; omega
  rw [if_neg hkn1] at hlen ⊢
  refine aw_seq ?_
  refine awk_step (d + 1) [0, 3, 43] [d, d + 1 + 3] (by simp <;> rfl) ?_   -- ref.go:71
  refine aw_cond rfl (fun h2 => ?_) (fun h2 => aw_skip ?_)   -- if t43
  · have hkn2 : ((kn : Nat) : Int) = 2 := by simp at h2; omega
    rw [if_pos hkn2] at hlen ⊢
    simp only [List.length_append] at hlen
    have hws : IntKind.u64.wrap (s.length : Int) = s.length := u64_in (by omega)
    have hc3 := refVarint_aca q1 s.length (by omega) (by omega)
    have hf3 : (bys q1 ++ bys (vEnc s.length)).all flatE = true := by rw [List.all_append, bys_flat, bys_flat]; rfl
    generalize hv2 : vEnc s.length = v2 at hc3 hf3 hlen
    have hb3 : q1.length + v2.length + s.length ≤ maxLen := by simp [maxLen]; omega
    have hb4 : q1.length + v2.length + s.length ≤ 140737488355328 := by omega
    refine aw_seqE ⟨[(4, .sl d (nx0 + 2 + 3 + 11 + 3 + 3 + 8) 1 (bys (q1 ++ v2 ++ s)).length)], [(d, ⟨nx0 + 2 + 3 + 11 + 3 + 3 + 8, 1, 5, bys (q1 ++ v2 ++ s)⟩)], nx0 + 2 + 3 + 11 + 3 + 3 + 10, 74⟩ (awk_drawX (d + 1) [5] hmix ?_) ?_   -- ref.go:72
    · refine at_go [(0, []), (1, []), (6, []), (2, []), (3, []), (4, [])] (by kernel_rfl) (by simp [hws] <;> rfl) ?_
      refine at_fork [5, 7] (by kernel_rfl) (fun i hi => ?_)
      simp only [List.mem_cons, List.not_mem_nil, or_false] at hi
      rcases hi with rfl | rfl
      · refine ⟨_, _, rfl, sx_callA (d := d) (v := nx0 + 2 + 3 + 9) (by decide) hc3 hf3 Tryz.func83 rfl (by kernel_rfl) rfl rfl rfl (by simp <;> rfl) (by simp <;> rfl) (by simp <;> rfl), ?_⟩
        refine at_go [(7, []), (8, []), (9, [])] (by kernel_rfl) (by simp [hb3, hb4] <;> rfl) ?_
        exact at_end [4] [d] (by kernel_rfl) (by simp <;> rfl) (by simp; try omega)
      · refine ⟨_, _, rfl, sx_go (by simp <;> rfl), ?_⟩
        refine at_fork [5] (by kernel_rfl) (fun i hi => ?_)
        simp only [List.mem_cons, List.not_mem_nil, or_false] at hi
        subst hi
        refine ⟨_, _, rfl, sx_callA (d := d) (v := nx0 + 2 + 3 + 9) (by decide) hc3 hf3 Tryz.func83 rfl (by kernel_rfl) rfl rfl rfl (by simp <;> rfl) (by simp <;> rfl) (by simp <;> rfl), ?_⟩
        refine at_go [(8, []), (9, [])] (by kernel_rfl) (by simp [hb3, hb4] <;> rfl) ?_
        exact at_end [4] [d] (by kernel_rfl) (by simp <;> rfl) (by simp; try omega)
    refine aw_ret ?_
    rw [← List.append_assoc]
    exact endsA (v' := nx0 + 2 + 3 + 11 + 3 + 3 + 8) (by simp only; omega) (by simp [Tryz.results68]) (by simp)
  have hkn2 : ¬ ((kn : Nat) : Int) = 2 := by simp at h2; omega
  rw [if_neg hkn2] at hlen ⊢
  simp only [List.length_append] at hlen
  have hwk : IntKind.u64.wrap (kv.length : Int) = kv.length := u64_in (by omega)
  have hc3 := refVarint_aca q1 ks.length (by omega) (by omega)
  have hf3 : (bys q1 ++ bys (vEnc ks.length)).all flatE = true := by rw [List.all_append, bys_flat, bys_flat]; rfl
  generalize hv2 : vEnc ks.length = v2 at hc3 hf3 hlen
  rw [← hkl] at hc3
  refine aw_seq (aw_region ?_)   -- ref.go:74
  refine awlk_go (d + 1) 5 (by simp [hwk] <;> rfl) ?_
  refine awl_callA (d := d) (v := nx0 + 2 + 3 + 9) hc3 hf3 Tryz.func83 rfl (by kernel_rfl) (by decide) rfl rfl rfl (by simp <;> rfl) (by simp <;> rfl) (by simp <;> rfl) ?_
  refine awlk_end (d + 1) [0, 3] [d, d + 1 + 3] (by simp <;> rfl) ?_
  refine aw_seq ?_
  refine awk_step (d + 1) [0, 3, 6] [d, d + 1 + 3] (by simp <;> rfl) ?_   -- ref.go:75
  refine aw_block ?_
  obtain ⟨cf, hcf⟩ : ∃ cf : Nat → List UInt8, ∀ k, cf k = ((ks.map byN).take k).flatten := ⟨_, fun _ => rfl⟩
  have hcf0 : cf 0 = [] := by rw [hcf]; rfl
  refine aw_loop (fun p : Nat × Nat × Nat => ⟨[(0, .sl d p.2.1 1 (bys (q1 ++ v2 ++ cf p.1)).length), (3, .bp (d + 1 + 3) nx0 5 0 0), (6, .int .i64 p.1)], [(d, ⟨p.2.1, 1, 5, bys (q1 ++ v2 ++ cf p.1)⟩), (d + 1 + 3, ⟨nx0, 5, 42, [.agg [.int .i64 tn, .int .i64 kn, .int .i64 n, .str s, .ro 5 kv]]⟩)], p.2.2, 74⟩) (fun p => p.1 ≤ ks.length ∧ nx0 ≤ p.2.2) (fun p => ks.length - p.1) (0, nx0 + 2 + 3 + 11 + 3 + 3 + 5, nx0 + 2 + 3 + 11 + 3 + 3 + 7 + 1) ⟨Nat.zero_le _, by simp only; omega⟩ (by simp [hcf0]; exact AS.le_refl _) ?_
  rintro ⟨k, v', nx⟩ ⟨hk, hnx⟩
  simp only at hk hnx
  refine aw_seq ?_
  refine awk_step (d + 1) [0, 3, 6, 63] [d, d + 1 + 3] (by simp <;> rfl) ?_   -- ref.go:75
  refine aw_cond rfl (fun h3 => aw_skip ?_) (fun h3 => ?_)   -- if t63
  · have hlt : k < ks.length := by simp at h3; omega
    have hlt' : k < kv.length := by omega
    have ga := hga k hlt
    have hw := wrap_succ (k := k) (by omega)
    have hlt2 : k < (ks.map byN).length := by simpa using hlt
    have hfl := flatten_take (ks.map byN) k hlt2
    have hfle := flatten_take_le (ks.map byN) (k + 1)
    rw [hfl] at hfle
    rw [← hcf, ← hcf] at hfl
    rw [← hcf] at hfle
    simp only [List.getElem_map, List.length_append] at hfle hfl
    have hck := ih' ks[k] (List.getElem_mem hlt) (q1 ++ v2 ++ cf k) (by simp only [List.length_append]; omega)
    have hfk : (bys (q1 ++ v2 ++ cf k) ++ bys (byN ks[k])).all flatE = true := by rw [List.all_append, bys_flat, bys_flat]; rfl
    generalize hkb : byN ks[k] = kb at hck hfk hfl
    rcases hkk : ks[k] with ⟨kt, kk, kn', kss, kks⟩
    rw [hkk] at ga hck
    rw [Nd.v] at ga hck
    generalize kks.map Nd.v = kkv at ga hck
    generalize hcur : cf k = cur at hck hfk hfl
    refine aw_seq ?_
    refine aw_block ?_
    refine aw_region ?_   -- ref.go:76
    refine awlk_go (d + 1) 6 (by simp [ga, hlt'] <;> rfl) ?_
    refine awl_callA (d := d) (v := v') hck hfk Tryz.func68 rfl (by kernel_rfl) (by decide) rfl rfl rfl (by simp <;> rfl) (by simp <;> rfl) (by simp <;> rfl) ?_
    refine awlk_end (d + 1) [0, 3, 6] [d, d + 1 + 3] (by simp <;> rfl) ?_
    refine awk_one (d + 1) [0, 3, 6] [d, d + 1 + 3] (by simp [hw] <;> rfl) ?_   -- ref.go:75
    refine ⟨(k + 1, nx + 5 + 6, nx + 5 + 8 + 3), ⟨hlt, by simp only; omega⟩, by simp only; omega, ?_⟩
    simp only [hfl, List.map_append, List.append_assoc, List.length_append, List.length_map]
    exact AS.le_refl _
  · have hkl2 : k = ks.length := by simp at h3; omega
    have hall : cf k = (ks.map byN).flatten := by rw [hcf, List.take_of_length_le (by simp; omega)]
    rw [← hall]
    refine aw_exit ?_
    refine awk_step (d + 1) [4] [d] (by simp <;> rfl) ?_   -- ref.go:78
    refine aw_ret ?_
    rw [← List.append_assoc]
    exact endsA (v' := v') (by simp only; omega) (by simp [Tryz.results68]) (by simp)

set_option maxHeartbeats 1000000 in
theorem refEncode10_ac (x : Nd) (hfit : Fit 8 x) (hl : (byN x).length ≤ 1048576) : AC Tryz.prog 42 [x.v] (fun r => r = .tup [.ro 1 (bys (byN x)), .int .i64 0]) := by
  have hc := refFits_ac 8 x 1 hfit (by omega) (by omega)
  have hc2 := ACA.nil (refWrite_aca 8 x [] hfit (by simpa using hl)) (bys_flat _)
  have hp := bys_pure (byN x)
  have hlb := bysL (byN x)
  have hpx := Nd.v_pure x
  obtain ⟨t, k, n, s, ks⟩ := x
  generalize byN (.mk t k n s ks) = bs at hc2 hl hp hlb
  rw [Nd.v] at hc hc2 hpx ⊢
  generalize ks.map Nd.v = kv at hc hc2 hpx
  generalize bys bs = bv at hc2 hp hlb
  refine ac_intro Tryz.func42 rfl (by show (1 : Nat) ≤ 14; omega) (fun w0 N0 => ?_)
  refine aw_step [1] [1] (by simp [Tryz.ntmps42] <;> rfl) ?_   -- ref.go:82
  refine aw_seq ?_
  refine aw_seq (aw_region ?_)   -- ref.go:83
  refine awl_go 1 (by simp <;> rfl) ?_
  refine awl_call1 hc Tryz.func67 rfl (by kernel_rfl) rfl rfl rfl rfl (by simp) (by simp <;> rfl) ?_
  refine awl_end [1, 7] [1] (by simp <;> rfl) ?_
  refine aw_cond rfl (fun h1 => by simp at h1) (fun h1 => aw_skip ?_)   -- if t7
  refine aw_seq (aw_region ?_)   -- ref.go:86
  refine awl_go 1 (by simp <;> rfl) ?_
  refine awl_callO1 14 hc2 Tryz.func68 rfl (by kernel_rfl) rfl rfl rfl rfl (by simp) (by simp <;> rfl) ?_
  refine awl_end [4] [14] (by simp <;> rfl) ?_
  refine aw_seq ?_
  refine aw_step [4, 12] [14] (by simp <;> rfl) ?_   -- ref.go:87
  refine aw_cond rfl (fun h2 => by simp at h2; omega) (fun h2 => aw_skip ?_)   -- if t12
  refine aw_step [2, 3] [14] (by simp <;> rfl) ?_   -- ref.go:90
  exact aw_ret (ends_ret (by simp [Tryz.results42, hp] <;> rfl) rfl)
end Go.Proofs.YtmkbhognijicjaaGreatDoor
