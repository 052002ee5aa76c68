import Derived.Test.YtliogkkhofhfcaaGreatDoorGP
import Derived.Test.YtliogkkhofhfcaaGreatDoorE10
/- Query: natural numbers of the reference: Norm, Of. No condition. -/
set_option linter.unusedSimpArgs false
set_option maxRecDepth 4000
namespace Go.Proofs.YtliogkkhofhfcaaGreatDoor
open Go.Eng

theorem trimL_zeros (b : List Nat) (z : Nat) : trimL (b ++ List.replicate z 0) = trimL b := by
  induction z with
  | zero => simp
  | succ z ih => rw [List.replicate_succ', ← List.append_assoc, trimL_zero, ih]
theorem norm_ac (l : List Nat) (hl : l.length ≤ 1000000) : AC Tryz.prog 88 [.ro 1 (u32s l)] (fun r => r = .ro 1 (u32s (trimL l))) := by
  have hla : (u32s l).length = l.length := by simp
  have hna : ∀ (b : List Nat) (x z : Nat), l = b ++ [x] ++ List.replicate z 0 → nth (u32s l) b.length = some (.int .u32 (x : Int)) := fun b x z h => by
    rw [nth_eq, h]
    simp
  have htk : ∀ (b : List Nat) (z : Nat), l = b ++ List.replicate z 0 → (u32s l).take b.length = u32s b := fun b z h => by
    rw [h]; simp
  have hpl := u32s_pure l
  refine ac_intro Tryz.func88 rfl (by show (1 : Nat) ≤ 25; omega) (fun w0 N0 => ?_)
  refine aw_step [0] [] (by simp [Tryz.ntmps88] <;> rfl) ?_   -- ref.go:7
  refine aw_step [0, 3] [] (by simp <;> rfl) ?_   -- ref.go:8
  refine aw_seq ?_
  refine aw_block ?_
  generalize u32s l = av at hla hna htk hpl ⊢
  refine aw_loop (fun p : List Nat × Nat => ⟨[(0, .ro 1 av), (3, .int .i64 p.1.length)], [], p.2, 25⟩) (fun p => p.1.length ≤ l.length ∧ ∃ z, l = p.1 ++ List.replicate z 0) (fun p => p.1.length) (l, _) ⟨Nat.le_refl _, 0, by simp⟩ (by simp only [hla]; exact AS.le_refl _) ?_
  rintro ⟨b, nx⟩ ⟨hlen, z, hz⟩
  simp only at hlen hz
  have hlast : b = [] ∨ ∃ a x, b = a ++ [x] := by
    rcases List.eq_nil_or_concat b with h | ⟨a, x, h⟩
    · exact .inl h
    · exact .inr ⟨a, x, by simpa using h⟩
  rcases hlast with rfl | ⟨a, x, rfl⟩
  · refine aw_seq ?_
    refine aw_step [0, 3, 16] [] (by simp <;> rfl) ?_   -- ref.go:9
    refine aw_cond rfl (fun h1 => by simp at h1) (fun h1 => ?_)   -- if t16
    have htr : trimL l = [] := by rw [hz, trimL_zeros]; rfl
    rw [htr]
    refine aw_exit ?_
    have hbl : (([] : List Nat).length : Int) ≤ 1000000 := by omega
    have hbm : 4 * (([] : List Nat).length : Int) ≤ 281474976710656 := by omega
    have hbn : (([] : List Nat).length : Int) ≤ 9223372036854775807 := by omega
    have hpb := u32s_pure ([] : List Nat)
    refine aw_step [0, 4] [20] (by simp [hbm, hbn] <;> rfl) ?_   -- ref.go:12
    refine aw_seq (aw_region ?_)   -- ref.go:13
    have hle : ([] : List Nat).length ≤ av.length := by omega
    refine awl_go 2 (by simp <;> rfl) ?_
    refine awl_copy (te := 130) rfl rfl (by kernel_rfl) (by kernel_rfl) (by simp [Eng.get, AS.elems, hle] <;> rfl) ?_
    refine awl_end [4] [20] (by simp <;> rfl) ?_
    refine aw_step [2] [20] (by simp <;> rfl) ?_   -- ref.go:14
    refine aw_freeze 20 [2] [] (by simp [hpb, Eng.get] <;> rfl) ?_
    exact aw_ret (ends_ret (by simp [Tryz.results88] <;> rfl) rfl)
  have hal : a.length + 1 ≤ l.length := by simpa using hlen
  have hn := hna a x z hz
  have hw : IntKind.i64.wrap (a.length : Int) = a.length := wrap_in (by omega) (by omega)
  have hlt : (a.length : Int) < av.length := by omega
  have hpos : (0 : Int) < (a.length : Int) + 1 := by omega
  refine aw_seq ?_
  refine aw_step [0, 3, 16] [] (by simp [hw, hn, hlt, hpos] <;> rfl) ?_   -- ref.go:9
  refine aw_cond rfl (fun h1 => aw_skip ?_) (fun h1 => ?_)   -- if t16
  · have hx : x = 0 := by simp at h1; omega
    subst hx
    refine aw_block ?_
    refine aw_one [0, 3] [] (by simp [hw] <;> rfl) ?_   -- ref.go:10
    exact ⟨(a, _), ⟨by simp only; omega, z + 1, by rw [hz, List.replicate_succ]; simp⟩, by simp, AS.le_refl _⟩
  · have hx : x ≠ 0 := by simp at h1; omega
    have htr : trimL l = a ++ [x] := by rw [hz, trimL_zeros, trimL_last x hx]
    rw [htr]
    obtain ⟨b, hb⟩ : ∃ b, a ++ [x] = b := ⟨_, rfl⟩
    rw [hb] at hz hlen ⊢
    have hb2 : (b.length : Int) = (a.length : Int) + 1 := by rw [← hb]; simp
    rw [← hb2]
    refine aw_exit ?_
    have hbl : (b.length : Int) ≤ 1000000 := by omega
    have hbm : 4 * (b.length : Int) ≤ 281474976710656 := by omega
    have hbn : (b.length : Int) ≤ 9223372036854775807 := by omega
    have hpb := u32s_pure b
    have hlb : (u32s b).length = b.length := by simp
    refine aw_step [0, 4] [20] (by simp [hbm, hbn] <;> rfl) ?_   -- ref.go:12
    refine aw_seq (aw_region ?_)   -- ref.go:13
    have hle : b.length ≤ av.length := by omega
    refine awl_go 2 (by simp <;> rfl) ?_
    refine awl_copy (te := 130) rfl rfl (by kernel_rfl) (by kernel_rfl) (by simp [Eng.get, AS.elems, hle] <;> rfl) ?_
    rw [htk b z hz]
    generalize u32s b = bv at hpb hlb ⊢
    refine awl_end [4] [20] (by simp <;> rfl) ?_
    refine aw_step [2] [20] (by simp <;> rfl) ?_   -- ref.go:14
    refine aw_freeze 20 [2] [] (by simp [hpb, hlb, Eng.get] <;> rfl) ?_
    exact aw_ret (ends_ret (by simp [Tryz.results88] <;> rfl) rfl)
end Go.Proofs.YtliogkkhofhfcaaGreatDoor

/- Query: numbers of the reference: Of, short. No condition. -/
set_option linter.unusedSimpArgs false
set_option maxRecDepth 4000
namespace Go.Proofs.YtliogkkhofhfcaaGreatDoor
open Go.Eng

theorem natL_one {n : Nat} (h : n < 4294967296) : natL n = if n = 0 then [] else [n] := by
  by_cases h0 : n = 0
  · subst h0; rw [natL_zero]; rfl
  · rw [natL_pos h0, if_neg h0, show n % 4294967296 = n by omega, show n / 4294967296 = 0 by omega, natL_zero]
set_option maxHeartbeats 1000000 in
theorem rOf_ac (n : Nat) (hn : n < 4294967296) : AC Tryz.prog 59 [.int .u64 n] (fun r => r = .ro 1 (u32s (natL n))) := by
  have ht := norm_ac [n, 0] (by simp)
  have hv : trimL [n, 0] = natL n := by rw [natL_one hn]; simp [trimL]
  rw [hv] at ht
  have hp := u32s_pure (natL n)
  simp only [u32s, List.map_cons, List.map_nil, u32V] at ht
  show AC _ _ _ (fun r => r = V.ro 1 (List.map u32V (natL n)))
  generalize List.map u32V (natL n) = r at ht hp ⊢
  have hw : IntKind.u32.wrap (n : Int) = (n : Int) := by rw [IntKind.wrap_u32]; omega
  have hw2 : IntKind.u32.wrap ((n : Int).fdiv (2 ^ min 32 IntKind.u64.bits)) = ((0 : Nat) : Int) := by rw [shr32, IntKind.wrap_u32]; omega
  refine ac_intro Tryz.func59 rfl (by show (1 : Nat) ≤ 10; omega) (fun w0 N0 => ?_)
  refine aw_step [0] [] (by simp [Tryz.ntmps59] <;> rfl) ?_   -- ref.go:18
  refine aw_seq (aw_region ?_)   -- ref.go:19
  refine awl_go 6 (by simp [hw, hw2] <;> rfl) ?_
  refine awl_freeze 8 [8] [] (by simp <;> rfl) ?_
  refine awl_call1 ht Tryz.func88 rfl (by kernel_rfl) rfl rfl rfl (by simp <;> rfl) (by simp) (by simp <;> rfl) ?_
  refine awl_end [2] [] (by simp <;> rfl) ?_
  exact aw_ret (ends_ret (by simp [Tryz.results59] <;> rfl) rfl)
set_option maxHeartbeats 2000000 in
theorem short_ac (n : Nat) (h0 : 0 < n) (hn : n < 4294967296) : AC Tryz.prog 89 [.ro 1 [.int .u32 n], .int .u64 10] (fun r => r = .tup [.ro 1 (u32s (natL (n / 10))), .int .u64 ((n % 10 : Nat) : Int)]) := by
  obtain ⟨q, hq⟩ : ∃ q, q = n / 10 := ⟨_, rfl⟩
  obtain ⟨m, hm⟩ : ∃ m, m = n % 10 := ⟨_, rfl⟩
  rw [← hq, ← hm]
  have ht := norm_ac [q] (by simp)
  have hv : trimL [q] = natL (q) := by rw [natL_one (by omega)]; simp [trimL]
  rw [hv] at ht
  have hp := u32s_pure (natL (q))
  simp only [u32s, List.map_cons, List.map_nil, u32V] at ht
  show AC _ _ _ (fun r => r = V.tup [V.ro 1 (List.map u32V (natL (q))), _])
  generalize List.map u32V (natL (q)) = r at ht hp ⊢
  have e1 : IntKind.u64.wrap ((n : Int)) = n := by rw [IntKind.wrap_u64]; omega
  have e2 : IntKind.u32.wrap (((n : Int)).tdiv 10) = (q : Int) := by
    rw [Int.tdiv_eq_ediv_of_nonneg (by omega), IntKind.wrap_u32]; omega
  have e4 : IntKind.u64.wrap ((n : Int) / 10) = (q : Int) := by rw [IntKind.wrap_u64]; omega
  have e5 : IntKind.u32.wrap (q : Int) = (q : Int) := by rw [IntKind.wrap_u32]; omega
  have e3 : ((n : Int)).tmod 10 = (m : Int) := by
    rw [Int.tmod_eq_emod_of_nonneg (by omega)]; omega
  have z0 : IntKind.u64.wrap 0 = 0 := rfl
  have z1 : IntKind.i64.wrap 0 = 0 := rfl
  have z2 : IntKind.i64.wrap (-1) = -1 := rfl
  refine ac_intro Tryz.func89 rfl (by show (2 : Nat) ≤ 41; omega) (fun w0 N0 => ?_)
  refine aw_step [0, 1] [] (by simp [Tryz.ntmps89] <;> rfl) ?_   -- ref.go:114
  refine aw_step [0, 1, 6] [12] (by simp <;> rfl) ?_   -- ref.go:115
  refine aw_step [0, 1, 6, 7] [12] (by simp <;> rfl) ?_   -- ref.go:116
  refine aw_seq ?_
  refine aw_step [0, 1, 6, 7, 8] [12] (by simp [z1] <;> rfl) ?_   -- ref.go:117
  refine aw_block ?_
  refine aw_loop (fun p : Bool × Nat => ⟨[(0, .ro 1 [.int .u32 n]), (1, .int .u64 10), (6, .sl 12 4 1 1), (7, .int .u64 (if p.1 = true then (m : Int) else 0)), (8, .int .i64 (if p.1 = true then -1 else 0))], [(12, ⟨4, 1, 130, [.int .u32 (if p.1 = true then (q : Int) else 0)]⟩)], p.2, 41⟩) (fun _ => True) (fun p => if p.1 = true then 0 else 1) (false, _) trivial (by simp; exact AS.le_refl _) ?_
  rintro ⟨b, nx⟩ -
  cases b with
  | false =>
    simp only [Bool.false_eq_true, if_false]
    refine aw_seq ?_
    refine aw_step [0, 1, 6, 7, 8, 17] [12] (by simp <;> rfl) ?_   -- ref.go:117
    refine aw_cond rfl (fun h1 => aw_skip ?_) (fun h1 => by simp at h1)   -- if t17
    refine aw_seq ?_
    refine aw_block ?_
    refine aw_step [0, 1, 6, 8, 9] [12] (by simp [nth, z0, e1] <;> rfl) ?_   -- ref.go:118
    refine aw_step [0, 1, 6, 8, 9] [12] (by simp [e2, e4, e5] <;> rfl) ?_   -- ref.go:119
    refine aw_one [0, 1, 6, 7, 8] [12] (by simp [e3] <;> rfl) ?_   -- ref.go:120
    refine aw_one [0, 1, 6, 7, 8] [12] (by simp [z2] <;> rfl) ?_   -- ref.go:117
    exact ⟨(true, _), trivial, by simp, by simp; exact AS.le_refl _⟩
  | true =>
    simp only [if_true]
    refine aw_seq ?_
    refine aw_step [0, 1, 6, 7, 8, 17] [12] (by simp <;> rfl) ?_   -- ref.go:117
    refine aw_cond rfl (fun h1 => by simp at h1) (fun h1 => ?_)   -- if t17
    refine aw_exit ?_
    refine aw_seq (aw_region ?_)   -- ref.go:122
    refine awl_go 1 (by simp <;> rfl) ?_
    refine awl_freeze 12 [7, 38] [] (by simp [Eng.get] <;> rfl) ?_
    refine awl_call1 ht Tryz.func88 rfl (by kernel_rfl) rfl rfl rfl (by simp <;> rfl) (by simp) (by simp <;> rfl) ?_
    refine awl_end [4, 5] [] (by simp <;> rfl) ?_
    exact aw_ret (ends_ret (by simp [Tryz.results89] <;> rfl) rfl)
end Go.Proofs.YtliogkkhofhfcaaGreatDoor

/- Query: numbers of the reference, printed. No condition. -/
set_option linter.unusedSimpArgs false
set_option maxRecDepth 4000
namespace Go.Proofs.YtliogkkhofhfcaaGreatDoor
open Go.Eng

abbrev byL (l : List UInt8) : List V := l.map byV
theorem bytesV_byL : ∀ l : List UInt8, bytesV (byL l) = some l
  | [] => rfl
  | b :: l => by
    have ih := bytesV_byL l
    have hb := b.toNat_lt
    show bytesV (.int .u8 (b.toNat : Int) :: byL l) = _
    rw [bytesV, ih]
    simp only
    rw [if_pos (by omega)]
    simp
theorem byL_pure (l : List UInt8) : (byL l).all V.pureE = true := by
  rw [List.all_eq_true]; intro v hv; obtain ⟨s, _, rfl⟩ := List.mem_map.1 hv; rfl
/-- The digits that are still to be written. -/
def dig0 (n : Nat) : List UInt8 := if n = 0 then [] else Lib.decDigits n
theorem dig_step {n : Nat} (h : 0 < n) : Lib.decDigits n = dig0 (n / 10) ++ [UInt8.ofNat (48 + n % 10)] := by
  rw [Lib.decDigits]
  split
  · rename_i h1
    rw [dig0, if_pos (by omega), show n % 10 = n by omega]; rfl
  · rename_i h1
    rw [dig0, if_neg (by omega)]
set_option maxHeartbeats 4000000 in
theorem rPrint_ac (n : Nat) (hn : n ≤ 999999999) : AC Tryz.prog 58 [.ro 1 (u32s (natL n))] (fun r => r = .str (Lib.decDigits n)) := by
  have hl1 : ∀ m, m ≤ 999999999 → (natL m).length ≤ 1000000 := fun m hm => by rw [natL_one (by omega)]; split <;> simp
  have ht := norm_ac (natL n) (hl1 n hn)
  have hvn : trimL (natL n) = natL n := by rw [trimL_val _ (limbs_natL n), valN_natL]
  rw [hvn] at ht
  have hp := fun m => u32s_pure (natL m)
  refine ac_intro Tryz.func58 rfl (by show (1 : Nat) ≤ 54; omega) (fun w0 N0 => ?_)
  refine aw_step [0] [] (by simp [Tryz.ntmps58] <;> rfl) ?_   -- ref.go:223
  refine aw_seq (aw_region ?_)   -- ref.go:224
  refine awl_go 1 (by simp <;> rfl) ?_
  refine awl_call1 ht Tryz.func88 rfl (by kernel_rfl) rfl rfl rfl (by simp <;> rfl) (by simp [hp n]) (by simp <;> rfl) ?_
  refine awl_end [0] [] (by simp <;> rfl) ?_
  refine aw_seq ?_
  by_cases h0 : n = 0
  · subst h0
    simp only [natL_zero, List.map_nil]
    refine aw_step [0, 12] [] (by simp <;> rfl) ?_   -- ref.go:225
    refine aw_cond rfl (fun h1 => ?_) (fun h1 => by simp at h1)   -- if t12
    refine aw_step [2] [] (by simp <;> rfl) ?_   -- ref.go:226
    exact aw_ret (ends_ret (by simp [Tryz.results58] <;> rfl) (by rw [Lib.decDigits]; rfl))
  have hN : natL n = [n] := by rw [natL_one (by omega), if_neg h0]
  rw [hN]
  simp only [u32s, List.map_cons, List.map_nil, u32V]
  refine aw_step [0, 12] [] (by simp <;> rfl) ?_   -- ref.go:225
  refine aw_cond rfl (fun h1 => by simp at h1) (fun h1 => aw_skip ?_)   -- if t12
  refine aw_step [0, 3] [16] (by simp <;> rfl) ?_   -- ref.go:228
  refine aw_seq ?_
  refine aw_block ?_
  have hw9 : (Lib.decDigits n).length ≤ 9 := by
    have := itoa_len (n := n) (by omega) (by omega)
    rwa [Lib.itoa_nonneg] at this
  refine aw_loop (fun p : Nat × List UInt8 × Nat × Nat => ⟨[(0, .ro 1 (u32s (natL p.1))), (3, .sl 16 p.2.2.1 1 p.2.1.length)], [(16, ⟨p.2.2.1, 1, 5, byL p.2.1⟩)], p.2.2.2, 54⟩) (fun p => p.1 ≤ n ∧ dig0 p.1 ++ p.2.1.reverse = Lib.decDigits n) (fun p => p.1) (n, [], _, _) ⟨Nat.le_refl _, by simp [dig0, h0]⟩ (by simp only [hN, u32s, List.map_cons, List.map_nil, u32V, List.length_nil]; exact AS.le_refl _) ?_
  rintro ⟨m, ds, ver, nx⟩ ⟨hm, hI⟩
  simp only at hm hI
  have hdl : ds.length ≤ 9 := by
    have := congrArg List.length hI
    rw [List.length_append, List.length_reverse] at this
    omega
  have hbl : (byL ds).length = ds.length := by simp
  by_cases hm0 : m = 0
  · subst hm0
    have hds : ds.reverse = Lib.decDigits n := by rw [← hI, dig0, if_pos rfl]; rfl
    have hL0 : ds.length = (Lib.decDigits n).length := by rw [← hds, List.length_reverse]
    rw [← hds]
    simp only [natL_zero, List.map_nil]
    refine aw_seq ?_
    refine aw_step [0, 3, 19] [16] (by simp <;> rfl) ?_   -- ref.go:229
    refine aw_cond rfl (fun h2 => by simp at h2) (fun h2 => ?_)   -- if t19
    refine aw_exit ?_
    have q1 : (ds.length : Int) ≤ 281474976710656 := by omega
    have q2 : (ds.length : Int) ≤ 9223372036854775807 := by omega
    have hgd : ∀ k (h : k < ds.length), nth (byL ds) k = some (.int .u8 ds[k].toNat) := fun k h => by
      rw [nth_eq, List.getElem?_map, List.getElem?_eq_getElem h]; rfl
    refine aw_step [3, 6] [16, 34] (by simp [hbl, q1, q2] <;> rfl) ?_   -- ref.go:234
    refine aw_seq ?_
    refine aw_step [3, 6, 7] [16, 34] (by simp <;> rfl) ?_   -- ref.go:235
    refine aw_block ?_
    obtain ⟨ov, hov⟩ : ∃ ov : Nat → List V, ov = fun k => List.replicate (ds.length - k) (V.int .u8 0) ++ byL (ds.take k).reverse := ⟨_, rfl⟩
    have hol : ∀ k, k ≤ ds.length → (ov k).length = ds.length := fun k hk => by rw [hov]; simp; omega
    have hos : ∀ k (h : k < ds.length), (ov k).set (ds.length - 1 - k) (.int .u8 ds[k].toNat) = ov (k + 1) := fun k h => by
      obtain ⟨j, hj⟩ : ∃ j, ds.length - k = j + 1 := ⟨ds.length - k - 1, by omega⟩
      rw [hov]
      simp only []
      rw [hj, show ds.length - 1 - k = j by omega, show ds.length - (k + 1) = j by omega, List.replicate_succ', List.append_assoc, List.set_append_right _ _ (by simp), List.length_replicate, Nat.sub_self,
        List.take_succ_eq_append_getElem h, List.reverse_append]
      rfl
    have hoz : ∀ k, k < ds.length → (ov k)[ds.length - 1 - k]? = some (.int .u8 0) := fun k h => by
      obtain ⟨j, hj⟩ : ∃ j, ds.length - k = j + 1 := ⟨ds.length - k - 1, by omega⟩
      rw [hov]
      simp only []
      rw [hj, show ds.length - 1 - k = j by omega, List.getElem?_append_left (by simp)]
      simp
    have ho0 : ov 0 = List.replicate ds.length (V.int .u8 0) := by rw [hov]; simp
    have hoL : ov ds.length = byL ds.reverse := by rw [hov]; simp
    rw [← ho0]
    clear hov ho0
    generalize hbv : byL ds = bv at hbl hgd ⊢
    refine aw_loop (fun p : Nat × Nat × Nat => ⟨[(3, .sl 16 ver 1 ds.length), (6, .sl 34 p.2.1 1 ds.length), (7, .int .i64 p.1)], [(16, ⟨ver, 1, 5, bv⟩), (34, ⟨p.2.1, 1, 5, ov p.1⟩)], p.2.2, 54⟩) (fun p => p.1 ≤ ds.length) (fun p => ds.length - p.1) (0, _, _) (Nat.zero_le _) (AS.le_refl _) ?_
    rintro ⟨k, v2, nx2⟩ hk
    simp only at hk
    have hok := hol k hk
    refine aw_seq ?_
    refine aw_step [3, 6, 7, 38] [16, 34] (by simp [hbl] <;> rfl) ?_   -- ref.go:235
    refine aw_cond rfl (fun h3 => aw_skip ?_) (fun h3 => ?_)   -- if t38
    · have hlt : k < ds.length := by simp at h3; omega
      have ga := hgd k hlt
      have hset := hos k hlt
      obtain ⟨w1, hw1, hw1'⟩ : ∃ x : Int, IntKind.i64.wrap ((ds.length : Int) - 1) = x ∧ x = ds.length - 1 := ⟨_, rfl, wrap_in (by omega) (by omega)⟩
      obtain ⟨w2, hw2, hw2'⟩ : ∃ x : Int, IntKind.i64.wrap (w1 - (k : Int)) = x ∧ x = ((ds.length - 1 - k : Nat) : Int) := ⟨_, rfl, by rw [wrap_in (by omega) (by omega)]; omega⟩
      have hw3 : 0 ≤ w2 ∧ w2 < ds.length := by omega
      have hw4 : w2.toNat = ds.length - 1 - k := by omega
      have hw := wrap_succ (k := k) (by omega)
      have hko := hoz k hlt
      refine aw_seq ?_
      refine aw_block ?_
      refine aw_one [3, 6, 7] [16, 34] (by simp [hbl, hw1, hw2, hw3, hw4, ga, hlt, hset, nth_eq, hko] <;> rfl) ?_   -- ref.go:236
      refine aw_one [3, 6, 7] [16, 34] (by simp [hw] <;> rfl) ?_   -- ref.go:235
      exact ⟨(k + 1, _, _), hlt, by simp only; omega, AS.le_refl _⟩
    · have hke : k = ds.length := by simp at h3; omega
      subst hke
      rw [hoL]
      refine aw_exit ?_
      have hb1 := bytesV_byL ds.reverse
      have hp1 := byL_pure ds.reverse
      have hl1 : (byL ds.reverse).length = ds.length := by simp
      generalize byL ds.reverse = rv at hb1 hp1 hl1 ⊢
      refine aw_freeze 34 [6] [] (by simp [hp1, hl1, Eng.get] <;> rfl) ?_
      refine aw_step [2] [] (by simp [hb1] <;> rfl) ?_   -- ref.go:238
      exact aw_ret (ends_ret (by simp [Tryz.results58] <;> rfl) rfl)
  · have hmp : 0 < m := by omega
    have hNm : natL m = [m] := by rw [natL_one (by omega), if_neg hm0]
    have hs := short_ac m hmp (by omega)
    have hpq := hp (m / 10)
    have hstep := dig_step hmp
    rw [hNm]
    simp only [u32s, List.map_cons, List.map_nil, u32V] at hs hpq ⊢
    have hb : (48 + m % 10 : Nat) < 256 := by omega
    have e1 : IntKind.u64.wrap (48 + ((m % 10 : Nat) : Int)) = ((48 + m % 10 : Nat) : Int) := by rw [IntKind.wrap_u64]; omega
    have e2 : IntKind.u8.wrap (((48 + m % 10 : Nat) : Int)) = ((48 + m % 10 : Nat) : Int) := by rw [IntKind.wrap_u8]; omega
    have e3 : V.int .u8 ((48 + m % 10 : Nat) : Int) = byV (UInt8.ofNat (48 + m % 10)) := by
      rw [byV, UInt8.toNat_ofNat', Nat.mod_eq_of_lt hb]
    have e5 : V.int .u8 (IntKind.u8.wrap (48 + ((m % 10 : Nat) : Int))) = byV (UInt8.ofNat (48 + m % 10)) := by
      rw [← e3]
      exact congrArg (V.int .u8) (by rw [IntKind.wrap_u8]; omega)
    have e4 : byL ds ++ [byV (UInt8.ofNat (48 + m % 10))] = byL (ds ++ [UInt8.ofNat (48 + m % 10)]) := by simp
    have hI2 : dig0 (m / 10) ++ (ds ++ [UInt8.ofNat (48 + m % 10)]).reverse = Lib.decDigits n := by
      rw [← hI]
      have hd : dig0 m = Lib.decDigits m := by rw [dig0, if_neg hm0]
      rw [hd, hstep]
      simp
    have hbl1 : ds.length + 1 ≤ maxLen := Nat.le_trans (show ds.length + 1 ≤ 10 by omega) (by decide)
    have hbl2 : ds.length + 1 ≤ 140737488355328 := by omega
    have hlen1 : ds.length + 1 = (ds ++ [UInt8.ofNat (48 + m % 10)]).length := by simp
    rw [hlen1] at hbl1 hbl2
    generalize hmm : m % 10 = r at *
    refine aw_seq ?_
    refine aw_step [0, 3, 19] [16] (by simp <;> rfl) ?_   -- ref.go:229
    refine aw_cond rfl (fun h2 => aw_skip ?_) (fun h2 => by simp at h2)   -- if t19
    refine aw_block ?_
    refine aw_seq (aw_region ?_)   -- ref.go:230
    refine awl_go 1 (by simp <;> rfl) ?_
    refine awl_call1 hs Tryz.func89 rfl (by kernel_rfl) rfl rfl rfl (by simp <;> rfl) (by simp [V.pureV, V.pureE]) (by simp <;> rfl) ?_
    refine awl_end [3, 4, 5] [16] (by simp <;> rfl) ?_
    generalize hnd : ds ++ [UInt8.ofNat (48 + r)] = nd at *
    generalize hbd : byL ds = bd at *
    refine aw_step [3, 4] [16] (by simp [hbl, e1, hlen1, hbl1, hbl2] <;> rfl) ?_   -- ref.go:231
    refine aw_one [0, 3] [16] (by simp <;> rfl) ?_   -- ref.go:232
    rw [e5, e4]
    exact ⟨(m / 10, nd, _, _), ⟨by simp only; omega, hI2⟩, by simp only; omega, AS.le_refl _⟩
theorem digits_ac (n : Int) (h0 : 0 ≤ n) (h1 : n ≤ 999999999) : AC Tryz.prog 44 [.int .i64 n] (fun r => r = .str (Lib.itoa n)) := by
  obtain ⟨u, rfl⟩ : ∃ u : Nat, n = u := ⟨n.toNat, by omega⟩
  rw [Lib.itoa_nonneg]
  have ho := rOf_ac u (by omega)
  have hp := rPrint_ac u (by omega)
  have hpu := u32s_pure (natL u)
  generalize u32s (natL u) = lv at ho hp hpu
  have hw : IntKind.u64.wrap (u : Int) = (u : Int) := by rw [IntKind.wrap_u64]; omega
  refine ac_intro Tryz.func44 rfl (by show (1 : Nat) ≤ 7; omega) (fun w0 N0 => ?_)
  refine aw_step [0] [] (by simp [Tryz.ntmps44] <;> rfl) ?_   -- ref.go:179
  refine aw_seq (aw_region ?_)   -- ref.go:180
  refine awl_go 2 (by simp [hw] <;> rfl) ?_
  refine awl_call1 ho Tryz.func59 rfl (by kernel_rfl) rfl rfl rfl (by simp <;> rfl) (by simp) (by simp <;> rfl) ?_
  refine awl_call1 hp Tryz.func58 rfl (by kernel_rfl) rfl rfl rfl (by simp <;> rfl) (by simp [hpu]) (by simp <;> rfl) ?_
  refine awl_end [2] [] (by simp <;> rfl) ?_
  exact aw_ret (ends_ret (by simp [Tryz.results44] <;> rfl) rfl)
end Go.Proofs.YtliogkkhofhfcaaGreatDoor

/- Query: the names of the reference. Printed by mkR.py. No condition. -/
set_option linter.unusedSimpArgs false
set_option maxRecDepth 4000
namespace Go.Proofs.YtliogkkhofhfcaaGreatDoor
open Go.Eng

theorem idxF_mem {x : List UInt8} : ∀ (l : List (List UInt8)) (i : Nat), x ∈ l → 0 ≤ idxF x l i
  | [], _, h => by cases h
  | y :: r, i, h => by
    rw [idxF]
    split
    · omega
    · rename_i hne
      rcases List.mem_cons.1 h with e | h
      · exact absurd e.symm hne
      · exact idxF_mem r (i + 1) h
theorem mem_hasS {l : List (List UInt8)} {x : List UInt8} (h : x ∈ l) : hasS l x = true := by
  unfold hasS idxS
  simpa using idxF_mem l 0 h
theorem hasS_not {l : List (List UInt8)} {x : List UInt8} (h : ¬ x ∈ l) : hasS l x = false := by
  cases hh : hasS l x with
  | true => exact absurd (hasS_mem hh) h
  | false => rfl
def fieldR (i : Int) : List UInt8 := if i = 0 then [105, 100] else if i = 1 then [118, 101, 114, 115, 105, 111, 110] else if i = 2 then [112, 111, 105, 110, 116, 115] else if i = 3 then [119, 111, 114, 100, 115] else if i = 4 then [115, 101, 99, 111, 110, 100, 115] else if i = 5 then [102, 97, 109, 105, 108, 121] else if i = 6 then [115, 101, 116] else []
theorem fieldR_ac (i : Int) : AC Tryz.prog 90 [.int .i64 i] (fun r => r = .str (fieldR i)) := by
  refine ac_intro Tryz.func90 rfl (by show (1 : Nat) ≤ 18; omega) (fun w0 N0 => ?_)
  refine aw_step [0] [] (by simp [Tryz.ntmps90] <;> rfl) ?_
  refine aw_seq ?_
  refine aw_step [3] [] (by simp <;> rfl) ?_
  refine aw_block ?_
  refine aw_step [3, 4] [] (by simp <;> rfl) ?_
  refine aw_cond rfl (fun h0 => ?_) (fun h0 => ?_)
  · refine aw_step [2] [] (by simp <;> rfl) ?_
    refine aw_ret (ends_ret (by simp [Tryz.results90] <;> rfl) ?_)
    have hq : i = 0 := by simpa using h0
    subst hq; rfl
  have q0 : ¬ i = 0 := by simpa using h0
  refine aw_step [3, 6] [] (by simp <;> rfl) ?_
  refine aw_cond rfl (fun h1 => ?_) (fun h1 => ?_)
  · refine aw_step [2] [] (by simp <;> rfl) ?_
    refine aw_ret (ends_ret (by simp [Tryz.results90] <;> rfl) ?_)
    have hq : i = 1 := by simpa using h1
    subst hq; rfl
  have q1 : ¬ i = 1 := by simpa using h1
  refine aw_step [3, 8] [] (by simp <;> rfl) ?_
  refine aw_cond rfl (fun h2 => ?_) (fun h2 => ?_)
  · refine aw_step [2] [] (by simp <;> rfl) ?_
    refine aw_ret (ends_ret (by simp [Tryz.results90] <;> rfl) ?_)
    have hq : i = 2 := by simpa using h2
    subst hq; rfl
  have q2 : ¬ i = 2 := by simpa using h2
  refine aw_step [3, 10] [] (by simp <;> rfl) ?_
  refine aw_cond rfl (fun h3 => ?_) (fun h3 => ?_)
  · refine aw_step [2] [] (by simp <;> rfl) ?_
    refine aw_ret (ends_ret (by simp [Tryz.results90] <;> rfl) ?_)
    have hq : i = 3 := by simpa using h3
    subst hq; rfl
  have q3 : ¬ i = 3 := by simpa using h3
  refine aw_step [3, 12] [] (by simp <;> rfl) ?_
  refine aw_cond rfl (fun h4 => ?_) (fun h4 => ?_)
  · refine aw_step [2] [] (by simp <;> rfl) ?_
    refine aw_ret (ends_ret (by simp [Tryz.results90] <;> rfl) ?_)
    have hq : i = 4 := by simpa using h4
    subst hq; rfl
  have q4 : ¬ i = 4 := by simpa using h4
  refine aw_step [3, 14] [] (by simp <;> rfl) ?_
  refine aw_cond rfl (fun h5 => ?_) (fun h5 => ?_)
  · refine aw_step [2] [] (by simp <;> rfl) ?_
    refine aw_ret (ends_ret (by simp [Tryz.results90] <;> rfl) ?_)
    have hq : i = 5 := by simpa using h5
    subst hq; rfl
  have q5 : ¬ i = 5 := by simpa using h5
  refine aw_step [16] [] (by simp <;> rfl) ?_
  refine aw_cond rfl (fun h6 => ?_) (fun h6 => aw_skip ?_)
  · refine aw_step [2] [] (by simp <;> rfl) ?_
    refine aw_ret (ends_ret (by simp [Tryz.results90] <;> rfl) ?_)
    have hq : i = 6 := by simpa using h6
    subst hq; rfl
  have q6 : ¬ i = 6 := by simpa using h6
  refine aw_step [2] [] (by simp <;> rfl) ?_
  refine aw_ret (ends_ret (by simp [Tryz.results90] <;> rfl) ?_)
  unfold fieldR
  rw [if_neg q0, if_neg q1, if_neg q2, if_neg q3, if_neg q4, if_neg q5, if_neg q6]
def compareR (i : Int) : List UInt8 := if i = 1 then [60] else if i = 2 then [60, 61] else if i = 3 then [61] else if i = 4 then [33, 61] else if i = 5 then [62, 61] else if i = 6 then [62] else []
theorem compareR_ac (i : Int) : AC Tryz.prog 43 [.int .i64 i] (fun r => r = .str (compareR i)) := by
  refine ac_intro Tryz.func43 rfl (by show (1 : Nat) ≤ 16; omega) (fun w0 N0 => ?_)
  refine aw_step [0] [] (by simp [Tryz.ntmps43] <;> rfl) ?_
  refine aw_seq ?_
  refine aw_step [3] [] (by simp <;> rfl) ?_
  refine aw_block ?_
  refine aw_step [3, 4] [] (by simp <;> rfl) ?_
  refine aw_cond rfl (fun h0 => ?_) (fun h0 => ?_)
  · refine aw_step [2] [] (by simp <;> rfl) ?_
    refine aw_ret (ends_ret (by simp [Tryz.results43] <;> rfl) ?_)
    have hq : i = 1 := by simpa using h0
    subst hq; rfl
  have q0 : ¬ i = 1 := by simpa using h0
  refine aw_step [3, 6] [] (by simp <;> rfl) ?_
  refine aw_cond rfl (fun h1 => ?_) (fun h1 => ?_)
  · refine aw_step [2] [] (by simp <;> rfl) ?_
    refine aw_ret (ends_ret (by simp [Tryz.results43] <;> rfl) ?_)
    have hq : i = 2 := by simpa using h1
    subst hq; rfl
  have q1 : ¬ i = 2 := by simpa using h1
  refine aw_step [3, 8] [] (by simp <;> rfl) ?_
  refine aw_cond rfl (fun h2 => ?_) (fun h2 => ?_)
  · refine aw_step [2] [] (by simp <;> rfl) ?_
    refine aw_ret (ends_ret (by simp [Tryz.results43] <;> rfl) ?_)
    have hq : i = 3 := by simpa using h2
    subst hq; rfl
  have q2 : ¬ i = 3 := by simpa using h2
  refine aw_step [3, 10] [] (by simp <;> rfl) ?_
  refine aw_cond rfl (fun h3 => ?_) (fun h3 => ?_)
  · refine aw_step [2] [] (by simp <;> rfl) ?_
    refine aw_ret (ends_ret (by simp [Tryz.results43] <;> rfl) ?_)
    have hq : i = 4 := by simpa using h3
    subst hq; rfl
  have q3 : ¬ i = 4 := by simpa using h3
  refine aw_step [3, 12] [] (by simp <;> rfl) ?_
  refine aw_cond rfl (fun h4 => ?_) (fun h4 => ?_)
  · refine aw_step [2] [] (by simp <;> rfl) ?_
    refine aw_ret (ends_ret (by simp [Tryz.results43] <;> rfl) ?_)
    have hq : i = 5 := by simpa using h4
    subst hq; rfl
  have q4 : ¬ i = 5 := by simpa using h4
  refine aw_step [14] [] (by simp <;> rfl) ?_
  refine aw_cond rfl (fun h5 => ?_) (fun h5 => aw_skip ?_)
  · refine aw_step [2] [] (by simp <;> rfl) ?_
    refine aw_ret (ends_ret (by simp [Tryz.results43] <;> rfl) ?_)
    have hq : i = 6 := by simpa using h5
    subst hq; rfl
  have q5 : ¬ i = 6 := by simpa using h5
  refine aw_step [2] [] (by simp <;> rfl) ?_
  refine aw_ret (ends_ret (by simp [Tryz.results43] <;> rfl) ?_)
  unfold compareR
  rw [if_neg q0, if_neg q1, if_neg q2, if_neg q3, if_neg q4, if_neg q5]
def stateR (i : Int) : List UInt8 := if i = 1 then [100, 114, 97, 102, 116] else if i = 2 then [99, 111, 110, 116, 101, 110, 116] else if i = 3 then [102, 97, 105, 114] else if i = 4 then [112, 114, 101, 116, 101, 115, 116] else if i = 5 then [97, 99, 116, 105, 118, 101] else if i = 6 then [104, 101, 108, 100] else if i = 7 then [114, 101, 116, 105, 114, 101, 100] else []
theorem stateR_ac (i : Int) : AC Tryz.prog 91 [.int .i64 i] (fun r => r = .str (stateR i)) := by
  refine ac_intro Tryz.func91 rfl (by show (1 : Nat) ≤ 18; omega) (fun w0 N0 => ?_)
  refine aw_step [0] [] (by simp [Tryz.ntmps91] <;> rfl) ?_
  refine aw_seq ?_
  refine aw_step [3] [] (by simp <;> rfl) ?_
  refine aw_block ?_
  refine aw_step [3, 4] [] (by simp <;> rfl) ?_
  refine aw_cond rfl (fun h0 => ?_) (fun h0 => ?_)
  · refine aw_step [2] [] (by simp <;> rfl) ?_
    refine aw_ret (ends_ret (by simp [Tryz.results91] <;> rfl) ?_)
    have hq : i = 1 := by simpa using h0
    subst hq; rfl
  have q0 : ¬ i = 1 := by simpa using h0
  refine aw_step [3, 6] [] (by simp <;> rfl) ?_
  refine aw_cond rfl (fun h1 => ?_) (fun h1 => ?_)
  · refine aw_step [2] [] (by simp <;> rfl) ?_
    refine aw_ret (ends_ret (by simp [Tryz.results91] <;> rfl) ?_)
    have hq : i = 2 := by simpa using h1
    subst hq; rfl
  have q1 : ¬ i = 2 := by simpa using h1
  refine aw_step [3, 8] [] (by simp <;> rfl) ?_
  refine aw_cond rfl (fun h2 => ?_) (fun h2 => ?_)
  · refine aw_step [2] [] (by simp <;> rfl) ?_
    refine aw_ret (ends_ret (by simp [Tryz.results91] <;> rfl) ?_)
    have hq : i = 3 := by simpa using h2
    subst hq; rfl
  have q2 : ¬ i = 3 := by simpa using h2
  refine aw_step [3, 10] [] (by simp <;> rfl) ?_
  refine aw_cond rfl (fun h3 => ?_) (fun h3 => ?_)
  · refine aw_step [2] [] (by simp <;> rfl) ?_
    refine aw_ret (ends_ret (by simp [Tryz.results91] <;> rfl) ?_)
    have hq : i = 4 := by simpa using h3
    subst hq; rfl
  have q3 : ¬ i = 4 := by simpa using h3
  refine aw_step [3, 12] [] (by simp <;> rfl) ?_
  refine aw_cond rfl (fun h4 => ?_) (fun h4 => ?_)
  · refine aw_step [2] [] (by simp <;> rfl) ?_
    refine aw_ret (ends_ret (by simp [Tryz.results91] <;> rfl) ?_)
    have hq : i = 5 := by simpa using h4
    subst hq; rfl
  have q4 : ¬ i = 5 := by simpa using h4
  refine aw_step [3, 14] [] (by simp <;> rfl) ?_
  refine aw_cond rfl (fun h5 => ?_) (fun h5 => ?_)
  · refine aw_step [2] [] (by simp <;> rfl) ?_
    refine aw_ret (ends_ret (by simp [Tryz.results91] <;> rfl) ?_)
    have hq : i = 6 := by simpa using h5
    subst hq; rfl
  have q5 : ¬ i = 6 := by simpa using h5
  refine aw_step [16] [] (by simp <;> rfl) ?_
  refine aw_cond rfl (fun h6 => ?_) (fun h6 => aw_skip ?_)
  · refine aw_step [2] [] (by simp <;> rfl) ?_
    refine aw_ret (ends_ret (by simp [Tryz.results91] <;> rfl) ?_)
    have hq : i = 7 := by simpa using h6
    subst hq; rfl
  have q6 : ¬ i = 7 := by simpa using h6
  refine aw_step [2] [] (by simp <;> rfl) ?_
  refine aw_ret (ends_ret (by simp [Tryz.results91] <;> rfl) ?_)
  unfold stateR
  rw [if_neg q0, if_neg q1, if_neg q2, if_neg q3, if_neg q4, if_neg q5, if_neg q6]
def kindR (i : Int) : List UInt8 := if i = 1 then [99, 104, 111, 105, 99, 101] else if i = 2 then [109, 117, 108, 116, 105] else if i = 3 then [111, 114, 100, 101, 114] else if i = 4 then [110, 117, 109, 98, 101, 114] else if i = 5 then [116, 101, 120, 116] else if i = 6 then [101, 115, 115, 97, 121] else []
theorem kindR_ac (i : Int) : AC Tryz.prog 92 [.int .i64 i] (fun r => r = .str (kindR i)) := by
  refine ac_intro Tryz.func92 rfl (by show (1 : Nat) ≤ 16; omega) (fun w0 N0 => ?_)
  refine aw_step [0] [] (by simp [Tryz.ntmps92] <;> rfl) ?_
  refine aw_seq ?_
  refine aw_step [3] [] (by simp <;> rfl) ?_
  refine aw_block ?_
  refine aw_step [3, 4] [] (by simp <;> rfl) ?_
  refine aw_cond rfl (fun h0 => ?_) (fun h0 => ?_)
  · refine aw_step [2] [] (by simp <;> rfl) ?_
    refine aw_ret (ends_ret (by simp [Tryz.results92] <;> rfl) ?_)
    have hq : i = 1 := by simpa using h0
    subst hq; rfl
  have q0 : ¬ i = 1 := by simpa using h0
  refine aw_step [3, 6] [] (by simp <;> rfl) ?_
  refine aw_cond rfl (fun h1 => ?_) (fun h1 => ?_)
  · refine aw_step [2] [] (by simp <;> rfl) ?_
    refine aw_ret (ends_ret (by simp [Tryz.results92] <;> rfl) ?_)
    have hq : i = 2 := by simpa using h1
    subst hq; rfl
  have q1 : ¬ i = 2 := by simpa using h1
  refine aw_step [3, 8] [] (by simp <;> rfl) ?_
  refine aw_cond rfl (fun h2 => ?_) (fun h2 => ?_)
  · refine aw_step [2] [] (by simp <;> rfl) ?_
    refine aw_ret (ends_ret (by simp [Tryz.results92] <;> rfl) ?_)
    have hq : i = 3 := by simpa using h2
    subst hq; rfl
  have q2 : ¬ i = 3 := by simpa using h2
  refine aw_step [3, 10] [] (by simp <;> rfl) ?_
  refine aw_cond rfl (fun h3 => ?_) (fun h3 => ?_)
  · refine aw_step [2] [] (by simp <;> rfl) ?_
    refine aw_ret (ends_ret (by simp [Tryz.results92] <;> rfl) ?_)
    have hq : i = 4 := by simpa using h3
    subst hq; rfl
  have q3 : ¬ i = 4 := by simpa using h3
  refine aw_step [3, 12] [] (by simp <;> rfl) ?_
  refine aw_cond rfl (fun h4 => ?_) (fun h4 => ?_)
  · refine aw_step [2] [] (by simp <;> rfl) ?_
    refine aw_ret (ends_ret (by simp [Tryz.results92] <;> rfl) ?_)
    have hq : i = 5 := by simpa using h4
    subst hq; rfl
  have q4 : ¬ i = 5 := by simpa using h4
  refine aw_step [14] [] (by simp <;> rfl) ?_
  refine aw_cond rfl (fun h5 => ?_) (fun h5 => aw_skip ?_)
  · refine aw_step [2] [] (by simp <;> rfl) ?_
    refine aw_ret (ends_ret (by simp [Tryz.results92] <;> rfl) ?_)
    have hq : i = 6 := by simpa using h5
    subst hq; rfl
  have q5 : ¬ i = 6 := by simpa using h5
  refine aw_step [2] [] (by simp <;> rfl) ?_
  refine aw_ret (ends_ret (by simp [Tryz.results92] <;> rfl) ?_)
  unfold kindR
  rw [if_neg q0, if_neg q1, if_neg q2, if_neg q3, if_neg q4, if_neg q5]
theorem fieldR_at : ∀ k (h : k < fieldsL.length), fieldR (k : Int) = fieldsL[k] := by decide
theorem isField_ac (s : List UInt8) : AC Tryz.prog 60 [.str s] (fun r => r = .bool (hasS fieldsL s)) := by
  refine ac_intro Tryz.func60 rfl (by show (1 : Nat) ≤ 12; omega) (fun w0 N0 => ?_)
  refine aw_step [0] [] (by simp [Tryz.ntmps60] <;> rfl) ?_
  refine aw_seq ?_
  refine aw_step [0, 3] [] (by simp <;> rfl) ?_
  refine aw_block ?_
  refine aw_count (fun k nx => ⟨[(0, .str s), (3, .int .i64 k)], [], nx, 12⟩) (fun k => ∀ j (h : j < fieldsL.length), j < k → fieldsL[j] ≠ s) 7 _ (fun j _ h => by omega) (AS.le_refl _) ?_
  intro k nx hk hI
  have hlen : fieldsL.length = 7 := rfl
  refine aw_seq ?_
  refine aw_step [0, 3, 5] [] (by simp <;> rfl) ?_
  refine aw_cond rfl (fun h1 => aw_skip ?_) (fun h1 => ?_)
  · have hlt : k < fieldsL.length := by simp at h1; omega
    have hc := fieldR_ac (k : Int)
    rw [fieldR_at k hlt] at hc
    have hmem : fieldsL[k] ∈ fieldsL := List.getElem_mem hlt
    generalize hx : fieldsL[k] = x at hc hmem
    obtain ⟨w, hw, hw'⟩ : ∃ w : Int, IntKind.i64.wrap ((k : Int) + 1) = w ∧ w = (k : Int) + 1 := ⟨_, rfl, wrap_in (by omega) (by omega)⟩
    refine aw_seq ?_
    refine aw_block ?_
    refine aw_seq (aw_region ?_)
    refine awl_go 1 (by simp <;> rfl) ?_
    refine awl_call1 hc Tryz.func90 rfl (by kernel_rfl) rfl rfl rfl (by simp <;> rfl) (by simp) (by simp <;> rfl) ?_
    refine awl_end [0, 3, 11] [] (by simp <;> rfl) ?_
    refine aw_cond rfl (fun h2 => ?_) (fun h2 => aw_skip ?_)
    · refine aw_step [2] [] (by simp <;> rfl) ?_
      refine aw_ret (ends_ret (by simp [Tryz.results60] <;> rfl) ?_)
      have hq : x = s := by simpa using h2
      rw [← hq, mem_hasS hmem]
    refine aw_one [0, 3] [] (by simp [hw] <;> rfl) ?_
    have hq : x ≠ s := by simpa using h2
    rw [hw']
    refine ⟨by omega, fun j h hj => ?_, _, by simp; exact AS.le_refl _⟩
    by_cases e : j = k
    · subst e; rw [hx]; exact hq
    · exact hI j h (by omega)
  · have hke : k = 7 := by simp at h1; omega
    subst hke
    refine aw_exit ?_
    refine aw_step [2] [] (by simp <;> rfl) ?_
    refine aw_ret (ends_ret (by simp [Tryz.results60] <;> rfl) ?_)
    rw [hasS_not (l := fieldsL) (fun h => by
      obtain ⟨j, hj, e⟩ := List.mem_iff_getElem.1 h
      exact hI j hj (by omega) e)]
theorem stateR_at : ∀ k (h : k < statesL.length), stateR ((k : Int) + 1) = statesL[k] := by decide
theorem isState_ac (s : List UInt8) : AC Tryz.prog 62 [.str s] (fun r => r = .bool (hasS statesL s)) := by
  refine ac_intro Tryz.func62 rfl (by show (1 : Nat) ≤ 12; omega) (fun w0 N0 => ?_)
  refine aw_step [0] [] (by simp [Tryz.ntmps62] <;> rfl) ?_
  refine aw_seq ?_
  refine aw_step [0, 3] [] (by simp <;> rfl) ?_
  refine aw_block ?_
  refine aw_count (fun k nx => ⟨[(0, .str s), (3, .int .i64 ((k : Int) + 1))], [], nx, 12⟩) (fun k => ∀ j (h : j < statesL.length), j < k → statesL[j] ≠ s) 7 _ (fun j _ h => by omega) (AS.le_refl _) ?_
  intro k nx hk hI
  have hlen : statesL.length = 7 := rfl
  refine aw_seq ?_
  refine aw_step [0, 3, 5] [] (by simp <;> rfl) ?_
  refine aw_cond rfl (fun h1 => aw_skip ?_) (fun h1 => ?_)
  · have hlt : k < statesL.length := by simp at h1; omega
    have hc := stateR_ac ((k : Int) + 1)
    rw [stateR_at k hlt] at hc
    have hmem : statesL[k] ∈ statesL := List.getElem_mem hlt
    generalize hx : statesL[k] = x at hc hmem
    obtain ⟨w, hw, hw'⟩ : ∃ w : Int, IntKind.i64.wrap (((k : Int) + 1) + 1) = w ∧ w = ((k : Int) + 1) + 1 := ⟨_, rfl, wrap_in (by omega) (by omega)⟩
    refine aw_seq ?_
    refine aw_block ?_
    refine aw_seq (aw_region ?_)
    refine awl_go 1 (by simp <;> rfl) ?_
    refine awl_call1 hc Tryz.func91 rfl (by kernel_rfl) rfl rfl rfl (by simp <;> rfl) (by simp) (by simp <;> rfl) ?_
    refine awl_end [0, 3, 11] [] (by simp <;> rfl) ?_
    refine aw_cond rfl (fun h2 => ?_) (fun h2 => aw_skip ?_)
    · refine aw_step [2] [] (by simp <;> rfl) ?_
      refine aw_ret (ends_ret (by simp [Tryz.results62] <;> rfl) ?_)
      have hq : x = s := by simpa using h2
      rw [← hq, mem_hasS hmem]
    refine aw_one [0, 3] [] (by simp [hw] <;> rfl) ?_
    have hq : x ≠ s := by simpa using h2
    rw [hw']
    refine ⟨by omega, fun j h hj => ?_, _, by simp; exact AS.le_refl _⟩
    by_cases e : j = k
    · subst e; rw [hx]; exact hq
    · exact hI j h (by omega)
  · have hke : k = 7 := by simp at h1; omega
    subst hke
    refine aw_exit ?_
    refine aw_step [2] [] (by simp <;> rfl) ?_
    refine aw_ret (ends_ret (by simp [Tryz.results62] <;> rfl) ?_)
    rw [hasS_not (l := statesL) (fun h => by
      obtain ⟨j, hj, e⟩ := List.mem_iff_getElem.1 h
      exact hI j hj (by omega) e)]
theorem kindR_at : ∀ k (h : k < kindsL.length), kindR ((k : Int) + 1) = kindsL[k] := by decide
theorem isKind_ac (s : List UInt8) : AC Tryz.prog 63 [.str s] (fun r => r = .bool (hasS kindsL s)) := by
  refine ac_intro Tryz.func63 rfl (by show (1 : Nat) ≤ 12; omega) (fun w0 N0 => ?_)
  refine aw_step [0] [] (by simp [Tryz.ntmps63] <;> rfl) ?_
  refine aw_seq ?_
  refine aw_step [0, 3] [] (by simp <;> rfl) ?_
  refine aw_block ?_
  refine aw_count (fun k nx => ⟨[(0, .str s), (3, .int .i64 ((k : Int) + 1))], [], nx, 12⟩) (fun k => ∀ j (h : j < kindsL.length), j < k → kindsL[j] ≠ s) 6 _ (fun j _ h => by omega) (AS.le_refl _) ?_
  intro k nx hk hI
  have hlen : kindsL.length = 6 := rfl
  refine aw_seq ?_
  refine aw_step [0, 3, 5] [] (by simp <;> rfl) ?_
  refine aw_cond rfl (fun h1 => aw_skip ?_) (fun h1 => ?_)
  · have hlt : k < kindsL.length := by simp at h1; omega
    have hc := kindR_ac ((k : Int) + 1)
    rw [kindR_at k hlt] at hc
    have hmem : kindsL[k] ∈ kindsL := List.getElem_mem hlt
    generalize hx : kindsL[k] = x at hc hmem
    obtain ⟨w, hw, hw'⟩ : ∃ w : Int, IntKind.i64.wrap (((k : Int) + 1) + 1) = w ∧ w = ((k : Int) + 1) + 1 := ⟨_, rfl, wrap_in (by omega) (by omega)⟩
    refine aw_seq ?_
    refine aw_block ?_
    refine aw_seq (aw_region ?_)
    refine awl_go 1 (by simp <;> rfl) ?_
    refine awl_call1 hc Tryz.func92 rfl (by kernel_rfl) rfl rfl rfl (by simp <;> rfl) (by simp) (by simp <;> rfl) ?_
    refine awl_end [0, 3, 11] [] (by simp <;> rfl) ?_
    refine aw_cond rfl (fun h2 => ?_) (fun h2 => aw_skip ?_)
    · refine aw_step [2] [] (by simp <;> rfl) ?_
      refine aw_ret (ends_ret (by simp [Tryz.results63] <;> rfl) ?_)
      have hq : x = s := by simpa using h2
      rw [← hq, mem_hasS hmem]
    refine aw_one [0, 3] [] (by simp [hw] <;> rfl) ?_
    have hq : x ≠ s := by simpa using h2
    rw [hw']
    refine ⟨by omega, fun j h hj => ?_, _, by simp; exact AS.le_refl _⟩
    by_cases e : j = k
    · subst e; rw [hx]; exact hq
    · exact hI j h (by omega)
  · have hke : k = 6 := by simp at h1; omega
    subst hke
    refine aw_exit ?_
    refine aw_step [2] [] (by simp <;> rfl) ?_
    refine aw_ret (ends_ret (by simp [Tryz.results63] <;> rfl) ?_)
    rw [hasS_not (l := kindsL) (fun h => by
      obtain ⟨j, hj, e⟩ := List.mem_iff_getElem.1 h
      exact hI j hj (by omega) e)]
end Go.Proofs.YtliogkkhofhfcaaGreatDoor

/- Query: the reference's small functions. No condition. -/
set_option linter.unusedSimpArgs false
set_option maxRecDepth 4000
namespace Go.Proofs.YtliogkkhofhfcaaGreatDoor
open Go.Eng

set_option maxHeartbeats 1000000 in
theorem rQuotable_ac (s : List UInt8) : AC Tryz.prog 64 [.str s] (fun r => r = .bool (quot s)) := by
  have hg := fun (k : Nat) (h : k < s.length) => nthS h
  refine ac_intro Tryz.func64 rfl (by show (1 : Nat) ≤ 34; omega) (fun w0 N0 => ?_)
  refine aw_step [0] [] (by simp [Tryz.ntmps64] <;> rfl) ?_   -- query.go:169
  refine aw_seq ?_
  refine aw_step [0, 11] [] (by simp <;> rfl) ?_   -- query.go:170
  refine aw_cond rfl (fun h1 => ?_) (fun h1 => aw_skip ?_)   -- if t11
  · refine aw_step [2] [] (by simp <;> rfl) ?_   -- query.go:171
    refine aw_ret (ends_ret (by simp [Tryz.results64] <;> rfl) ?_)
    congr 1
    symm
    have : s.length < 1 ∨ 60 < s.length := by simp at h1; omega
    simp [quot]
    omega
  have h1' : 1 ≤ s.length ∧ s.length ≤ 60 := by simp at h1; omega
  refine aw_seq ?_
  refine aw_step [0, 3] [] (by simp <;> rfl) ?_   -- query.go:173
  refine aw_block ?_
  refine aw_count (fun k nx => ⟨[(0, .str s), (3, .int .i64 k)], [], nx, 34⟩) (fun k => (s.take k).all okC = true) s.length _ (by simp) (AS.le_refl _) ?_
  intro k nx hk hI
  refine aw_seq ?_
  refine aw_step [0, 3, 15] [] (by simp <;> rfl) ?_   -- query.go:173
  refine aw_cond rfl (fun h2 => aw_skip ?_) (fun h2 => ?_)   -- if t15
  · have hlt : k < s.length := by simp at h2; omega
    have ga := hg k hlt
    have hw := wrap_succ (k := k) (by omega)
    have htk := List.take_succ_eq_append_getElem (l := s) (i := k) hlt
    have hmem : s[k] ∈ s := List.getElem_mem hlt
    generalize s[k] = c at ga htk hmem
    refine aw_seq ?_
    refine aw_block ?_
    refine aw_step [0, 3, 33] [] (by simp [ga] <;> rfl) ?_   -- query.go:174
    refine aw_cond rfl (fun h3 => ?_) (fun h3 => aw_skip ?_)   -- if t33
    · refine aw_step [2] [] (by simp <;> rfl) ?_   -- query.go:175
      refine aw_ret (ends_ret (by simp [Tryz.results64] <;> rfl) ?_)
      have hc : okC c = false := by
        simp only [okC]
        simp at h3
        by_cases q1 : 32 ≤ c.toNat <;> by_cases q2 : c.toNat ≤ 126 <;> by_cases q3 : c.toNat = 34 <;> simp [q1, q2, q3]
        omega
      have : s.all okC = false := by
        rw [List.all_eq_false]
        exact ⟨c, hmem, by rw [hc]; simp⟩
      simp [quot, this]
    have hc : okC c = true := by
      simp only [okC]
      simp at h3
      simp
      omega
    refine aw_one [0, 3] [] (by simp [hw] <;> rfl) ?_   -- query.go:173
    exact ⟨hlt, by rw [htk, List.all_append, hI]; simp [hc], _, AS.le_refl _⟩
  · refine aw_exit ?_
    refine aw_step [2] [] (by simp <;> rfl) ?_   -- query.go:178
    refine aw_ret (ends_ret (by simp [Tryz.results64] <;> rfl) ?_)
    have hke : k = s.length := by simp at h2; omega
    rw [hke, List.take_length] at hI
    simp [quot, hI, h1']

theorem enclosed_ac (p k : Int) (hp : p = 1 ∨ p = 2 ∨ p = 3) : AC Tryz.prog 45 [.int .i64 p, .int .i64 k] (fun r => r = .bool (encl p k)) := by
  refine ac_intro Tryz.func45 rfl (by show (2 : Nat) ≤ 28; omega) (fun w0 N0 => ?_)
  refine aw_step [0, 1] [] (by simp [Tryz.ntmps45] <;> rfl) ?_   -- ref.go:184
  refine aw_seq ?_
  refine aw_step [1, 5] [] (by simp <;> rfl) ?_   -- ref.go:185
  refine aw_block ?_
  refine aw_step [1, 5, 6] [] (by simp <;> rfl) ?_   -- ref.go:186
  refine aw_cond rfl (fun h1 => ?_) (fun h1 => ?_)   -- if t6
  · have h : p = 1 := by simpa using h1
    subst h
    refine aw_step [4] [] (by simp <;> rfl) ?_   -- ref.go:187
    refine aw_ret (ends_ret (by simp [Tryz.results45] <;> rfl) ?_)
    by_cases a : k = 1 <;> by_cases b : k = 2 <;> simp [encl, a, b]
  · have h : ¬ p = 1 := by simpa using h1
    refine aw_step [1, 14] [] (by simp <;> rfl) ?_   -- ref.go:188
    refine aw_cond rfl (fun h2 => ?_) (fun h2 => aw_skip ?_)   -- if t14
    · have h : p = 2 := by simpa using h2
      subst h
      refine aw_step [4] [] (by simp <;> rfl) ?_   -- ref.go:189
      refine aw_ret (ends_ret (by simp [Tryz.results45] <;> rfl) ?_)
      by_cases a : k = 1 <;> by_cases b : k = 2 <;> by_cases c : k = 3 <;> simp [encl, a, b, c]
    have h3 : ¬ p = 2 := by simpa using h2
    have h : p = 3 := by omega
    subst h
    refine aw_step [4] [] (by simp <;> rfl) ?_   -- ref.go:191
    refine aw_ret (ends_ret (by simp [Tryz.results45] <;> rfl) ?_)
    by_cases a : k = 1 <;> by_cases b : k = 2 <;> by_cases c : k = 3 <;> simp [encl, a, b, c]

/- Content codes, read byte by byte. -/
def vF : List UInt8 → Nat → Nat → Bool
  | [], size, segs => decide (0 < size) && decide (segs ≤ 5)
  | c :: r, size, segs => if c = 46 then (if size = 0 then false else vF r 0 (segs + 1)) else if okB c = false then false else if 8 < size + 1 then false else vF r (size + 1) segs
theorem vF_many : ∀ (s : List UInt8) (size segs : Nat), 5 < segs → vF s size segs = false
  | [], size, segs, h => by simp [vF]; omega
  | c :: r, size, segs, h => by
    rw [vF]
    split
    · split
      · rfl
      · exact vF_many r 0 _ (by omega)
    · split
      · rfl
      · split
        · rfl
        · exact vF_many r _ _ h
theorem index_dot : ∀ (a : List UInt8), (∀ c ∈ a, c ≠ 46) → Lib.index a [46] = -1
  | [], _ => rfl
  | b :: a, h => by
    have ih := index_dot a (fun c hc => h c (List.mem_cons_of_mem _ hc))
    have hb : ¬ (46 = b) := fun e => h b List.mem_cons_self e.symm
    rw [Lib.index, ih]
    simp [List.isPrefixOf, hb]
theorem index_dot2 : ∀ (a r : List UInt8), (∀ c ∈ a, c ≠ 46) → Lib.index (a ++ 46 :: r) [46] = a.length
  | [], r, _ => by simp [Lib.index, List.isPrefixOf]
  | b :: a, r, h => by
    have ih := index_dot2 a r (fun c hc => h c (List.mem_cons_of_mem _ hc))
    have hb : ¬ (46 = b) := fun e => h b List.mem_cons_self e.symm
    rw [List.cons_append, Lib.index, ih]
    have e : ((a.length : Int) == -1) = false := by simp only [beq_eq_false_iff_ne, ne_eq]; omega
    simp [List.isPrefixOf, hb, e]
theorem cut_dot {a : List UInt8} (h : ∀ c ∈ a, c ≠ 46) : Lib.cut a [46] = (a, [], false) := by
  unfold Lib.cut
  rw [index_dot a h, if_neg (by omega)]
theorem cut_dot2 {a r : List UInt8} (h : ∀ c ∈ a, c ≠ 46) : Lib.cut (a ++ 46 :: r) [46] = (a, r, true) := by
  unfold Lib.cut
  rw [index_dot2 a r h, if_pos (by omega)]
  simp only [Int.toNat_natCast, List.length_cons, List.length_nil, List.take_left']
  rw [show a.length + (0 + 1) = (a ++ [46]).length by simp, show a ++ 46 :: r = (a ++ [46]) ++ r by simp, List.drop_left]
def segOk (n : Nat) (done : List (List UInt8)) (code : List UInt8) : Bool := (segA n done code).2.2 && ((segA n done code).1.take (segA n done code).2.1).all okSeg
theorem segOk_end {n : Nat} {done : List (List UInt8)} {a : List UInt8} (h : ∀ c ∈ a, c ≠ 46) : segOk (n + 1) done a = (done.all okSeg && okSeg a) := by
  unfold segOk
  rw [segA, cut_dot h]
  simp only [if_true]
  have e : (done ++ [a] ++ List.replicate n []).take (done.length + 1) = done ++ [a] := by
    rw [show done.length + 1 = (done ++ [a]).length by simp, List.take_left]
  rw [e, List.all_append]
  simp
theorem segOk_dot {n : Nat} {done : List (List UInt8)} {a r : List UInt8} (h : ∀ c ∈ a, c ≠ 46) : segOk (n + 1) done (a ++ 46 :: r) = segOk n (done ++ [a]) r := by
  unfold segOk
  rw [segA, cut_dot2 h]
  simp only [Bool.true_eq_false, if_false]
theorem segOk_true {n : Nat} {done : List (List UInt8)} {code : List UInt8} (h : segOk n done code = true) : done.all okSeg = true ∧ (∀ c ∈ code, okB c = true ∨ c = 46) ∧ code ≠ [] := by
  unfold segOk at h
  rw [Bool.and_eq_true] at h
  exact segA_ok n done code h.1 h.2
theorem okB_dot {c : UInt8} (h : okB c = true) : c ≠ 46 := by
  rintro rfl
  simp [okB] at h
/-- The first segment of a code that goes on is at most eight bytes long. -/
theorem segOk_long : ∀ (r : List UInt8) (n : Nat) (done : List (List UInt8)) (a : List UInt8), (∀ c ∈ a, c ≠ 46) → 8 < a.length → segOk n done (a ++ r) = false
  | r, 0, done, a, _, _ => by simp [segOk, segA]
  | [], n + 1, done, a, h, hl => by
    rw [List.append_nil, segOk_end h]
    have : okSeg a = false := by
      simp only [okSeg, Bool.and_eq_false_iff, decide_eq_false_iff_not]
      exact .inr (.inr (by omega))
    rw [this, Bool.and_false]
  | c :: r, n + 1, done, a, h, hl => by
    by_cases hc : c = 46
    · subst hc
      rw [segOk_dot h]
      cases hh : segOk n (done ++ [a]) r with
      | false => rfl
      | true =>
        have := (segOk_true hh).1
        rw [List.all_append, Bool.and_eq_true] at this
        have h2 := this.2
        simp only [List.all_cons, List.all_nil, Bool.and_true, okSeg, Bool.and_eq_true, decide_eq_true_eq] at h2
        omega
    · have := segOk_long r (n + 1) done (a ++ [c]) (fun x hx => by
        rcases List.mem_append.1 hx with hx | hx
        · exact h x hx
        · have : x = c := by simpa using hx
          rw [this]; exact hc) (by simp; omega)
      rwa [List.append_assoc] at this
theorem vF_seg : ∀ (r : List UInt8) (n : Nat) (done : List (List UInt8)) (cur : List UInt8), done.length + n = 5 → done.all okSeg = true → cur.all okB = true → cur.length ≤ 8 →
    vF r cur.length (done.length + 1) = segOk n done (cur ++ r)
  | r, 0, done, cur, hn, _, _, _ => by
    rw [vF_many _ _ _ (by omega)]
    simp [segOk, segA]
  | [], n + 1, done, cur, hn, hd, hc, hl => by
    have hdot : ∀ c ∈ cur, c ≠ 46 := fun c hcm => okB_dot (List.all_eq_true.1 hc c hcm)
    rw [List.append_nil, segOk_end hdot, hd, vF, okSeg, hc]
    simp only [Bool.true_and]
    have e1 : decide (done.length + 1 ≤ 5) = true := by simp; omega
    have e2 : decide (cur.length ≤ 8) = true := by simpa using hl
    rw [e1, e2]
    simp
    omega
  | c :: r, n + 1, done, cur, hn, hd, hc, hl => by
    have hdot : ∀ c ∈ cur, c ≠ 46 := fun c hcm => okB_dot (List.all_eq_true.1 hc c hcm)
    rw [vF]
    by_cases h46 : c = 46
    · subst h46
      rw [if_pos rfl, segOk_dot hdot]
      by_cases hz : cur.length = 0
      · rw [if_pos hz]
        cases hh : segOk n (done ++ [cur]) r with
        | false => rfl
        | true =>
          have := (segOk_true hh).1
          rw [List.all_append, Bool.and_eq_true] at this
          have h2 := this.2
          simp only [List.all_cons, List.all_nil, Bool.and_true, okSeg, Bool.and_eq_true, decide_eq_true_eq] at h2
          omega
      · rw [if_neg hz]
        have ih := vF_seg r n (done ++ [cur]) [] (by simp; omega) (by
          rw [List.all_append, hd]
          simp only [List.all_cons, List.all_nil, Bool.and_true, Bool.true_and, okSeg, hc]
          simp; omega) rfl (by simp)
        simpa using ih
    · rw [if_neg h46]
      by_cases hb : okB c = false
      · rw [if_pos hb]
        cases hh : segOk (n + 1) done (cur ++ c :: r) with
        | false => rfl
        | true =>
          rcases (segOk_true hh).2.1 c (by simp) with h | h
          · rw [hb] at h; cases h
          · exact absurd h h46
      · rw [if_neg hb]
        have hb : okB c = true := by simpa using hb
        have hdot2 : ∀ x ∈ cur ++ [c], x ≠ 46 := fun x hx => by
          rcases List.mem_append.1 hx with hx | hx
          · exact hdot x hx
          · have : x = c := by simpa using hx
            rw [this]; exact h46
        by_cases h8 : 8 < cur.length + 1
        · rw [if_pos h8]
          have := segOk_long r (n + 1) done (cur ++ [c]) hdot2 (by simp; omega)
          rw [List.append_assoc] at this
          exact this.symm
        · rw [if_neg h8]
          have ih := vF_seg r (n + 1) done (cur ++ [c]) hn hd (by rw [List.all_append, hc]; simpa using hb) (by simp; omega)
          rw [List.append_assoc, List.length_append] at ih
          exact ih
theorem cValid_vF (s : List UInt8) : cValid s = (decide (s.length ≤ 24) && vF s 0 1) := by
  have := vF_seg s 5 [] [] rfl rfl rfl (by simp)
  simp only [List.length_nil, Nat.zero_add, List.nil_append] at this
  rw [this]
  rfl
set_option maxHeartbeats 2000000 in
theorem rValid_ac (s : List UInt8) : AC Tryz.prog 61 [.str s] (fun r => r = .bool (cValid s)) := by
  rw [cValid_vF]
  have hg := fun (k : Nat) (h : k < s.length) => nthS h
  refine ac_intro Tryz.func61 rfl (by show (1 : Nat) ≤ 49; omega) (fun w0 N0 => ?_)
  refine aw_step [0] [] (by simp [Tryz.ntmps61] <;> rfl) ?_   -- ref.go:7
  refine aw_seq ?_
  refine aw_step [0, 9] [] (by simp <;> rfl) ?_   -- ref.go:8
  refine aw_cond rfl (fun h1 => ?_) (fun h1 => aw_skip ?_)   -- if t9
  · refine aw_step [2] [] (by simp <;> rfl) ?_   -- ref.go:9
    refine aw_ret (ends_ret (by simp [Tryz.results61] <;> rfl) ?_)
    have : ¬ s.length ≤ 24 := by simp at h1; omega
    simp [this]
  have hle : s.length ≤ 24 := by simp at h1; omega
  rw [show decide (s.length ≤ 24) = true by simpa using hle, Bool.true_and]
  refine aw_step [0, 3, 4] [] (by simp <;> rfl) ?_   -- ref.go:11
  refine aw_seq ?_
  refine aw_step [0, 3, 4, 5] [] (by simp <;> rfl) ?_   -- ref.go:12
  refine aw_block ?_
  refine aw_loop (fun p : Nat × Nat × Nat × Nat => ⟨[(0, .str s), (3, .int .i64 p.2.2.1), (4, .int .i64 p.2.1), (5, .int .i64 p.1)], [], p.2.2.2, 49⟩) (fun p => p.1 ≤ s.length ∧ p.2.1 ≤ 8 ∧ p.2.2.1 ≤ p.1 + 1 ∧ vF (s.drop p.1) p.2.1 p.2.2.1 = vF s 0 1) (fun p => s.length - p.1) (0, 0, 1, _) ⟨by simp, by simp, by simp, by simp⟩ (AS.le_refl _) ?_
  rintro ⟨k, size, segs, nx⟩ ⟨hk, hsz, hsg, hI⟩
  simp only at hk hsz hsg hI
  refine aw_seq ?_
  refine aw_step [0, 3, 4, 5, 13] [] (by simp <;> rfl) ?_   -- ref.go:12
  refine aw_cond rfl (fun h2 => aw_skip ?_) (fun h2 => ?_)   -- if t13
  · have hlt : k < s.length := by simp at h2; omega
    have ga := hg k hlt
    have hw := wrap_succ (k := k) (by omega)
    have hws := wrap_succ (k := segs) (by omega)
    have hwz := wrap_succ (k := size) (by omega)
    have hdr : s.drop k = s[k] :: s.drop (k + 1) := List.drop_eq_getElem_cons hlt
    rw [hdr, vF] at hI
    have hc46 : ∀ c : UInt8, c.toNat = 46 ↔ c = 46 := fun c => ⟨fun h => UInt8.toNat_inj.1 h, fun h => by rw [h]; rfl⟩
    have h46 := hc46 s[k]
    generalize s[k] = c at ga hI h46
    refine aw_seq ?_
    refine aw_block ?_
    refine aw_step [0, 3, 4, 5, 6] [] (by simp [ga] <;> rfl) ?_   -- ref.go:13
    refine aw_seq ?_
    refine aw_step [0, 3, 4, 5, 6, 20] [] (by simp <;> rfl) ?_   -- ref.go:14
    refine aw_cond rfl (fun h3 => ?_) (fun h3 => aw_skip ?_)   -- if t20
    · have hc : c = 46 := h46.1 (by simp at h3; omega)
      rw [if_pos hc] at hI
      refine aw_seq ?_
      refine aw_step [0, 3, 5, 22] [] (by simp <;> rfl) ?_   -- ref.go:15
      refine aw_cond rfl (fun h4 => ?_) (fun h4 => aw_skip ?_)   -- if t22
      · refine aw_step [2] [] (by simp <;> rfl) ?_   -- ref.go:16
        refine aw_ret (ends_ret (by simp [Tryz.results61] <;> rfl) ?_)
        have hz : size = 0 := by simp at h4; omega
        rw [if_pos hz] at hI
        rw [← hI]
      have hz : ¬ size = 0 := by simp at h4; omega
      rw [if_neg hz] at hI
      refine aw_step [0, 3, 5] [] (by simp [hws] <;> rfl) ?_   -- ref.go:18
      refine aw_step [0, 3, 4, 5] [] (by simp <;> rfl) ?_   -- ref.go:19
      refine aw_exit ?_
      refine aw_one [0, 3, 4, 5] [] (by simp [hw] <;> rfl) ?_   -- ref.go:12
      exact ⟨(k + 1, 0, segs + 1, _), ⟨hlt, by simp only; omega, by simp only; omega, hI⟩, by simp only; omega, AS.le_refl _⟩
    have hc : ¬ c = 46 := fun e => by have := h46.2 e; simp at h3; omega
    rw [if_neg hc] at hI
    refine aw_seq ?_
    refine aw_step [0, 3, 4, 5, 38] [] (by simp <;> rfl) ?_   -- ref.go:22
    refine aw_cond rfl (fun h5 => ?_) (fun h5 => aw_skip ?_)   -- if t38
    · refine aw_step [2] [] (by simp <;> rfl) ?_   -- ref.go:23
      refine aw_ret (ends_ret (by simp [Tryz.results61] <;> rfl) ?_)
      have hb : okB c = false := by simp [okB] at h5 ⊢; omega
      rw [if_pos hb] at hI
      rw [← hI]
    have hb : okB c = true := by simp [okB] at h5 ⊢; omega
    rw [if_neg (by rw [hb]; simp)] at hI
    refine aw_step [0, 3, 4, 5] [] (by simp [hwz] <;> rfl) ?_   -- ref.go:25
    refine aw_step [0, 3, 4, 5, 42] [] (by simp <;> rfl) ?_   -- ref.go:26
    refine aw_cond rfl (fun h6 => ?_) (fun h6 => aw_skip ?_)   -- if t42
    · refine aw_step [2] [] (by simp <;> rfl) ?_   -- ref.go:27
      refine aw_ret (ends_ret (by simp [Tryz.results61] <;> rfl) ?_)
      have h8 : 8 < size + 1 := by simp at h6; omega
      rw [if_pos h8] at hI
      rw [← hI]
    have h8 : ¬ 8 < size + 1 := by simp at h6; omega
    rw [if_neg h8] at hI
    refine aw_one [0, 3, 4, 5] [] (by simp [hw] <;> rfl) ?_   -- ref.go:12
    exact ⟨(k + 1, size + 1, segs, _), ⟨hlt, by simp only; omega, by simp only; omega, hI⟩, by simp only; omega, AS.le_refl _⟩
  · have hke : k = s.length := by simp at h2; omega
    refine aw_exit ?_
    refine aw_step [2] [] (by simp <;> rfl) ?_   -- ref.go:30
    refine aw_ret (ends_ret (by simp [Tryz.results61] <;> rfl) ?_)
    rw [← hI, hke, List.drop_length, vF]
    have e1 : decide (0 < (size : Int)) = decide (0 < size) := by simp
    have e2 : decide ((segs : Int) ≤ 5) = decide (segs ≤ 5) := by simp; omega
    cases hs : decide (0 < size) <;> simp_all
end Go.Proofs.YtliogkkhofhfcaaGreatDoor
