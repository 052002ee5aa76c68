import Derived.Test.YtliogkkhofhfcaaGreatDoorGB
/- Query: natural numbers of limbs: Of, Uint. No condition. -/
set_option linter.unusedSimpArgs false
set_option maxRecDepth 4000
namespace Go.Proofs.YtliogkkhofhfcaaGreatDoor
open Go.Eng

theorem wrap_u32 (n : Nat) : IntKind.u32.wrap (n : Int) = ((n % 4294967296 : Nat) : Int) := by rw [IntKind.wrap_u32]; omega
theorem wrap_u64 {n : Nat} (h : n < 18446744073709551616) : IntKind.u64.wrap (n : Int) = (n : Int) := by rw [IntKind.wrap_u64]; omega
theorem shr32 (n : Nat) : (n : Int).fdiv (2 ^ min 32 IntKind.u64.bits) = ((n / 4294967296 : Nat) : Int) := by
  show (n : Int).fdiv 4294967296 = _
  rw [Int.fdiv_eq_ediv_of_nonneg _ (by omega)]; omega
set_option maxHeartbeats 1000000 in
theorem of_ac (n : Nat) (hn : n < 18446744073709551616) : AC Tryz.prog 131 [.int .u64 n] (fun r => r = .ro 1 (u32s (natL n))) := by
  have ht := trim_ac [n % 4294967296, n / 4294967296] (by intro x hx; simp at hx; omega)
  have hv : valN [n % 4294967296, n / 4294967296] = n := by simp [valN]; omega
  rw [hv] at ht
  have hp := u32s_pure (natL n)
  simp only [u32s, List.map_cons, List.map_nil, u32V] at ht
  show AC _ _ _ (fun r => r = V.ro 1 (List.map u32V (natL n)))
  generalize List.map u32V (natL n) = r at ht hp ⊢
  have hw := wrap_u32 n
  have hw2 : IntKind.u32.wrap ((n : Int).fdiv (2 ^ min 32 IntKind.u64.bits)) = ((n / 4294967296 : Nat) : Int) := by rw [shr32, wrap_u32]; omega
  generalize ((n % 4294967296 : Nat) : Int) = lo at ht hw
  generalize ((n / 4294967296 : Nat) : Int) = hi at ht hw2
  refine ac_intro Tryz.func131 rfl (by show (1 : Nat) ≤ 10; omega) (fun w0 N0 => ?_)
  refine aw_step [0] [] (by simp [Tryz.ntmps131] <;> rfl) ?_   -- nat.go:20
  refine aw_seq (aw_region ?_)   -- nat.go:21
  refine awl_go 6 (by simp [hw, hw2] <;> rfl) ?_
  refine awl_freeze 8 [8] [] (by simp <;> rfl) ?_
  refine awl_call1 ht Tryz.func134 rfl (by kernel_rfl) rfl rfl rfl (by simp <;> rfl) (by simp) (by simp <;> rfl) ?_
  refine awl_end [2] [] (by simp <;> rfl) ?_
  refine aw_ret (ends_ret (by simp [Tryz.results131] <;> rfl) ?_)
  rfl

theorem bits_or64 (a b : Nat) (h8 : a < 2 ^ 64 ∧ b < 2 ^ 64) : bits .or .u64 a b = ((a ||| b : Nat) : Int) := by
  have ha : BitVec.ofInt 64 (a : Int) = BitVec.ofNat 64 a := by simp
  have hb : BitVec.ofInt 64 (b : Int) = BitVec.ofNat 64 b := by simp
  have h1 : a ||| b < 2 ^ 64 := Nat.or_lt_two_pow h8.1 h8.2
  show IntKind.u64.wrap ((BitVec.ofInt 64 (a : Int) ||| BitVec.ofInt 64 (b : Int)).toNat : Int) = _
  rw [ha, hb, BitVec.toNat_or, BitVec.toNat_ofNat, BitVec.toNat_ofNat, Nat.mod_eq_of_lt h8.1, Nat.mod_eq_of_lt h8.2, IntKind.wrap_u64]
  omega
theorem or_u0 (x : Nat) (hx : x < 4294967296) : bits .or .u64 0 (IntKind.u64.wrap ((x : Int) * 2 ^ min (0 : Int).toNat IntKind.u64.bits)) = (x : Int) := by
  have e : IntKind.u64.wrap ((x : Int) * 2 ^ min (0 : Int).toNat IntKind.u64.bits) = (x : Int) := by
    show IntKind.u64.wrap ((x : Int) * 1) = _
    rw [IntKind.wrap_u64]; omega
  rw [e, show (0 : Int) = ((0 : Nat) : Int) from rfl, bits_or64 0 x ⟨by omega, by omega⟩]
  simp
theorem or_u1 (x y : Nat) (hx : x < 4294967296) (hy : y < 4294967296) : bits .or .u64 (x : Int) (IntKind.u64.wrap ((y : Int) * 2 ^ min (32 : Int).toNat IntKind.u64.bits)) = ((x + y * 4294967296 : Nat) : Int) := by
  have e : IntKind.u64.wrap ((y : Int) * 2 ^ min (32 : Int).toNat IntKind.u64.bits) = ((y * 4294967296 : Nat) : Int) := by
    show IntKind.u64.wrap ((y : Int) * 4294967296) = _
    rw [IntKind.wrap_u64]; omega
  rw [e, bits_or64 x (y * 4294967296) ⟨by omega, by omega⟩, Nat.or_comm, Nat.mul_comm]
  have := Nat.two_pow_add_eq_or_of_lt (i := 32) (b := x) (by omega) y
  simp only [show (2 : Nat) ^ 32 = 4294967296 from rfl] at this
  rw [← this]
  congr 1
  omega
theorem hw0 : IntKind.i64.wrap 0 = 0 := rfl
theorem hw1 : IntKind.i64.wrap 1 = 1 := rfl
theorem hw2 : IntKind.i64.wrap 2 = 2 := rfl
theorem hw32 : IntKind.i64.wrap 32 = 32 := rfl
set_option maxHeartbeats 1000000 in
/-- A number as 64 bits, or that it does not fit. -/
theorem uint_ac (n : Nat) : AC Tryz.prog 126 [.ro 1 (u32s (natL n))] (fun r => r = .tup (if n < 18446744073709551616 then [.int .u64 n, .bool true] else [.int .u64 0, .bool false])) := by
  have ht := trim_ac (natL n) (limbs_natL n)
  rw [valN_natL] at ht
  have hp := u32s_pure (natL n)
  have hl : (u32s (natL n)).length = (natL n).length := by simp
  have hshape : (n < 18446744073709551616 ∧ (natL n = [] ∧ n = 0 ∨ (∃ x, natL n = [x] ∧ n = x ∧ x < 4294967296) ∨ ∃ x y, natL n = [x, y] ∧ n = x + y * 4294967296 ∧ x < 4294967296 ∧ y < 4294967296)) ∨ (¬ n < 18446744073709551616 ∧ 2 < (natL n).length) := by
    by_cases h0 : n = 0
    · subst h0; exact .inl ⟨by omega, .inl ⟨natL_zero, rfl⟩⟩
    rw [natL_pos h0]
    by_cases h1 : n / 4294967296 = 0
    · rw [h1, natL_zero]; exact .inl ⟨by omega, .inr (.inl ⟨_, rfl, by omega, by omega⟩)⟩
    rw [natL_pos h1]
    by_cases h2 : n / 4294967296 / 4294967296 = 0
    · rw [h2, natL_zero]; exact .inl ⟨by omega, .inr (.inr ⟨_, _, rfl, by omega, by omega, by omega⟩)⟩
    rw [natL_pos h2]
    exact .inr ⟨by omega, by simp⟩
  refine ac_intro Tryz.func126 rfl (by show (1 : Nat) ≤ 28; omega) (fun w0 N0 => ?_)
  refine aw_step [0] [] (by simp [Tryz.ntmps126] <;> rfl) ?_   -- nat.go:255
  refine aw_seq (aw_region ?_)   -- nat.go:256
  refine awl_go 1 (by simp <;> rfl) ?_
  refine awl_call1 ht Tryz.func134 rfl (by kernel_rfl) rfl rfl rfl (by simp <;> rfl) (by simp [hp]) (by simp <;> rfl) ?_
  refine awl_end [0] [] (by simp <;> rfl) ?_
  refine aw_seq ?_
  refine aw_step [0, 11] [] (by simp <;> rfl) ?_   -- nat.go:257
  refine aw_cond rfl (fun h1 => ?_) (fun h1 => aw_skip ?_)   -- if t11
  · refine aw_step [2, 3] [] (by simp <;> rfl) ?_   -- nat.go:258
    refine aw_ret (ends_ret (by simp [Tryz.results126] <;> rfl) ?_)
    have : ¬ n < 18446744073709551616 := by
      rcases hshape with ⟨_, h | ⟨x, h, _⟩ | ⟨x, y, h, _⟩⟩ | ⟨h, _⟩
      · simp [h.1] at h1
      · simp [h] at h1
      · simp [h] at h1
      · exact h
    rw [if_neg this]
  have hlen : (natL n).length ≤ 2 := by simp at h1; omega
  have hlt : n < 18446744073709551616 := by
    rcases hshape with ⟨h, _⟩ | ⟨_, h⟩
    · exact h
    · omega
  rw [if_pos hlt]
  refine aw_step [0, 4] [] (by simp <;> rfl) ?_   -- nat.go:260
  refine aw_seq ?_
  refine aw_step [4, 12, 13, 14] [] (by simp <;> rfl) ?_   -- nat.go:261
  refine aw_block ?_
  simp only [List.length_map] at *
  refine aw_count (fun k nx => ⟨[(4, .int .u64 (valN ((natL n).take k))), (12, .ro 1 (u32s (natL n))), (13, .int .i64 (natL n).length), (14, .int .i64 k)], [], nx, 28⟩) (fun k => k ≤ (natL n).length) (natL n).length _ (Nat.zero_le _) (AS.le_refl _) ?_
  intro k nx hk hI
  refine aw_step [4, 12, 13, 14, 15] [] (by simp <;> rfl) ?_   -- nat.go:261
  refine aw_seq ?_
  refine aw_cond rfl (fun h2 => aw_skip ?_) (fun h2 => ?_)   -- if t15
  · have hk2 : k < (natL n).length := by simp at h2; omega
    have hwk := wrap_succ (k := k) (by omega)
    refine aw_seq ?_
    refine aw_block ?_
    rcases hshape with ⟨_, h | ⟨x, h, e, hx⟩ | ⟨x, y, h, e, hx, hy⟩⟩ | ⟨h, _⟩
    · rw [h.1] at hk2; simp at hk2
    · have hk0 : k = 0 := by rw [h] at hk2; simp at hk2; exact hk2
      subst hk0
      obtain ⟨si, hsi, hsv⟩ : ∃ si : Int, IntKind.i64.wrap 0 = si ∧ si = 0 := ⟨_, rfl, rfl⟩
      have hsn : ¬ si < 0 := by omega
      have hov : bits .or .u64 0 (IntKind.u64.wrap ((x : Int) * 2 ^ min si.toNat IntKind.u64.bits)) = x := by rw [hsv]; exact or_u0 x hx
      have hx64 : IntKind.u64.wrap (x : Int) = x := wrap_u64 (by omega)
      rw [h]
      refine aw_step [4, 5, 6, 12, 13, 14] [] (by simp [nth, u32V] <;> rfl) ?_   -- nat.go:261
      refine aw_one [4, 12, 13, 14] [] (by simp [nth, u32V, valN, hsi, hsn, hx64, hov] <;> rfl) ?_   -- nat.go:262
      refine aw_one [4, 12, 13, 14] [] (by simp [hw1] <;> rfl) ?_   -- nat.go:261
      exact ⟨by simp, by simp, _, by simp [valN, u32V]; exact AS.le_refl _⟩
    · have hx64 : IntKind.u64.wrap (x : Int) = x := wrap_u64 (by omega)
      have hy64 : IntKind.u64.wrap (y : Int) = y := wrap_u64 (by omega)
      rw [h]
      by_cases hk0 : k = 0
      · subst hk0
        obtain ⟨si, hsi, hsv⟩ : ∃ si : Int, IntKind.i64.wrap 0 = si ∧ si = 0 := ⟨_, rfl, rfl⟩
        have hsn : ¬ si < 0 := by omega
        have hov : bits .or .u64 0 (IntKind.u64.wrap ((x : Int) * 2 ^ min si.toNat IntKind.u64.bits)) = x := by rw [hsv]; exact or_u0 x hx
        refine aw_step [4, 5, 6, 12, 13, 14] [] (by simp [nth, u32V] <;> rfl) ?_   -- nat.go:261
        refine aw_one [4, 12, 13, 14] [] (by simp [nth, u32V, valN, hsi, hsn, hx64, hov] <;> rfl) ?_   -- nat.go:262
        refine aw_one [4, 12, 13, 14] [] (by simp [hw1] <;> rfl) ?_   -- nat.go:261
        exact ⟨by simp, by simp, _, by simp [valN, u32V]; exact AS.le_refl _⟩
      · have hk1 : k = 1 := by rw [h] at hk2; simp at hk2; omega
        subst hk1
        obtain ⟨si, hsi, hsv⟩ : ∃ si : Int, IntKind.i64.wrap 32 = si ∧ si = 32 := ⟨_, rfl, rfl⟩
        have hsn : ¬ si < 0 := by omega
        obtain ⟨ov, hov, ho⟩ : ∃ ov : Int, bits .or .u64 (x : Int) (IntKind.u64.wrap ((y : Int) * 2 ^ min si.toNat IntKind.u64.bits)) = ov ∧ ov = ((x + y * 4294967296 : Nat) : Int) := ⟨_, rfl, by rw [hsv]; exact or_u1 x y hx hy⟩
        refine aw_step [4, 5, 6, 12, 13, 14] [] (by simp [nth, u32V] <;> rfl) ?_   -- nat.go:261
        refine aw_one [4, 12, 13, 14] [] (by simp [nth, u32V, valN, hsi, hsn, hy64, hov] <;> rfl) ?_   -- nat.go:262
        refine aw_one [4, 12, 13, 14] [] (by simp [hw2] <;> rfl) ?_   -- nat.go:261
        exact ⟨by simp, by simp, _, by simp [valN, u32V, ho, Int.mul_comm (y : Int)]; exact AS.le_refl _⟩
    · omega
  · refine aw_exit ?_
    refine aw_step [2, 3] [] (by simp <;> rfl) ?_   -- nat.go:264
    refine aw_ret (ends_ret (by simp [Tryz.results126] <;> rfl) ?_)
    have hke : k = (natL n).length := by simp at h2; omega
    rw [hke, List.take_length, valN_natL]
end Go.Proofs.YtliogkkhofhfcaaGreatDoor

/- Query: natural numbers of limbs: Add. No condition. -/
set_option linter.unusedSimpArgs false
set_option maxRecDepth 4000
namespace Go.Proofs.YtliogkkhofhfcaaGreatDoor
open Go.Eng

/-- The limb of a sum, and what is carried. -/
def limbAt (l : List Nat) (i : Nat) : Nat := match l[i]? with | some x => x | none => 0
theorem valN_take : ∀ (l : List Nat) (k : Nat), k < l.length → valN (l.take (k + 1)) = valN (l.take k) + limbAt l k * 4294967296 ^ k
  | x :: r, 0, _ => by simp [valN, limbAt]
  | x :: r, k + 1, h => by
    have := valN_take r k (by simpa using h)
    simp only [List.take_succ_cons, valN, this, limbAt, List.getElem?_cons_succ, Nat.pow_succ]
    rw [Nat.mul_add]
    have e : 4294967296 * ((match r[k]? with | some x => x | none => 0) * 4294967296 ^ k) = (match r[k]? with | some x => x | none => 0) * (4294967296 ^ k * 4294967296) := by
      rw [Nat.mul_comm, Nat.mul_assoc]
    rw [e]; omega
theorem valN_take_all (l : List Nat) (k : Nat) (h : l.length ≤ k) : valN (l.take k) = valN l := by rw [List.take_of_length_le h]
theorem valN_append : ∀ (a b : List Nat), valN (a ++ b) = valN a + 4294967296 ^ a.length * valN b
  | [], b => by simp [valN]
  | x :: a, b => by
    simp only [List.cons_append, valN, valN_append a b, List.length_cons, Nat.pow_succ]
    rw [Nat.mul_add, ← Nat.mul_assoc, Nat.mul_comm 4294967296 (4294967296 ^ a.length)]
    omega
theorem valN_zeros (n : Nat) : valN (List.replicate n 0) = 0 := by
  induction n with
  | zero => rfl
  | succ n ih => simp [List.replicate_succ, valN, ih]
theorem limbs_append {a b : List Nat} (h : limbs a) (k : limbs b) : limbs (a ++ b) := fun x hx => by
  rcases List.mem_append.1 hx with h1 | h1
  · exact h x h1
  · exact k x h1
theorem limbAt_lt {l : List Nat} (h : limbs l) (i : Nat) : limbAt l i < 4294967296 := by
  unfold limbAt
  split
  · rename_i x hx; exact h x (List.mem_of_getElem? hx)
  · omega
theorem nthU (l : List Nat) (k : Nat) (h : k < l.length) : nth (u32s l) k = some (.int .u32 (limbAt l k)) := by
  rw [nth_eq, List.getElem?_map, limbAt, List.getElem?_eq_getElem h]; rfl

/-- One limb of a sum. -/
theorem add_step {a b c x y T P : Nat} (h : T + c * P = a + b) (z : Nat) (hz : z = x + y + c) : (T + z % 4294967296 * P) + z / 4294967296 * (P * 4294967296) = (a + x * P) + (b + y * P) := by
  have h1 : z % 4294967296 * P + z / 4294967296 * (P * 4294967296) = z * P := by
    rw [Nat.mul_comm P 4294967296, ← Nat.mul_assoc, ← Nat.add_mul]
    congr 1
    omega
  have h2 : z * P = x * P + y * P + c * P := by rw [hz, Nat.add_mul, Nat.add_mul]
  omega
theorem take_one {l : List Nat} {k : Nat} (h : l.length ≤ k) : valN (l.take (k + 1)) = valN (l.take k) + limbAt l k * 4294967296 ^ k := by
  have : limbAt l k = 0 := by unfold limbAt; rw [List.getElem?_eq_none h]
  rw [this, valN_take_all _ _ h, valN_take_all _ _ (by omega)]; omega
theorem take_step (l : List Nat) (k : Nat) : valN (l.take (k + 1)) = valN (l.take k) + limbAt l k * 4294967296 ^ k := by
  by_cases h : k < l.length
  · exact valN_take l k h
  · exact take_one (by omega)
def rowU (done : List Nat) (n : Nat) : List V := u32s (done ++ List.replicate n 0)
theorem rowU_nth {done : List Nat} {k n : Nat} (h : done.length = k) : nth (rowU done (n + 1)) k = some (.int .u32 0) := by
  rw [nth_eq, rowU, List.getElem?_map, List.getElem?_append_right (by omega), h, Nat.sub_self, List.replicate_succ]; rfl
theorem rowU_set {done : List Nat} {k n : Nat} (h : done.length = k) (z : Nat) : (rowU done (n + 1)).set k (.int .u32 (z : Int)) = rowU (done ++ [z]) n := by
  subst h
  simp only [rowU, u32s, List.map_append, List.replicate_succ, List.map_cons]
  rw [List.set_append_right _ _ (by simp)]
  simp
theorem rowU_len {done : List Nat} {n : Nat} : (rowU done n).length = done.length + n := by simp [rowU]
theorem rowU_nil (n : Nat) : rowU [] n = List.replicate n (.int .u32 0) := by simp [rowU, u32V]
theorem u64_add {x y : Nat} (h : x + y < 18446744073709551616) : IntKind.u64.wrap ((x : Int) + (y : Int)) = ((x + y : Nat) : Int) := by
  rw [← Int.natCast_add]; exact wrap_u64 h

set_option maxHeartbeats 4000000 in
theorem add_ac (l1 l2 : List Nat) (h1 : limbs l1) (h2 : limbs l2) (hs1 : l1.length ≤ 1000000) (hs2 : l2.length ≤ 1000000) : AC Tryz.prog 132 [.ro 1 (u32s l1), .ro 1 (u32s l2)] (fun r => r = .ro 1 (u32s (natL (valN l1 + valN l2)))) := by
  have ht1 := trim_ac l1 h1
  have ht2 := trim_ac l2 h2
  have hl1 : (natL (valN l1)).length ≤ 1000000 := by
    rw [← trimL_val l1 h1]; exact Nat.le_trans (trimL_len l1) hs1
  have hl2 : (natL (valN l2)).length ≤ 1000000 := by
    rw [← trimL_val l2 h2]; exact Nat.le_trans (trimL_len l2) hs2
  have hb1 := limbs_natL (valN l1)
  have hb2 := limbs_natL (valN l2)
  have hv1 := valN_natL (valN l1)
  have hv2 := valN_natL (valN l2)
  generalize natL (valN l1) = m1 at ht1 hl1 hb1 hv1
  generalize natL (valN l2) = m2 at ht2 hl2 hb2 hv2
  rw [← hv1, ← hv2]
  have hp1 := u32s_pure m1
  have hp2 := u32s_pure m2
  have hpl1 := u32s_pure l1
  have hpl2 := u32s_pure l2
  refine ac_intro Tryz.func132 rfl (by show (2 : Nat) ≤ 63; omega) (fun w0 N0 => ?_)
  refine aw_step [0, 1] [] (by simp [Tryz.ntmps132] <;> rfl) ?_   -- nat.go:50
  refine aw_seq (aw_region ?_)   -- nat.go:51
  refine awl_go 1 (by simp <;> rfl) ?_
  refine awl_call1 ht1 Tryz.func134 rfl (by kernel_rfl) rfl rfl rfl (by simp <;> rfl) (by simp [hpl1]) (by simp <;> rfl) ?_
  refine awl_go 1 (by simp <;> rfl) ?_
  refine awl_call1 ht2 Tryz.func134 rfl (by kernel_rfl) rfl rfl rfl (by simp <;> rfl) (by simp [hpl2]) (by simp <;> rfl) ?_
  refine awl_end [0, 1] [] (by simp <;> rfl) ?_
  refine aw_viaE (fun p : List Nat × List Nat => ⟨[(0, .ro 1 (u32s p.1)), (1, .ro 1 (u32s p.2))], [], 50, 63⟩) (fun p => limbs p.1 ∧ limbs p.2 ∧ p.2.length ≤ p.1.length ∧ p.1.length ≤ 1000000 ∧ valN m1 + valN m2 = valN p.1 + valN p.2) ?_ ?_
  · refine aw_step [0, 1, 17] [] (by simp <;> rfl) ?_   -- nat.go:52
    refine aw_cond rfl (fun h1 => ?_) (fun h1 => aw_skip ?_)   -- if t17
    · refine aw_one [0, 1] [] (by simp <;> rfl) ?_   -- nat.go:53
      exact ⟨(m2, m1), ⟨hb2, hb1, by simp at h1; simp only; omega, hl2, Nat.add_comm _ _⟩, le_nx rfl rfl rfl (by simp only; omega)⟩
    · exact ⟨(m1, m2), ⟨hb1, hb2, by simp at h1; simp only; omega, hl1, rfl⟩, le_to [0, 1] [] rfl rfl rfl (by simp only; omega)⟩
  rintro ⟨a, b⟩ ⟨ha, hb, hab, hal, hT⟩
  simp only at ha hb hab hal hT
  rw [hT]
  have hla : (u32s a).length = a.length := by simp
  have hlb : (u32s b).length = b.length := by simp
  have hna := fun k h => nthU a k h
  have hnb := fun k h => nthU b k h
  obtain ⟨s1, hs1, hs1'⟩ : ∃ s : Int, IntKind.i64.wrap ((a.length : Int) + 1) = s ∧ s = ((a.length + 1 : Nat) : Int) := ⟨_, rfl, wrap_succ (by omega)⟩
  have hq1 : 4 * s1 ≤ 281474976710656 := by omega
  have hq2 : s1 ≤ 9223372036854775807 := by omega
  have hq3 : 0 ≤ s1 := by omega
  have hq4 : s1.toNat = a.length + 1 := by omega
  have hpa := u32s_pure a
  have hpb := u32s_pure b
  generalize u32s a = av at hla hna hpa
  generalize u32s b = bv at hlb hnb hpb
  refine aw_step [0, 1, 5] [23] (by simp [hla, hs1, hq1, hq2, hq3] <;> rfl) ?_   -- nat.go:55
  refine aw_step [0, 1, 5, 6] [23] (by simp <;> rfl) ?_   -- nat.go:56
  refine aw_seq ?_
  refine aw_step [0, 1, 5, 6, 25, 26] [23] (by simp [hla] <;> rfl) ?_   -- nat.go:57
  refine aw_block ?_
  refine aw_loop (fun p : List Nat × Nat × Nat => ⟨[(0, .ro 1 av), (1, .ro 1 bv), (5, .sl 23 53 1 s1.toNat), (6, .int .u64 p.2.1), (25, .int .i64 a.length), (26, .int .i64 p.1.length)], [(23, ⟨53, 1, 130, rowU p.1 (a.length + 1 - p.1.length)⟩)], p.2.2, 63⟩)
    (fun p => p.1.length ≤ a.length ∧ limbs p.1 ∧ p.2.1 ≤ 1 ∧ valN p.1 + p.2.1 * 4294967296 ^ p.1.length = valN (a.take p.1.length) + valN (b.take p.1.length)) (fun p => a.length - p.1.length) ([], 0, _) ⟨by simp, by simp [limbs], by simp, by simp [valN]⟩ (by simp [hq4, rowU_nil]; exact AS.le_refl _) ?_
  rintro ⟨done, c, nx⟩ ⟨hd, hdl, hc, hI⟩
  simp only at hd hdl hc hI
  refine aw_step [0, 1, 5, 6, 25, 26, 27] [23] (by simp <;> rfl) ?_   -- nat.go:57
  refine aw_seq ?_
  refine aw_cond rfl (fun h2 => aw_skip ?_) (fun h2 => ?_)   -- if t27
  · have hlt : done.length < a.length := by simp at h2; omega
    obtain ⟨n, hn⟩ : ∃ n, a.length + 1 - done.length = n + 1 := ⟨a.length - done.length, by omega⟩
    have hga := hna done.length hlt
    have hgr := rowU_nth (done := done) (k := done.length) (n := n) rfl
    obtain ⟨k, hk⟩ : ∃ k, done.length = k := ⟨_, rfl⟩
    rw [hk] at hga hgr hlt hn hI
    have hxa := limbAt_lt ha k
    have hxb := limbAt_lt hb k
    have hta := take_step a k
    have htb := take_step b k
    have hbz : ¬ k < b.length → limbAt b k = 0 := fun h => by unfold limbAt; rw [List.getElem?_eq_none (by omega)]
    have hgb := hnb k
    have hset := fun z => rowU_set (done := done) (k := k) (n := n) hk z
    have hlr : (rowU done (n + 1)).length = a.length + 1 := by rw [rowU_len]; omega
    have hwk := wrap_succ (k := k) (by omega)
    simp only [hk, hn]
    generalize limbAt a k = x at hga hxa hta
    generalize limbAt b k = y at hgb hxb htb hbz
    have hx64 : IntKind.u64.wrap (x : Int) = x := wrap_u64 (by omega)
    have hy64 : IntKind.u64.wrap (y : Int) = y := wrap_u64 (by omega)
    obtain ⟨z1, hz1, hz1'⟩ : ∃ z : Int, IntKind.u64.wrap ((x : Int) + (c : Int)) = z ∧ z = ((x + c : Nat) : Int) := ⟨_, rfl, u64_add (by omega)⟩
    obtain ⟨z2, hz2, hz2'⟩ : ∃ z : Int, IntKind.u64.wrap (z1 + (y : Int)) = z ∧ z = ((x + y + c : Nat) : Int) := ⟨_, rfl, by rw [hz1', u64_add (by omega)]; congr 1; omega⟩
    have hltA : k < av.length := by omega
    have hki : (k : Int) < (a.length : Int) + 1 := by omega
    generalize hro : rowU done (n + 1) = ro at hgr hlr hset ⊢
    refine aw_seq ?_
    refine aw_block ?_
    refine aw_step [0, 1, 5, 6, 7, 25, 26] [23] (by simp <;> rfl) ?_   -- nat.go:57
    refine aw_step [0, 1, 5, 7, 8, 25, 26] [23] (by simp [hga, hltA, hx64, hz1] <;> rfl) ?_   -- nat.go:58
    refine aw_viale ⟨[(0, .ro 1 av), (1, .ro 1 bv), (5, .sl 23 53 1 s1.toNat), (7, .int .i64 k), (8, .int .u64 z2), (25, .int .i64 a.length), (26, .int .i64 k)], [(23, ⟨53, 1, 130, ro⟩)], nx + 30, 63⟩ ?_ ?_
    · refine aw_step [0, 1, 5, 7, 8, 25, 26, 39] [23] (by simp [hlb] <;> rfl) ?_   -- nat.go:59
      refine aw_cond rfl (fun h3 => ?_) (fun h3 => aw_skip ?_)   -- if t39
      · have hkb : k < b.length := by simp at h3; omega
        have hkb' : k < bv.length := by omega
        refine aw_one [0, 1, 5, 7, 8, 25, 26] [23] (by simp [hgb hkb, hkb', hy64, hz2] <;> rfl) ?_   -- nat.go:60
        exact ⟨rfl, le_to [0, 1, 5, 7, 8, 25, 26] [23] rfl rfl rfl (by simp only; omega)⟩
      · have hkb : ¬ k < b.length := by simp at h3; omega
        have hyz := hbz hkb
        have hzz : z1 = z2 := by rw [hz1', hz2', hyz]; congr 1
        rw [hzz]
        exact ⟨rfl, le_to [0, 1, 5, 7, 8, 25, 26] [23] rfl rfl rfl (by simp only; omega)⟩
    have hwz : IntKind.u32.wrap z2 = (((x + y + c) % 4294967296 : Nat) : Int) := by rw [hz2', wrap_u32]
    have hsz : z2.fdiv (2 ^ min 32 IntKind.u64.bits) = (((x + y + c) / 4294967296 : Nat) : Int) := by rw [hz2', shr32]
    have hset' := hset ((x + y + c) % 4294967296)
    generalize hlo : (x + y + c) % 4294967296 = lo at hwz hset'
    generalize hhi : (x + y + c) / 4294967296 = hi at hsz
    refine aw_step [0, 1, 5, 8, 25, 26] [23] (by simp [hgr, hlr, hwz, hset', hq4, hltA, hki] <;> rfl) ?_   -- nat.go:62
    refine aw_one [0, 1, 5, 6, 25, 26] [23] (by simp [hsz] <;> rfl) ?_   -- nat.go:63
    refine aw_one [0, 1, 5, 6, 25, 26] [23] (by simp [hwk] <;> rfl) ?_   -- nat.go:57
    refine ⟨(done ++ [lo], hi, nx + 30 + 6 + 3 + 2), ⟨by simp; omega, limbs_append hdl (by intro q hq; simp at hq; omega), by simp only; omega, ?_⟩, by simp; omega, ?_⟩
    · simp only [List.length_append, List.length_cons, List.length_nil, hk, valN_append, valN]
      have := add_step hI (x + y + c) rfl
      rw [hlo, hhi] at this
      rw [hta, htb, Nat.pow_succ]
      rw [Nat.mul_comm (4294967296 ^ k)]
      omega
    · have hkk : ((k + 1 : Nat) : Int) = (k : Int) + 1 := by omega
      have hnn : a.length + 1 - (k + 1) = n := by omega
      simp only [List.length_append, List.length_cons, List.length_nil, hk, hnn, hq4, Nat.zero_add, hkk]
      exact AS.le_refl _
  · refine aw_exit ?_
    have hde : done.length = a.length := by simp at h2; omega
    have hgr := rowU_nth (done := done) (k := a.length) (n := 0) hde
    have hset := rowU_set (done := done) (k := a.length) (n := 0) hde c
    have hlr : (rowU done 1).length = a.length + 1 := by rw [rowU_len]; omega
    have hki : (a.length : Int) < (a.length : Int) + 1 := by omega
    have hcw : IntKind.u32.wrap (c : Int) = (c : Int) := by rw [wrap_u32]; omega
    have htr := trim_ac (done ++ [c]) (limbs_append hdl (by intro q hq; simp at hq; omega))
    have hvv : valN (done ++ [c]) = valN a + valN b := by
      rw [hde, List.take_length, valN_take_all b _ hab] at hI
      rw [valN_append, hde, ← hI]
      simp only [valN, Nat.mul_zero, Nat.add_zero]
      rw [Nat.mul_comm (4294967296 ^ a.length) c]
    rw [hvv] at htr
    have hru : rowU (done ++ [c]) 0 = u32s (done ++ [c]) := by simp [rowU]
    have hpr := u32s_pure (done ++ [c])
    rw [show a.length + 1 - done.length = 0 + 1 by omega]
    simp only [Nat.zero_add] at hgr hset ⊢
    rw [hru] at hset
    generalize u32s (done ++ [c]) = fin at hset htr hpr
    have hlf : fin.length = a.length + 1 := by rw [← hset, List.length_set, hlr]
    generalize rowU done 1 = ro at hgr hset hlr ⊢
    refine aw_step [5] [23] (by simp [hla, hgr, hlr, hset, hq4, hki, hcw] <;> rfl) ?_   -- nat.go:65
    refine aw_seq (aw_region ?_)   -- nat.go:66
    refine awl_go 1 (by simp <;> rfl) ?_
    refine awl_freeze 23 [61] [] (by simp [hpr, hlf] <;> rfl) ?_
    refine awl_call1 htr Tryz.func134 rfl (by kernel_rfl) rfl rfl rfl (by simp <;> rfl) (by simp [hpr]) (by simp <;> rfl) ?_
    refine awl_end [4] [] (by simp <;> rfl) ?_
    refine aw_ret (ends_ret (by simp [Tryz.results132] <;> rfl) ?_)
    rfl
end Go.Proofs.YtliogkkhofhfcaaGreatDoor

/- Query: natural numbers of limbs: Mul. No condition. -/
set_option linter.unusedSimpArgs false
set_option maxRecDepth 4000
namespace Go.Proofs.YtliogkkhofhfcaaGreatDoor
open Go.Eng

theorem valN_set : ∀ (q : List Nat) (m z : Nat), m < q.length → valN (q.set m z) + limbAt q m * 4294967296 ^ m = valN q + z * 4294967296 ^ m
  | x :: q, 0, z, _ => by simp [valN, limbAt]; omega
  | x :: q, m + 1, z, h => by
    have := valN_set q m z (by simpa using h)
    have e : limbAt (x :: q) (m + 1) = limbAt q m := by simp [limbAt]
    rw [e, List.set_cons_succ, valN, valN, Nat.pow_succ, ← Nat.mul_assoc, ← Nat.mul_assoc]
    omega
theorem rowU_nthm {q : List Nat} {n m : Nat} (h : m < q.length) : nth (rowU q n) m = some (.int .u32 (limbAt q m)) := by
  rw [nth_eq, rowU, List.getElem?_map, List.getElem?_append_left h, limbAt, List.getElem?_eq_getElem h]; rfl
theorem rowU_setm {q : List Nat} {n m : Nat} (h : m < q.length) (z : Nat) : (rowU q n).set m (.int .u32 (z : Int)) = rowU (q.set m z) n := by
  simp only [rowU, u32s, List.map_append]
  rw [List.set_append_left _ _ (by simpa using h), List.map_set]
theorem limbs_set {q : List Nat} (h : limbs q) (m : Nat) {z : Nat} (hz : z < 4294967296) : limbs (q.set m z) := fun x hx => by
  rcases List.mem_or_eq_of_mem_set hx with h1 | h1
  · exact h x h1
  · omega
theorem mul_step {vq vq' vs x y c t u T Bm : Nat} (h : vq' + c * Bm = T) (hs : vs + u * Bm = vq' + t % 4294967296 * Bm) (ht : t = x * y + u + c) :
    vs + t / 4294967296 * (Bm * 4294967296) = T + x * y * Bm := by
  have h1 : t % 4294967296 * Bm + t / 4294967296 * (Bm * 4294967296) = t * Bm := by
    rw [Nat.mul_comm Bm 4294967296, ← Nat.mul_assoc, ← Nat.add_mul]
    congr 1
    omega
  have h2 : t * Bm = x * y * Bm + u * Bm + c * Bm := by rw [ht, Nat.add_mul, Nat.add_mul]
  omega
theorem prod_lt {x y u c : Nat} (hx : x < 4294967296) (hy : y < 4294967296) (hu : u < 4294967296) (hc : c < 4294967296) : x * y + u + c < 18446744073709551616 := by
  have : x * y ≤ 4294967295 * 4294967295 := Nat.mul_le_mul (by omega) (by omega)
  omega

set_option maxHeartbeats 8000000 in
theorem mul_ac (l1 l2 : List Nat) (h1 : limbs l1) (h2 : limbs l2) (hs1 : l1.length ≤ 1000000) (hs2 : l2.length ≤ 1000000) : AC Tryz.prog 133 [.ro 1 (u32s l1), .ro 1 (u32s l2)] (fun r => r = .ro 1 (u32s (natL (valN l1 * valN l2)))) := by
  have ht1 := trim_ac l1 h1
  have ht2 := trim_ac l2 h2
  have hl1 : (natL (valN l1)).length ≤ 1000000 := by
    rw [← trimL_val l1 h1]; exact Nat.le_trans (trimL_len l1) hs1
  have hl2 : (natL (valN l2)).length ≤ 1000000 := by
    rw [← trimL_val l2 h2]; exact Nat.le_trans (trimL_len l2) hs2
  have ha := limbs_natL (valN l1)
  have hb := limbs_natL (valN l2)
  have hv1 := valN_natL (valN l1)
  have hv2 := valN_natL (valN l2)
  generalize natL (valN l1) = a at ht1 hl1 ha hv1
  generalize natL (valN l2) = b at ht2 hl2 hb hv2
  rw [← hv1, ← hv2]
  have hp1 := u32s_pure a
  have hp2 := u32s_pure b
  have hpl1 := u32s_pure l1
  have hpl2 := u32s_pure l2
  have hla : (u32s a).length = a.length := by simp
  have hlb : (u32s b).length = b.length := by simp
  have hna := fun k h => nthU a k h
  have hnb := fun k h => nthU b k h
  obtain ⟨s1, hs1, hs1'⟩ : ∃ s : Int, IntKind.i64.wrap ((a.length : Int) + (b.length : Int)) = s ∧ s = ((a.length + b.length : Nat) : Int) := ⟨_, rfl, by rw [wrap_in (by omega) (by omega)]; omega⟩
  have hq1 : 4 * s1 ≤ 281474976710656 := by omega
  have hq2 : s1 ≤ 9223372036854775807 := by omega
  have hq3 : 0 ≤ s1 := by omega
  have hq4 : s1.toNat = a.length + b.length := by omega
  generalize u32s a = av at ht1 hla hna hp1
  generalize u32s b = bv at ht2 hlb hnb hp2
  refine ac_intro Tryz.func133 rfl (by show (2 : Nat) ≤ 72; omega) (fun w0 N0 => ?_)
  refine aw_step [0, 1] [] (by simp [Tryz.ntmps133] <;> rfl) ?_   -- nat.go:89
  refine aw_seq (aw_region ?_)   -- nat.go:90
  refine awl_go 1 (by simp <;> rfl) ?_
  refine awl_call1 ht1 Tryz.func134 rfl (by kernel_rfl) rfl rfl rfl (by simp <;> rfl) (by simp [hpl1]) (by simp <;> rfl) ?_
  refine awl_go 1 (by simp <;> rfl) ?_
  refine awl_call1 ht2 Tryz.func134 rfl (by kernel_rfl) rfl rfl rfl (by simp <;> rfl) (by simp [hpl2]) (by simp <;> rfl) ?_
  refine awl_end [0, 1] [] (by simp <;> rfl) ?_
  refine aw_step [0, 1, 5] [21] (by simp [hla, hlb, hs1, hq1, hq2, hq3] <;> rfl) ?_   -- nat.go:91
  refine aw_seq ?_
  refine aw_step [1, 5, 22, 23, 24] [21] (by simp [hla] <;> rfl) ?_   -- nat.go:92
  refine aw_block ?_
  refine aw_loop (fun p : Nat × List Nat × Nat => ⟨[(1, .ro 1 bv), (5, .sl 21 12 1 s1.toNat), (22, .ro 1 av), (23, .int .i64 a.length), (24, .int .i64 p.1)], [(21, ⟨12, 1, 130, rowU p.2.1 (a.length - p.1)⟩)], p.2.2, 72⟩)
    (fun p => p.1 ≤ a.length ∧ p.2.1.length = p.1 + b.length ∧ limbs p.2.1 ∧ valN p.2.1 = valN (a.take p.1) * valN b) (fun p => a.length - p.1) (0, List.replicate b.length 0, 100) ⟨by simp, by simp, by intro x hx; simp at hx; omega, by simp [valN_zeros, valN]⟩ ?_ ?_
  · have heq : rowU (List.replicate b.length 0) (a.length - 0) = List.replicate s1.toNat (.int .u32 0) := by
      rw [rowU, hq4, List.replicate_append_replicate]; simp [u32V, Nat.add_comm]
    simp only [heq]
    exact le_to [1, 5, 22, 23, 24] [21] rfl rfl rfl (by simp only; omega)
  rintro ⟨i, q, nx⟩ ⟨hi, hq, hql, hI⟩
  simp only at hi hq hql hI
  refine aw_step [1, 5, 22, 23, 24, 25] [21] (by simp <;> rfl) ?_   -- nat.go:92
  refine aw_seq ?_
  refine aw_cond rfl (fun h1 => aw_skip ?_) (fun h1 => ?_)   -- if t25
  · have hlt : i < a.length := by simp at h1; omega
    obtain ⟨n, hn⟩ : ∃ n, a.length - i = n + 1 := ⟨a.length - i - 1, by omega⟩
    have hga := hna i hlt
    have hxa := limbAt_lt ha i
    have hta := take_step a i
    have hwi := wrap_succ (k := i) (by omega)
    have hltA : i < av.length := by omega
    generalize limbAt a i = x at hga hxa hta
    have hx64 : IntKind.u64.wrap (x : Int) = x := wrap_u64 (by omega)
    rw [hn]
    refine aw_seq ?_
    refine aw_block ?_
    refine aw_step [1, 5, 6, 7, 22, 23, 24] [21] (by simp [hga, hltA] <;> rfl) ?_   -- nat.go:92
    refine aw_step [1, 5, 6, 7, 8, 22, 23, 24] [21] (by simp <;> rfl) ?_   -- nat.go:93
    refine aw_viaE (fun p : List Nat × Nat × Nat => ⟨[(1, .ro 1 bv), (5, .sl 21 12 1 s1.toNat), (6, .int .i64 i), (8, .int .u64 p.2.1), (22, .ro 1 av), (23, .int .i64 a.length), (24, .int .i64 i)], [(21, ⟨12, 1, 130, rowU p.1 (n + 1)⟩)], p.2.2, 72⟩)
      (fun p => p.1.length = i + b.length ∧ limbs p.1 ∧ p.2.1 < 4294967296 ∧ valN p.1 + p.2.1 * 4294967296 ^ (i + b.length) = valN q + x * valN b * 4294967296 ^ i) ?_ ?_
    · refine aw_step [1, 5, 6, 7, 8, 22, 23, 24, 29, 30, 31] [21] (by simp [hlb] <;> rfl) ?_   -- nat.go:94
      refine aw_block ?_
      refine aw_loop (fun p : Nat × List Nat × Nat × Nat => ⟨[(1, .ro 1 bv), (5, .sl 21 12 1 s1.toNat), (6, .int .i64 i), (7, .int .u32 x), (8, .int .u64 p.2.2.1), (22, .ro 1 av), (23, .int .i64 a.length), (24, .int .i64 i), (29, .ro 1 bv), (30, .int .i64 b.length), (31, .int .i64 p.1)], [(21, ⟨12, 1, 130, rowU p.2.1 (n + 1)⟩)], p.2.2.2, 72⟩)
        (fun p => p.1 ≤ b.length ∧ p.2.1.length = i + b.length ∧ limbs p.2.1 ∧ p.2.2.1 < 4294967296 ∧ valN p.2.1 + p.2.2.1 * 4294967296 ^ (i + p.1) = valN q + x * valN (b.take p.1) * 4294967296 ^ i) (fun p => b.length - p.1) (0, q, 0, _) ⟨by simp, by simp only; omega, hql, by simp, by simp [valN]⟩ (by simp; exact AS.le_refl _) ?_
      rintro ⟨j, q', c, nx2⟩ ⟨hj, hq', hql', hc, hI'⟩
      simp only at hj hq' hql' hc hI'
      refine aw_step [1, 5, 6, 7, 8, 22, 23, 24, 29, 30, 31, 32] [21] (by simp <;> rfl) ?_   -- nat.go:94
      refine aw_seq ?_
      refine aw_cond rfl (fun h2 => aw_skip ?_) (fun h2 => ?_)   -- if t32
      · have hjl : j < b.length := by simp at h2; omega
        have hgb := hnb j hjl
        have hxb := limbAt_lt hb j
        have htb := take_step b j
        have hwj := wrap_succ (k := j) (by omega)
        have hltB : j < bv.length := by omega
        generalize limbAt b j = y at hgb hxb htb
        have hy64 : IntKind.u64.wrap (y : Int) = y := wrap_u64 (by omega)
        obtain ⟨m, hm⟩ : ∃ m, i + j = m := ⟨_, rfl⟩
        have hml : m < q'.length := by omega
        have hgq := rowU_nthm (q := q') (n := n + 1) hml
        have hub := limbAt_lt hql' m
        have hset := fun z => rowU_setm (q := q') (n := n + 1) hml z
        have hvs := fun z => valN_set q' m z hml
        have hls := fun (z : Nat) (hz : z < 4294967296) => limbs_set hql' m hz
        have hlen : (rowU q' (n + 1)).length = a.length + b.length := by rw [rowU_len]; omega
        generalize limbAt q' m = u at hgq hub hvs
        have hu64 : IntKind.u64.wrap (u : Int) = u := wrap_u64 (by omega)
        have hplt := prod_lt hxa hxb hub hc
        obtain ⟨z1, hz1, hz1'⟩ : ∃ z : Int, IntKind.u64.wrap ((x : Int) * (y : Int)) = z ∧ z = ((x * y : Nat) : Int) := ⟨_, rfl, by rw [← Int.natCast_mul]; exact wrap_u64 (by omega)⟩
        obtain ⟨z2, hz2, hz2'⟩ : ∃ z : Int, IntKind.u64.wrap (z1 + (u : Int)) = z ∧ z = ((x * y + u : Nat) : Int) := ⟨_, rfl, by rw [hz1', u64_add (by omega)]⟩
        obtain ⟨z3, hz3, hz3'⟩ : ∃ z : Int, IntKind.u64.wrap (z2 + (c : Int)) = z ∧ z = ((x * y + u + c : Nat) : Int) := ⟨_, rfl, by rw [hz2', u64_add (by omega)]⟩
        obtain ⟨mi, hmi, hmi'⟩ : ∃ z : Int, IntKind.i64.wrap ((i : Int) + (j : Int)) = z ∧ z = (m : Int) := ⟨_, rfl, by rw [wrap_in (by omega) (by omega)]; omega⟩
        have hm0 : 0 ≤ mi ∧ mi < (a.length : Int) + b.length := by omega
        have hmn : mi.toNat = m := by omega
        have hwz : IntKind.u32.wrap z3 = (((x * y + u + c) % 4294967296 : Nat) : Int) := by rw [hz3', wrap_u32]
        have hsz : z3.fdiv (2 ^ min 32 IntKind.u64.bits) = (((x * y + u + c) / 4294967296 : Nat) : Int) := by rw [hz3', shr32]
        have hI2 := hI'
        rw [hm] at hI2
        have hst := mul_step (vq := 0) (x := x) (y := y) (t := x * y + u + c) hI2 (hvs _) rfl
        have hset' := hset ((x * y + u + c) % 4294967296)
        have hls' := hls ((x * y + u + c) % 4294967296) (Nat.mod_lt _ (by omega))
        have hcl : (x * y + u + c) / 4294967296 < 4294967296 := by omega
        generalize (x * y + u + c) % 4294967296 = lo at hwz hset' hls' hst
        generalize (x * y + u + c) / 4294967296 = hi' at hsz hst hcl
        generalize hro : rowU q' (n + 1) = ro at hgq hlen hset' ⊢
        refine aw_seq ?_
        refine aw_block ?_
        refine aw_step [1, 5, 6, 7, 8, 9, 10, 22, 23, 24, 29, 30, 31] [21] (by simp [hgb, hltB] <;> rfl) ?_   -- nat.go:94
        refine aw_step [1, 5, 6, 7, 9, 11, 22, 23, 24, 29, 30, 31] [21] (by simp [hx64, hy64, hu64, hz1, hz2, hz3, hmi, hm0, hmn, hgq, hlen, hq4] <;> rfl) ?_   -- nat.go:95
        refine aw_step [1, 5, 6, 7, 11, 22, 23, 24, 29, 30, 31] [21] (by simp [hmi, hm0, hmn, hgq, hlen, hwz, hset'] <;> rfl) ?_   -- nat.go:96
        refine aw_one [1, 5, 6, 7, 8, 22, 23, 24, 29, 30, 31] [21] (by simp [hsz] <;> rfl) ?_   -- nat.go:97
        refine aw_one [1, 5, 6, 7, 8, 22, 23, 24, 29, 30, 31] [21] (by simp [hwj] <;> rfl) ?_   -- nat.go:94
        refine ⟨(j + 1, q'.set m lo, hi', nx2 + 1 + 5 + 16 + 8 + 3 + 2), ⟨hjl, by rw [List.length_set]; exact hq', hls', hcl, ?_⟩, by simp only; omega, ?_⟩
        · simp only
          rw [← Nat.add_assoc i j 1, hm, Nat.pow_succ, hst, htb]
          rw [Nat.mul_add, Nat.add_mul, ← hm, Nat.pow_add]
          have e : x * (y * 4294967296 ^ j) * 4294967296 ^ i = x * y * (4294967296 ^ i * 4294967296 ^ j) := by
            rw [← Nat.mul_assoc x y, Nat.mul_assoc (x * y), Nat.mul_comm (4294967296 ^ j)]
          rw [e]; omega
        · have hc1 : ((j + 1 : Nat) : Int) = (j : Int) + 1 := by omega
          simp only [hc1, hq4]
          exact AS.le_refl _
      · refine aw_exit ?_
        have hje : j = b.length := by simp at h2; omega
        subst hje
        rw [List.take_length] at hI'
        exact ⟨(q', c, nx2 + 1), ⟨hq', hql', hc, hI'⟩, le_to [1, 5, 6, 8, 22, 23, 24] [21] rfl rfl rfl (by simp only; omega)⟩
    rintro ⟨q', c, nx3⟩ ⟨hq', hql', hc, hI'⟩
    simp only at hq' hql' hc hI'
    have hcw : IntKind.u32.wrap (c : Int) = (c : Int) := by rw [wrap_u32]; omega
    obtain ⟨mi, hmi, hmi'⟩ : ∃ z : Int, IntKind.i64.wrap ((i : Int) + (b.length : Int)) = z ∧ z = ((i + b.length : Nat) : Int) := ⟨_, rfl, by rw [wrap_in (by omega) (by omega)]; omega⟩
    have hm0 : 0 ≤ mi ∧ mi < (a.length : Int) + b.length := by omega
    have hmn : mi.toNat = i + b.length := by omega
    have hgr := rowU_nth (done := q') (k := i + b.length) (n := n) hq'
    have hset := rowU_set (done := q') (k := i + b.length) (n := n) hq' c
    have hlr : (rowU q' (n + 1)).length = a.length + b.length := by rw [rowU_len]; omega
    generalize hro : rowU q' (n + 1) = ro at hgr hlr hset ⊢
    refine aw_one [1, 5, 22, 23, 24] [21] (by simp [hlb, hmi, hm0, hmn, hgr, hlr, hset, hcw, hq4] <;> rfl) ?_   -- nat.go:99
    refine aw_one [1, 5, 22, 23, 24] [21] (by simp [hwi] <;> rfl) ?_   -- nat.go:92
    refine ⟨(i + 1, q' ++ [c], nx3 + 9 + 2), ⟨hlt, by simp; omega, limbs_append hql' (by intro z hz; simp at hz; omega), ?_⟩, by simp only; omega, ?_⟩
    · simp only
      rw [valN_append, hq', hta, Nat.add_mul, ← hI]
      simp only [valN, Nat.mul_zero, Nat.add_zero]
      rw [Nat.mul_comm (4294967296 ^ (i + b.length)) c, hI', Nat.mul_assoc x, Nat.mul_assoc x, Nat.mul_comm (valN b)]
    · have hc1 : ((i + 1 : Nat) : Int) = (i : Int) + 1 := by omega
      have hn1 : a.length - (i + 1) = n := by omega
      simp only [hc1, hq4, hn1]
      exact AS.le_refl _
  · refine aw_exit ?_
    have hie : i = a.length := by simp at h1; omega
    subst hie
    rw [List.take_length] at hI
    have htr := trim_ac q hql
    rw [hI] at htr
    have hpr := u32s_pure q
    have hlq : (u32s q).length = a.length + b.length := by simpa using hq
    have hro : rowU q (a.length - a.length) = u32s q := by simp [rowU]
    rw [hro]
    generalize u32s q = fin at htr hpr hlq
    refine aw_seq (aw_region ?_)   -- nat.go:101
    refine awl_go 1 (by simp <;> rfl) ?_
    refine awl_freeze 21 [70] [] (by simp [hpr, hlq, hq4] <;> rfl) ?_
    refine awl_call1 htr Tryz.func134 rfl (by kernel_rfl) rfl rfl rfl (by simp <;> rfl) (by simp [hpr]) (by simp <;> rfl) ?_
    refine awl_end [4] [] (by simp <;> rfl) ?_
    refine aw_ret (ends_ret (by simp [Tryz.results133] <;> rfl) ?_)
    rfl
end Go.Proofs.YtliogkkhofhfcaaGreatDoor

/- Query: decimal notation read as a number of limbs. No condition. -/
set_option linter.unusedSimpArgs false
set_option maxRecDepth 4000
namespace Go.Proofs.YtliogkkhofhfcaaGreatDoor
open Go.Eng

def isDig (c : UInt8) : Bool := decide (48 ≤ c.toNat) && decide (c.toNat ≤ 57)
def decF (s : List UInt8) (n : Nat) : Nat := s.foldl (fun n c => n * 10 + (c.toNat - 48)) n
/-- Whether a word is decimal notation. -/
def decOk : List UInt8 → Bool
  | [] => false
  | c :: r => !(decide (c.toNat = 48) && decide (0 < r.length)) && (c :: r).all isDig
def natPV (s : List UInt8) : V :=
  if decOk s = false then .tup [.ro 1 [], .int .i64 2] else if 400 < s.length then .tup [.ro 1 [], .int .i64 5] else .tup [.ro 1 (u32s (natL (decF s 0))), .int .i64 0]
theorem natL_len : ∀ (k n : Nat), n < 4294967296 ^ k → (natL n).length ≤ k
  | 0, n, h => by simp at h; subst h; simp [natL_zero]
  | k + 1, n, h => by
    by_cases h0 : n = 0
    · subst h0; simp [natL_zero]
    · rw [natL_pos h0, List.length_cons]
      have := natL_len k (n / 4294967296) (by rw [Nat.pow_succ] at h; exact Nat.div_lt_of_lt_mul (by rw [Nat.mul_comm]; exact h))
      omega
theorem decF_succ (s : List UInt8) (k : Nat) (h : k < s.length) (n : Nat) : decF (s.take (k + 1)) n = decF (s.take k) n * 10 + (s[k].toNat - 48) := by
  rw [List.take_succ_eq_append_getElem h, decF, List.foldl_append]; rfl
theorem decF_lt (s : List UInt8) (h : s.all isDig = true) : ∀ k, k ≤ s.length → decF (s.take k) 0 < 10 ^ k
  | 0, _ => by simp [decF]
  | k + 1, hk => by
    have := decF_lt s h k (by omega)
    rw [decF_succ s k (by omega), Nat.pow_succ]
    have hd : isDig s[k] = true := by rw [List.all_eq_true] at h; exact h _ (List.getElem_mem _)
    simp [isDig] at hd
    omega
theorem natmul10 (n : Nat) (h : (natL n).length ≤ 1000000) : AC Tryz.prog 133 [.ro 1 (u32s (natL n)), .ro 1 (u32s (natL 10))] (fun r => r = .ro 1 (u32s (natL (n * 10)))) := by
  have h10 : (natL 10).length ≤ 1 := natL_len 1 10 (by omega)
  have := mul_ac (natL n) (natL 10) (limbs_natL n) (limbs_natL 10) h (by omega)
  rwa [valN_natL, valN_natL] at this
theorem natadd (n d : Nat) (h : (natL n).length ≤ 1000000) (h2 : (natL d).length ≤ 1000000) : AC Tryz.prog 132 [.ro 1 (u32s (natL n)), .ro 1 (u32s (natL d))] (fun r => r = .ro 1 (u32s (natL (n + d)))) := by
  have := add_ac (natL n) (natL d) (limbs_natL n) (limbs_natL d) h h2
  rwa [valN_natL, valN_natL] at this

set_option maxHeartbeats 4000000 in
theorem natParse_ac (s : List UInt8) (hs : s.length ≤ 1000000) : AC Tryz.prog 125 [.str s] (fun r => r = natPV s) := by
  refine AC.relaxP ?_
  have hbadR : decOk s = false → Relax (.tup [.nils, .int .i64 2]) (natPV s) := fun h => by
    unfold natPV; rw [if_pos h]; exact Relax.tup (.cons (.nils 1) (.refl _))
  have hg := fun (k : Nat) (h : k < s.length) => nthS h
  refine ac_intro Tryz.func125 rfl (by show (1 : Nat) ≤ 57; omega) (fun w0 N0 => ?_)
  refine aw_step [0] [] (by simp [Tryz.ntmps125] <;> rfl) ?_   -- nat.go:268
  refine aw_seq ?_
  by_cases hne : s = []
  · subst hne
    refine aw_step [0, 19] [] (by simp <;> rfl) ?_   -- nat.go:269
    refine aw_cond rfl (fun h1 => ?_) (fun h1 => by simp at h1)   -- if t19
    refine aw_step [2, 3] [] (by simp <;> rfl) ?_   -- nat.go:270
    exact aw_ret (ends_ret (by simp [Tryz.results125] <;> rfl) (hbadR rfl))
  have hpos : 0 < s.length := List.length_pos_iff.2 hne
  have hg0 := hg 0 hpos
  have hok : decOk s = (!(decide (s[0].toNat = 48) && decide (1 < s.length)) && s.all isDig) := by
    cases s with
    | nil => exact absurd rfl hne
    | cons c r => simp [decOk]
  generalize s[0] = c0 at hg0 hok
  refine aw_step [0, 19] [] (by simp [hne, hg0, hpos] <;> rfl) ?_   -- nat.go:269
  refine aw_cond rfl (fun h1 => ?_) (fun h1 => aw_skip ?_)   -- if t19
  · refine aw_step [2, 3] [] (by simp <;> rfl) ?_   -- nat.go:270
    refine aw_ret (ends_ret (by simp [Tryz.results125] <;> rfl) (hbadR ?_))
    rw [hok]
    simp at h1
    have hc : c0.toNat = 48 := by omega
    have hl : 1 < s.length := by omega
    simp [hc, hl]
  have hok2 : decOk s = s.all isDig := by
    rw [hok]
    simp at h1
    by_cases hc : c0.toNat = 48
    · have hl : ¬ 1 < s.length := by
        intro hl
        have := h1 (by omega)
        omega
      simp [hc, hl]
    · simp [hc]
  refine aw_seq ?_
  refine aw_step [0, 4] [] (by simp <;> rfl) ?_   -- nat.go:272
  refine aw_block ?_
  refine aw_count (fun k nx => ⟨[(0, .str s), (4, .int .i64 k)], [], nx, 57⟩) (fun k => (s.take k).all isDig = true) s.length _ (by simp) (AS.le_refl _) ?_
  intro k nx hk hI
  refine aw_seq ?_
  refine aw_step [0, 4, 23] [] (by simp <;> rfl) ?_   -- nat.go:272
  refine aw_cond rfl (fun h2 => aw_skip ?_) (fun h2 => ?_)   -- if t23
  · have hlt : k < s.length := by simp at h2; omega
    have ga := hg k hlt
    have hw := wrap_succ (k := k) (by omega)
    have htk := List.take_succ_eq_append_getElem (l := s) (i := k) hlt
    have hmem : s[k] ∈ s := List.getElem_mem hlt
    generalize s[k] = c at ga htk hmem
    refine aw_seq ?_
    refine aw_block ?_
    refine aw_step [0, 4, 35] [] (by simp [ga, hlt] <;> rfl) ?_   -- nat.go:273
    refine aw_cond rfl (fun h3 => ?_) (fun h3 => aw_skip ?_)   -- if t35
    · refine aw_step [2, 3] [] (by simp <;> rfl) ?_   -- nat.go:274
      refine aw_ret (ends_ret (by simp [Tryz.results125] <;> rfl) (hbadR ?_))
      rw [hok2, List.all_eq_false]
      refine ⟨c, hmem, ?_⟩
      simp at h3
      simp [isDig]
      omega
    have hc : isDig c = true := by
      simp at h3
      simp [isDig]
      omega
    refine aw_one [0, 4] [] (by simp [hw] <;> rfl) ?_   -- nat.go:272
    exact ⟨hlt, by rw [htk, List.all_append, hI]; simp [hc], _, AS.le_refl _⟩
  refine aw_exit ?_
  have hke : k = s.length := by simp at h2; omega
  rw [hke, List.take_length] at hI
  rw [hI] at hok2
  refine aw_seq ?_
  refine aw_step [0, 38] [] (by simp <;> rfl) ?_   -- nat.go:277
  refine aw_cond rfl (fun h4 => ?_) (fun h4 => aw_skip ?_)   -- if t38
  · refine aw_step [2, 3] [] (by simp <;> rfl) ?_   -- nat.go:278
    refine aw_ret (ends_ret (by simp [Tryz.results125] <;> rfl) ?_)
    have hbig : 400 < s.length := by simp at h4; omega
    unfold natPV
    rw [if_neg (by rw [hok2]; simp), if_pos hbig]
    exact Relax.tup (.cons (.nils 1) (.refl _))
  have hsm : s.length ≤ 400 := by simp at h4; omega
  have hgood : natPV s = .tup [.ro 1 (u32s (natL (decF s 0))), .int .i64 0] := by
    unfold natPV; rw [if_neg (by rw [hok2]; simp), if_neg (by omega)]
  rw [hgood]
  have hof := of_ac 10 (by omega)
  have hp10 := u32s_pure (natL 10)
  refine aw_seq (aw_region ?_)   -- nat.go:280
  refine awl_call1 hof Tryz.func131 rfl (by kernel_rfl) rfl rfl rfl (by simp <;> rfl) (by simp) (by simp <;> rfl) ?_
  refine awl_end [0, 5] [] (by simp <;> rfl) ?_
  refine aw_step [0, 5, 6] [] (by simp <;> rfl) ?_   -- nat.go:281
  refine aw_relax 6 (.ro 1 (u32s (natL (decF (s.take 0) 0)))) [0, 5, 6] [] rfl rfl (by rw [List.take_zero, decF, List.foldl_nil, natL_zero]; exact Relax.nils 1) (by simp <;> rfl) ?_
  refine aw_seq ?_
  refine aw_step [0, 5, 6, 7] [] (by simp <;> rfl) ?_   -- nat.go:282
  refine aw_block ?_
  refine aw_count (fun k nx => ⟨[(0, .str s), (5, .ro 1 (u32s (natL 10))), (6, .ro 1 (u32s (natL (decF (s.take k) 0)))), (7, .int .i64 k)], [], nx, 57⟩) (fun k => True) s.length _ trivial (AS.le_refl _) ?_
  intro k2 nx2 hk2 _
  refine aw_seq ?_
  refine aw_step [0, 5, 6, 7, 43] [] (by simp <;> rfl) ?_   -- nat.go:282
  refine aw_cond rfl (fun h5 => aw_skip ?_) (fun h5 => ?_)   -- if t43
  · have hlt : k2 < s.length := by simp at h5; omega
    have ga := hg k2 hlt
    have hw := wrap_succ (k := k2) (by omega)
    have hdk := decF_lt s hI k2 (by omega)
    have hdk1 := decF_lt s hI (k2 + 1) (by omega)
    rw [decF_succ s k2 hlt] at hdk1 ⊢
    have hd : isDig s[k2] = true := by rw [List.all_eq_true] at hI; exact hI _ (List.getElem_mem _)
    have hpw : ∀ k, k ≤ 401 → 10 ^ k ≤ 4294967296 ^ k := fun k _ => Nat.pow_le_pow_left (by omega) k
    have hmul := natmul10 (decF (s.take k2) 0) (Nat.le_trans (natL_len k2 _ (Nat.lt_of_lt_of_le hdk (hpw _ (by omega)))) (by omega))
    have hadd := natadd (decF (s.take k2) 0 * 10) (s[k2].toNat - 48) (Nat.le_trans (natL_len (k2 + 1) _ (Nat.lt_of_lt_of_le (by omega) (hpw _ (by omega)))) (by omega)) (Nat.le_trans (natL_len 1 _ (by have := s[k2].toNat_lt; omega)) (by omega))
    have hofd := of_ac (s[k2].toNat - 48) (by have := s[k2].toNat_lt; omega)
    generalize s[k2] = c at ga hd hdk1 hadd hofd ⊢
    have hcd : IntKind.u64.wrap (IntKind.u8.wrap ((c.toNat : Int) - 48)) = ((c.toNat - 48 : Nat) : Int) := by
      simp [isDig] at hd
      rw [IntKind.wrap_u8, IntKind.wrap_u64]; omega
    have q1 := u32s_pure (natL (decF (s.take k2) 0))
    have q2 := u32s_pure (natL (decF (s.take k2) 0 * 10))
    have q3 := u32s_pure (natL (c.toNat - 48))
    generalize u32s (natL (decF (s.take k2) 0)) = v1 at hmul q1 ⊢
    generalize u32s (natL (decF (s.take k2) 0 * 10)) = v2 at hmul hadd q2 ⊢
    generalize u32s (natL (c.toNat - 48)) = v3 at hadd hofd q3 ⊢
    generalize u32s (natL 10) = v10 at hmul hp10 ⊢
    generalize ((c.toNat - 48 : Nat) : Int) = ci at hofd hcd
    refine aw_seq ?_
    refine aw_block ?_
    refine aw_draw [(0, []), (1, []), (2, []), (3, []), (4, []), (5, []), (6, []), (7, []), (8, []), (9, []), (10, [])] hmix (by kernel_rfl) ?_   -- nat.go:283
    refine awo_go 2 (by simp <;> rfl) ?_
    refine awo_call (fun hg => hmul) Tryz.func133 rfl (by kernel_rfl) rfl rfl (by simp <;> rfl) rfl rfl (by simp <;> rfl) (by simp [q1, hp10]) (by simp <;> rfl) ?_
    refine awo_go 5 (by simp [ga, hlt, hcd] <;> rfl) ?_
    refine awo_call (fun hg => hofd) Tryz.func131 rfl (by kernel_rfl) rfl rfl (by simp <;> rfl) rfl rfl (by simp <;> rfl) (by simp) (by simp <;> rfl) ?_
    refine awo_call (fun hg => hadd) Tryz.func132 rfl (by kernel_rfl) rfl rfl (by simp <;> rfl) rfl rfl (by simp <;> rfl) (by simp [q2, q3]) (by simp <;> rfl) ?_
    refine awo_end [0, 5, 6, 7] [] (by simp <;> rfl) ?_
    refine aw_one [0, 5, 6, 7] [] (by simp [hw] <;> rfl) ?_   -- nat.go:282
    exact ⟨hlt, trivial, _, AS.le_refl _⟩
  · refine aw_exit ?_
    refine aw_step [2, 3] [] (by simp <;> rfl) ?_   -- nat.go:285
    refine aw_ret (ends_ret (by simp [Tryz.results125] <;> rfl) ?_)
    have hke2 : k2 = s.length := by simp at h5; omega
    rw [hke2, List.take_length]
    exact .refl _
end Go.Proofs.YtliogkkhofhfcaaGreatDoor
