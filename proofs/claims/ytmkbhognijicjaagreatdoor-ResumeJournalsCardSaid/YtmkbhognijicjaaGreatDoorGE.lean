import Derived.Test.YtmkbhognijicjaaGreatDoorGD
/- Joins: numbers written in bytes, the digest at the end, copies and prefixes of bytes. No condition. -/
set_option linter.unusedSimpArgs false
set_option maxRecDepth 4000
namespace Go.Proofs.YtmkbhognijicjaaGreatDoor
open Go.Eng

set_option maxHeartbeats 1000000 in
theorem put_aca (es : List UInt8) (x n : Nat) (_hx : x < 2 ^ 64) (hn : n ≤ 8) (hl : es.length ≤ 2 ^ 40) : ACA Tryz.prog 33 [.int .u64 x, .int .i64 n] 1 5 (bys es) (bys (putB x n)) := by
  refine aca_intro Tryz.func33 rfl (by show (3 : Nat) ≤ 23; omega) (fun d v w0 N0 nx0 => ?_)
  have hw0 : IntKind.i64.wrap ((n : Int) - 1) = (n : Int) - 1 := wrap_in (by omega) (by omega)
  refine awk_step (d + 1) [0, 1, 2] [d] (by simp [Tryz.ntmps33] <;> rfl) ?_   -- journal.go:30
  refine aw_seq ?_
  refine awk_step (d + 1) [0, 1, 7] [d] (by simp [hw0] <;> rfl) ?_   -- journal.go:31
  refine aw_block ?_
  refine aw_loop (fun p : Nat × List UInt8 × Nat × Nat => ⟨[(0, .sl d p.2.2.1 1 (bys (es ++ p.2.1)).length), (1, .int .u64 x), (7, .int .i64 ((p.1 : Int) - 1))], [(d, ⟨p.2.2.1, 1, 5, bys (es ++ p.2.1)⟩)], p.2.2.2, 23⟩) (fun p => p.1 ≤ n ∧ p.2.1 ++ putB x p.1 = putB x n ∧ nx0 ≤ p.2.2.2) (fun p => p.1) (n, [], v, nx0 + 1 + 3) ⟨Nat.le_refl _, rfl, by simp only; omega⟩ (by simp only [List.append_nil, List.length_map]; exact AS.le_refl _) ?_
  rintro ⟨k, p, v', nx⟩ ⟨hk, hp, hnx⟩
  simp only at hk hp hnx
  have hpl : p.length ≤ 8 := by have := congrArg List.length hp; simp [putB_len] at this; omega
  have hb1 : es.length + p.length + 1 ≤ maxLen := by simp [maxLen]; omega
  have hb2 : es.length + p.length ≤ 140737488355327 := by omega
  refine aw_seq ?_
  refine awk_step (d + 1) [0, 1, 7, 11] [d] (by simp <;> rfl) ?_   -- journal.go:31
  refine aw_cond rfl (fun h1 => aw_skip ?_) (fun h1 => ?_)   -- if t11
  · have hpos : 0 < k := by simp at h1; omega
    obtain ⟨j, rfl⟩ : ∃ j, k = j + 1 := ⟨k - 1, by omega⟩
    have hsh := shr_byte x j (by omega)
    obtain ⟨jj, hjj, hjv⟩ : ∃ jj : Int, ((j + 1 : Nat) : Int) - 1 = jj ∧ jj = j := ⟨_, rfl, by omega⟩
    obtain ⟨e8, he8, he8'⟩ : ∃ e8 : Int, IntKind.i64.wrap (8 * jj) = e8 ∧ e8 = 8 * (j : Int) := ⟨_, rfl, by rw [wrap_in (by omega) (by omega)]; omega⟩
    rw [← he8'] at hsh
    have hnn : ¬ e8 < 0 := by omega
    obtain ⟨sv, hsv⟩ : ∃ sv : Int, (x : Int).fdiv (2 ^ min e8.toNat IntKind.u64.bits) = sv := ⟨_, rfl⟩
    have hsv2 : sv = ((x / 256 ^ j : Nat) : Int) := by rw [← hsv, hsh]
    obtain ⟨bv, hbv, hob⟩ : ∃ bv : Int, IntKind.u8.wrap sv = bv ∧ V.int .u8 bv = byV (UInt8.ofNat (x / 256 ^ j % 256)) := by
      refine ⟨_, rfl, ?_⟩
      rw [byV_of (by omega), hsv2, IntKind.wrap_u8]
      congr 1
    have hwe : IntKind.i64.wrap (jj - 1) = (j : Int) - 1 := by rw [wrap_in (by omega) (by omega)]; omega
    rw [hjj]
    refine aw_seq ?_
    refine aw_block ?_
    refine awk_one (d + 1) [0, 1, 7] [d] (by simp [he8, hnn, hsv, hbv, hb1, hb2] <;> rfl) ?_   -- journal.go:32
    refine awk_one (d + 1) [0, 1, 7] [d] (by simp [hwe] <;> rfl) ?_   -- journal.go:31
    refine ⟨(j, p ++ [UInt8.ofNat (x / 256 ^ j % 256)], nx + 2 + 7, nx + 14), ⟨by simp only; omega, ?_, by simp only; omega⟩, by simp only; omega, ?_⟩
    · simp only [List.append_assoc, List.singleton_append]
      exact hp
    · simp only [hob, List.map_append, List.append_assoc, List.map_cons, List.map_nil, List.length_append, List.length_map, List.length_cons, List.length_nil]
      exact AS.le_refl _
  · have hk0 : k = 0 := by simp at h1; omega
    subst hk0
    refine aw_exit ?_
    refine awk_step (d + 1) [6] [d] (by simp <;> rfl) ?_   -- journal.go:34
    refine aw_ret ?_
    rw [← hp]
    refine endsA (v' := v') (by simp only; omega) ?_ ?_
    · simp [Tryz.results33, putB]
    · simp [putB]
set_option maxHeartbeats 1000000 in
theorem putNil_aco (x n : Nat) (_hx : x < 2 ^ 64) (hn : n ≤ 8) : ACO Tryz.prog 33 [.nils, .int .u64 x, .int .i64 n] 1 5 (fun F es' => (F = fun d q => .sl d q 1 (bys (putB x n)).length) ∧ es' = bys (putB x n)) := by
  refine aco_intro Tryz.func33 rfl (by show (3 : Nat) ≤ 23; omega) (fun w0 N0 => ?_)
  have hw0 : IntKind.i64.wrap ((n : Int) - 1) = (n : Int) - 1 := wrap_in (by omega) (by omega)
  refine aw_step [0, 1, 2] [] (by simp [Tryz.ntmps33] <;> rfl) ?_   -- journal.go:30
  refine aw_adoptS 0 100 1 5 [0, 1, 2] [100] (by simp <;> rfl) (by simp <;> rfl) ?_
  refine aw_seq ?_
  refine aw_step [0, 1, 7] [100] (by simp [hw0] <;> rfl) ?_   -- journal.go:31
  refine aw_block ?_
  refine aw_loop (fun p : Nat × List UInt8 × Nat × Nat => ⟨[(0, .sl 100 p.2.2.1 1 (bys p.2.1).length), (1, .int .u64 x), (7, .int .i64 ((p.1 : Int) - 1))], [(100, ⟨p.2.2.1, 1, 5, bys p.2.1⟩)], p.2.2.2, 23⟩) (fun p => p.1 ≤ n ∧ p.2.1 ++ putB x p.1 = putB x n) (fun p => p.1) (n, [], _, _) ⟨Nat.le_refl _, rfl⟩ (by simp only [List.map_nil, List.length_nil]; exact AS.le_refl _) ?_
  rintro ⟨k, p, v', nx⟩ ⟨hk, hp⟩
  simp only at hk hp
  have hpl : p.length ≤ 8 := by have := congrArg List.length hp; simp [putB_len] at this; omega
  have hb1 : p.length + 1 ≤ maxLen := by simp [maxLen]; omega
  have hb2 : p.length ≤ 140737488355327 := by omega
  refine aw_seq ?_
  refine aw_step [0, 1, 7, 11] [100] (by simp <;> rfl) ?_   -- journal.go:31
  refine aw_cond rfl (fun h1 => aw_skip ?_) (fun h1 => ?_)   -- if t11
  · have hpos : 0 < k := by simp at h1; omega
    obtain ⟨j, rfl⟩ : ∃ j, k = j + 1 := ⟨k - 1, by omega⟩
    have hsh := shr_byte x j (by omega)
    obtain ⟨jj, hjj, hjv⟩ : ∃ jj : Int, ((j + 1 : Nat) : Int) - 1 = jj ∧ jj = j := ⟨_, rfl, by omega⟩
    obtain ⟨e8, he8, he8'⟩ : ∃ e8 : Int, IntKind.i64.wrap (8 * jj) = e8 ∧ e8 = 8 * (j : Int) := ⟨_, rfl, by rw [wrap_in (by omega) (by omega)]; omega⟩
    rw [← he8'] at hsh
    have hnn : ¬ e8 < 0 := by omega
    obtain ⟨sv, hsv⟩ : ∃ sv : Int, (x : Int).fdiv (2 ^ min e8.toNat IntKind.u64.bits) = sv := ⟨_, rfl⟩
    have hsv2 : sv = ((x / 256 ^ j : Nat) : Int) := by rw [← hsv, hsh]
    obtain ⟨bv, hbv, hob⟩ : ∃ bv : Int, IntKind.u8.wrap sv = bv ∧ V.int .u8 bv = byV (UInt8.ofNat (x / 256 ^ j % 256)) := by
      refine ⟨_, rfl, ?_⟩
      rw [byV_of (by omega), hsv2, IntKind.wrap_u8]
      congr 1
    have hwe : IntKind.i64.wrap (jj - 1) = (j : Int) - 1 := by rw [wrap_in (by omega) (by omega)]; omega
    rw [hjj]
    refine aw_seq ?_
    refine aw_block ?_
    refine aw_one [0, 1, 7] [100] (by simp [he8, hnn, hsv, hbv, hb1, hb2] <;> rfl) ?_   -- journal.go:32
    refine aw_one [0, 1, 7] [100] (by simp [hwe] <;> rfl) ?_   -- journal.go:31
    refine ⟨(j, p ++ [UInt8.ofNat (x / 256 ^ j % 256)], nx + 2 + 7, nx + 14), ⟨by simp only; omega, ?_⟩, by simp only; omega, ?_⟩
    · simp only [List.append_assoc, List.singleton_append]
      exact hp
    · simp only [hob, List.map_append, List.append_assoc, List.map_cons, List.map_nil, List.length_append, List.length_map, List.length_cons, List.length_nil]
      exact AS.le_refl _
  · have hk0 : k = 0 := by simp at h1; omega
    subst hk0
    simp only [putB, List.append_nil] at hp
    refine aw_exit ?_
    refine aw_step [6] [100] (by simp <;> rfl) ?_   -- journal.go:34
    refine aw_ret (endso_row 100 rfl rfl rfl (bys_flat p) (by simp [Tryz.results33] <;> rfl) ?_)
    subst hp
    exact ⟨by simp, rfl⟩

/-- The digest at the end of a journal. -/
def endD (l : List UInt8) : Int := if l.length < 8 then dig0 else getB (l.drop (l.length - 8))
theorem end_ac (l : List UInt8) : AC Tryz.prog 36 [.ro 1 (bys l)] (fun r => r = .int .u64 (endD l)) := by
  have hc := get_ac (l.drop (l.length - 8))
  have hl := bysL l
  have hd : (bys l).drop (l.length - 8) = bys (l.drop (l.length - 8)) := by simp
  refine ac_lenR 0 rfl (fun hmax => ?_)
  unfold maxLen at hmax
  have hp := bys_pure (l.drop (l.length - 8))
  rw [← hd, ← hl] at hc
  rw [← hd, ← hl] at hp
  unfold endD
  generalize bys l = lv at hc hl hmax hp
  refine ac_intro Tryz.func36 rfl (by show (1 : Nat) ≤ 13; omega) (fun w0 N0 => ?_)
  refine aw_step [0] [] (by simp [Tryz.ntmps36] <;> rfl) ?_   -- journal.go:113
  refine aw_seq ?_
  refine aw_step [0, 5] [] (by simp <;> rfl) ?_   -- journal.go:114
  refine aw_cond rfl (fun h1 => ?_) (fun h1 => aw_skip ?_)   -- if t5
  · have h8 : l.length < 8 := by simp at h1; omega
    refine aw_seq (aw_region ?_)   -- journal.go:115
    refine awl_call1 ofNil_ac Tryz.func46 rfl (by kernel_rfl) rfl rfl rfl rfl rfl (by simp <;> rfl) ?_
    refine awl_end [2] [] (by simp <;> rfl) ?_
    refine aw_ret (ends_ret (by simp [Tryz.results36] <;> rfl) ?_)
    rw [if_pos h8]
  have h8 : ¬ l.length < 8 := by simp at h1; omega
  rw [if_neg h8]
  obtain ⟨m8, hm8, hm8'⟩ : ∃ m8 : Int, IntKind.i64.wrap ((lv.length : Int) - 8) = m8 ∧ m8 = ((lv.length - 8 : Nat) : Int) := ⟨_, rfl, by rw [wrap_in (by omega) (by omega)]; omega⟩
  have ht : m8.toNat = lv.length - 8 := by omega
  have ht2 : lv.length - m8.toNat = (lv.drop m8.toNat).length := by simp
  have hb : 0 ≤ m8 ∧ m8 ≤ lv.length := by omega
  refine aw_seq (aw_region ?_)   -- journal.go:117
  refine awl_go 5 (by simp [hm8, hb] <;> rfl) ?_
  have hc' : AC Tryz.prog 61 [.ro 1 ((lv.drop m8.toNat).take (lv.length - m8.toNat))] (fun r => r = .int .u64 (getB (l.drop (l.length - 8)))) := by
    rw [ht2, List.take_length, ht, hl]
    rw [hl] at hc
    exact hc
  refine awl_call1 hc' Tryz.func61 rfl (by kernel_rfl) rfl rfl rfl (by simp <;> rfl) (by simp) (by simp <;> rfl) ?_
  refine awl_end [2] [] (by simp <;> rfl) ?_
  refine aw_ret (ends_ret (by simp [Tryz.results36] <;> rfl) ?_)
  rfl

theorem clone_ac (l : List UInt8) (hl : l.length ≤ 2 ^ 40) : AC Tryz.prog 34 [.ro 1 (bys l)] (fun r => r = .ro 1 (bys l)) := by
  have hf := bys_flat l
  have hp := bys_pure l
  have hll := bysL l
  generalize bys l = lv at hf hp hll
  have hb1 : lv.length ≤ maxLen := by simp [maxLen]; omega
  have hb2 : lv.length ≤ 140737488355328 := by omega
  refine ac_intro Tryz.func34 rfl (by show (1 : Nat) ≤ 8; omega) (fun w0 N0 => ?_)
  refine aw_step [0] [] (by simp [Tryz.ntmps34] <;> rfl) ?_
  refine aw_seq ?_
  refine aw_seq (aw_region ?_)
  refine awl_go 1 (by simp <;> rfl) ?_
  refine awl_isnil rfl rfl (by simp <;> rfl) rfl (by kernel_rfl) (fun b hb => ⟨_, by simp <;> rfl, ?_⟩)
  refine awl_end [0, 4] [] (by simp <;> rfl) ?_
  refine aw_cond rfl (fun h1 => ?_) (fun h1 => aw_skip ?_)
  · have h0 : lv = [] := List.eq_nil_of_length_eq_zero (hb h1)
    subst h0
    refine aw_step [2] [] (by simp <;> rfl) ?_
    refine aw_adoptS 2 100 1 5 [2] [100] (by simp <;> rfl) (by simp <;> rfl) ?_
    exact aw_ret (ends_ret (by simp [Tryz.results34] <;> rfl) rfl)
  refine aw_step [2] [5] (by simp [hb1, hb2] <;> rfl) ?_
  exact aw_ret (ends_ret (by simp [Tryz.results34, hp] <;> rfl) rfl)

theorem bytesV_bys : ∀ l : List UInt8, bytesV (bys l) = some l
  | [] => rfl
  | b :: l => by
    have ih := bytesV_bys l
    have h1 : ((b.toNat : Int)).toNat = b.toNat := by simp
    have h2 : b.toNat < 256 := b.toNat_lt
    simp only [List.map_cons, byV, bytesV, ih, h1]
    rw [if_pos (by omega)]
    simp

theorem equal_ac (a b : List UInt8) : AC Tryz.prog 77 [.ro 1 (bys a), .ro 1 (bys b)] (fun r => r = .bool (decide (a = b))) := by
  have ha := bytesV_bys a
  have hb := bytesV_bys b
  generalize bys a = av at ha
  generalize bys b = bv at hb
  refine ac_intro Tryz.func77 rfl (by show (2 : Nat) ≤ 10; omega) (fun w0 N0 => ?_)
  refine aw_step [0, 1] [] (by simp [Tryz.ntmps77] <;> rfl) ?_
  refine aw_step [4] [] (by simp [ha, hb] <;> rfl) ?_
  exact aw_ret (ends_ret (by simp [Tryz.results77] <;> rfl) rfl)

/-- a begins with b. -/
def begB (a b : List UInt8) : Bool := decide (b.length ≤ a.length) && decide (a.take b.length = b)
theorem hasPrefix_ac (a b : List UInt8) : AC Tryz.prog 53 [.ro 1 (bys a), .ro 1 (bys b)] (fun r => r = .bool (begB a b)) := by
  have hc := equal_ac (a.take b.length) b
  have hpa := bys_pure (a.take b.length)
  have hpb := bys_pure b
  have hta : bys (a.take b.length) = (bys a).take b.length := by simp
  have hla := bysL a
  have hlb := bysL b
  rw [hta] at hc hpa
  rw [← hlb] at hc hpa
  unfold begB
  rw [← hla, ← hlb]
  generalize hav : bys a = av at hc hpa hla
  generalize hbv : bys b = bv at hc hpa hpb hlb
  refine ac_intro Tryz.func53 rfl (by show (2 : Nat) ≤ 18; omega) (fun w0 N0 => ?_)
  refine aw_step [0, 1] [] (by simp [Tryz.ntmps53] <;> rfl) ?_
  refine aw_seq (aw_region ?_)
  by_cases hle : bv.length ≤ av.length
  · refine awl_go 11 (by simp [hle] <;> rfl) ?_
    refine awl_gcall (fun hg => hc) Tryz.func77 rfl (by kernel_rfl) (by simp <;> rfl) rfl rfl (by simp <;> rfl) (by simp [hpa, hpb]) (by simp <;> rfl) ?_
    refine awl_end [4] [] (by simp [hle] <;> rfl) ?_
    refine aw_ret (ends_ret (by simp [Tryz.results53] <;> rfl) ?_)
    simp [hle]
  · have hnl : av.length < bv.length := by omega
    refine awl_go 6 (by simp [hle] <;> rfl) ?_
    refine awl_skips 6 (by simp [hle, hnl] <;> rfl) ?_
    refine awl_end [4] [] (by simp [hle, hnl] <;> rfl) ?_
    refine aw_ret (ends_ret (by simp [Tryz.results53] <;> rfl) ?_)
    simp [hle]
theorem extends_ac (a b : List UInt8) : AC Tryz.prog 24 [.ro 1 (bys a), .ro 1 (bys b)] (fun r => r = .bool (begB a b)) := by
  have hc := hasPrefix_ac a b
  have hpa := bys_pure a
  have hpb := bys_pure b
  generalize bys a = av at hc hpa
  generalize bys b = bv at hc hpb
  refine ac_intro Tryz.func24 rfl (by show (2 : Nat) ≤ 8; omega) (fun w0 N0 => ?_)
  refine aw_step [0, 1] [] (by simp [Tryz.ntmps24] <;> rfl) ?_
  refine aw_seq (aw_region ?_)
  refine awl_go 2 (by simp <;> rfl) ?_
  refine awl_call1 hc Tryz.func53 rfl (by kernel_rfl) rfl rfl rfl rfl (by simp [hpa, hpb]) (by simp <;> rfl) ?_
  refine awl_end [4] [] (by simp <;> rfl) ?_
  exact aw_ret (ends_ret (by simp [Tryz.results24] <;> rfl) rfl)
end Go.Proofs.YtmkbhognijicjaaGreatDoor

/- Joins: the encoding of trees. No condition. -/
set_option linter.unusedSimpArgs false
set_option maxRecDepth 4000
namespace Go.Proofs.YtmkbhognijicjaaGreatDoor
open Go.Eng


/-- The natural number that stands for an integer, as the code computes it. -/
def foldI (n : Int) : Int := bits .xor .u64 (IntKind.u64.wrap (IntKind.u64.wrap n * 2)) (IntKind.u64.wrap (n.fdiv (2 ^ 63)))
theorem bits_range (op : BinOp) (x y : Int) : 0 ≤ bits op .u64 x y ∧ bits op .u64 x y < 2 ^ 64 := by
  unfold bits
  simp only [IntKind.wrap_u64]
  omega
def foldN (n : Int) : Nat := (foldI n).toNat
theorem foldN_lt (n : Int) : foldN n < 2 ^ 64 := by have := bits_range .xor (IntKind.u64.wrap (IntKind.u64.wrap n * 2)) (IntKind.u64.wrap (n.fdiv (2 ^ 63))); unfold foldN foldI; omega
theorem fold1_ac (n : Int) : AC Tryz.prog 79 [.int .i64 n] (fun r => r = .int .u64 (foldN n)) := by
  have h0 : ((foldN n : Nat) : Int) = foldI n := by
    have := bits_range .xor (IntKind.u64.wrap (IntKind.u64.wrap n * 2)) (IntKind.u64.wrap (n.fdiv (2 ^ 63)))
    unfold foldN foldI
    omega
  rw [h0]
  refine ac_intro Tryz.func79 rfl (by show (1 : Nat) ≤ 10; omega) (fun w0 N0 => ?_)
  refine aw_step [0] [] (by simp [Tryz.ntmps79] <;> rfl) ?_   -- codec.go:40
  refine aw_step [2] [] (by simp <;> rfl) ?_   -- codec.go:41
  exact aw_ret (ends_ret (by simp [Tryz.results79] <;> rfl) rfl)

/-- The encoding of a tree. -/
def byN : Nd → List UInt8
  | .mk t k n s ks => vEnc t.toNat ++ UInt8.ofNat k.toNat :: (if k = 1 then vEnc (foldN n) else if k = 2 then vEnc s.length ++ s else vEnc ks.length ++ (ks.map byN).flatten)
/-- A tree that can be encoded, but for its size. -/
def Wf : Nd → Prop
  | .mk t k _ s ks => 0 ≤ t ∧ t ≤ 9999999 ∧ 1 ≤ k ∧ k ≤ 3 ∧ s.length ≤ 2000 ∧ ks.length ≤ 1024 ∧ ∀ x ∈ ks, Wf x
theorem flatten_take (l : List (List UInt8)) (k : Nat) (h : k < l.length) : (l.take (k + 1)).flatten = (l.take k).flatten ++ l[k] := by
  rw [List.take_succ_eq_append_getElem h, List.flatten_append]
  simp only [List.flatten_cons, List.flatten_nil, List.append_nil]
theorem flatten_take_le (l : List (List UInt8)) (k : Nat) : (l.take k).flatten.length ≤ l.flatten.length := by
  have : l.flatten = (l.take k).flatten ++ (l.drop k).flatten := by rw [← List.flatten_append, List.take_append_drop]
  rw [this]; simp

set_option maxHeartbeats 4000000 in
theorem appendNode_aca : ∀ (m : Nat) (x : Nd) (es : List UInt8), SizeOf.sizeOf x < m → Wf x → es.length + (byN x).length ≤ 2 ^ 39 → ACA Tryz.prog 58 [x.v] 1 5 (bys es) (bys (byN x)) := by
  intro m
  induction m with
  | zero => intro x es h; omega
  | succ m ih =>
  intro x es hm hwf hlen
  obtain ⟨t, kd, n, s, ks⟩ := x
  have ih' : ∀ y ∈ ks, ∀ es' : List UInt8, es'.length + (byN y).length ≤ 2 ^ 39 → ACA Tryz.prog 58 [y.v] 1 5 (bys es') (bys (byN y)) := fun y hy es' hl => ih y es' (by have := Nd.kid_lt (t := t) (k := kd) (n := n) (s := s) hy; omega) (by rw [Wf] at hwf; exact hwf.2.2.2.2.2.2 y hy) hl
  rw [Wf] at hwf
  obtain ⟨ht0, ht1, hk0, hk1, hs, hks, _⟩ := hwf
  rw [byN] at hlen ⊢
  simp only [List.length_append, List.length_cons] at hlen
  have hkl : (ks.map Nd.v).length = ks.length := by simp
  have hga := fun (k : Nat) (h : k < ks.length) => nthN h
  rw [Nd.v]
  generalize ks.map Nd.v = kv at hkl hga
  refine aca_intro Tryz.func58 rfl (by show (2 : Nat) ≤ 55; omega) (fun d v w0 N0 nx0 => ?_)
  obtain ⟨tn, htn⟩ : ∃ tn : Nat, t = tn := ⟨t.toNat, by omega⟩
  obtain ⟨kn, hkn⟩ : ∃ kn : Nat, kd = kn := ⟨kd.toNat, by omega⟩
  subst htn
  subst hkn
  simp only [Int.toNat_natCast] at hlen ⊢
  have hwt : IntKind.u64.wrap (tn : Int) = tn := u64_in (by omega)
  obtain ⟨bk, hbk, hob⟩ : ∃ bk : Int, IntKind.u8.wrap (kn : Int) = bk ∧ V.int .u8 bk = byV (UInt8.ofNat kn) := by
    refine ⟨_, rfl, ?_⟩
    rw [byV_of (by omega), IntKind.wrap_u8]
    congr 1
    omega
  have hc1 := appendVarint_aca es tn (by omega) (by omega)
  have hf1 : (bys es ++ bys (vEnc tn)).all flatE = true := by rw [List.all_append, bys_flat, bys_flat]; rfl
  generalize hv1 : vEnc tn = v1 at hc1 hf1 hlen
  have hb1 : es.length + v1.length + 1 ≤ maxLen := by simp [maxLen]; omega
  have hb2 : es.length + v1.length ≤ 140737488355327 := by omega
  refine awk_step (d + 1) [0, 3] [d, d + 1 + 3] (by simp [Tryz.ntmps58] <;> rfl) ?_   -- codec.go:118
  refine aw_seqE ⟨[(0, .sl d (nx0 + 2 + 9) 1 (bys (es ++ v1 ++ [UInt8.ofNat kn])).length), (3, .bp (d + 1 + 3) nx0 5 0 0)], [(d, ⟨nx0 + 2 + 9, 1, 5, bys (es ++ v1 ++ [UInt8.ofNat kn])⟩), (d + 1 + 3, ⟨nx0, 5, 42, [.agg [.int .i64 tn, .int .i64 kn, .int .i64 n, .str s, .ro 5 kv]]⟩)], nx0 + 2 + 11, 55⟩ (awk_drawX (d + 1) [4] hmix ?_) ?_
  · refine at_go [(0, []), (1, []), (5, []), (2, [15]), (3, [])] (by kernel_rfl) (by simp [hwt] <;> rfl) ?_
    refine at_fork [4, 6] (by kernel_rfl) (fun i hi => ?_)
    simp only [List.mem_cons, List.not_mem_nil, or_false] at hi
    rcases hi with rfl | rfl
    · refine ⟨_, _, rfl, sx_callA (d := d) (v := v) (by decide) hc1 hf1 Tryz.func80 rfl (by kernel_rfl) rfl rfl rfl (by simp <;> rfl) (by simp <;> rfl) (by simp <;> rfl), ?_⟩
      refine at_go [(6, [15]), (7, []), (8, []), (9, []), (10, [])] (by kernel_rfl) (by simp [hbk, hb1, hb2] <;> rfl) ?_
      exact at_end [0, 3] [d, d + 1 + 3] (by kernel_rfl) (by simp <;> rfl) (by simp [hob]; try omega)
    · refine ⟨_, _, rfl, sx_go (by simp <;> rfl), ?_⟩
      refine at_go [(7, [])] (by kernel_rfl) (by simp [hbk] <;> rfl) ?_
      refine at_fork [4, 8] (by kernel_rfl) (fun i hi => ?_)
      simp only [List.mem_cons, List.not_mem_nil, or_false] at hi
      rcases hi with rfl | rfl
      · refine ⟨_, _, rfl, sx_callA (d := d) (v := v) (by decide) hc1 hf1 Tryz.func80 rfl (by kernel_rfl) rfl rfl rfl (by simp <;> rfl) (by simp <;> rfl) (by simp <;> rfl), ?_⟩
        refine at_go [(8, []), (9, []), (10, [])] (by kernel_rfl) (by simp [hb1, hb2] <;> rfl) ?_
        exact at_end [0, 3] [d, d + 1 + 3] (by kernel_rfl) (by simp <;> rfl) (by simp [hob]; try omega)
      · refine ⟨_, _, rfl, sx_go (by simp <;> rfl), ?_⟩
        refine at_fork [4] (by kernel_rfl) (fun i hi => ?_)
        simp only [List.mem_cons, List.not_mem_nil, or_false] at hi
        subst hi
        refine ⟨_, _, rfl, sx_callA (d := d) (v := v) (by decide) hc1 hf1 Tryz.func80 rfl (by kernel_rfl) rfl rfl rfl (by simp <;> rfl) (by simp <;> rfl) (by simp <;> rfl), ?_⟩
        refine at_go [(9, []), (10, [])] (by kernel_rfl) (by simp [hb1, hb2] <;> rfl) ?_
        exact at_end [0, 3] [d, d + 1 + 3] (by kernel_rfl) (by simp <;> rfl) (by simp [hob]; try omega)
  obtain ⟨q1, hq1⟩ : ∃ q1, q1 = es ++ v1 ++ [UInt8.ofNat kn] := ⟨_, rfl⟩
  rw [← hq1]
  have hq1l : q1.length = es.length + v1.length + 1 := by rw [hq1]; simp; omega
  have hfin : ∀ rest, bys es ++ bys (v1 ++ UInt8.ofNat kn :: rest) = bys (q1 ++ rest) := by intro rest; simp [hq1]
  rw [hfin]
  refine aw_seq ?_
  refine awk_step (d + 1) [0, 3, 18] [d, d + 1 + 3] (by simp <;> rfl) ?_   -- codec.go:120
  refine aw_block ?_
  refine awk_step (d + 1) [0, 3, 18, 19] [d, d + 1 + 3] (by simp <;> rfl) ?_   -- codec.go:121
  refine aw_cond rfl (fun h1 => ?_) (fun h1 => ?_)   -- if t19
  · have hkn : ((kn : Nat) : Int) = 1 := by simp at h1; omega
    rw [if_pos hkn] at hlen ⊢
    have hc2 := fold1_ac n
    have hc3 := appendVarint_aca q1 (foldN n) (foldN_lt n) (by omega)
    have hf3 : (bys q1 ++ bys (vEnc (foldN n))).all flatE = true := by rw [List.all_append, bys_flat, bys_flat]; rfl
    generalize hv2 : vEnc (foldN n) = v2 at hc3 hf3
    refine aw_seq (aw_region ?_)   -- codec.go:122
    refine awlk_go (d + 1) 3 (by simp <;> rfl) ?_
    refine awl_call1 hc2 Tryz.func79 rfl (by kernel_rfl) rfl rfl rfl (by simp <;> rfl) (by simp) (by simp <;> rfl) ?_
    refine awl_callA (d := d) (v := nx0 + 2 + 9) hc3 hf3 Tryz.func80 rfl (by kernel_rfl) (by decide) rfl rfl rfl (by simp <;> rfl) (by simp <;> rfl) (by simp <;> rfl) ?_
    refine awlk_end (d + 1) [4] [d] (by simp <;> rfl) ?_
    refine aw_ret ?_
    refine endsA (v' := nx0 + 2 + 11 + 2 + 2 + 4) (by simp only; omega) ?_ ?_
    · simp [Tryz.results58]
    · simp
  · have hkn1 : ¬ ((kn : Nat) : Int) = 1 := by simp at h1; omega
    rw [if_neg hkn1] at hlen ⊢
    refine awk_step (d + 1) [0, 3, 26] [d, d + 1 + 3] (by simp <;> rfl) ?_   -- codec.go:123
    refine aw_cond rfl (fun h2 => ?_) (fun h2 => aw_skip ?_)   -- if t26
    · have hkn2 : ((kn : Nat) : Int) = 2 := by simp at h2; omega
      rw [if_pos hkn2] at hlen ⊢
      simp only [List.length_append] at hlen
      have hws : IntKind.u64.wrap (s.length : Int) = s.length := u64_in (by omega)
      have hc3 := appendVarint_aca q1 s.length (by omega) (by omega)
      have hf3 : (bys q1 ++ bys (vEnc s.length)).all flatE = true := by rw [List.all_append, bys_flat, bys_flat]; rfl
      generalize hv2 : vEnc s.length = v2 at hc3 hf3 hlen
      have hb3 : q1.length + v2.length + s.length ≤ maxLen := by simp [maxLen]; omega
      have hb4 : q1.length + v2.length + s.length ≤ 140737488355328 := by omega
      refine aw_seqE ⟨[(4, .sl d (nx0 + 2 + 11 + 2 + 2 + 2 + 8) 1 (bys (q1 ++ v2 ++ s)).length)], [(d, ⟨nx0 + 2 + 11 + 2 + 2 + 2 + 8, 1, 5, bys (q1 ++ v2 ++ s)⟩)], nx0 + 2 + 11 + 2 + 2 + 2 + 10, 55⟩ (awk_drawX (d + 1) [5] hmix ?_) ?_   -- codec.go:124
      · refine at_go [(0, []), (1, []), (6, []), (2, []), (3, []), (4, [])] (by kernel_rfl) (by simp [hws] <;> rfl) ?_
        refine at_fork [5, 7] (by kernel_rfl) (fun i hi => ?_)
        simp only [List.mem_cons, List.not_mem_nil, or_false] at hi
        rcases hi with rfl | rfl
        · refine ⟨_, _, rfl, sx_callA (d := d) (v := nx0 + 2 + 9) (by decide) hc3 hf3 Tryz.func80 rfl (by kernel_rfl) rfl rfl rfl (by simp <;> rfl) (by simp <;> rfl) (by simp <;> rfl), ?_⟩
          refine at_go [(7, []), (8, []), (9, [])] (by kernel_rfl) (by simp [hb3, hb4] <;> rfl) ?_
          exact at_end [4] [d] (by kernel_rfl) (by simp <;> rfl) (by simp; try omega)
        · refine ⟨_, _, rfl, sx_go (by simp <;> rfl), ?_⟩
          refine at_fork [5] (by kernel_rfl) (fun i hi => ?_)
          simp only [List.mem_cons, List.not_mem_nil, or_false] at hi
          subst hi
          refine ⟨_, _, rfl, sx_callA (d := d) (v := nx0 + 2 + 9) (by decide) hc3 hf3 Tryz.func80 rfl (by kernel_rfl) rfl rfl rfl (by simp <;> rfl) (by simp <;> rfl) (by simp <;> rfl), ?_⟩
          refine at_go [(8, []), (9, [])] (by kernel_rfl) (by simp [hb3, hb4] <;> rfl) ?_
          exact at_end [4] [d] (by kernel_rfl) (by simp <;> rfl) (by simp; try omega)
      refine aw_ret ?_
      rw [← List.append_assoc]
      exact endsA (v' := nx0 + 2 + 11 + 2 + 2 + 2 + 8) (by simp only; omega) (by simp [Tryz.results58]) (by simp)
    have hkn2 : ¬ ((kn : Nat) : Int) = 2 := by simp at h2; omega
    rw [if_neg hkn2] at hlen ⊢
    simp only [List.length_append] at hlen
    have hwk : IntKind.u64.wrap (kv.length : Int) = kv.length := u64_in (by omega)
    have hc3 := appendVarint_aca q1 ks.length (by omega) (by omega)
    have hf3 : (bys q1 ++ bys (vEnc ks.length)).all flatE = true := by rw [List.all_append, bys_flat, bys_flat]; rfl
    generalize hv2 : vEnc ks.length = v2 at hc3 hf3 hlen
    rw [← hkl] at hc3
    refine aw_seq (aw_region ?_)   -- codec.go:126
    refine awlk_go (d + 1) 5 (by simp [hwk] <;> rfl) ?_
    refine awl_callA (d := d) (v := nx0 + 2 + 9) hc3 hf3 Tryz.func80 rfl (by kernel_rfl) (by decide) rfl rfl rfl (by simp <;> rfl) (by simp <;> rfl) (by simp <;> rfl) ?_
    refine awlk_end (d + 1) [0, 3] [d, d + 1 + 3] (by simp <;> rfl) ?_
    refine aw_seq ?_
    refine awk_step (d + 1) [0, 44, 45, 46] [d] (by simp <;> rfl) ?_   -- codec.go:127
    refine aw_block ?_
    obtain ⟨cf, hcf⟩ : ∃ cf : Nat → List UInt8, ∀ k, cf k = ((ks.map byN).take k).flatten := ⟨_, fun _ => rfl⟩
    have hcf0 : cf 0 = [] := by rw [hcf]; rfl
    refine aw_loop (fun p : Nat × Nat × Nat => ⟨[(0, .sl d p.2.1 1 (bys (q1 ++ v2 ++ cf p.1)).length), (44, .ro 5 kv), (45, .int .i64 kv.length), (46, .int .i64 p.1)], [(d, ⟨p.2.1, 1, 5, bys (q1 ++ v2 ++ cf p.1)⟩)], p.2.2, 55⟩) (fun p => p.1 ≤ ks.length ∧ nx0 ≤ p.2.2) (fun p => ks.length - p.1) (0, nx0 + 2 + 11 + 2 + 2 + 2 + 5, nx0 + 2 + 11 + 2 + 2 + 2 + 7 + 4) ⟨Nat.zero_le _, by simp only; omega⟩ (by simp [hcf0]; exact AS.le_refl _) ?_
    rintro ⟨k, v', nx⟩ ⟨hk, hnx⟩
    simp only at hk hnx
    refine awk_step (d + 1) [0, 44, 45, 46, 47] [d] (by simp <;> rfl) ?_   -- codec.go:127
    refine aw_seq ?_
    refine aw_cond rfl (fun h3 => aw_skip ?_) (fun h3 => ?_)   -- if t47
    · have hlt : k < ks.length := by simp at h3; omega
      have hlt' : k < kv.length := by omega
      have ga := hga k hlt
      have hw := wrap_succ (k := k) (by omega)
      have hlt2 : k < (ks.map byN).length := by simpa using hlt
      have hfl := flatten_take (ks.map byN) k hlt2
      have hfle := flatten_take_le (ks.map byN) (k + 1)
      rw [hfl] at hfle
      rw [← hcf, ← hcf] at hfl
      rw [← hcf] at hfle
      simp only [List.getElem_map, List.length_append] at hfle hfl
      have hck := ih' ks[k] (List.getElem_mem hlt) (q1 ++ v2 ++ cf k) (by simp only [List.length_append]; omega)
      have hfk : (bys (q1 ++ v2 ++ cf k) ++ bys (byN ks[k])).all flatE = true := by rw [List.all_append, bys_flat, bys_flat]; rfl
      generalize hkb : byN ks[k] = kb at hck hfk hfl
      rcases hkk : ks[k] with ⟨kt, kk, kn', kss, kks⟩
      rw [hkk] at ga hck
      rw [Nd.v] at ga hck
      generalize kks.map Nd.v = kkv at ga hck
      generalize hcur : cf k = cur at hck hfk hfl
      refine aw_seq ?_
      refine aw_block ?_
      refine awk_step (d + 1) [0, 6, 44, 45, 46] [d, d + 1 + 6] (by simp [ga, hlt'] <;> rfl) ?_   -- codec.go:127
      refine aw_region ?_   -- codec.go:128
      refine awlk_go (d + 1) 2 (by simp <;> rfl) ?_
      refine awl_callA (d := d) (v := v') hck hfk Tryz.func58 rfl (by kernel_rfl) (by decide) rfl rfl rfl (by simp <;> rfl) (by simp <;> rfl) (by simp <;> rfl) ?_
      refine awlk_end (d + 1) [0, 44, 45, 46] [d] (by simp <;> rfl) ?_
      refine awk_one (d + 1) [0, 44, 45, 46] [d] (by simp [hw] <;> rfl) ?_   -- codec.go:127
      refine ⟨(k + 1, nx + 1 + 4 + 2, nx + 1 + 4 + 4 + 2), ⟨hlt, by simp only; omega⟩, by simp only; omega, ?_⟩
      simp only [hfl, List.map_append, List.append_assoc, List.length_append, List.length_map]
      exact AS.le_refl _
    · have hkl2 : k = ks.length := by simp at h3; omega
      have hall : cf k = (ks.map byN).flatten := by rw [hcf, List.take_of_length_le (by simp; omega)]
      rw [← hall]
      refine aw_exit ?_
      refine awk_step (d + 1) [4] [d] (by simp <;> rfl) ?_   -- codec.go:130
      refine aw_ret ?_
      rw [← List.append_assoc]
      exact endsA (v' := v') (by simp only; omega) (by simp [Tryz.results58]) (by simp)
end Go.Proofs.YtmkbhognijicjaaGreatDoor

/- Resume: the tree of an event can be encoded; decoding gives the event back; the law ResumeRoundTrip. No condition. -/
set_option linter.unusedSimpArgs false
set_option maxRecDepth 4000
namespace Go.Proofs.YtmkbhognijicjaaGreatDoor
open Go.Eng

def Nd.tx : Nd → List UInt8
  | .mk _ _ _ s _ => s
def c1 (x : Nd) : Int := 21 + x.tx.length + 21 * x.kids.length
theorem sumC_const (l : List Int) (c : Nd → Int) (h : ∀ n, c (num 0 n) = 21) : sumC c (chN l) = 21 * l.length := by
  induction l with
  | nil => simp [chN, sumC]
  | cons n l ih =>
    simp only [chN, List.map_cons, sumC, List.length_cons] at ih ⊢
    rw [h]
    push_cast
    omega
theorem numM_ac (t n lv r : Int) (ht : 0 ≤ t ∧ t ≤ 9999999) (hlv : 1 ≤ lv ∧ lv ≤ 8) (h1 : 21 ≤ r) (h2 : r ≤ 1048576) :
    AC Tryz.prog 57 [(num t n).v, .int .i64 lv, .int .i64 r] (fun q => ∃ k : Int, q = .tup [.int .i64 k, .bool true] ∧ 0 ≤ k ∧ k ≤ 21) := by
  have := measure_ac t 1 n [] [] lv r c1 ht hlv h2 (.inl ⟨rfl, rfl, rfl⟩) (by simp) (by simp) (by simpa [sumC] using h1)
  simpa [sumC, num] using this
theorem strM_ac (t : Int) (s : List UInt8) (lv r : Int) (ht : 0 ≤ t ∧ t ≤ 9999999) (hlv : 1 ≤ lv ∧ lv ≤ 8) (hs : s.length ≤ 2000) (h1 : 21 + s.length ≤ r) (h2 : r ≤ 1048576) :
    AC Tryz.prog 57 [(Nd.mk t 2 0 s []).v, .int .i64 lv, .int .i64 r] (fun q => ∃ k : Int, q = .tup [.int .i64 k, .bool true] ∧ 0 ≤ k ∧ k ≤ 21 + s.length) := by
  have := measure_ac t 2 0 s [] lv r c1 ht hlv h2 (.inr (.inl ⟨rfl, rfl, rfl, hs⟩)) (by simp) (by simp) (by simpa [sumC] using h1)
  simpa [sumC] using this
theorem chM_ac (t : Int) (l : List Int) (lv r : Int) (ht : 0 ≤ t ∧ t ≤ 9999999) (hlv : 1 ≤ lv ∧ lv ≤ 7) (hl : l.length ≤ 1024) (h1 : 21 + 21 * l.length ≤ r) (h2 : r ≤ 1048576) :
    AC Tryz.prog 57 [(Nd.mk t 3 0 [] (chN l)).v, .int .i64 lv, .int .i64 r] (fun q => ∃ k : Int, q = .tup [.int .i64 k, .bool true] ∧ 0 ≤ k ∧ k ≤ 21 + 21 * l.length) := by
  have hcc : ∀ n, c1 (num 0 n) = 21 := fun n => by simp [c1, num, Nd.tx, Nd.kids]
  have hsum := sumC_const l c1 hcc
  have hmem : ∀ x ∈ chN l, ∃ n, x = num 0 n := by
    intro x hx
    simp only [chN, List.mem_map] at hx
    obtain ⟨n, _, rfl⟩ := hx
    exact ⟨n, rfl⟩
  have := measure_ac t 3 0 [] (chN l) lv r c1 ht ⟨hlv.1, by omega⟩ h2 (.inr (.inr ⟨rfl, rfl, rfl, by simpa [chN] using hl⟩))
    (fun x hx => by obtain ⟨n, rfl⟩ := hmem x hx; rw [hcc]; omega)
    (fun x hx q hq hq2 => by
      obtain ⟨n, rfl⟩ := hmem x hx
      rw [hcc] at hq ⊢
      exact numM_ac 0 n (lv + 1) q (by omega) (by omega) hq hq2) (by rw [hsum]; simpa using h1)
  rw [hsum] at this
  simpa using this

theorem encK_mem {e : Ev} (h10 : e.ch.length ≤ 10) (ht : e.text.length ≤ 1000) : ∀ x ∈ encK e, 0 ≤ c1 x ∧ ∀ r, c1 x ≤ r → r ≤ 1048576 → AC Tryz.prog 57 [x.v, .int .i64 (1 + 1), .int .i64 r] (fun q => ∃ k : Int, q = .tup [.int .i64 k, .bool true] ∧ 0 ≤ k ∧ k ≤ c1 x) := by
  have hn : ∀ t n, 0 ≤ t → t ≤ 9999999 → 0 ≤ c1 (num t n) ∧ ∀ r, c1 (num t n) ≤ r → r ≤ 1048576 → AC Tryz.prog 57 [(num t n).v, .int .i64 (1 + 1), .int .i64 r] (fun q => ∃ k : Int, q = .tup [.int .i64 k, .bool true] ∧ 0 ≤ k ∧ k ≤ c1 (num t n)) := by
    intro t n h0 h1
    have hcc : c1 (num t n) = 21 := by simp [c1, num, Nd.tx, Nd.kids]
    rw [hcc]
    exact ⟨by omega, fun r a b => numM_ac t n (1 + 1) r ⟨h0, h1⟩ (by omega) a b⟩
  intro x hx
  unfold encK at hx
  rcases List.mem_append.1 hx with hx | hx
  · simp only [List.mem_cons, List.not_mem_nil, or_false] at hx
    rcases hx with rfl | rfl
    · exact hn _ _ (by omega) (by omega)
    · exact hn _ _ (by omega) (by omega)
  · split at hx
    · simp only [ansK, List.mem_cons, List.not_mem_nil, or_false] at hx
      rcases hx with rfl | rfl | rfl | rfl | rfl
      · exact hn _ _ (by omega) (by omega)
      · have hcc : c1 (.mk 4 3 0 [] (chN e.ch)) = 21 + 21 * e.ch.length := by simp [c1, Nd.tx, Nd.kids, chN]
        rw [hcc]
        exact ⟨by omega, fun r a b => chM_ac 4 e.ch (1 + 1) r (by omega) (by omega) (by omega) a b⟩
      · exact hn _ _ (by omega) (by omega)
      · have hcc : c1 (.mk 6 2 0 e.text []) = 21 + e.text.length := by simp [c1, Nd.tx, Nd.kids]
        rw [hcc]
        exact ⟨by omega, fun r a b => strM_ac 6 e.text (1 + 1) r (by omega) (by omega) (by omega) a b⟩
      · exact hn _ _ (by omega) (by omega)
    · split at hx
      · simp only [List.mem_cons, List.not_mem_nil, or_false] at hx
        rcases hx with rfl | rfl | rfl
        · exact hn _ _ (by omega) (by omega)
        · exact hn _ _ (by omega) (by omega)
        · exact hn _ _ (by omega) (by omega)
      · cases hx
theorem encK_sum {e : Ev} (h10 : e.ch.length ≤ 10) (ht : e.text.length ≤ 1000) : sumC c1 (encK e) ≤ 5000 ∧ (encK e).length ≤ 1024 := by
  unfold encK
  split
  · simp [ansK, sumC, c1, num, Nd.tx, Nd.kids, chN]; omega
  · split
    · simp [sumC, c1, num, Nd.tx, Nd.kids]
    · simp [sumC, c1, num, Nd.tx, Nd.kids]

theorem valid_ac (e : Ev) (hE : encE e = 0) : AC Tryz.prog 31 [(Nd.mk 50 3 0 [] (encK e)).v] (fun r => r = .bool true) := by
  obtain ⟨_, _, _, h4, h5⟩ := encE_zero hE
  have hm := encK_mem h4 h5
  have hs := encK_sum h4 h5
  have hc := measure_ac 50 3 0 [] (encK e) 1 1048576 c1 (by omega) (by omega) (by omega) (.inr (.inr ⟨rfl, rfl, rfl, hs.2⟩)) (fun x hx => (hm x hx).1) (fun x hx => (hm x hx).2) (by simp; omega)
  rw [Nd.v] at hc ⊢
  generalize (encK e).map Nd.v = kv at hc
  refine ac_intro Tryz.func31 rfl (by show (1 : Nat) ≤ 11; omega) (fun w0 N0 => ?_)
  refine aw_step [1] [1] (by simp [Tryz.ntmps31] <;> rfl) ?_   -- codec.go:87
  refine aw_seq (aw_region ?_)   -- codec.go:88
  refine awl_go 1 (by simp <;> rfl) ?_
  refine awl_call rfl rfl rfl Tryz.func57 rfl (by kernel_rfl) rfl (by simp) hc ?_
  rintro r ⟨k, rfl, _, _⟩
  refine ⟨_, rfl, ?_⟩
  refine awl_end [4] [] (by simp <;> rfl) ?_
  refine aw_step [2] [] (by simp <;> rfl) ?_   -- codec.go:89
  exact aw_ret (ends_ret (by simp [Tryz.results31] <;> rfl) rfl)

/-- The tree of an event is well formed. -/
theorem encK_wf {e : Ev} (h10 : e.ch.length ≤ 10) (ht : e.text.length ≤ 1000) : Wf (.mk 50 3 0 [] (encK e)) := by
  have hn : ∀ t n, 0 ≤ t → t ≤ 9999999 → Wf (num t n) := by
    intro t n h0 h1
    unfold num
    rw [Wf]
    simp [h0, h1]
  have hs := (encK_sum h10 ht).2
  rw [Wf]
  refine ⟨by omega, by omega, by omega, by omega, by simp, hs, fun x hx => ?_⟩
  unfold encK at hx
  rcases List.mem_append.1 hx with h | h
  · simp at h
    rcases h with rfl | rfl
    · exact hn _ _ (by omega) (by omega)
    · exact hn _ _ (by omega) (by omega)
  · split at h
    · unfold ansK at h
      simp at h
      rcases h with rfl | rfl | rfl | rfl | rfl
      · exact hn _ _ (by omega) (by omega)
      · rw [Wf]
        refine ⟨by omega, by omega, by omega, by omega, by simp, by simp [chN]; omega, fun x hx => ?_⟩
        simp only [chN, List.mem_map] at hx
        obtain ⟨n, _, rfl⟩ := hx
        exact hn _ _ (by omega) (by omega)
      · exact hn _ _ (by omega) (by omega)
      · rw [Wf]
        exact ⟨by omega, by omega, by omega, by omega, by omega, by simp, by simp⟩
      · exact hn _ _ (by omega) (by omega)
    · split at h
      · simp at h
        rcases h with rfl | rfl | rfl
        · exact hn _ _ (by omega) (by omega)
        · exact hn _ _ (by omega) (by omega)
        · exact hn _ _ (by omega) (by omega)
      · simp at h
/-- A bound on the length of an encoding. -/
theorem byN_len (x : Nd) (hx : Wf x) : (byN x).length ≤ 21 + x.tx.length + ((x.kids.map byN).flatten).length := by
  obtain ⟨t, k, n, s, ks⟩ := x
  rw [Wf] at hx
  rw [byN]
  have h1 := vEnc_len 3 t.toNat (by omega)
  have h2 := vEnc_len64 (foldN_lt n)
  have h3 := vEnc_len 3 s.length (by omega)
  have h4 := vEnc_len 3 ks.length (by omega)
  simp only [List.length_append, List.length_cons, Nd.tx, Nd.kids]
  split
  · omega
  · split
    · simp only [List.length_append]; omega
    · simp only [List.length_append]; omega
theorem flat_len {l : List Nd} {c : Nat} (h : ∀ x ∈ l, (byN x).length ≤ c) : ((l.map byN).flatten).length ≤ l.length * c := by
  induction l with
  | nil => simp
  | cons x l ih =>
    have h1 := h x (by simp)
    have h2 := ih (fun y hy => h y (by simp [hy]))
    simp only [List.map_cons, List.flatten_cons, List.length_append, List.length_cons, Nat.add_mul]
    omega
theorem enc_len {e : Ev} (h10 : e.ch.length ≤ 10) (ht : e.text.length ≤ 1000) : (byN (.mk 50 3 0 [] (encK e))).length ≤ 20000 := by
  have hw := encK_wf h10 ht
  have h1 := byN_len _ hw
  have hnum : ∀ t n, Wf (num t n) → (byN (num t n)).length ≤ 21 := by
    intro t n h
    have := byN_len _ h
    simpa [num, Nd.tx, Nd.kids] using this
  have h2 : ∀ x ∈ encK e, (byN x).length ≤ 1300 := by
    intro x hx
    have hwx : Wf x := by rw [Wf] at hw; exact hw.2.2.2.2.2.2 x hx
    have hb := byN_len x hwx
    have hkids : ((x.kids.map byN).flatten).length ≤ 210 ∧ x.tx.length ≤ 1000 := by
      unfold encK at hx
      rcases List.mem_append.1 hx with h | h
      · simp at h
        rcases h with rfl | rfl <;> simp [num, Nd.kids, Nd.tx]
      · split at h
        · unfold ansK at h
          simp at h
          rcases h with rfl | rfl | rfl | rfl | rfl
          · simp [num, Nd.kids, Nd.tx]
          · refine ⟨?_, by simp [Nd.tx]⟩
            have := flat_len (l := chN e.ch) (c := 21) (fun y hy => by
              have hwy : Wf y := by rw [Wf] at hwx; exact hwx.2.2.2.2.2.2 y hy
              simp only [chN, List.mem_map] at hy
              obtain ⟨n, _, rfl⟩ := hy
              exact hnum _ _ hwy)
            have hcl : (chN e.ch).length = e.ch.length := by simp [chN]
            simp only [Nd.kids]
            omega
          · simp [num, Nd.kids, Nd.tx]
          · exact ⟨by simp [Nd.kids], by simpa [Nd.tx] using ht⟩
          · simp [num, Nd.kids, Nd.tx]
        · split at h
          · simp at h
            rcases h with rfl | rfl | rfl <;> simp [num, Nd.kids, Nd.tx]
          · simp at h
    omega
  have h3 := flat_len h2
  have h4 : (encK e).length ≤ 7 := by
    unfold encK
    split
    · simp [ansK]
    · split <;> simp
  simp only [Nd.tx, Nd.kids, List.length_nil] at h1
  omega

set_option maxHeartbeats 1000000 in
theorem cEncode_ac (e : Ev) (hE : encE e = 0) : AC Tryz.prog 32 [(Nd.mk 50 3 0 [] (encK e)).v] (fun r => r = .tup [.ro 1 (bys (byN (.mk 50 3 0 [] (encK e)))), .int .i64 0]) := by
  obtain ⟨_, _, _, h4, h5⟩ := encE_zero hE
  have hm := encK_mem h4 h5
  have hs := encK_sum h4 h5
  have hw := encK_wf h4 h5
  have hln := enc_len h4 h5
  have hc := measure_ac 50 3 0 [] (encK e) 1 1048576 c1 (by omega) (by omega) (by omega) (.inr (.inr ⟨rfl, rfl, rfl, hs.2⟩)) (fun x hx => (hm x hx).1) (fun x hx => (hm x hx).2) (by simp; omega)
  have hc2 := appendNode_aca _ (.mk 50 3 0 [] (encK e)) [] (Nat.lt_succ_self _) hw (by simp; omega)
  generalize byN (.mk 50 3 0 [] (encK e)) = bs at hc2 hln
  rw [Nd.v] at hc hc2 ⊢
  generalize (encK e).map Nd.v = kv at hc hc2
  have hp := bys_pure bs
  have hf : (bys [] ++ bys bs).all flatE = true := by rw [List.all_append, bys_flat, bys_flat]; rfl
  refine ac_intro Tryz.func32 rfl (by show (1 : Nat) ≤ 17; omega) (fun w0 N0 => ?_)
  refine aw_step [1] [1] (by simp [Tryz.ntmps32] <;> rfl) ?_
  refine aw_seq (aw_region ?_)
  refine awl_go 1 (by simp <;> rfl) ?_
  refine awl_call rfl rfl rfl Tryz.func57 rfl (by kernel_rfl) rfl (by simp) hc ?_
  rintro r ⟨k, rfl, hk0, hk1⟩
  refine ⟨_, rfl, ?_⟩
  refine awl_end [1, 4, 5] [1] (by simp <;> rfl) ?_
  refine aw_seq ?_
  refine aw_step [1, 4, 12] [1] (by simp <;> rfl) ?_
  refine aw_cond rfl (fun h1 => by simp at h1) (fun h1 => aw_skip ?_)
  have hkb : k ≤ 1048576 := by simp at hk1; omega
  have hk2 : 0 ≤ k ∧ k ≤ 9223372036854775807 ∧ k ≤ 281474976710656 := by omega
  refine aw_seq (aw_drawX [3] hmix ?_)
  refine at_go [(0, []), (2, [14]), (1, [])] (by kernel_rfl) (by simp [hk2] <;> rfl) ?_
  refine at_fork [3] (by kernel_rfl) (fun i hi => ?_)
  simp only [List.mem_cons, List.not_mem_nil, or_false] at hi
  subst hi
  refine ⟨_, _, rfl, sx_callA (d := 14) (by decide) hc2 hf Tryz.func58 rfl (by kernel_rfl) rfl rfl rfl (by simp <;> rfl) (by simp <;> rfl) (by simp <;> rfl), ?_⟩
  refine at_go [(4, []), (5, [])] (by kernel_rfl) (by simp <;> rfl) ?_
  refine at_end [2, 3] [14] (by kernel_rfl) (by simp <;> rfl) ?_
  exact aw_ret (ends_ret (by simp [Tryz.results32, hp] <;> rfl) rfl)
end Go.Proofs.YtmkbhognijicjaaGreatDoor
