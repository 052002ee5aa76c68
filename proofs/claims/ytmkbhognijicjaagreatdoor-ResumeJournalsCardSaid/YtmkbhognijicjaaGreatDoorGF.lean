import Derived.Test.YtmkbhognijicjaaGreatDoorGE
/- Joins: the reader of encodings: fail, take, varint, count. No condition. -/
set_option linter.unusedSimpArgs false
set_option maxRecDepth 4000
namespace Go.Proofs.YtmkbhognijicjaaGreatDoor
open Go.Eng

/-- The panic with an error. -/
def pan (er : Int) : List PanicEntry := [{ v := .iface 112 (.int .i64 er), recovered := false }]
theorem fail_acs (er : Int) : ACS Tryz.prog 92 [.int .i64 er] [] (fun _ _ => False) (fun ch => ch = pan er) := by
  refine acs_intro Tryz.func92 rfl (by show (1 : Nat) ≤ 4; omega) (fun w0 N0 nx => ?_)
  refine aw_region ?_
  refine awl_go 2 (by simp [Tryz.ntmps92] <;> rfl) ?_
  exact awl_panic rfl rfl (by simp <;> rfl) rfl rfl

/-- A reader. -/
def rd (bs : List UInt8) (at_ : Nat) (e : Int) : V := .agg [.ro 1 (bys bs), .int .i64 at_, .int .i64 e]

set_option maxHeartbeats 1000000 in
theorem take_ok (d v : Nat) (bs : List UInt8) (at_ n : Nat) (e : Int) (h : at_ + n ≤ bs.length) (hb : bs.length ≤ 1048576) :
    ACS Tryz.prog 94 [.bp d v 3 0 0, .int .i64 n] [(d, ⟨v, 3, 115, [rd bs at_ e]⟩)] (fun r q => r = .ro 1 (bys ((bs.drop at_).take n)) ∧ q = [(d, ⟨v, 3, 115, [rd bs (at_ + n) e]⟩)]) (fun _ => False) := by
  have hl := bysL bs
  have hdt : bys ((bs.drop at_).take n) = ((bys bs).drop at_).take n := by simp
  rw [hdt]
  unfold rd
  generalize bys bs = bv at hl
  obtain ⟨s1, hs1, hs1'⟩ : ∃ s : Int, IntKind.i64.wrap ((bv.length : Int) - at_) = s ∧ s = (bv.length : Int) - at_ := ⟨_, rfl, wrap_in (by omega) (by omega)⟩
  obtain ⟨s2, hs2, hs2'⟩ : ∃ s : Int, IntKind.i64.wrap ((at_ : Int) + n) = s ∧ s = ((at_ + n : Nat) : Int) := ⟨_, rfl, by rw [wrap_in (by omega) (by omega)]; omega⟩
  obtain ⟨s3, hs3, hs3'⟩ : ∃ s : Int, IntKind.i64.wrap (s2 - n) = s ∧ s = (at_ : Int) := ⟨_, rfl, by rw [wrap_in (by omega) (by omega)]; omega⟩
  have hb3 : 0 ≤ s3 ∧ s3 ≤ s2 ∧ s2 ≤ bv.length := by omega
  have ht3 : s3.toNat = at_ := by omega
  have ht2 : s2.toNat - at_ = n := by omega
  refine acs_intro Tryz.func94 rfl (by show (2 : Nat) ≤ 45; omega) (fun w0 N0 nx => ?_)
  refine aw_step [0, 1] [d] (by simp [Tryz.ntmps94] <;> rfl) ?_
  refine aw_seq ?_
  refine aw_dstep [(0, []), (1, []), (2, []), (3, []), (6, []), (7, []), (8, []), (4, []), (5, []), (9, []), (10, []), (11, [])] [0, 1, 16] [d] hmix (by kernel_rfl) (by simp [hs1] <;> rfl) ?_
  refine aw_cond rfl (fun h1 => by simp at h1; omega) (fun h1 => aw_skip ?_)
  refine aw_step [0, 1] [d] (by simp [hs2] <;> rfl) ?_
  refine aw_dstep [(0, []), (1, []), (2, []), (4, []), (5, []), (6, []), (8, []), (10, []), (11, []), (12, []), (3, []), (7, []), (9, []), (13, []), (14, []), (15, [])] [4] [d] hmix (by kernel_rfl) (by simp [hs3, hb3] <;> rfl) ?_
  refine aw_ret (endsS (by simp only; omega) ?_ (fun k o hk => get_one ?_ hk))
  · simp [Tryz.results94, ht3, ht2]
  · simp [hs2']
theorem take_err (d v : Nat) (bs : List UInt8) (at_ n : Nat) (e : Int) (h : bs.length < at_ + n) (hat : at_ ≤ bs.length) (_hn : n ≤ 1048576) (hb : bs.length ≤ 1048576) :
    ACS Tryz.prog 94 [.bp d v 3 0 0, .int .i64 n] [(d, ⟨v, 3, 115, [rd bs at_ e]⟩)] (fun _ _ => False) (fun ch => ch = pan e) := by
  have hl := bysL bs
  unfold rd
  generalize bys bs = bv at hl
  obtain ⟨s1, hs1, hs1'⟩ : ∃ s : Int, IntKind.i64.wrap ((bv.length : Int) - at_) = s ∧ s = (bv.length : Int) - at_ := ⟨_, rfl, wrap_in (by omega) (by omega)⟩
  refine acs_intro Tryz.func94 rfl (by show (2 : Nat) ≤ 45; omega) (fun w0 N0 nx => ?_)
  refine aw_step [0, 1] [d] (by simp [Tryz.ntmps94] <;> rfl) ?_
  refine aw_seq ?_
  refine aw_dstep [(0, []), (1, []), (2, []), (3, []), (6, []), (7, []), (8, []), (4, []), (5, []), (9, []), (10, []), (11, [])] [0, 1, 16] [d] hmix (by kernel_rfl) (by simp [hs1] <;> rfl) ?_
  refine aw_cond rfl (fun h1 => ?_) (fun h1 => by simp at h1; omega)
  refine aw_region ?_
  refine awl_go 4 (by simp <;> rfl) ?_
  exact awl_panS (fail_acs e) Tryz.func92 rfl (by kernel_rfl) rfl rfl rfl (by simp <;> rfl) (fun k q hk => by simp [Eng.get] at hk) (fun ch hch => hch)

/-- A varint. -/
def rdV (bs : List UInt8) (e : Int) : Nat → Nat → Nat → Nat → Except Int (Nat × Nat)
  | 0, _, _, _ => .error 2
  | k + 1, i, x, at_ => match bs[at_]? with
    | none => .error e
    | some c => if (i = 9 ∧ 1 < c.toNat) ∨ (0 < i ∧ c.toNat = 0) then .error 2 else
      if c.toNat < 128 then .ok (x + c.toNat * 128 ^ i, at_ + 1) else rdV bs e k (i + 1) (x + c.toNat % 128 * 128 ^ i) (at_ + 1)

theorem or_shl (x y i : Nat) (hx : x < 128 ^ i) (hi : i ≤ 9) (hy : y < 128) (h9 : i = 9 → y ≤ 1) :
    bits .or .u64 (x : Int) (IntKind.u64.wrap ((y : Int) * 2 ^ min (7 * (i : Int)).toNat IntKind.u64.bits)) = ((x + y * 128 ^ i : Nat) : Int) ∧ x + y * 128 ^ i < 128 ^ (i + 1) ∧ x + y * 128 ^ i < 2 ^ 64 := by
  have e1 : (7 * (i : Int)).toNat = 7 * i := by omega
  have e2 : min (7 * i) 64 = 7 * i := by omega
  have e3 : (2 : Nat) ^ (7 * i) = 128 ^ i := by rw [Nat.pow_mul]
  have e4 : (2 : Int) ^ (7 * i) = ((128 ^ i : Nat) : Int) := by rw [← e3]; simp
  have hpow : 128 ^ i ≤ 2 ^ 63 := by rw [← e3]; exact Nat.pow_le_pow_right (by omega) (by omega)
  have hlt : x + y * 128 ^ i < 128 ^ (i + 1) := by
    rw [Nat.pow_succ]
    have : y * 128 ^ i ≤ 127 * 128 ^ i := Nat.mul_le_mul_right _ (by omega)
    omega
  have hlt2 : x + y * 128 ^ i < 2 ^ 64 := by
    by_cases h : i = 9
    · subst h
      have := h9 rfl
      have h1 : y * 128 ^ 9 ≤ 1 * 128 ^ 9 := Nat.mul_le_mul_right _ this
      omega
    · have : 128 ^ (i + 1) ≤ 128 ^ 9 := Nat.pow_le_pow_right (by omega) (by omega)
      omega
  refine ⟨?_, hlt, hlt2⟩
  have hw : IntKind.u64.wrap ((y : Int) * 2 ^ min (7 * (i : Int)).toNat IntKind.u64.bits) = ((y * 128 ^ i : Nat) : Int) := by
    rw [e1]
    show IntKind.u64.wrap ((y : Int) * 2 ^ min (7 * i) 64) = _
    rw [e2, e4]
    have := u64_in (n := y * 128 ^ i) (by omega)
    rw [← this]
    congr 1
  rw [hw, (bits_nat x (y * 128 ^ i) ⟨by omega, by omega⟩).1]
  congr 1
  rw [Nat.or_comm, Nat.mul_comm y, ← e3, ← Nat.two_pow_add_eq_or_of_lt (by rw [e3]; exact hx)]
  omega

theorem and127 (c : Nat) (h : c < 256) : bits .and .u8 (c : Int) 127 = ((c % 128 : Nat) : Int) := by
  have := (bits_nat8 c 127 ⟨h, by decide⟩).2
  rw [show (127 : Int) = ((127 : Nat) : Int) from rfl, this]
  congr 1
  exact Nat.and_two_pow_sub_one_eq_mod c 7

set_option maxHeartbeats 4000000 in
theorem varint_acs (d v : Nat) (bs : List UInt8) (at0 : Nat) (e : Int) (hat0 : at0 ≤ bs.length) (hb : bs.length ≤ 1048576) :
    ACS Tryz.prog 93 [.bp d v 3 0 0] [(d, ⟨v, 3, 115, [rd bs at0 e]⟩)] (fun r q => ∃ x a, rdV bs e 10 0 0 at0 = .ok (x, a) ∧ r = .int .u64 x ∧ q = [(d, ⟨v, 3, 115, [rd bs a e]⟩)] ∧ a ≤ bs.length ∧ x < 2 ^ 64) (fun ch => ∃ er, rdV bs e 10 0 0 at0 = .error er ∧ ch = pan er) := by
  refine acs_intro Tryz.func93 rfl (by show (1 : Nat) ≤ 38; omega) (fun w0 N0 nx0 => ?_)
  refine aw_step [0] [d] (by simp [Tryz.ntmps93] <;> rfl) ?_
  refine aw_step [0, 3] [d] (by simp <;> rfl) ?_
  refine aw_step [0, 3, 4] [d] (by simp <;> rfl) ?_
  refine aw_block ?_
  refine aw_loop (fun p : Nat × Nat × Nat × Nat => ⟨[(0, .bp d v 3 0 0), (3, .int .u64 p.2.1), (4, .int .i64 p.1)], [(d, ⟨v, 3, 115, [rd bs p.2.2.1 e]⟩)], p.2.2.2, 38⟩) (fun p => p.1 ≤ 9 ∧ p.2.1 < 128 ^ p.1 ∧ p.2.2.1 ≤ bs.length ∧ nx0 ≤ p.2.2.2 ∧ rdV bs e (10 - p.1) p.1 p.2.1 p.2.2.1 = rdV bs e 10 0 0 at0) (fun p => 10 - p.1) (0, 0, at0, nx0 + 1 + 1 + 1) ⟨by simp, by simp, hat0, by simp only; omega, rfl⟩ (AS.le_refl _) ?_
  rintro ⟨i, x, at_, nx⟩ ⟨hi, hx, hat, hnx, hR⟩
  simp only at hi hx hat hnx hR
  obtain ⟨m, hm⟩ : ∃ m, 10 - i = m + 1 := ⟨9 - i, by omega⟩
  rw [hm, rdV] at hR
  refine aw_seq ?_
  refine aw_block ?_
  refine aw_seq (aw_region ?_)
  refine awl_go 1 (by simp <;> rfl) ?_
  by_cases hlt : at_ < bs.length
  · have hgc : bs[at_]? = some bs[at_] := List.getElem?_eq_getElem hlt
    rw [hgc] at hR
    simp only at hR
    have hone : (bs.drop at_).take 1 = [bs[at_]] := by rw [List.drop_eq_getElem_cons hlt]; rfl
    have htk := take_ok d v bs at_ 1 e (by omega) hb
    rw [hone] at htk
    generalize bs[at_] = c at hR htk
    have hcl : c.toNat < 256 := c.toNat_lt
    refine awl_callS1 htk Tryz.func94 rfl (by kernel_rfl) (by simp [rd, Eng.get]) rfl (by decide) rfl rfl rfl (by simp <;> rfl) (fun k o hk => get_one (by simp [Eng.get]) hk) (by simp <;> rfl) ?_
    refine awl_end [0, 3, 4, 5] [d] (by simp [byV] <;> rfl) ?_
    refine aw_seq ?_
    refine aw_step [0, 3, 4, 5, 25] [d] (by simp <;> rfl) ?_
    refine aw_cond rfl (fun h1 => ?_) (fun h1 => aw_skip ?_)
    · have hbad : (i = 9 ∧ 1 < c.toNat) ∨ (0 < i ∧ c.toNat = 0) := by
        simp only [Bool.or_eq_true, Bool.and_eq_true, decide_eq_true_eq] at h1
        omega
      rw [if_pos hbad] at hR
      refine aw_region ?_
      refine awl_panS (fail_acs 2) Tryz.func92 rfl (by kernel_rfl) rfl rfl rfl (by simp <;> rfl) (fun k o hk => by simp [Eng.get] at hk) (fun ch hch => ?_)
      exact ⟨2, hR.symm, hch⟩
    · have hgood : ¬ ((i = 9 ∧ 1 < c.toNat) ∨ (0 < i ∧ c.toNat = 0)) := by
        simp only [Bool.or_eq_false_iff, Bool.and_eq_false_iff, decide_eq_false_iff_not] at h1
        omega
      rw [if_neg hgood] at hR
      have hand := and127 c.toNat hcl
      have hw8 : IntKind.u64.wrap ((c.toNat % 128 : Nat) : Int) = ((c.toNat % 128 : Nat) : Int) := u64_in (by omega)
      obtain ⟨ho1, ho2, ho3⟩ := or_shl x (c.toNat % 128) i hx hi (by omega) (fun h9 => by omega)
      obtain ⟨av, hav⟩ : ∃ av : Int, bits .and .u8 (c.toNat : Int) 127 = av := ⟨_, rfl⟩
      rw [hav] at hand
      rw [← hand] at hw8 ho1
      obtain ⟨si, hsi, hsi'⟩ : ∃ si : Int, IntKind.i64.wrap (7 * (i : Int)) = si ∧ si = 7 * (i : Int) := ⟨_, rfl, wrap_in (by omega) (by omega)⟩
      rw [← hsi'] at ho1
      have hsn : ¬ si < 0 := by omega
      obtain ⟨ov, hov⟩ : ∃ ov : Int, bits .or .u64 (x : Int) (IntKind.u64.wrap (av * 2 ^ min si.toNat IntKind.u64.bits)) = ov := ⟨_, rfl⟩
      rw [hov] at ho1
      have hwi := wrap_succ (k := i) (by omega)
      refine aw_step [0, 3, 4, 5] [d] (by simp [hav, hw8, hsi, hsn, hov] <;> rfl) ?_
      refine aw_step [0, 3, 4, 36] [d] (by simp <;> rfl) ?_
      refine aw_cond rfl (fun h2 => ?_) (fun h2 => aw_skip ?_)
      · have hc128 : c.toNat < 128 := by simp at h2; omega
        rw [if_pos hc128] at hR
        rw [Nat.mod_eq_of_lt hc128] at ho1 ho3
        refine aw_step [2] [d] (by simp <;> rfl) ?_
        refine aw_ret ⟨by simp only; omega, .int .u64 ov, [(d, ⟨v, 3, 115, [rd bs (at_ + 1) e]⟩)], by simp [Tryz.results93], fun k o hk => get_one (by simp [Eng.get]) hk, _, _, hR.symm, by rw [ho1], rfl, by omega, ho3⟩
      · have hc128 : ¬ c.toNat < 128 := by simp at h2; omega
        rw [if_neg hc128] at hR
        have hi8 : i ≠ 9 := fun h9 => by omega
        refine aw_one [0, 3, 4] [d] (by simp [hwi] <;> rfl) ?_
        refine ⟨(i + 1, x + c.toNat % 128 * 128 ^ i, at_ + 1, nx + 33), ⟨by simp only; omega, ho2, by simp only; omega, by simp only; omega, ?_⟩, by simp only; omega, ?_⟩
        · simp only
          rw [show 10 - (i + 1) = m by omega]
          exact hR
        · have hc1 : ((i + 1 : Nat) : Int) = (i : Int) + 1 := by omega
          simp only [ho1, hc1]
          exact AS.le_refl _
  · have hnone : bs[at_]? = none := List.getElem?_eq_none (by omega)
    rw [hnone] at hR
    have htk := take_err d v bs at_ 1 e (by omega) hat (by omega) hb
    refine awl_panS htk Tryz.func94 rfl (by kernel_rfl) rfl rfl rfl (by simp <;> rfl) (fun k o hk => get_one (by simp [Eng.get]) hk) (fun ch hch => ?_)
    exact ⟨e, hR.symm, hch⟩
theorem varint_ok (d v : Nat) (bs : List UInt8) (at0 x a : Nat) (e : Int) (hat0 : at0 ≤ bs.length) (hb : bs.length ≤ 1048576) (h : rdV bs e 10 0 0 at0 = .ok (x, a)) :
    ACS Tryz.prog 93 [.bp d v 3 0 0] [(d, ⟨v, 3, 115, [rd bs at0 e]⟩)] (fun r q => r = .int .u64 x ∧ q = [(d, ⟨v, 3, 115, [rd bs a e]⟩)]) (fun _ => False) :=
  (varint_acs d v bs at0 e hat0 hb).mono (fun r q ⟨x', a', h1, h2, h3, _, _⟩ => by rw [h] at h1; injection h1 with h1; injection h1 with h4 h5; subst h4; subst h5; exact ⟨h2, h3⟩) (fun ch ⟨er, h1, _⟩ => by rw [h] at h1; cases h1)
theorem varint_err (d v : Nat) (bs : List UInt8) (at0 : Nat) (e er : Int) (hat0 : at0 ≤ bs.length) (hb : bs.length ≤ 1048576) (h : rdV bs e 10 0 0 at0 = .error er) :
    ACS Tryz.prog 93 [.bp d v 3 0 0] [(d, ⟨v, 3, 115, [rd bs at0 e]⟩)] (fun _ _ => False) (fun ch => ch = pan er) :=
  (varint_acs d v bs at0 e hat0 hb).mono (fun r q ⟨x', a', h1, _⟩ => by rw [h] at h1; cases h1) (fun ch ⟨er', h1, h2⟩ => by rw [h] at h1; injection h1 with h1; subst h1; exact h2)
theorem rdV_bound {bs : List UInt8} {e : Int} : ∀ {k i x at_ y a : Nat}, i + k = 10 → x < 128 ^ i → at_ ≤ bs.length → rdV bs e k i x at_ = .ok (y, a) → y < 2 ^ 64 ∧ a ≤ bs.length ∧ at_ < a
  | 0, i, x, at_, y, a, _, _, _, h => by simp [rdV] at h
  | k + 1, i, x, at_, y, a, hk, hx, hat, h => by
    rw [rdV] at h
    split at h
    · cases h
    · rename_i c hc
      have hlt : at_ < bs.length := (List.getElem?_eq_some_iff.1 hc).1
      split at h
      · cases h
      · rename_i hg
        have hcl : c.toNat < 256 := c.toNat_lt
        obtain ⟨_, h2, h3⟩ := or_shl x (c.toNat % 128) i hx (by omega) (by omega) (fun h9 => by omega)
        split at h
        · rename_i hc8
          rw [Nat.mod_eq_of_lt hc8] at h3
          injection h with h
          injection h with h4 h5
          subst h4; subst h5
          exact ⟨h3, by omega, by omega⟩
        · obtain ⟨h4, h5, h6⟩ := rdV_bound (by omega) h2 (by omega) h
          exact ⟨h4, h5, by omega⟩

/-- A number of bytes or children. -/
def rdC (bs : List UInt8) (e : Int) (most at_ : Nat) : Except Int (Nat × Nat) :=
  match rdV bs e 10 0 0 at_ with
  | .error er => .error er
  | .ok (x, a) => if most < x then .error 5 else .ok (x, a)
theorem count_ok (d v : Nat) (bs : List UInt8) (at0 x a most : Nat) (e : Int) (hat0 : at0 ≤ bs.length) (hb : bs.length ≤ 1048576) (hm : most ≤ 2000) (h : rdC bs e most at0 = .ok (x, a)) :
    ACS Tryz.prog 96 [.bp d v 3 0 0, .int .i64 most] [(d, ⟨v, 3, 115, [rd bs at0 e]⟩)] (fun r q => r = .int .i64 x ∧ q = [(d, ⟨v, 3, 115, [rd bs a e]⟩)]) (fun _ => False) := by
  unfold rdC at h
  split at h
  · cases h
  rename_i y a' hv
  split at h
  · cases h
  rename_i hle
  injection h with h
  injection h with h1 h2
  subst h1; subst h2
  have hc := varint_ok d v bs at0 y a' e hat0 hb hv
  have hw1 : IntKind.u64.wrap (most : Int) = most := u64_in (by omega)
  have hw2 : IntKind.i64.wrap (y : Int) = y := wrap_in (by omega) (by omega)
  have hle2 : ¬ ((most : Int) < y) := by omega
  refine acs_intro Tryz.func96 rfl (by show (2 : Nat) ≤ 15; omega) (fun w0 N0 nx => ?_)
  refine aw_step [0, 1] [d] (by simp [Tryz.ntmps96] <;> rfl) ?_
  refine aw_seq (aw_region ?_)
  refine awl_go 1 (by simp <;> rfl) ?_
  refine awl_callS1 hc Tryz.func93 rfl (by kernel_rfl) (by simp [rd, Eng.get]) rfl (by decide) rfl rfl rfl (by simp <;> rfl) (fun k o hk => get_one (by simp [Eng.get]) hk) (by simp <;> rfl) ?_
  refine awl_end [1, 5] [d] (by simp <;> rfl) ?_
  refine aw_seq ?_
  refine aw_step [5, 11] [d] (by simp [hw1] <;> rfl) ?_
  refine aw_cond rfl (fun h1 => by simp at h1; omega) (fun h1 => aw_skip ?_)
  refine aw_step [4] [d] (by simp [hw2] <;> rfl) ?_
  refine aw_ret (endsS (by simp only; omega) ?_ (fun k o hk => get_one ?_ hk))
  · simp [Tryz.results96]
  · simp
theorem count_err (d v : Nat) (bs : List UInt8) (at0 most : Nat) (e er : Int) (hat0 : at0 ≤ bs.length) (hb : bs.length ≤ 1048576) (hm : most ≤ 2000) (h : rdC bs e most at0 = .error er) :
    ACS Tryz.prog 96 [.bp d v 3 0 0, .int .i64 most] [(d, ⟨v, 3, 115, [rd bs at0 e]⟩)] (fun _ _ => False) (fun ch => ch = pan er) := by
  unfold rdC at h
  have hw1 : IntKind.u64.wrap (most : Int) = most := u64_in (by omega)
  refine acs_intro Tryz.func96 rfl (by show (2 : Nat) ≤ 15; omega) (fun w0 N0 nx => ?_)
  refine aw_step [0, 1] [d] (by simp [Tryz.ntmps96] <;> rfl) ?_
  refine aw_seq (aw_region ?_)
  refine awl_go 1 (by simp <;> rfl) ?_
  split at h
  · rename_i er' hv
    injection h with h
    subst h
    exact awl_panS (varint_err d v bs at0 e _ hat0 hb hv) Tryz.func93 rfl (by kernel_rfl) rfl rfl rfl (by simp <;> rfl) (fun k o hk => get_one (by simp [Eng.get]) hk) (fun ch hch => hch)
  · rename_i y a hv
    split at h
    case isFalse => cases h
    rename_i hlt
    injection h with h
    subst h
    have hc := varint_ok d v bs at0 y a e hat0 hb hv
    refine awl_callS1 hc Tryz.func93 rfl (by kernel_rfl) (by simp [rd, Eng.get]) rfl (by decide) rfl rfl rfl (by simp <;> rfl) (fun k o hk => get_one (by simp [Eng.get]) hk) (by simp <;> rfl) ?_
    refine awl_end [1, 5] [d] (by simp <;> rfl) ?_
    refine aw_seq ?_
    refine aw_step [5, 11] [d] (by simp [hw1] <;> rfl) ?_
    refine aw_cond rfl (fun h1 => ?_) (fun h1 => by simp at h1; omega)
    refine aw_region ?_
    exact awl_panS (fail_acs 5) Tryz.func92 rfl (by kernel_rfl) rfl rfl rfl (by simp <;> rfl) (fun k o hk => by simp [Eng.get] at hk) (fun ch hch => hch)
end Go.Proofs.YtmkbhognijicjaaGreatDoor

/- Joins: the reader of trees. No condition. -/
set_option linter.unusedSimpArgs false
set_option maxRecDepth 4000
namespace Go.Proofs.YtmkbhognijicjaaGreatDoor
open Go.Eng

/-- The integer that a natural number stands for, as the code computes it. -/
def unfI (x : Nat) : Int := bits .xor .i64 (IntKind.i64.wrap ((x : Int).fdiv (2 ^ min 1 IntKind.u64.bits))) (IntKind.i64.wrap (-(IntKind.i64.wrap (bits .and .u64 (x : Int) 1))))
theorem unfold_ac (x : Nat) : AC Tryz.prog 95 [.int .u64 x] (fun r => r = .int .i64 (unfI x)) := by
  refine ac_intro Tryz.func95 rfl (by show (1 : Nat) ≤ 11; omega) (fun w0 N0 => ?_)
  refine aw_step [0] [] (by simp [Tryz.ntmps95] <;> rfl) ?_
  refine aw_step [2] [] (by simp <;> rfl) ?_
  exact aw_ret (ends_ret (by simp [Tryz.results95] <;> rfl) (by simp [unfI]))

def rdL (f : Nat → Except Int (Nd × Nat)) : Nat → Nat → Except Int (List Nd × Nat)
  | 0, a => .ok ([], a)
  | n + 1, a => match f a with
    | .error er => .error er
    | .ok (x, a1) => match rdL f n a1 with
      | .error er => .error er
      | .ok (l, a2) => .ok (x :: l, a2)
/-- A tree of at most so many levels. -/
def rdN (bs : List UInt8) (e : Int) : Nat → Nat → Except Int (Nd × Nat)
  | 0, _ => .error 5
  | lv + 1, at_ => match rdV bs e 10 0 0 at_ with
    | .error er => .error er
    | .ok (tag, a1) => if 9999999 < tag then .error 3 else match bs[a1]? with
      | none => .error e
      | some k => if k.toNat = 1 then (match rdV bs e 10 0 0 (a1 + 1) with
          | .error er => .error er
          | .ok (x, a2) => .ok (.mk tag 1 (unfI x) [] [], a2))
        else if k.toNat = 2 then (match rdC bs e 2000 (a1 + 1) with
          | .error er => .error er
          | .ok (n, a2) => if a2 + n ≤ bs.length then .ok (.mk tag 2 0 ((bs.drop a2).take n) [], a2 + n) else .error e)
        else if k.toNat = 3 then (match rdC bs e 1024 (a1 + 1) with
          | .error er => .error er
          | .ok (n, a2) => match rdL (rdN bs e lv) n a2 with
            | .error er => .error er
            | .ok (l, a3) => .ok (.mk tag 3 0 [] l, a3))
        else .error 2
theorem rdC_bound {bs : List UInt8} {e : Int} {most at_ y a : Nat} (hat : at_ ≤ bs.length) (h : rdC bs e most at_ = .ok (y, a)) : y ≤ most ∧ a ≤ bs.length ∧ at_ < a := by
  unfold rdC at h
  split at h
  · cases h
  · rename_i x a' hv
    split at h
    · cases h
    · injection h with h
      injection h with h1 h2
      subst h1; subst h2
      obtain ⟨_, h3, h4⟩ := rdV_bound (i := 0) (by omega) (by simp) hat hv
      exact ⟨by omega, h3, h4⟩
theorem rdL_bound {bs : List UInt8} {f : Nat → Except Int (Nd × Nat)} (hf : ∀ at_ x a, at_ ≤ bs.length → f at_ = .ok (x, a) → a ≤ bs.length) : ∀ {n at_ : Nat} {l : List Nd} {a : Nat}, at_ ≤ bs.length → rdL f n at_ = .ok (l, a) → a ≤ bs.length ∧ l.length = n
  | 0, at_, l, a, hat, h => by simp only [rdL, Except.ok.injEq, Prod.mk.injEq] at h; obtain ⟨rfl, rfl⟩ := h; exact ⟨hat, rfl⟩
  | n + 1, at_, l, a, hat, h => by
    rw [rdL] at h
    split at h
    · cases h
    · rename_i x a1 hx
      split at h
      · cases h
      · rename_i l' a2 hl
        injection h with h
        injection h with h1 h2
        subst h1; subst h2
        obtain ⟨h3, h4⟩ := rdL_bound hf (hf _ _ _ hat hx) hl
        exact ⟨h3, by simp [h4]⟩
theorem rdN_bound {bs : List UInt8} {e : Int} : ∀ {lv at_ a : Nat} {x : Nd}, at_ ≤ bs.length → rdN bs e lv at_ = .ok (x, a) → a ≤ bs.length
  | 0, at_, a, x, hat, h => by simp [rdN] at h
  | lv + 1, at_, a, x, hat, h => by
    rw [rdN] at h
    split at h
    · cases h
    rename_i tag a1 hv
    obtain ⟨_, hb1, _⟩ := rdV_bound (i := 0) (by omega) (by simp) hat hv
    split at h
    · cases h
    split at h
    · cases h
    rename_i k hk
    have hlt : a1 < bs.length := (List.getElem?_eq_some_iff.1 hk).1
    split at h
    · split at h
      · cases h
      · rename_i y a2 hv2
        obtain ⟨_, hb2, _⟩ := rdV_bound (i := 0) (by omega) (by simp) (by omega) hv2
        injection h with h; injection h with h1 h2; subst h2; exact hb2
    · split at h
      · split at h
        · cases h
        · split at h
          · injection h with h; injection h with h1 h2; subst h2; assumption
          · cases h
      · split at h
        · split at h
          · cases h
          · rename_i n a2 hc
            obtain ⟨_, hb2, _⟩ := rdC_bound (by omega) hc
            split at h
            · cases h
            · rename_i l a3 hl
              injection h with h; injection h with h1 h2; subst h2
              exact (rdL_bound (fun at_ x a hat hx => rdN_bound hat hx) hb2 hl).1
        · cases h
end Go.Proofs.YtmkbhognijicjaaGreatDoor

/- Joins: the contract of the reader of trees. No condition. -/
set_option linter.unusedSimpArgs false
set_option maxRecDepth 4000
namespace Go.Proofs.YtmkbhognijicjaaGreatDoor
open Go.Eng

def preL (acc : List Nd) : Except Int (List Nd × Nat) → Except Int (List Nd × Nat)
  | .error er => .error er
  | .ok (l, a) => .ok (acc ++ l, a)
theorem pureNd (l : List Nd) : (l.map Nd.v).all V.pureE = true := pureN l

set_option maxHeartbeats 16000000 in
theorem node_acs (bs : List UInt8) (e : Int) (hb : bs.length ≤ 1048576) : ∀ (lv d v at0 : Nat), lv ≤ 8 → at0 ≤ bs.length →
    ACS Tryz.prog 86 [.bp d v 3 0 0, .int .i64 (9 - lv : Int)] [(d, ⟨v, 3, 115, [rd bs at0 e]⟩)] (fun r q => ∃ x a, rdN bs e lv at0 = .ok (x, a) ∧ r = x.v ∧ q = [(d, ⟨v, 3, 115, [rd bs a e]⟩)]) (fun ch => ∃ er, rdN bs e lv at0 = .error er ∧ ch = pan er) := by
  intro lv
  induction lv with
  | zero =>
    intro d v at0 _ _
    refine acs_intro Tryz.func86 rfl (by show (2 : Nat) ≤ 57; omega) (fun w0 N0 nx0 => ?_)
    refine awk_step (d + 1) [0, 1, 4] [d, d + 1 + 4] (by simp [Tryz.ntmps86] <;> rfl) ?_   -- codec.go:191
    refine aw_seq ?_
    refine awk_step (d + 1) [0, 1, 4, 8] [d, d + 1 + 4] (by simp <;> rfl) ?_   -- codec.go:192
    refine aw_cond rfl (fun h1 => ?_) (fun h1 => by simp at h1)
    refine aw_region ?_
    exact awl_panS (fail_acs 5) Tryz.func92 rfl (by kernel_rfl) rfl rfl rfl (by simp <;> rfl) (fun k o hk => by simp [Eng.get] at hk) (fun ch hch => ⟨5, rfl, hch⟩)
  | succ lv ih =>
  intro d v at0 hlv hat
  rw [rdN]
  obtain ⟨lvl, hlvl⟩ : ∃ l : Int, (9 - ((lv + 1 : Nat) : Int)) = l := ⟨_, rfl⟩
  rw [hlvl]
  have hl8 : ¬ (8 < lvl) := by omega
  refine acs_intro Tryz.func86 rfl (by show (2 : Nat) ≤ 57; omega) (fun w0 N0 nx0 => ?_)
  refine awk_step (d + 1) [0, 1, 4] [d, d + 1 + 4] (by simp [Tryz.ntmps86] <;> rfl) ?_   -- codec.go:191
  refine aw_seq ?_
  refine awk_step (d + 1) [0, 1, 4, 8] [d, d + 1 + 4] (by simp <;> rfl) ?_   -- codec.go:192
  refine aw_cond rfl (fun h1 => by simp at h1; omega) (fun h1 => aw_skip ?_)
  refine aw_seq (aw_region ?_)   -- codec.go:195
  refine awlk_go (d + 1) 1 (by simp <;> rfl) ?_
  cases hv : rdV bs e 10 0 0 at0 with
  | error er => exact awl_panS (varint_err d v bs at0 e er hat hb hv) Tryz.func93 rfl (by kernel_rfl) rfl rfl rfl (by simp <;> rfl) (fun k o hk => get_one (by simp [Eng.get]) hk) (fun ch hch => ⟨er, rfl, hch⟩)
  | ok p =>
  obtain ⟨tag, a1⟩ := p
  obtain ⟨htag, ha1, _⟩ := rdV_bound (i := 0) (by omega) (by simp) hat hv
  refine awl_callS1 (varint_ok d v bs at0 tag a1 e hat hb hv) Tryz.func93 rfl (by kernel_rfl) (by simp [rd, Eng.get]) rfl (by decide) rfl rfl rfl (by simp <;> rfl) (fun k o hk => get_one (by simp [Eng.get]) hk) (by simp <;> rfl) ?_
  refine awlk_end (d + 1) [0, 1, 4, 5] [d, d + 1 + 4] (by simp <;> rfl) ?_
  refine aw_seq ?_
  refine awk_step (d + 1) [0, 1, 4, 5, 13] [d, d + 1 + 4] (by simp <;> rfl) ?_   -- codec.go:196
  simp only
  refine aw_cond rfl (fun h2 => ?_) (fun h2 => aw_skip ?_)   -- if t13
  · have hbig : 9999999 < tag := by simp at h2; omega
    rw [if_pos hbig]
    refine aw_region ?_
    exact awl_panS (fail_acs 3) Tryz.func92 rfl (by kernel_rfl) rfl rfl rfl (by simp <;> rfl) (fun k o hk => by simp [Eng.get] at hk) (fun ch hch => ⟨3, rfl, hch⟩)
  have hsml : ¬ 9999999 < tag := by simp at h2; omega
  rw [if_neg hsml]
  have hwt : IntKind.i64.wrap (tag : Int) = tag := wrap_in (by omega) (by omega)
  refine aw_seq (aw_region ?_)   -- codec.go:199
  refine awlk_go (d + 1) 3 (by simp [hwt] <;> rfl) ?_
  by_cases hlt : a1 < bs.length
  case neg =>
    have hnone : bs[a1]? = none := List.getElem?_eq_none (by omega)
    rw [hnone]
    exact awl_panS (take_err d v bs a1 1 e (by omega) ha1 (by omega) hb) Tryz.func94 rfl (by kernel_rfl) rfl rfl rfl (by simp <;> rfl) (fun k o hk => get_one (by simp [Eng.get]) hk) (fun ch hch => ⟨e, rfl, hch⟩)
  have hgc : bs[a1]? = some bs[a1] := List.getElem?_eq_getElem hlt
  rw [hgc]
  have hone : (bs.drop a1).take 1 = [bs[a1]] := by rw [List.drop_eq_getElem_cons hlt]; rfl
  have htk := take_ok d v bs a1 1 e (by omega) hb
  rw [hone] at htk
  generalize bs[a1] = k at htk
  have hcl : k.toNat < 256 := k.toNat_lt
  have hwk : IntKind.i64.wrap (k.toNat : Int) = k.toNat := wrap_in (by omega) (by omega)
  refine awl_callS1 htk Tryz.func94 rfl (by kernel_rfl) (by simp [rd, Eng.get]) rfl (by decide) rfl rfl rfl (by simp <;> rfl) (fun k o hk => get_one (by simp [Eng.get]) hk) (by simp <;> rfl) ?_
  refine awlk_end (d + 1) [0, 1, 4, 6] [d, d + 1 + 4, d + 1 + 6] (by simp [byV, hwk] <;> rfl) ?_
  refine aw_seq ?_
  refine awk_step (d + 1) [0, 1, 4, 6, 24] [d, d + 1 + 4, d + 1 + 6] (by simp <;> rfl) ?_   -- codec.go:200
  refine aw_block ?_
  refine awk_step (d + 1) [0, 1, 4, 6, 24, 26] [d, d + 1 + 4, d + 1 + 6] (by simp <;> rfl) ?_   -- codec.go:201
  simp only
  refine aw_cond rfl (fun h3 => ?_) (fun h3 => ?_)   -- if t26
  · have hk1 : k.toNat = 1 := by simp at h3; omega
    rw [if_pos hk1]
    refine aw_region ?_   -- codec.go:202
    refine awlk_go (d + 1) 1 (by simp <;> rfl) ?_
    cases hv2 : rdV bs e 10 0 0 (a1 + 1) with
    | error er => exact awl_panS (varint_err d v bs (a1 + 1) e er (by omega) hb hv2) Tryz.func93 rfl (by kernel_rfl) rfl rfl rfl (by simp <;> rfl) (fun k o hk => get_one (by simp [Eng.get]) hk) (fun ch hch => ⟨er, rfl, hch⟩)
    | ok p =>
    obtain ⟨x, a2⟩ := p
    refine awl_callS1 (varint_ok d v bs (a1 + 1) x a2 e (by omega) hb hv2) Tryz.func93 rfl (by kernel_rfl) (by simp [rd, Eng.get]) rfl (by decide) rfl rfl rfl (by simp <;> rfl) (fun k o hk => get_one (by simp [Eng.get]) hk) (by simp <;> rfl) ?_
    refine awl_call1 (unfold_ac x) Tryz.func95 rfl (by kernel_rfl) rfl rfl rfl (by simp <;> rfl) (by simp) (by simp <;> rfl) ?_
    refine awlk_end (d + 1) [4, 6] [d, d + 1 + 4, d + 1 + 6] (by simp <;> rfl) ?_
    refine aw_adoptC (d + 1 + 6) 4 (d + 1 + 100) 5 42 [4, 6] [d, d + 1 + 4, d + 1 + 6, d + 1 + 100] (by simp <;> rfl) ?_
    refine aw_freeze (d + 1 + 100) [4, 6] [d, d + 1 + 4, d + 1 + 6] (by simp <;> rfl) ?_
    refine awk_step (d + 1) [4] [d, d + 1 + 4] (by simp <;> rfl) ?_   -- codec.go:212
    refine aw_ret ⟨by simp only; omega, (Nd.mk tag 1 (unfI x) [] []).v, [(d, ⟨v, 3, 115, [rd bs a2 e]⟩)], by simp [Tryz.results86, Nd.v, hk1], fun k o hk => get_one (by simp [Eng.get, rd]) hk, _, _, rfl, rfl, rfl⟩
  · have hk1 : ¬ k.toNat = 1 := by simp at h3; omega
    rw [if_neg hk1]
    refine awk_step (d + 1) [0, 1, 4, 6, 24, 32] [d, d + 1 + 4, d + 1 + 6] (by simp <;> rfl) ?_   -- codec.go:203
    refine aw_cond rfl (fun h4 => ?_) (fun h4 => ?_)   -- if t32
    · have hk2 : k.toNat = 2 := by simp at h4; omega
      rw [if_pos hk2]
      refine aw_region ?_   -- codec.go:204
      refine awlk_go (d + 1) 2 (by simp <;> rfl) ?_
      cases hv2 : rdC bs e 2000 (a1 + 1) with
      | error er => exact awl_panS (count_err d v bs (a1 + 1) 2000 e er (by omega) hb (by omega) hv2) Tryz.func96 rfl (by kernel_rfl) rfl rfl rfl (by simp <;> rfl) (fun k o hk => get_one (by simp [Eng.get]) hk) (fun ch hch => ⟨er, rfl, hch⟩)
      | ok p =>
      obtain ⟨n, a2⟩ := p
      obtain ⟨hn, ha2, _⟩ := rdC_bound (by omega) hv2
      refine awl_callS1 (count_ok d v bs (a1 + 1) n a2 2000 e (by omega) hb (by omega) hv2) Tryz.func96 rfl (by kernel_rfl) (by simp [rd, Eng.get]) rfl (by decide) rfl rfl rfl (by simp <;> rfl) (fun k o hk => get_one (by simp [Eng.get]) hk) (by simp <;> rfl) ?_
      simp only
      by_cases hfit : a2 + n ≤ bs.length
      case neg =>
        rw [if_neg hfit]
        exact awl_panS (take_err d v bs a2 n e (by omega) ha2 (by omega) hb) Tryz.func94 rfl (by kernel_rfl) rfl rfl rfl (by simp <;> rfl) (fun k o hk => get_one (by simp [Eng.get]) hk) (fun ch hch => ⟨e, rfl, hch⟩)
      rw [if_pos hfit]
      have htk2 := take_ok d v bs a2 n e hfit hb
      have hbv := bytesV_bys ((bs.drop a2).take n)
      have hpb := bys_pure ((bs.drop a2).take n)
      generalize (bs.drop a2).take n = sb at htk2 hbv hpb
      generalize bys sb = sbv at htk2 hbv hpb
      refine awl_callS1 htk2 Tryz.func94 rfl (by kernel_rfl) (by simp [rd, Eng.get]) rfl (by decide) rfl rfl rfl (by simp <;> rfl) (fun k o hk => get_one (by simp [Eng.get]) hk) (by simp <;> rfl) ?_
      refine awlk_end (d + 1) [4, 6] [d, d + 1 + 4, d + 1 + 6] (by simp [hbv] <;> rfl) ?_
      refine aw_adoptC (d + 1 + 6) 4 (d + 1 + 100) 5 42 [4, 6] [d, d + 1 + 4, d + 1 + 6, d + 1 + 100] (by simp <;> rfl) ?_
      refine aw_freeze (d + 1 + 100) [4, 6] [d, d + 1 + 4, d + 1 + 6] (by simp <;> rfl) ?_
      refine awk_step (d + 1) [4] [d, d + 1 + 4] (by simp <;> rfl) ?_   -- codec.go:212
      refine aw_ret ⟨by simp only; omega, (Nd.mk tag 2 0 sb []).v, [(d, ⟨v, 3, 115, [rd bs (a2 + n) e]⟩)], by simp [Tryz.results86, Nd.v, hk2], fun k o hk => get_one (by simp [Eng.get, rd]) hk, _, _, rfl, rfl, rfl⟩
    · have hk2 : ¬ k.toNat = 2 := by simp at h4; omega
      rw [if_neg hk2]
      refine awk_step (d + 1) [0, 1, 4, 6, 40] [d, d + 1 + 4, d + 1 + 6] (by simp <;> rfl) ?_   -- codec.go:205
      refine aw_cond rfl (fun h5 => ?_) (fun h5 => ?_)   -- if t40
      case refine_2 =>
        have hk3 : ¬ k.toNat = 3 := by simp at h5; omega
        rw [if_neg hk3]
        refine aw_region ?_   -- codec.go:210
        exact awl_panS (fail_acs 2) Tryz.func92 rfl (by kernel_rfl) rfl rfl rfl (by simp <;> rfl) (fun k o hk => by simp [Eng.get] at hk) (fun ch hch => ⟨2, rfl, hch⟩)
      have hk3 : k.toNat = 3 := by simp at h5; omega
      rw [if_pos hk3]
      refine aw_seq (aw_region ?_)   -- codec.go:206
      refine awlk_go (d + 1) 1 (by simp <;> rfl) ?_
      cases hv2 : rdC bs e 1024 (a1 + 1) with
      | error er => exact awl_panS (count_err d v bs (a1 + 1) 1024 e er (by omega) hb (by omega) hv2) Tryz.func96 rfl (by kernel_rfl) rfl rfl rfl (by simp <;> rfl) (fun k o hk => get_one (by simp [Eng.get]) hk) (fun ch hch => ⟨er, rfl, hch⟩)
      | ok p =>
      obtain ⟨n, a2⟩ := p
      obtain ⟨hn, ha2, _⟩ := rdC_bound (by omega) hv2
      refine awl_callS1 (count_ok d v bs (a1 + 1) n a2 1024 e (by omega) hb (by omega) hv2) Tryz.func96 rfl (by kernel_rfl) (by simp [rd, Eng.get]) rfl (by decide) rfl rfl rfl (by simp <;> rfl) (fun k o hk => get_one (by simp [Eng.get]) hk) (by simp <;> rfl) ?_
      refine awlk_end (d + 1) [0, 1, 4, 6, 43, 44] [d, d + 1 + 4, d + 1 + 6] (by simp <;> rfl) ?_
      refine aw_adoptC (d + 1 + 6) 4 (d + 1 + 100) 5 42 [0, 1, 4, 6, 43, 44] [d, d + 1 + 4, d + 1 + 6, d + 1 + 100] (by simp <;> rfl) ?_
      refine aw_block ?_
      refine aw_loop (fun p : Nat × List Nd × Nat × Nat × Nat => ⟨[(0, .bp d v 3 0 0), (1, .int .i64 lvl), (4, .bp (d + 1 + 4) nx0 5 0 0), (6, .bp (d + 1 + 6) (nx0 + 1 + 2 + 3 + 2 + 8) 5 0 0), (43, .int .i64 n), (44, .int .i64 p.1)],
        [(d, ⟨v, 3, 115, [rd bs p.2.2.1 e]⟩), (d + 1 + 4, ⟨nx0, 5, 42, [.agg [.int .i64 0, .int .i64 0, .int .i64 0, .str [], .nils]]⟩), (d + 1 + 6, ⟨nx0 + 1 + 2 + 3 + 2 + 8, 5, 42, [.agg [.int .i64 tag, .int .i64 k.toNat, .int .i64 0, .str [], .sl (d + 1 + 100) p.2.2.2.1 5 (p.2.1.map Nd.v).length]]⟩), (d + 1 + 100, ⟨p.2.2.2.1, 5, 42, p.2.1.map Nd.v⟩)], p.2.2.2.2, 57⟩)
        (fun p => p.1 ≤ n ∧ p.2.1.length = p.1 ∧ p.2.2.1 ≤ bs.length ∧ nx0 ≤ p.2.2.2.2 ∧ preL p.2.1 (rdL (rdN bs e lv) (n - p.1) p.2.2.1) = rdL (rdN bs e lv) n a2) (fun p => n - p.1) (0, [], a2, _, _) ⟨Nat.zero_le _, rfl, ha2, ?_, ?_⟩ (by simp; exact AS.le_refl _) ?_
      · simp only; omega
      · simp only [Nat.sub_zero]
        cases rdL (rdN bs e lv) n a2 with
        | error er => rfl
        | ok p => rfl
      rintro ⟨i, acc, at_, vr, nx⟩ ⟨hi, hacc, hat_, hnx, hR⟩
      simp only at hi hacc hat_ hnx hR
      have hpacc := pureNd acc
      have hal : (acc.map Nd.v).length = i := by simpa using hacc
      generalize hav : acc.map Nd.v = av at hpacc hal
      refine awk_step (d + 1) [0, 1, 4, 6, 43, 44, 45] [d, d + 1 + 4, d + 1 + 6, d + 1 + 100] (by simp <;> rfl) ?_   -- codec.go:206
      refine aw_seq ?_
      refine aw_cond rfl (fun h6 => aw_skip ?_) (fun h6 => ?_)   -- if t45
      · have hin : i < n := by simp at h6; omega
        obtain ⟨m, hm⟩ : ∃ m, n - i = m + 1 := ⟨n - i - 1, by omega⟩
        rw [hm, rdL] at hR
        have hwl : IntKind.i64.wrap (lvl + 1) = 9 - (lv : Int) := by rw [wrap_in (by omega) (by omega)]; omega
        have hwi := wrap_succ (k := i) (by omega)
        have hcall := ih d v at_ (by omega) hat_
        have hb1 : i + 1 ≤ maxLen := by simp [maxLen]; omega
        have hb2 : (i + 1) * 64 ≤ 140737488355328 := by omega
        cases hx : rdN bs e lv at_ with
        | error er =>
          rw [hx] at hR
          have hp : ACS Tryz.prog 86 [.bp d v 3 0 0, .int .i64 (9 - lv : Int)] [(d, ⟨v, 3, 115, [rd bs at_ e]⟩)] (fun _ _ => False) (fun ch => ch = pan er) :=
            hcall.mono (fun r q ⟨x', a', h1, _⟩ => by rw [hx] at h1; cases h1) (fun ch ⟨er', h1, h2⟩ => by rw [hx] at h1; injection h1 with h1; subst h1; exact h2)
          have hfin : rdL (rdN bs e lv) n a2 = .error er := hR.symm
          refine aw_seq (aw_block (awk_drawX (d + 1) [5] hmix ?_))
          refine at_go [(0, []), (2, []), (3, []), (4, [])] (by kernel_rfl) (by simp [hwl] <;> rfl) ?_
          refine at_forkP [1, 5] (by kernel_rfl) (fun j hj => ?_)
          simp only [List.mem_cons, List.not_mem_nil, or_false] at hj
          rcases hj with rfl | rfl
          · refine .inl ⟨_, _, rfl, sx_go (by simp <;> rfl), ?_⟩
            refine at_pan (i := 5) (by kernel_rfl) rfl ?_
            exact pan_callS hp Tryz.func86 rfl (by kernel_rfl) rfl rfl rfl (by simp <;> rfl) (fun k o hk => get_one (by simp [Eng.get]) hk) (objs := []) (fun k q hk => by simp [Eng.get] at hk) (fun ch hch => ⟨er, by simp only [hfin], hch⟩)
          · refine .inr ⟨_, rfl, ?_⟩
            exact pan_callS hp Tryz.func86 rfl (by kernel_rfl) rfl rfl rfl (by simp <;> rfl) (fun k o hk => get_one (by simp [Eng.get]) hk) (objs := []) (fun k q hk => by simp [Eng.get] at hk) (fun ch hch => ⟨er, by simp only [hfin], hch⟩)
        | ok p =>
        obtain ⟨x, a3⟩ := p
        rw [hx] at hR
        simp only at hR
        have ha3 := rdN_bound hat_ hx
        have hp : ACS Tryz.prog 86 [.bp d v 3 0 0, .int .i64 (9 - lv : Int)] [(d, ⟨v, 3, 115, [rd bs at_ e]⟩)] (fun r q => r = x.v ∧ q = [(d, ⟨v, 3, 115, [rd bs a3 e]⟩)]) (fun _ => False) :=
          hcall.mono (fun r q ⟨x', a', h1, h2, h3⟩ => by rw [hx] at h1; injection h1 with h1; injection h1 with h4 h5; subst h4; subst h5; exact ⟨h2, h3⟩) (fun ch ⟨er', h1, _⟩ => by rw [hx] at h1; cases h1)
        have hpx := x.v_pure
        have hR2 : preL (acc ++ [x]) (rdL (rdN bs e lv) m a3) = rdL (rdN bs e lv) n a2 := by
          rw [← hR]
          cases rdL (rdN bs e lv) m a3 with
          | error er => rfl
          | ok p => simp [preL]
        rcases hxx : x with ⟨xt, xk, xn, xs, xks⟩
        have hxv : x.v = .agg [.int .i64 xt, .int .i64 xk, .int .i64 xn, .str xs, .ro 5 (xks.map Nd.v)] := by rw [hxx, Nd.v]
        rw [hxv] at hp
        have hpk := pureNd xks
        generalize hkvv : xks.map Nd.v = xkv at hp hpk hxv
        refine aw_seqE ⟨[(0, .bp d v 3 0 0), (1, .int .i64 lvl), (4, .bp (d + 1 + 4) nx0 5 0 0), (6, .bp (d + 1 + 6) (nx0 + 1 + 2 + 3 + 2 + 8) 5 0 0), (43, .int .i64 n), (44, .int .i64 i)],
          [(d, ⟨v, 3, 115, [rd bs a3 e]⟩), (d + 1 + 4, ⟨nx0, 5, 42, [.agg [.int .i64 0, .int .i64 0, .int .i64 0, .str [], .nils]]⟩), (d + 1 + 6, ⟨nx0 + 1 + 2 + 3 + 2 + 8, 5, 42, [.agg [.int .i64 tag, .int .i64 k.toNat, .int .i64 0, .str [], .sl (d + 1 + 100) (nx + 1 + 7) 5 (av.length + 1)]]⟩), (d + 1 + 100, ⟨nx + 1 + 7, 5, 42, av ++ [.agg [.int .i64 xt, .int .i64 xk, .int .i64 xn, .str xs, .ro 5 xkv]]⟩)], nx + 1 + 10, 57⟩ (aw_block (awk_drawX (d + 1) [5] hmix ?_)) ?_
        · refine at_go [(0, []), (2, []), (3, []), (4, [])] (by kernel_rfl) (by simp [hwl] <;> rfl) ?_
          refine at_fork [1, 5] (by kernel_rfl) (fun j hj => ?_)
          simp only [List.mem_cons, List.not_mem_nil, or_false] at hj
          rcases hj with rfl | rfl
          · refine ⟨_, _, rfl, sx_go (by simp <;> rfl), ?_⟩
            refine at_fork [5] (by kernel_rfl) (fun j hj => ?_)
            simp only [List.mem_cons, List.not_mem_nil, or_false] at hj
            subst hj
            refine ⟨_, _, rfl, sx_callS (by decide) hp (by simp [rd, Eng.get]) (by simp) Tryz.func86 rfl (by kernel_rfl) rfl rfl rfl (by simp <;> rfl) (fun k o hk => get_one (by simp [Eng.get]) hk) (by simp <;> rfl), ?_⟩
            refine at_go [(6, []), (7, []), (8, []), (9, [])] (by kernel_rfl) (by simp [hal, hb1, hb2] <;> rfl) ?_
            exact at_end [0, 1, 4, 6, 43, 44] [d, d + 1 + 4, d + 1 + 6, d + 1 + 100] (by kernel_rfl) (by simp <;> rfl) (by show _ = _; simp [hal])
          · refine ⟨_, _, rfl, sx_callS (by decide) hp (by simp [rd, Eng.get]) (by simp) Tryz.func86 rfl (by kernel_rfl) rfl rfl rfl (by simp <;> rfl) (fun k o hk => get_one (by simp [Eng.get]) hk) (by simp <;> rfl), ?_⟩
            refine at_go [(1, [52]), (6, []), (7, []), (8, []), (9, [])] (by kernel_rfl) (by simp [hal, hb1, hb2] <;> rfl) ?_
            exact at_end [0, 1, 4, 6, 43, 44] [d, d + 1 + 4, d + 1 + 6, d + 1 + 100] (by kernel_rfl) (by simp <;> rfl) (by show _ = _; simp [hal])
        refine awk_one (d + 1) [0, 1, 4, 6, 43, 44] [d, d + 1 + 4, d + 1 + 6, d + 1 + 100] (by simp [hwi] <;> rfl) ?_   -- codec.go:206
        refine ⟨(i + 1, acc ++ [x], a3, nx + 1 + 7, nx + 1 + 10 + 2), ⟨by simp only; omega, by simp [hacc], ha3, by simp only; omega, ?_⟩, by simp only; omega, ?_⟩
        · simp only
          rw [show n - (i + 1) = m by omega]
          exact hR2
        · have hc1 : ((i + 1 : Nat) : Int) = (i : Int) + 1 := by omega
          have hlen : av.length + 1 = ((acc ++ [x]).map Nd.v).length := by simp [← hav]
          simp only [hc1, List.map_append, hav, List.map_cons, List.map_nil, hxv, List.length_append, List.length_cons, List.length_nil]
          exact AS.le_refl _
      · have hin : i = n := by simp at h6; omega
        subst hin
        rw [Nat.sub_self, rdL] at hR
        simp only [preL, List.append_nil] at hR
        refine aw_exit ?_
        refine aw_freeze (d + 1 + 100) [4, 6] [d, d + 1 + 4, d + 1 + 6] (by simp [hpacc] <;> rfl) ?_
        refine awk_step (d + 1) [4] [d, d + 1 + 4] (by simp <;> rfl) ?_   -- codec.go:212
        refine aw_ret ⟨by simp only; omega, (Nd.mk tag 3 0 [] acc).v, [(d, ⟨v, 3, 115, [rd bs at_ e]⟩)], by simp [Tryz.results86, Nd.v, hk3, hav], fun k o hk => get_one (by simp [Eng.get, rd]) hk, _, _, by simp only [← hR], rfl, rfl⟩
end Go.Proofs.YtmkbhognijicjaaGreatDoor

/- Joins: Decode. No condition. -/
set_option linter.unusedSimpArgs false
set_option maxRecDepth 4000
namespace Go.Proofs.YtmkbhognijicjaaGreatDoor
open Go.Eng

abbrev capV : List V := [.bp 2 0 5 0 0, .bp 3 1 1 0 0, .bp 4 2 1 0 0]
abbrev obsD (x y z : V) : List (Nat × Ob) := [(2, ⟨0, 5, 42, [x]⟩), (3, ⟨1, 1, 3, [y]⟩), (4, ⟨2, 1, 30, [z]⟩)]
theorem clo_ret (x y z : V) : ACD Tryz.prog 85 capV (obsD x y z) .returning .returning (fun outs => outs = obsD x y z) := by
  refine acd_recover (u := .returning) (v := .nili) Tryz.func85 rfl (by show (3 : Nat) ≤ 13; omega) rfl rfl rfl (by show (6 : Nat) < 13; omega) (fun w N => .nili) (fun w0 N0 nx => ?_) rfl
  refine awl_end [0, 1, 2, 3, 4] [2, 3, 4] (by simp [Tryz.ntmps85] <;> rfl) ?_
  refine aw_step [0, 1, 2, 3, 10] [2, 3, 4] (by simp <;> rfl) ?_
  refine aw_cond rfl (fun h1 => by simp at h1) (fun h1 => aw_skip ?_)
  exact ⟨by simp only; omega, obsD x y z, fun k o hk => by simpa using hk, rfl⟩
theorem clo_pan (x : List V) (y z : Int) (er : Int) (hx : x.length = 5) : ACD Tryz.prog 85 capV (obsD (.agg x) (.int .i64 y) (.int .i64 z)) (.panicking (pan er)) (.panicking [{ v := .iface 112 (.int .i64 er), recovered := true }])
    (fun outs => outs = obsD (.agg [.int .i64 0, .int .i64 0, .int .i64 0, .str [], .nils]) (.int .i64 0) (.int .i64 er)) := by
  have hd : x.drop 5 = [] := List.drop_of_length_le (by omega)
  refine acd_recover (u := .panicking (pan er)) (v := .ifc 112 (.int .i64 er)) Tryz.func85 rfl (by show (3 : Nat) ≤ 13; omega) rfl rfl rfl (by show (6 : Nat) < 13; omega) (fun w N => .ifc _ _ _ rfl (.int _ _)) (fun w0 N0 nx => ?_) rfl
  refine awl_end [0, 1, 2, 3, 4] [2, 3, 4] (by simp [Tryz.ntmps85] <;> rfl) ?_
  refine aw_step [0, 1, 2, 3, 10] [2, 3, 4] (by simp <;> rfl) ?_
  refine aw_cond rfl (fun h1 => ?_) (fun h1 => by simp at h1)
  refine aw_one [0, 1, 2] [2, 3, 4] (by simp [hx, hd] <;> rfl) ?_
  exact ⟨by simp only; omega, _, fun k o hk => by simpa [hx, hd] using hk, rfl⟩

/-- What Decode hands back. -/
def decR (bs : List UInt8) : V := match rdN bs 4 8 0 with
  | .ok (x, a) => .tup [x.v, .int .i64 a, .int .i64 0]
  | .error er => .tup [(Nd.mk 0 0 0 [] []).v, .int .i64 0, .int .i64 er]
theorem AC.relaxP {P : Program} {f : FuncId} {args : List V} {v' : V} (h : AC P f args (fun r => Relax r v')) : AC P f args (fun r => r = v') :=
  fun w N xs h1 h2 h3 => (h w N xs h1 h2 h3).mono fun _ _ ⟨x, _, he, hR, hp, hb⟩ => ⟨x, v', he, rfl, hR.1 _ _ _ hp, hb⟩
theorem hasD {x y z x' y' z' : V} : ∀ k, Eng.get (obsD x y z) k = none → Eng.get (obsD x' y' z') k = none := by
  intro k hk
  by_cases h2 : 2 = k
  · subst h2; simp [Eng.get] at hk
  by_cases h3 : 3 = k
  · subst h3; simp [Eng.get] at hk
  by_cases h4 : 4 = k
  · subst h4; simp [Eng.get] at hk
  simp [Eng.get, h2, h3, h4]
set_option maxHeartbeats 4000000 in
theorem decode_ac (bs : List UInt8) (hb : bs.length ≤ 1048576) : AC Tryz.prog 71 [.ro 1 (bys bs)] (fun r => r = decR bs) := by
  have hl := bysL bs
  have hnode := node_acs bs 4 hb 8 5 7 0 (by omega) (Nat.zero_le _)
  have hbig : ¬ (1048576 < (bys bs).length) := by omega
  refine AC.relaxP ?_
  refine ac_deferred (S1 := ⟨[(0, .ro 1 (bys bs)), (2, .bp 2 0 5 0 0), (3, .bp 3 1 1 0 0), (4, .bp 4 2 1 0 0)], obsD (.agg [.int .i64 0, .int .i64 0, .int .i64 0, .str [], .nils]) (.int .i64 0) (.int .i64 0), 3, 19⟩) (cvs := capV) Tryz.func71 rfl (by show (1 : Nat) ≤ 19; omega) Tryz.func85 rfl (by kernel_rfl) rfl rfl rfl rfl rfl rfl (fun w0 N0 => ?_) (by simp <;> rfl) rfl (by show (6 : Nat) < 19; omega) (fun w0 N0 => ?_) rfl
  · exact aw_one [0, 2, 3, 4] [2, 3, 4] (by simp [Tryz.ntmps71] <;> rfl) ⟨rfl, rfl⟩
  refine aw_step [0, 2, 3, 4, 5] [2, 3, 4, 5] (by simp <;> rfl) ?_
  refine aw_seq ?_
  refine aw_step [0, 2, 3, 4, 5, 11] [2, 3, 4, 5] (by simp <;> rfl) ?_
  refine aw_cond rfl (fun h1 => by simp at h1; omega) (fun h1 => aw_skip ?_)
  refine aw_seq (aw_region ?_)
  unfold decR
  cases hx : rdN bs 4 8 0 with
  | error er =>
    have hp : ACS Tryz.prog 86 [.bp 5 7 3 0 0, .int .i64 1] [(5, ⟨7, 3, 115, [rd bs 0 4]⟩)] (fun _ _ => False) (fun ch => ch = pan er) :=
      hnode.mono (fun r q ⟨x', a', h1, _⟩ => by rw [hx] at h1; cases h1) (fun ch ⟨er', h1, h2⟩ => by rw [hx] at h1; injection h1 with h1; subst h1; exact h2)
    refine awl_panS hp Tryz.func86 rfl (by kernel_rfl) rfl rfl rfl (by simp <;> rfl) (fun k o hk => get_one (by simp [Eng.get, rd]) hk) (fun ch hch => ?_)
    subst hch
    refine ⟨.panicking (pan er), _, obsD (.agg [.int .i64 0, .int .i64 0, .int .i64 0, .str [], .nils]) (.int .i64 0) (.int .i64 0), _, rfl, fun k o hk => by simpa [dropK] using hk, clo_pan [.int .i64 0, .int .i64 0, .int .i64 0, .str [], .nils] 0 0 er rfl, rfl, fun outs nx ho => ⟨fun k hk => ?_, ?_⟩⟩
    · subst ho; exact hasD k hk
    · subst ho
      refine ⟨_, by simp [Tryz.results71] <;> rfl, ?_⟩
      simp only [Nd.v, List.map_nil]
      exact Relax.tup (.cons (Relax.agg (.cons (.refl _) (.cons (.refl _) (.cons (.refl _) (.cons (.refl _) (.cons (.nils 5) .nil)))))) (.refl _))
  | ok p =>
    obtain ⟨x, a⟩ := p
    have hp : ACS Tryz.prog 86 [.bp 5 7 3 0 0, .int .i64 1] [(5, ⟨7, 3, 115, [rd bs 0 4]⟩)] (fun r q => r = x.v ∧ q = [(5, ⟨7, 3, 115, [rd bs a 4]⟩)]) (fun _ => False) :=
      hnode.mono (fun r q ⟨x', a', h1, h2, h3⟩ => by rw [hx] at h1; injection h1 with h1; injection h1 with h4 h5; subst h4; subst h5; exact ⟨h2, h3⟩) (fun ch ⟨er', h1, _⟩ => by rw [hx] at h1; cases h1)
    rcases hxx : x with ⟨xt, xk, xn, xs, xks⟩
    have hxv : x.v = .agg [.int .i64 xt, .int .i64 xk, .int .i64 xn, .str xs, .ro 5 (xks.map Nd.v)] := by rw [hxx, Nd.v]
    rw [hxv] at hp
    have hpk := pureNd xks
    generalize hkvv : xks.map Nd.v = xkv at hp hpk hxv
    refine awl_callS1 hp Tryz.func86 rfl (by kernel_rfl) (by simp [rd, Eng.get]) (by simp [hpk]) (by show (0 : Nat) < 2; omega) rfl rfl rfl (by simp <;> rfl) (fun k o hk => get_one (by simp [Eng.get, rd]) hk) (by simp <;> rfl) ?_
    refine awl_end [2, 3, 4, 5] [2, 3, 4, 5] (by simp <;> rfl) ?_
    refine aw_seqE ⟨[(2, .bp 2 0 5 0 0), (3, .bp 3 1 1 0 0), (4, .bp 4 2 1 0 0)], obsD (.agg [.int .i64 xt, .int .i64 xk, .int .i64 xn, .str xs, .ro 5 xkv]) (.int .i64 a) (.int .i64 0), 20, 19⟩ (aw_drawX [] hmix ?_) ?_
    · refine at_go [(1, []), (0, [])] (by kernel_rfl) (by simp [rd] <;> rfl) ?_
      refine at_fork [2, 3] (by kernel_rfl) (fun j hj => ?_)
      simp only [List.mem_cons, List.not_mem_nil, or_false] at hj
      rcases hj with rfl | rfl
      · refine ⟨_, _, rfl, sx_go (by simp <;> rfl), ?_⟩
        refine at_go [(3, []), (4, []), (5, [])] (by kernel_rfl) (by simp <;> rfl) ?_
        exact at_end [2, 3, 4] [2, 3, 4] (by kernel_rfl) (by simp <;> rfl) rfl
      · refine ⟨_, _, rfl, sx_go (by simp <;> rfl), ?_⟩
        refine at_go [(2, []), (4, []), (5, [])] (by kernel_rfl) (by simp <;> rfl) ?_
        exact at_end [2, 3, 4] [2, 3, 4] (by kernel_rfl) (by simp <;> rfl) rfl
    refine aw_ret ⟨.returning, _, obsD (.agg [.int .i64 xt, .int .i64 xk, .int .i64 xn, .str xs, .ro 5 xkv]) (.int .i64 a) (.int .i64 0), _, rfl, fun k o hk => by simpa using hk, clo_ret _ _ _, rfl, fun outs nx ho => ⟨fun k hk => ?_, ?_⟩⟩
    · subst ho; exact hk
    · subst ho
      refine ⟨_, by simp [Tryz.results71] <;> rfl, ?_⟩
      show Relax _ (.tup [(Nd.mk xt xk xn xs xks).v, .int .i64 a, .int .i64 0])
      rw [← hxx, hxv]
      exact .refl _
end Go.Proofs.YtmkbhognijicjaaGreatDoor
