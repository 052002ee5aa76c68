import Derived.Test.YtliogkkhofhfcaaGreatDoorGG
/- Query: tokens that are no words. No condition. -/
set_option linter.unusedSimpArgs false
set_option maxRecDepth 4000
namespace Go.Proofs.YtliogkkhofhfcaaGreatDoor
open Go.Eng

/-- A token that is no word, which begins with c; and its size. -/
def symb (c : UInt8) (rest : List UInt8) : Int × List UInt8 × Nat :=
  if c.toNat = 40 then (2, [], 1) else if c.toNat = 41 then (3, [], 1) else
  if c.toNat = 34 then (if Lib.indexByte rest 34 < 0 then (1, [], 1) else if quot (rest.take (Lib.indexByte rest 34).toNat) = false then (1, [], 1) else (5, rest.take (Lib.indexByte rest 34).toNat, (Lib.indexByte rest 34).toNat + 2))
  else if c.toNat ≠ 61 ∧ rest.head? = some 61 then (if hasS signsL [c, 61] = false then (1, [], 1) else (4, [c, 61], 2))
  else if hasS signsL [c] = false then (1, [], 1) else (4, [c], 1)
theorem indexByte_le (c : UInt8) : ∀ l : List UInt8, Lib.indexByte l c ≤ l.length - 1 ∧ -1 ≤ Lib.indexByte l c
  | [] => by simp [Lib.indexByte]
  | b :: l => by
    have := indexByte_le c l
    rw [Lib.indexByte]
    split
    · simp
    · split
      · simp
      · simp only [List.length_cons]; omega
set_option maxHeartbeats 4000000 in
theorem symbol_ac (c : UInt8) (rest : List UInt8) (hl : rest.length ≤ 1000) : AC Tryz.prog 48 [.str (c :: rest), .int .i32 c.toNat] (fun r => r = .tup [.agg [.int .i64 (symb c rest).1, .int .i64 0, .str (symb c rest).2.1], .int .i64 (symb c rest).2.2]) := by
  have hcl : c.toNat < 256 := c.toNat_lt
  have hb1 : (1 : Int) ≤ (rest.length : Int) + 1 := by omega
  refine ac_intro Tryz.func48 rfl (by show (2 : Nat) ≤ 62; omega) (fun w0 N0 => ?_)
  refine aw_step [0, 1, 4] [4] (by simp [Tryz.ntmps48] <;> rfl) ?_   -- parse.go:78
  refine aw_seq ?_
  refine aw_step [0, 1, 4, 8] [4] (by simp <;> rfl) ?_   -- parse.go:79
  refine aw_block ?_
  refine aw_step [0, 1, 4, 8, 9] [4] (by simp <;> rfl) ?_   -- parse.go:80
  refine aw_cond rfl (fun h1 => ?_) (fun h1 => ?_)   -- if t9
  · refine aw_step [4, 5] [4] (by simp <;> rfl) ?_   -- parse.go:81
    refine aw_ret (ends_ret (by simp [Tryz.results48] <;> rfl) ?_)
    have hq : c.toNat = 40 := by simp at h1; omega
    simp [symb, hq]
  have hq1 : ¬ c.toNat = 40 := by simp at h1; omega
  refine aw_step [0, 1, 4, 8, 12] [4] (by simp <;> rfl) ?_   -- parse.go:82
  refine aw_cond rfl (fun h2 => ?_) (fun h2 => ?_)   -- if t12
  · refine aw_step [4, 5] [4] (by simp <;> rfl) ?_   -- parse.go:83
    refine aw_ret (ends_ret (by simp [Tryz.results48] <;> rfl) ?_)
    have hq : c.toNat = 41 := by simp at h2; omega
    simp [symb, hq]
  have hq2 : ¬ c.toNat = 41 := by simp at h2; omega
  refine aw_step [0, 1, 4, 15] [4] (by simp <;> rfl) ?_   -- parse.go:84
  refine aw_cond rfl (fun h3 => ?_) (fun h3 => aw_skip ?_)   -- if t15
  · have hq3 : c.toNat = 34 := by simp at h3; omega
    have hib := indexByte_ac rest 34
    have hbd := indexByte_le 34 rest
    have hsy : symb c rest = if Lib.indexByte rest 34 < 0 then (1, [], 1) else if quot (rest.take (Lib.indexByte rest 34).toNat) = false then (1, [], 1) else (5, rest.take (Lib.indexByte rest 34).toNat, (Lib.indexByte rest 34).toNat + 2) := by
      rw [symb, if_neg hq1, if_neg hq2, if_pos hq3]
    rw [hsy]
    clear hsy
    generalize Lib.indexByte rest 34 = ix at hib hbd ⊢
    have hqu := quotable_ac (rest.take ix.toNat)
    generalize hqb : quot (rest.take ix.toNat) = qb at hqu ⊢
    refine aw_seq (aw_region ?_)   -- parse.go:85
    refine awl_go 2 (by simp [hb1] <;> rfl) ?_
    refine awl_call1 hib Tryz.func65 rfl (by kernel_rfl) rfl rfl rfl (by simp <;> rfl) (by simp) (by simp <;> rfl) ?_
    refine awl_end [0, 4, 6] [4] (by simp <;> rfl) ?_
    refine aw_seq ?_
    refine aw_seq (aw_region ?_)   -- parse.go:86
    by_cases hneg : ix < 0
    · rw [if_pos hneg]
      refine awl_go 3 (by simp [hneg] <;> rfl) ?_
      refine awl_skips 6 (by simp [hneg] <;> rfl) ?_
      refine awl_end [0, 4, 6, 29] [4] (by simp [hneg] <;> rfl) ?_
      refine aw_cond rfl (fun h4 => ?_) (fun h4 => by simp at h4)   -- if t29
      refine aw_step [4, 5] [4] (by simp <;> rfl) ?_   -- parse.go:87
      exact aw_ret (ends_ret (by simp [Tryz.results48] <;> rfl) rfl)
    rw [if_neg hneg]
    obtain ⟨e, rfl⟩ : ∃ e : Nat, ix = e := ⟨ix.toNat, by omega⟩
    simp only [Int.toNat_natCast] at hqu hqb ⊢
    have hel : e < rest.length := by omega
    obtain ⟨s1, hs1, hs1'⟩ : ∃ s : Int, IntKind.i64.wrap (1 + (e : Int)) = s ∧ s = ((e + 1 : Nat) : Int) := ⟨_, rfl, by rw [wrap_in (by omega) (by omega)]; omega⟩
    have hs2 : s1.toNat = e + 1 := by omega
    have hs3 : 1 ≤ s1 ∧ s1 ≤ (rest.length : Int) + 1 := by omega
    have hs5 : IntKind.i64.wrap ((e : Int) + 2) = ((e + 2 : Nat) : Int) := by rw [wrap_in (by omega) (by omega)]; omega
    refine awl_go 7 (by simp [hneg, hs1, hs2, hs3] <;> rfl) ?_
    refine awl_gcall (fun hg => hqu) Tryz.func66 rfl (by kernel_rfl) (by simp <;> rfl) rfl rfl (by simp <;> rfl) (by simp) (by simp <;> rfl) ?_
    refine awl_end [0, 4, 6, 29] [4] (by simp <;> rfl) ?_
    refine aw_cond rfl (fun h4 => ?_) (fun h4 => aw_skip ?_)   -- if t29
    · refine aw_step [4, 5] [4] (by simp <;> rfl) ?_   -- parse.go:87
      have hb : qb = false := by simpa using h4
      subst hb
      rw [if_pos rfl]
      exact aw_ret (ends_ret (by simp [Tryz.results48] <;> rfl) rfl)
    have hb : qb = true := by simpa using h4
    subst hb
    rw [if_neg (by simp)]
    refine aw_step [4, 5] [4] (by simp [hs1, hs2, hs3, hs5] <;> rfl) ?_   -- parse.go:89
    exact aw_ret (ends_ret (by simp [Tryz.results48] <;> rfl) rfl)
  have hq3 : ¬ c.toNat = 34 := by simp at h3; omega
  have hsy : symb c rest = if c.toNat ≠ 61 ∧ rest.head? = some 61 then (if hasS signsL [c, 61] = false then (1, [], 1) else (4, [c, 61], 2)) else if hasS signsL [c] = false then (1, [], 1) else (4, [c], 1) := by
    rw [symb, if_neg hq1, if_neg hq2, if_neg hq3]
  rw [hsy]
  clear hsy h1 h2 h3
  obtain ⟨tx, htx⟩ : ∃ tx : List UInt8, tx = if c.toNat ≠ 61 ∧ rest.head? = some 61 then [c, 61] else [c] := ⟨_, rfl⟩
  have hsy : (if c.toNat ≠ 61 ∧ rest.head? = some 61 then (if hasS signsL [c, 61] = false then ((1, [], 1) : Int × List UInt8 × Nat) else (4, [c, 61], 2)) else if hasS signsL [c] = false then (1, [], 1) else (4, [c], 1)) = if hasS signsL tx = false then (1, [], 1) else (4, tx, tx.length) := by
    rw [htx]
    split <;> rfl
  rw [hsy]
  have htl : tx.length = 1 ∨ tx.length = 2 := by rw [htx]; split <;> simp
  have htk : (c :: rest).take tx.length = tx ∧ tx.length ≤ rest.length + 1 := by
    rw [htx]
    split
    · rename_i h
      cases rest with
      | nil => simp at h
      | cons b r => simp at h; simp [h.2]
    · simp
  have hco := contains_ac signsL tx
  have hsg := signs_ac
  have hpS := strs_pure signsL
  generalize hasS signsL tx = hb at hco ⊢
  generalize strs signsL = sv at hco hsg hpS
  refine aw_step [0, 1, 4, 7] [4] (by simp <;> rfl) ?_   -- parse.go:91
  refine aw_viale ⟨[(0, .str (c :: rest)), (4, .bp 4 0 3 0 0), (7, .int .i64 tx.length)], [(4, ⟨0, 3, 79, [.agg [.int .i64 0, .int .i64 0, .str []]]⟩)], 200, 62⟩ ?_ ?_
  · cases rest with
    | nil =>
      have ht1 : tx = [c] := by rw [htx]; simp
      subst ht1
      refine aw_step [0, 4, 7, 49] [4] (by simp <;> rfl) ?_   -- parse.go:92
      refine aw_cond rfl (fun h5 => by simp at h5) (fun h5 => aw_skip ?_)   -- if t49
      exact ⟨rfl, le_to [0, 4, 7] [4] rfl rfl rfl (by simp only; omega)⟩
    | cons b r =>
      refine aw_step [0, 4, 7, 49] [4] (by simp [nth] <;> rfl) ?_   -- parse.go:92
      refine aw_cond rfl (fun h5 => ?_) (fun h5 => aw_skip ?_)   -- if t49
      · have hcnd : c.toNat ≠ 61 ∧ b = 61 := by
          simp at h5
          refine ⟨by omega, ?_⟩
          apply UInt8.toNat_inj.1
          have := h5.2
          simp; omega
        have ht2 : tx = [c, 61] := by rw [htx, if_pos ⟨hcnd.1, by simp [hcnd.2]⟩]
        subst ht2
        refine aw_one [0, 4, 7] [4] (by simp <;> rfl) ?_   -- parse.go:93
        exact ⟨rfl, le_to [0, 4, 7] [4] rfl rfl rfl (by simp only; omega)⟩
      · have hcnd : ¬ (c.toNat ≠ 61 ∧ (b :: r).head? = some 61) := by
          rintro ⟨g1, g2⟩
          simp at g2
          subst g2
          simp at h5
          omega
        have ht1 : tx = [c] := by rw [htx, if_neg hcnd]
        subst ht1
        exact ⟨rfl, le_to [0, 4, 7] [4] rfl rfl rfl (by simp only; omega)⟩
  have hti : (tx.length : Int) ≤ (rest.length : Int) + 1 := by omega
  refine aw_seq ?_
  refine aw_seq (aw_draw [(0, []), (1, []), (2, []), (3, []), (4, []), (5, [])] hmix (by kernel_rfl) ?_)   -- parse.go:95
  refine awo_call (fun hg => hsg) Tryz.func68 rfl (by kernel_rfl) rfl rfl (by simp <;> rfl) rfl rfl (by simp <;> rfl) (by simp) (by simp <;> rfl) ?_
  refine awo_go 3 (by simp [htk, hti] <;> rfl) ?_
  refine awo_call (fun hg => hco) Tryz.func67 rfl (by kernel_rfl) rfl rfl (by simp <;> rfl) rfl rfl (by simp <;> rfl) (by simp [hpS]) (by simp <;> rfl) ?_
  refine awo_end [0, 4, 7, 55] [4] (by simp <;> rfl) ?_
  refine aw_cond rfl (fun h7 => ?_) (fun h7 => aw_skip ?_)   -- if t55
  · refine aw_step [4, 5] [4] (by simp <;> rfl) ?_   -- parse.go:96
    have hf : hb = false := by simpa using h7
    rw [if_pos hf]
    exact aw_ret (ends_ret (by simp [Tryz.results48] <;> rfl) rfl)
  have hf : ¬ hb = false := by simpa using h7
  rw [if_neg hf]
  refine aw_step [4, 5] [4] (by simp [htk, hti] <;> rfl) ?_   -- parse.go:98
  exact aw_ret (ends_ret (by simp [Tryz.results48] <;> rfl) rfl)
end Go.Proofs.YtliogkkhofhfcaaGreatDoor

/- Query: tokens, plain. No condition. -/
set_option linter.unusedSimpArgs false
set_option maxRecDepth 4000
namespace Go.Proofs.YtliogkkhofhfcaaGreatDoor
open Go.Eng

def inWB (c : UInt8) : Bool := inW c.toNat
/-- A token: its kind, its offset, its text. -/
abbrev Tok := Int × Nat × List UInt8
/-- The tokens of what is left of a string, from an offset on. -/
def toksF : Nat → List UInt8 → Nat → List Tok
  | 0, _, _ => []
  | m + 1, [], i => [(0, i, [])]
  | m + 1, c :: r, i =>
    if c.toNat = 32 then toksF m r (i + 1)
    else if inWB c = true then (6, i, (c :: r).takeWhile inWB) :: toksF m ((c :: r).dropWhile inWB) (i + ((c :: r).takeWhile inWB).length)
    else ((symb c r).1, i, (symb c r).2.1) :: (if (symb c r).1 = 1 then [] else toksF m (r.drop ((symb c r).2.2 - 1)) (i + (symb c r).2.2))
def toks (s : List UInt8) (i : Nat) : List Tok := toksF (s.length + 1) s i
theorem symb_size (c : UInt8) (r : List UInt8) : 1 ≤ (symb c r).2.2 := by
  unfold symb
  repeat' split
  all_goals simp
theorem toksF_eq : ∀ (m : Nat) (s : List UInt8) (i : Nat), s.length < m → toksF m s i = toks s i := by
  intro m
  induction m using Nat.strongRecOn with
  | _ m ih =>
    intro s i h
    unfold toks
    obtain ⟨k, rfl⟩ : ∃ k, m = k + 1 := ⟨m - 1, by omega⟩
    cases s with
    | nil => rfl
    | cons c r =>
      simp only [List.length_cons] at h ⊢
      have hd : ((c :: r).dropWhile inWB).length ≤ r.length ∨ inWB c = false := by
        cases hc : inWB c with
        | false => exact .inr rfl
        | true =>
          left
          rw [List.dropWhile_cons, hc]
          simp only [if_true]
          exact (List.dropWhile_suffix _).length_le
      rw [toksF, toksF]
      split
      · rw [ih k (by omega) r (i + 1) (by omega)]
        unfold toks
        rfl
      · split
        · rename_i hc
          have hd' : ((c :: r).dropWhile inWB).length ≤ r.length := hd.resolve_right (by rw [hc]; simp)
          congr 1
          rw [ih k (by omega) _ _ (by omega)]
          by_cases hk : r.length + 1 < k + 1
          · rw [ih (r.length + 1) (by omega) _ _ (by omega)]
          · have : r.length + 1 = k := by omega
            rw [this, ih k (by omega) _ _ (by omega)]
        · congr 1
          split
          · rfl
          · have hl : (r.drop ((symb c r).2.2 - 1)).length ≤ r.length := by simp
            rw [ih k (by omega) _ _ (by omega)]
            by_cases hk : r.length + 1 < k + 1
            · rw [ih (r.length + 1) (by omega) _ _ (by omega)]
            · have : r.length + 1 = k := by omega
              rw [this, ih k (by omega) _ _ (by omega)]
theorem toks_nil (i : Nat) : toks [] i = [(0, i, [])] := rfl
theorem toks_blank {c : UInt8} (h : c.toNat = 32) (r : List UInt8) (i : Nat) : toks (c :: r) i = toks r (i + 1) := by
  show toksF (r.length + 1 + 1) (c :: r) i = _
  rw [toksF, if_pos h]; rfl
theorem toks_word {c : UInt8} (h0 : c.toNat ≠ 32) (h : inWB c = true) (r : List UInt8) (i : Nat) : toks (c :: r) i = (6, i, (c :: r).takeWhile inWB) :: toks ((c :: r).dropWhile inWB) (i + ((c :: r).takeWhile inWB).length) := by
  show toksF (r.length + 1 + 1) (c :: r) i = _
  rw [toksF, if_neg h0, if_pos h]
  congr 1
  refine toksF_eq _ _ _ ?_
  rw [List.dropWhile_cons, if_pos h]
  have := (List.dropWhile_suffix (l := r) inWB).length_le
  omega
theorem toks_symb {c : UInt8} (h0 : c.toNat ≠ 32) (h : inWB c = false) (r : List UInt8) (i : Nat) : toks (c :: r) i = ((symb c r).1, i, (symb c r).2.1) :: (if (symb c r).1 = 1 then [] else toks (r.drop ((symb c r).2.2 - 1)) (i + (symb c r).2.2)) := by
  show toksF (r.length + 1 + 1) (c :: r) i = _
  rw [toksF, if_neg h0, if_neg (by rw [h]; simp)]
  congr 1
  split
  · rfl
  · refine toksF_eq _ _ _ ?_
    simp
    omega
theorem inWB_32 {c : UInt8} (h : inWB c = true) : c.toNat ≠ 32 := by
  intro e
  unfold inWB inW at h
  rw [e] at h
  simp at h
/-- A word that ends where what stands behind it belongs to no word. -/
theorem toks_word_at (s : List UInt8) (w p : Nat) (hwp : w < p) (hp : p ≤ s.length) (hin : ∀ j (h : j < s.length), w ≤ j → j < p → inWB s[j] = true) (hend : ∀ h : p < s.length, inWB s[p] = false) :
    toks (s.drop w) w = (6, w, (s.drop w).take (p - w)) :: toks (s.drop p) p := by
  have hw : w < s.length := by omega
  have key : ∀ (n : Nat) (l : List UInt8), (∀ j (h : j < l.length), j < n → inWB l[j] = true) → n ≤ l.length → (∀ h : n < l.length, inWB l[n] = false) → l.takeWhile inWB = l.take n ∧ l.dropWhile inWB = l.drop n := by
    intro n
    induction n with
    | zero =>
      intro l _ _ h3
      cases l with
      | nil => simp
      | cons c r =>
        have := h3 (by simp)
        simp at this
        simp [List.takeWhile_cons, List.dropWhile_cons, this]
    | succ n ih =>
      intro l h1 h2 h3
      cases l with
      | nil => simp at h2
      | cons c r =>
        have hc := h1 0 (by simp) (by omega)
        simp at hc
        obtain ⟨a, b⟩ := ih r (fun j h hj => by have := h1 (j + 1) (by simp; omega) (by omega); simpa using this) (by simpa using h2) (fun h => by have := h3 (by simp; omega); simpa using this)
        simp [List.takeWhile_cons, List.dropWhile_cons, hc, a, b]
  obtain ⟨a, b⟩ := key (p - w) (s.drop w) (fun j h hj => by
      have := hin (w + j) (by simp at h; omega) (by omega) (by omega)
      rw [List.getElem_drop]; exact this) (by simp; omega) (fun h => by
      have := hend (by simp at h; omega)
      rw [List.getElem_drop]
      have e : w + (p - w) = p := by omega
      simpa [e] using this)
  have hcons : s.drop w = s[w] :: s.drop (w + 1) := List.drop_eq_getElem_cons hw
  have hc : inWB s[w] = true := hin w hw (Nat.le_refl _) hwp
  rw [hcons, toks_word (inWB_32 hc) hc, ← hcons, a, b, List.drop_drop, List.length_take, List.length_drop]
  have e1 : w + (p - w) = p := by omega
  have e2 : w + min (p - w) (s.length - w) = p := by omega
  rw [e1, e2]

def decB (b0 b1 b2 b3 : Nat) (c1 c2 c3 : Bool) : Nat × Nat :=
  if b0 < 0x80 then (b0, 1)
  else if b0 / 32 == 6 && c1 then
    let c := (b0 % 32) * 64 + b1 % 64
    if c ≥ 0x80 then (c, 2) else (65533, 1)
  else if b0 / 16 == 14 && c1 && c2 then
    let c := (b0 % 16) * 4096 + (b1 % 64) * 64 + b2 % 64
    if c ≥ 0x800 && Utf8.valid c then (c, 3) else (65533, 1)
  else if b0 / 8 == 30 && c1 && c2 && c3 then
    let c := (b0 % 8) * 262144 + (b1 % 64) * 4096 + (b2 % 64) * 64 + b3 % 64
    if c ≥ 0x10000 && Utf8.valid c then (c, 4) else (65533, 1)
  else (65533, 1)
theorem decB_low {b0 b1 b2 b3 : Nat} {c1 c2 c3 : Bool} (h : b0 < 128) : decB b0 b1 b2 b3 c1 c2 c3 = (b0, 1) := by unfold decB; rw [if_pos h]
theorem decB_high {b0 b1 b2 b3 : Nat} {c1 c2 c3 : Bool} (h : ¬ b0 < 128) : 128 ≤ (decB b0 b1 b2 b3 c1 c2 c3).1 ∧
    ((decB b0 b1 b2 b3 c1 c2 c3).2 = 1 ∨ ((decB b0 b1 b2 b3 c1 c2 c3).2 = 2 ∧ c1 = true) ∨ ((decB b0 b1 b2 b3 c1 c2 c3).2 = 3 ∧ c1 = true ∧ c2 = true) ∨ ((decB b0 b1 b2 b3 c1 c2 c3).2 = 4 ∧ c1 = true ∧ c2 = true ∧ c3 = true)) := by
  unfold decB
  rw [if_neg h]
  split
  · rename_i hc
    simp only [Bool.and_eq_true] at hc
    simp only
    split
    · exact ⟨by simp only; omega, .inr (.inl ⟨rfl, hc.2⟩)⟩
    · exact ⟨by decide, .inl rfl⟩
  · split
    · rename_i hc
      simp only [Bool.and_eq_true] at hc
      simp only
      split
      · rename_i hv
        simp only [ge_iff_le, Bool.and_eq_true, decide_eq_true_eq] at hv
        exact ⟨by simp only; omega, .inr (.inr (.inl ⟨rfl, hc.1.2, hc.2⟩))⟩
      · exact ⟨by decide, .inl rfl⟩
    · split
      · rename_i hc
        simp only [Bool.and_eq_true] at hc
        simp only
        split
        · rename_i hv
          simp only [ge_iff_le, Bool.and_eq_true, decide_eq_true_eq] at hv
          exact ⟨by simp only; omega, .inr (.inr (.inr ⟨rfl, hc.1.1.2, hc.1.2, hc.2⟩))⟩
        · exact ⟨by decide, .inl rfl⟩
      · exact ⟨by decide, .inl rfl⟩
def byAt (s : List UInt8) (k : Nat) : Nat := ((⟨s.toArray⟩ : ByteArray).get! k).toNat
def contAt (s : List UInt8) (p k : Nat) : Bool := decide (p + k < (⟨s.toArray⟩ : ByteArray).size) && byAt s (p + k) / 64 == 2
theorem decode_eq (s : List UInt8) (p : Nat) : runeAt s p = decB (byAt s (p + 0)) (byAt s (p + 1)) (byAt s (p + 2)) (byAt s (p + 3)) (contAt s p 1) (contAt s p 2) (contAt s p 3) := rfl
theorem byAt_eq (s : List UInt8) (k : Nat) (h : k < s.length) : byAt s k = s[k].toNat := by
  unfold byAt
  show (s.toArray[k]!).toNat = _
  simp [h]
theorem contAt_eq {s : List UInt8} {p k : Nat} (h : contAt s p k = true) : ∃ hk : p + k < s.length, 128 ≤ s[p + k].toNat := by
  unfold contAt at h
  have hsz : (⟨s.toArray⟩ : ByteArray).size = s.length := by show s.toArray.size = _; simp
  rw [hsz] at h
  simp only [Bool.and_eq_true, decide_eq_true_eq, beq_iff_eq] at h
  refine ⟨h.1, ?_⟩
  rw [byAt_eq s (p + k) h.1] at h
  omega
/-- What a rune at a place of a string says of the bytes. -/
theorem rune_spec (s : List UInt8) (p : Nat) (h : p < s.length) :
    (s[p].toNat < 128 → runeAt s p = (s[p].toNat, 1)) ∧
    (¬ s[p].toNat < 128 → 128 ≤ (runeAt s p).1 ∧ p + (runeAt s p).2 ≤ s.length ∧ ∀ j (hj : j < s.length), p ≤ j → j < p + (runeAt s p).2 → 128 ≤ s[j].toNat) := by
  rw [decode_eq]
  have h0 : byAt s (p + 0) = s[p].toNat := byAt_eq s p h
  rw [h0]
  refine ⟨fun hlt => decB_low hlt, fun hge => ?_⟩
  have hd := decB_high (b1 := byAt s (p + 1)) (b2 := byAt s (p + 2)) (b3 := byAt s (p + 3)) (c1 := contAt s p 1) (c2 := contAt s p 2) (c3 := contAt s p 3) hge
  generalize decB s[p].toNat (byAt s (p + 1)) (byAt s (p + 2)) (byAt s (p + 3)) (contAt s p 1) (contAt s p 2) (contAt s p 3) = D at hd ⊢
  obtain ⟨r, wd⟩ := D
  simp only at hd ⊢
  have at_ : ∀ (j k : Nat) (hj : j < s.length) (hk : p + k < s.length), 128 ≤ s[p + k].toNat → j = p + k → 128 ≤ s[j].toNat := fun j k hj hk h e => by subst e; exact h
  have h00 : ∀ (j : Nat) (hj : j < s.length), j = p → 128 ≤ s[j].toNat := fun j hj e => by subst e; omega
  obtain ⟨h1, rfl | ⟨rfl, h2⟩ | ⟨rfl, h2, h3⟩ | ⟨rfl, h2, h3, h4⟩⟩ := hd
  · exact ⟨h1, by omega, fun j hj q1 q2 => h00 j hj (by omega)⟩
  · obtain ⟨k1, g1⟩ := contAt_eq h2
    refine ⟨h1, by omega, fun j hj q1 q2 => ?_⟩
    by_cases e : j = p
    · exact h00 j hj e
    · exact at_ j 1 hj k1 g1 (by omega)
  · obtain ⟨k1, g1⟩ := contAt_eq h2
    obtain ⟨k2, g2⟩ := contAt_eq h3
    refine ⟨h1, by omega, fun j hj q1 q2 => ?_⟩
    by_cases e : j = p
    · exact h00 j hj e
    · by_cases e : j = p + 1
      · exact at_ j 1 hj k1 g1 e
      · exact at_ j 2 hj k2 g2 (by omega)
  · obtain ⟨k1, g1⟩ := contAt_eq h2
    obtain ⟨k2, g2⟩ := contAt_eq h3
    obtain ⟨k3, g3⟩ := contAt_eq h4
    refine ⟨h1, by omega, fun j hj q1 q2 => ?_⟩
    by_cases e : j = p
    · exact h00 j hj e
    · by_cases e : j = p + 1
      · exact at_ j 1 hj k1 g1 e
      · by_cases e : j = p + 2
        · exact at_ j 2 hj k2 g2 e
        · exact at_ j 3 hj k3 g3 (by omega)
end Go.Proofs.YtliogkkhofhfcaaGreatDoor

/- Query: split. No condition. -/
set_option linter.unusedSimpArgs false
set_option maxRecDepth 4000
namespace Go.Proofs.YtliogkkhofhfcaaGreatDoor
open Go.Eng

def tokV (p : Tok) : V := .agg [.int .i64 p.1, .int .i64 (p.2.1 : Nat), .str p.2.2]
def tokVs (l : List Tok) : List V := l.map tokV
theorem tokVs_app (l : List Tok) (x : Tok) : tokVs (l ++ [x]) = tokVs l ++ [.agg [.int .i64 x.1, .int .i64 (x.2.1 : Nat), .str x.2.2]] := by simp [tokVs, tokV]
theorem tokVs_len (l : List Tok) : (tokVs l).length = l.length := by simp [tokVs]
theorem tokVs_pure (l : List Tok) : (tokVs l).all V.pureE = true := by
  rw [List.all_eq_true]; intro v hv; obtain ⟨p, _, rfl⟩ := List.mem_map.1 hv; rfl
theorem symb_ascii {c : UInt8} {r : List UInt8} (h : (symb c r).1 ≠ 1) : (symb c r).2.2 ≤ r.length + 1 ∧ ∀ j (hj : j < r.length), j + 1 < (symb c r).2.2 → r[j].toNat < 128 := by
  unfold symb at h ⊢
  split
  · exact ⟨by simp, fun j hj h => by simp at h⟩
  split
  · exact ⟨by simp, fun j hj h => by simp at h⟩
  rename_i h1 h2
  rw [if_neg h1, if_neg h2] at h
  split
  · rename_i h3
    rw [if_pos h3] at h
    have hb := indexByte_le 34 r
    split
    · rename_i h4; rw [if_pos h4] at h; simp at h
    · rename_i h4
      rw [if_neg h4] at h
      split
      · rename_i h5; rw [if_pos h5] at h; simp at h
      · rename_i h5
        generalize hix : Lib.indexByte r 34 = ix at hb h4 h5 ⊢
        refine ⟨by simp only; omega, fun j hj hlt => ?_⟩
        simp only at hlt
        by_cases he : j < ix.toNat
        · have hq : quot (r.take ix.toNat) = true := by simpa using h5
          simp only [quot, Bool.and_eq_true] at hq
          have := List.all_eq_true.1 hq.2 r[j] (by
            have e : (r.take ix.toNat)[j]'(by simp; omega) = r[j] := by simp
            rw [← e]; exact List.getElem_mem _)
          simp only [okC, Bool.and_eq_true, decide_eq_true_eq] at this
          omega
        · have hje : j = ix.toNat := by omega
          have key : ∀ (l : List UInt8) (i : Nat), Lib.indexByte l 34 = i → ∀ h : i < l.length, l[i] = 34 := by
            intro l
            induction l with
            | nil => intro i _ h; simp at h
            | cons b l ih =>
              intro i hi hlt
              rw [Lib.indexByte] at hi
              split at hi
              · rename_i hb
                have : i = 0 := by omega
                subst this
                simpa using hb
              · split at hi
                · omega
                · cases i with
                  | zero => have := (indexByte_le 34 l).2; rename_i hne; simp at hne; omega
                  | succ i =>
                    have := ih i (by omega) (by simpa using hlt)
                    simpa using this
          have := key r j (by omega) hj
          rw [this]; decide
  · rename_i h3
    split
    · rename_i h4
      split
      · exact ⟨by simp, fun j hj h => by simp at h⟩
      · cases r with
        | nil => simp at h4
        | cons b r =>
          have hb : b = 61 := by simpa using h4.2
          refine ⟨by simp, fun j hj hlt => ?_⟩
          have : j = 0 := by simp at hlt; omega
          subst this
          simp [hb]
    · split <;> exact ⟨by simp, fun j hj h => by simp at h⟩
theorem inW_high {r : Int} (h : 128 ≤ r) : inW r = true := by
  unfold inW
  have e : ∀ k : Int, k < 128 → decide (r = k) = false := fun k hk => by simp; omega
  rw [e 32 (by omega), e 40 (by omega), e 41 (by omega), e 34 (by omega), e 60 (by omega), e 62 (by omega), e 61 (by omega), e 33 (by omega)]
  rfl
/-- Where the loop over the runes stands. -/
def SplI (s : List UInt8) (l : List Tok) (w : Int) (nxt pos : Nat) : Prop :=
  pos ≤ s.length ∧ nxt ≤ s.length ∧ l.length ≤ 2 * pos ∧ (∀ j (h : j < s.length), pos ≤ j → j < nxt → s[j].toNat < 128) ∧
  ((w = -1 ∧ l ++ toks (s.drop (max nxt pos)) (max nxt pos) = toks s 0) ∨
   ∃ wn : Nat, w = wn ∧ nxt ≤ pos ∧ wn < pos ∧ (∀ j (h : j < s.length), wn ≤ j → j < pos → inWB s[j] = true) ∧ l ++ toks (s.drop wn) wn = toks s 0)
theorem SplI.skip {s : List UInt8} {l : List Tok} {w : Int} {nxt pos : Nat} (h : SplI s l w nxt pos) (hp : pos < s.length) (hn : pos < nxt) : (runeAt s pos).2 = 1 ∧ SplI s l w nxt (pos + 1) := by
  obtain ⟨h1, h2, h3, h4, h5⟩ := h
  have := (rune_spec s pos hp).1 (h4 pos hp (Nat.le_refl _) hn)
  refine ⟨by rw [this], by omega, h2, by omega, fun j hj q1 q2 => h4 j hj (by omega) q2, ?_⟩
  rcases h5 with ⟨q1, q2⟩ | ⟨wn, _, q, _⟩
  · left
    refine ⟨q1, ?_⟩
    rw [show max nxt (pos + 1) = max nxt pos by omega]
    exact q2
  · omega
theorem word_bytes {s : List UInt8} {pos : Nat} (hp : pos < s.length) (hw : inW ((runeAt s pos).1 : Int) = true) : pos + (runeAt s pos).2 ≤ s.length ∧ ∀ j (h : j < s.length), pos ≤ j → j < pos + (runeAt s pos).2 → inWB s[j] = true := by
  by_cases h : s[pos].toNat < 128
  · have hr := (rune_spec s pos hp).1 h
    rw [hr] at hw ⊢
    refine ⟨by simp only; omega, fun j hj q1 q2 => ?_⟩
    have : j = pos := by simp only at q2; omega
    subst this
    exact hw
  · obtain ⟨_, h2, h3⟩ := (rune_spec s pos hp).2 h
    exact ⟨h2, fun j hj q1 q2 => inW_high (by have := h3 j hj q1 q2; omega)⟩
theorem sym_byte {s : List UInt8} {pos : Nat} (hp : pos < s.length) (hw : inW ((runeAt s pos).1 : Int) = false) : runeAt s pos = (s[pos].toNat, 1) ∧ inWB s[pos] = false := by
  by_cases h : s[pos].toNat < 128
  · have hr := (rune_spec s pos hp).1 h
    refine ⟨hr, ?_⟩
    rw [hr] at hw
    exact hw
  · have h1 := ((rune_spec s pos hp).2 h).1
    rw [inW_high (by omega)] at hw
    cases hw
end Go.Proofs.YtliogkkhofhfcaaGreatDoor

/- Query: split, walked. No condition. -/
set_option linter.unusedSimpArgs false
set_option maxRecDepth 4000
namespace Go.Proofs.YtliogkkhofhfcaaGreatDoor
open Go.Eng

set_option maxHeartbeats 8000000 in
theorem split_ac (s : List UInt8) (hs : s.length ≤ 1000) : AC Tryz.prog 27 [.str s] (fun r => r = .ro 3 (tokVs (toks s 0))) := by
  refine ac_intro Tryz.func27 rfl (by show (1 : Nat) ≤ 74; omega) (fun w0 N0 => ?_)
  refine aw_step [0] [] (by simp [Tryz.ntmps27] <;> rfl) ?_
  refine aw_step [0, 3] [] (by simp <;> rfl) ?_
  refine aw_step [0, 3, 4] [] (by simp <;> rfl) ?_
  refine aw_step [0, 3, 4, 5] [] (by simp <;> rfl) ?_
  refine aw_adoptS 3 100 3 79 [0, 3, 4, 5] [100] (by simp <;> rfl) (by simp <;> rfl) ?_
  refine aw_viaE (fun y : List Tok × Int × Nat × Nat × Nat => ⟨[(0, .str s), (3, .sl 100 y.2.2.2.1 3 (tokVs y.1).length), (4, .int .i64 y.2.1)], [(100, ⟨y.2.2.2.1, 3, 79, tokVs y.1⟩)], y.2.2.2.2, 74⟩) (fun y => SplI s y.1 y.2.1 y.2.2.1 s.length) ?_ ?_
  · refine aw_strRange 200 (fun y : List Tok × Int × Nat × Nat × Nat => ⟨[(0, .str s), (3, .sl 100 y.2.2.2.1 3 (tokVs y.1).length), (4, .int .i64 y.2.1), (5, .int .i64 y.2.2.1), (11, .bp 200 5 0 0 0)], [(100, ⟨y.2.2.2.1, 3, 79, tokVs y.1⟩)], y.2.2.2.2, 74⟩) (fun y pos => SplI s y.1 y.2.1 y.2.2.1 pos) ([], -1, 0, 4, 100)
      rfl rfl rfl rfl rfl rfl rfl rfl rfl rfl rfl rfl (l := s) (by simp <;> rfl) (by simp) (by simp) (fun y => by simp) (fun y => by simp [Eng.get]) ⟨Nat.zero_le _, Nat.zero_le _, by simp, fun j _ _ h => by simp at h, .inl ⟨rfl, by simp⟩⟩ ?_ ?_ ?_
    · exact le_to [0, 3, 4, 5, 11] [100] (by simp [tokVs]) (by simp [tokVs]) rfl (by simp only; omega)
    · rintro B N ⟨l, w, nxt, vr, nx⟩ pos hI hp
      simp only at hI
      have hll := tokVs_len l
      have hlc : l.length ≤ 2000 := by have := hI.2.2.1; omega
      have hiw := inWord_ac ((runeAt s pos).1 : Int)
      refine aw_seq ?_
      refine aw_cond rfl (fun h0 => aw_skip ?_) (fun h0 => by simp at h0)
      refine aw_block ?_
      refine aw_step [0, 3, 4, 5, 6, 7, 11] [100] (by simp <;> rfl) ?_
      refine aw_seq ?_
      refine aw_step [0, 3, 4, 5, 6, 7, 11, 18] [100] (by simp <;> rfl) ?_
      refine aw_cond rfl (fun h1 => ?_) (fun h1 => aw_skip ?_)   -- if t18
      · have hlt : pos < nxt := by simp at h1; omega
        obtain ⟨hwd, hI'⟩ := hI.skip hp hlt
        refine aw_exit ?_
        exact ⟨(l, w, nxt, vr, nx + 100), by rw [hwd]; exact hI', le_to [0, 3, 4, 5, 11] [100] (by simp) (by simp) rfl (by simp only; omega)⟩
      have hnp : nxt ≤ pos := by simp at h1; omega
      refine aw_seq ?_
      refine aw_seq (aw_region ?_)
      refine awl_go 1 (by simp <;> rfl) ?_
      refine awl_call1 hiw Tryz.func47 rfl (by kernel_rfl) rfl rfl rfl rfl rfl (by simp <;> rfl) ?_
      refine awl_end [0, 3, 4, 5, 6, 7, 11, 20] [100] (by simp <;> rfl) ?_
      refine aw_cond rfl (fun h2 => ?_) (fun h2 => aw_skip ?_)   -- if t20
      · have hw : inW ((runeAt s pos).1 : Int) = true := by simpa using h2
        obtain ⟨hle, hby⟩ := word_bytes hp hw
        have hwd := runeAt_pos s pos
        refine aw_seq ?_
        refine aw_step [0, 3, 4, 5, 6, 11, 22] [100] (by simp <;> rfl) ?_
        refine aw_cond rfl (fun h3 => ?_) (fun h3 => aw_skip ?_)   -- if t22
        · have hw0 : w < 0 := by simpa using h3
          refine aw_one [0, 3, 4, 5, 11] [100] (by simp <;> rfl) ?_
          refine aw_exit ?_
          obtain ⟨_, q2, q3, q4, q5⟩ := hI
          rcases q5 with ⟨rfl, q6⟩ | ⟨wn, rfl, _⟩
          · rw [show max nxt pos = pos by omega] at q6
            exact ⟨(l, (pos : Int), nxt, vr, _), (show SplI s l (pos : Int) nxt (pos + (runeAt s pos).2) from ⟨hle, q2, by omega, fun j hj a b => by omega, .inr ⟨pos, rfl, by omega, by omega, hby, q6⟩⟩), AS.le_refl _⟩
          · omega
        · have hw0 : ¬ w < 0 := by simpa using h3
          refine aw_exit ?_
          obtain ⟨_, q2, q3, q4, q5⟩ := hI
          rcases q5 with ⟨rfl, q6⟩ | ⟨wn, rfl, q7, q8, q9, q10⟩
          · omega
          · exact ⟨(l, (wn : Int), nxt, vr, nx + 100), (show SplI s l (wn : Int) nxt (pos + (runeAt s pos).2) from ⟨hle, q2, by omega, fun j hj a b => by omega, .inr ⟨wn, rfl, by omega, by omega, fun j hj a b => (by
              by_cases e : j < pos
              · exact q9 j hj a e
              · exact hby j hj (by omega) b), q10⟩⟩), le_to [0, 3, 4, 5, 11] [100] (by simp) (by simp) rfl (by simp only; omega)⟩
      have hw : inW ((runeAt s pos).1 : Int) = false := by simpa using h2
      obtain ⟨hru, hnb⟩ := sym_byte hp hw
      rw [hru]
      -- the word that ends here
      refine aw_viaE (fun y : List Tok × Nat × Nat => ⟨[(0, .str s), (3, .sl 100 y.2.1 3 (tokVs y.1).length), (4, .int .i64 (-1)), (5, .int .i64 nxt), (6, .int .i64 pos), (7, .int .i32 (s[pos].toNat)), (11, .bp 200 5 0 0 0)], [(100, ⟨y.2.1, 3, 79, tokVs y.1⟩)], y.2.2, 74⟩) (fun y => y.1.length ≤ 2 * pos + 1 ∧ y.1 ++ toks (s.drop pos) pos = toks s 0) ?_ ?_
      · refine aw_step [0, 3, 4, 5, 6, 7, 11, 25] [100] (by simp <;> rfl) ?_
        obtain ⟨_, q2, q3, q4, q5⟩ := hI
        refine aw_cond rfl (fun h3 => ?_) (fun h3 => aw_skip ?_)   -- if t25
        · have hw0 : 0 ≤ w := by simpa using h3
          rcases q5 with ⟨rfl, q6⟩ | ⟨wn, rfl, q7, q8, q9, q10⟩
          · omega
          rw [toks_word_at s wn pos q8 (by omega) q9 (fun _ => hnb)] at q10
          have hb1 : (wn : Int) ≤ pos ∧ (pos : Int) ≤ s.length := by omega
          have hro : (tokVs l).length + 1 ≤ maxLen ∧ ((tokVs l).length + 1) * 32 ≤ 140737488355328 := ⟨by rw [hll]; exact Nat.le_trans (show l.length + 1 ≤ 17592186044416 by omega) (by decide), by omega⟩
          have happ := tokVs_app l (6, wn, (s.drop wn).take (pos - wn))
          generalize htx : (s.drop wn).take (pos - wn) = tx at q10 happ
          generalize hlv : tokVs l = lv at hro happ
          refine aw_step [0, 3, 4, 5, 6, 7, 11] [100] (by simp [hb1, hro, htx] <;> rfl) ?_
          refine aw_one [0, 3, 4, 5, 6, 7, 11] [100] (by simp <;> rfl) ?_
          exact ⟨(l ++ [(6, wn, tx)], _, _), ⟨by simp; omega, by simpa using q10⟩, by simp only [happ, List.length_append, List.length_cons, List.length_nil]; exact AS.le_refl _⟩
        · have hw0 : ¬ 0 ≤ w := by simpa using h3
          rcases q5 with ⟨rfl, q6⟩ | ⟨wn, rfl, q7, q8, q9, q10⟩
          · rw [show max nxt pos = pos by omega] at q6
            exact ⟨(l, vr, nx + 100), ⟨by simp only; omega, q6⟩, le_to [0, 3, 4, 5, 6, 7, 11] [100] (by simp) (by simp) rfl (by simp only; omega)⟩
          · omega
      rintro ⟨l1, vr1, nx1⟩ ⟨hl1, ht1⟩
      simp only at hl1 ht1
      obtain ⟨_, hn2, _⟩ := hI
      have hll1 := tokVs_len l1
      have hcons : s.drop pos = s[pos] :: s.drop (pos + 1) := List.drop_eq_getElem_cons hp
      have hrl : (s.drop (pos + 1)).length ≤ 1000 := by simp; omega
      have hdj := fun j (hj : j < (s.drop (pos + 1)).length) => (List.getElem_drop (xs := s) (i := pos + 1) (j := j) (h := hj))
      have hrlen : (s.drop (pos + 1)).length = s.length - (pos + 1) := by simp
      have hpi : (pos : Int) ≤ s.length := by omega
      have hsy := symbol_ac s[pos] (s.drop (pos + 1)) hrl
      have hasc := @symb_ascii s[pos] (s.drop (pos + 1))
      have hsz := symb_size s[pos] (s.drop (pos + 1))
      have hts : s[pos].toNat ≠ 32 → toks (s.drop pos) pos = ((symb s[pos] (s.drop (pos + 1))).1, pos, (symb s[pos] (s.drop (pos + 1))).2.1) :: (if (symb s[pos] (s.drop (pos + 1))).1 = 1 then [] else toks ((s.drop (pos + 1)).drop ((symb s[pos] (s.drop (pos + 1))).2.2 - 1)) (pos + (symb s[pos] (s.drop (pos + 1))).2.2)) := fun h => by
        conv => lhs; rw [hcons]
        exact toks_symb h hnb _ _
      have htb : s[pos].toNat = 32 → toks (s.drop pos) pos = toks (s.drop (pos + 1)) (pos + 1) := fun h => by
        conv => lhs; rw [hcons]
        exact toks_blank h _ _
      rw [← hcons] at hsy
      refine aw_seq ?_
      refine aw_step [0, 3, 4, 5, 6, 7, 11, 36] [100] (by simp <;> rfl) ?_
      refine aw_cond rfl (fun h4 => ?_) (fun h4 => aw_skip ?_)   -- if t36
      · have hc : s[pos].toNat = 32 := by simp at h4; omega
        refine aw_exit ?_
        refine ⟨(l1, -1, nxt, vr1, nx1 + 100), (show SplI s l1 (-1) nxt (pos + 1) from ⟨by omega, hn2, by omega, fun j hj a b => by omega, .inl ⟨rfl, ?_⟩⟩), le_to [0, 3, 4, 5, 11] [100] (by simp) (by simp) rfl (by simp only; omega)⟩
        rw [show max nxt (pos + 1) = pos + 1 by omega, ← htb hc]
        exact ht1
      have hc : s[pos].toNat ≠ 32 := by simp at h4; omega
      rw [hts hc] at ht1
      generalize symb s[pos] (s.drop (pos + 1)) = sy at hsy hasc hsz ht1
      obtain ⟨tk, tx, sz⟩ := sy
      simp only at hsy hasc hsz ht1
      have hro : (tokVs l1).length + 1 ≤ maxLen ∧ ((tokVs l1).length + 1) * 32 ≤ 140737488355328 := ⟨by rw [hll1]; exact Nat.le_trans (show l1.length + 1 ≤ 17592186044416 by omega) (by decide), by omega⟩
      have happ := tokVs_app l1 (tk, pos, tx)
      have hpn := tokVs_pure (l1 ++ [(tk, pos, tx)])
      have hln := tokVs_len (l1 ++ [(tk, pos, tx)])
      generalize hlv : tokVs l1 = lv at hro happ ⊢
      refine aw_seq (aw_region ?_)
      have htd : List.take (s.length - pos) (s.drop pos) = s.drop pos := List.take_of_length_le (by simp)
      refine awl_go 4 (by simp [hpi, htd] <;> rfl) ?_
      refine awl_call1 hsy Tryz.func48 rfl (by kernel_rfl) rfl rfl rfl (by simp <;> rfl) (by simp) (by simp <;> rfl) ?_
      refine awl_end [0, 3, 4, 6, 8, 9, 11] [8, 100] (by simp <;> rfl) ?_
      refine aw_step [0, 3, 4, 6, 8, 9, 11] [8, 100] (by simp <;> rfl) ?_
      refine aw_step [0, 3, 4, 6, 8, 9, 11] [8, 100] (by simp [hro] <;> rfl) ?_
      have hl3 : lv.length + 1 = (lv ++ [V.agg [.int .i64 tk, .int .i64 pos, .str tx]]).length := by simp
      simp only [hl3]
      rw [← happ]
      generalize hlv2 : tokVs (l1 ++ [(tk, pos, tx)]) = lv2 at hpn hln
      refine aw_seq ?_
      refine aw_step [0, 3, 4, 6, 9, 11, 53] [8, 100] (by simp <;> rfl) ?_
      refine aw_cond rfl (fun h5 => ?_) (fun h5 => aw_skip ?_)   -- if t53
      · have hk : tk = 1 := by simpa using h5
        rw [if_pos hk] at ht1
        refine aw_step [2] [100] (by simp <;> rfl) ?_
        refine aw_freeze 100 [2] [] (by simp [hpn] <;> rfl) ?_
        refine aw_ret (ends_ret (by simp [Tryz.results27] <;> rfl) ?_)
        rw [← ht1, ← hlv2]
      have hk : tk ≠ 1 := by simpa using h5
      rw [if_neg hk] at ht1
      obtain ⟨hsz1, hsz2⟩ := hasc hk
      have hadd : IntKind.i64.wrap ((pos : Int) + (sz : Int)) = ((pos + sz : Nat) : Int) := by rw [wrap_in (by omega) (by omega)]; omega
      refine aw_one [0, 3, 4, 5, 11] [100] (by simp [hadd] <;> rfl) ?_
      refine ⟨(l1 ++ [(tk, pos, tx)], -1, pos + sz, _, _), (show SplI s (l1 ++ [(tk, pos, tx)]) (-1) (pos + sz) (pos + 1) from ⟨by omega, by omega, by simp; omega, fun j hj a b => ?_, .inl ⟨rfl, ?_⟩⟩), by simp only [hlv2]; exact AS.le_refl _⟩
      · have := hsz2 (j - (pos + 1)) (by omega) (by omega)
        rw [hdj (j - (pos + 1)) (by omega)] at this
        have e : pos + 1 + (j - (pos + 1)) = j := by omega
        simpa [e] using this
      · rw [show max (pos + sz) (pos + 1) = pos + sz by omega]
        rw [List.drop_drop] at ht1
        rw [show pos + 1 + (sz - 1) = pos + sz by omega] at ht1
        rw [← ht1]; simp
    · rintro B N ⟨l, w, nxt, vr, nx⟩ pos hI hp
      simp only at hI
      refine aw_seq ?_
      refine aw_cond rfl (fun h0 => by simp at h0) (fun h0 => ?_)
      refine aw_exit ?_
      have hpe : pos = s.length := by have := hI.1; omega
      subst hpe
      exact ⟨(l, w, nxt, vr, nx + 100), hI, le_to [0, 3, 4] [100] (by simp) (by simp) rfl (by simp only; omega)⟩
  rintro ⟨l, w, nxt, vr, nx⟩ hI
  simp only at hI
  obtain ⟨_, q2, q3, q4, q5⟩ := hI
  have hll := tokVs_len l
  refine aw_viaE (fun y : List Tok × Nat × Nat => ⟨[(0, .str s), (3, .sl 100 y.2.1 3 (tokVs y.1).length)], [(100, ⟨y.2.1, 3, 79, tokVs y.1⟩)], y.2.2, 74⟩) (fun y => y.1.length ≤ 5000 ∧ y.1 ++ [(0, s.length, [])] = toks s 0) ?_ ?_
  · refine aw_step [0, 3, 4, 59] [100] (by simp <;> rfl) ?_
    refine aw_cond rfl (fun h1 => ?_) (fun h1 => aw_skip ?_)   -- if t59
    · have hw0 : 0 ≤ w := by simpa using h1
      rcases q5 with ⟨rfl, q6⟩ | ⟨wn, rfl, q7, q8, q9, q10⟩
      · omega
      rw [toks_word_at s wn s.length q8 (Nat.le_refl _) q9 (fun h => absurd h (Nat.lt_irrefl _)), List.drop_length, toks_nil] at q10
      have hb1 : (wn : Int) ≤ s.length := by omega
      have hro : (tokVs l).length + 1 ≤ maxLen ∧ ((tokVs l).length + 1) * 32 ≤ 140737488355328 := ⟨by rw [hll]; exact Nat.le_trans (show l.length + 1 ≤ 17592186044416 by omega) (by decide), by omega⟩
      have happ := tokVs_app l (6, wn, (s.drop wn).take (s.length - wn))
      generalize htx : (s.drop wn).take (s.length - wn) = tx at q10 happ
      generalize hlv : tokVs l = lv at hro happ
      refine aw_one [0, 3] [100] (by simp [hb1, hro, htx] <;> rfl) ?_
      exact ⟨(l ++ [(6, wn, tx)], _, _), ⟨by simp; omega, by simpa using q10⟩, by simp only [happ, List.length_append, List.length_cons, List.length_nil]; exact AS.le_refl _⟩
    · have hw0 : ¬ 0 ≤ w := by simpa using h1
      rcases q5 with ⟨rfl, q6⟩ | ⟨wn, rfl, q7, q8, q9, q10⟩
      · rw [show max nxt s.length = s.length by omega, List.drop_length, toks_nil] at q6
        exact ⟨(l, vr, nx + 100), ⟨by simp only; omega, q6⟩, le_to [0, 3] [100] (by simp) (by simp) rfl (by simp only; omega)⟩
      · omega
  rintro ⟨l1, vr1, nx1⟩ ⟨hl1, ht1⟩
  simp only at hl1 ht1
  have hll1 := tokVs_len l1
  have hro : (tokVs l1).length + 1 ≤ maxLen ∧ ((tokVs l1).length + 1) * 32 ≤ 140737488355328 := ⟨by rw [hll1]; exact Nat.le_trans (show l1.length + 1 ≤ 17592186044416 by omega) (by decide), by omega⟩
  have happ := tokVs_app l1 (0, s.length, [])
  have hpn := tokVs_pure (l1 ++ [(0, s.length, [])])
  generalize hlv : tokVs l1 = lv at hro happ ⊢
  refine aw_step [2] [100] (by simp [hro] <;> rfl) ?_
  have hl3 : lv.length + 1 = (lv ++ [V.agg [.int .i64 0, .int .i64 s.length, .str []]]).length := by simp
  simp only [hl3]
  rw [← happ]
  generalize hlv2 : tokVs (l1 ++ [(0, s.length, [])]) = lv2 at hpn
  refine aw_freeze 100 [2] [] (by simp [hpn] <;> rfl) ?_
  refine aw_ret (ends_ret (by simp [Tryz.results27] <;> rfl) ?_)
  rw [← ht1, ← hlv2]
end Go.Proofs.YtliogkkhofhfcaaGreatDoor
