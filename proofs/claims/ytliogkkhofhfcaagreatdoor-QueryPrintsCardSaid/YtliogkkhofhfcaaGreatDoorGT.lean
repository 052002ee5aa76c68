import Derived.Test.YtliogkkhofhfcaaGreatDoorGS
/- Query: which queries are formed, as the reference says it, plain. No condition. -/
set_option linter.unusedSimpArgs false
set_option maxRecDepth 4000
namespace Go.Proofs.YtliogkkhofhfcaaGreatDoor
open Go.Eng

def numB (n : Int) : Bool := decide (0 ≤ n) && decide (n ≤ 999999999)
def frm0 (k c n : Int) (f s : List UInt8) (nk : Nat) : Bool := if k = 1 ∨ k = 2 then !badK c n f s && decide (2 ≤ nk) else if k = 3 then !badK c n f s && decide (nk = 1) else (condT k c n f s nk).isSome
theorem frm_eq (k c n : Int) (f s : List UInt8) (ks : List Qy) : frm (.mk k c n f s ks) = frm0 k c n f s ks.length := rfl
theorem frmA {k c n : Int} {f s : List UInt8} {nk : Nat} (h : k = 1 ∨ k = 2) : frm0 k c n f s nk = (decide (2 ≤ nk) && (decide (c = 0) && (decide (n = 0) && (decide (f = []) && decide (s = []))))) := by
  unfold frm0 badK
  rw [if_pos h]
  cases decide (c = 0) <;> cases decide (n = 0) <;> cases decide (f = []) <;> cases decide (s = []) <;> cases decide (2 ≤ nk) <;> rfl
theorem frmN {c n : Int} {f s : List UInt8} {nk : Nat} : frm0 3 c n f s nk = (decide (nk = 1) && (decide (c = 0) && (decide (n = 0) && (decide (f = []) && decide (s = []))))) := by
  unfold frm0 badK
  rw [if_neg (by omega), if_pos rfl]
  cases decide (c = 0) <;> cases decide (n = 0) <;> cases decide (f = []) <;> cases decide (s = []) <;> cases decide (nk = 1) <;> rfl
theorem frmC {k c n : Int} {f s : List UInt8} {nk : Nat} (h1 : k ≠ 1) (h2 : k ≠ 2) (h3 : k ≠ 3) : frm0 k c n f s nk = (condT k c n f s nk).isSome := by
  unfold frm0
  rw [if_neg (by omega), if_neg h3]
theorem cmp_ne (c : Int) : decide (¬ compareR c = []) = (decide (1 ≤ c) && decide (c ≤ 6)) := by
  unfold compareR
  by_cases h1 : c = 1
  · subst h1; rfl
  by_cases h2 : c = 2
  · subst h2; rfl
  by_cases h3 : c = 3
  · subst h3; rfl
  by_cases h4 : c = 4
  · subst h4; rfl
  by_cases h5 : c = 5
  · subst h5; rfl
  by_cases h6 : c = 6
  · subst h6; rfl
  rw [if_neg h1, if_neg h2, if_neg h3, if_neg h4, if_neg h5, if_neg h6]
  by_cases h7 : 1 ≤ c
  · have : ¬ c ≤ 6 := by omega
    simp [this]
  · simp [h7]
theorem badA_no {k n : Int} {s : List UInt8} {nk : Nat} : badA k n s nk = false ↔ nk = 0 ∧ 0 ≤ n ∧ n ≤ 999999999 ∧ (n = 0 ∨ usesN k = true) ∧ (s = [] ∨ usesN k = false) := by
  unfold badA
  cases usesN k <;> simp [and_assoc] <;> omega
theorem badB_no {k c : Int} {f : List UInt8} : badB k c f = false ↔ k = 4 ∨ (c = 0 ∧ f = []) := by
  unfold badB
  by_cases h : k = 4 <;> simp [h]
theorem isSome4 (c n : Int) (f s : List UInt8) (nk : Nat) : (condT 4 c n f s nk).isSome = (decide (nk = 0) && (hasS fieldsL f && ((decide (1 ≤ c) && decide (c ≤ 6)) && (numB n && decide (s = []))))) := by
  rw [Bool.eq_iff_iff]
  constructor
  · intro h
    cases hc : condT 4 c n f s nk with
    | none => rw [hc] at h; cases h
    | some x =>
      obtain ⟨a1, a2, a3, ⟨_, a4, a5, a6, a7, a8, _⟩ | ⟨h, _⟩ | ⟨h, _⟩ | ⟨h, _⟩ | ⟨h, _⟩ | ⟨h, _⟩⟩ := cond_cases hc
      · simp [numB, a1, a2, a3, a5, a6, a7, a8]
      all_goals omega
  · intro h
    simp only [numB, Bool.and_eq_true, decide_eq_true_eq] at h
    obtain ⟨h1, h2, ⟨h3, h4⟩, ⟨h5, h6⟩, h7⟩ := h
    unfold condT
    rw [badA_no.2 ⟨h1, h5, h6, .inr rfl, .inl h7⟩, badB_no.2 (.inl rfl), if_neg (by simp), if_neg (by simp), if_pos rfl, h2]
    have e1 : decide (c < 1) = false := by simp; omega
    have e2 : decide (6 < c) = false := by simp; omega
    rw [e1, e2]
    rfl
theorem isSome8 (c n : Int) (f s : List UInt8) (nk : Nat) : (condT 8 c n f s nk).isSome = (decide (nk = 0) && (decide (c = 0) && decide (f = [])) && (numB n && decide (s = []))) := by
  rw [Bool.eq_iff_iff]
  constructor
  · intro h
    cases hc : condT 8 c n f s nk with
    | none => rw [hc] at h; cases h
    | some x =>
      obtain ⟨a1, a2, a3, ⟨h, _⟩ | ⟨h, _⟩ | ⟨h, _⟩ | ⟨h, _⟩ | ⟨_, a4, a5, a6, _⟩ | ⟨h, _⟩⟩ := cond_cases hc
      case inr.inr.inr.inr.inl => simp [numB, a1, a2, a3, a4, a5, a6]
      all_goals omega
  · intro h
    simp only [numB, Bool.and_eq_true, decide_eq_true_eq] at h
    obtain ⟨⟨h1, h2, h3⟩, ⟨h5, h6⟩, h7⟩ := h
    unfold condT
    rw [badA_no.2 ⟨h1, h5, h6, .inr rfl, .inl h7⟩, badB_no.2 (.inr ⟨h2, h3⟩), if_neg (by simp), if_neg (by simp)]
    rfl
/-- The other conditions: what the string must be. -/
def strB (k : Int) (s : List UInt8) : Bool := if k = 5 then cValid s else if k = 6 then hasS statesL s else if k = 7 then hasS kindsL s else if k = 9 then quot s else false
theorem isSomeS (k c n : Int) (f s : List UInt8) (nk : Nat) (h4 : k ≠ 4) (h8 : k ≠ 8) : (condT k c n f s nk).isSome = (decide (nk = 0) && (decide (c = 0) && decide (f = [])) && (decide (n = 0) && strB k s)) := by
  rw [Bool.eq_iff_iff]
  constructor
  · intro h
    cases hc : condT k c n f s nk with
    | none => rw [hc] at h; cases h
    | some x =>
      obtain ⟨a1, a2, a3, ⟨h, _⟩ | ⟨rfl, a4, a5, a6, a7, _⟩ | ⟨rfl, a4, a5, a6, a7, _⟩ | ⟨rfl, a4, a5, a6, a7, _⟩ | ⟨h, _⟩ | ⟨rfl, a4, a5, a6, a7, _⟩⟩ := cond_cases hc
      · omega
      · simp [strB, a1, a4, a5, a6, a7]
      · simp [strB, a1, a4, a5, a6, a7]
      · simp [strB, a1, a4, a5, a6, a7]
      · omega
      · simp [strB, a1, a4, a5, a6, a7]
  · intro h
    simp only [Bool.and_eq_true, decide_eq_true_eq] at h
    obtain ⟨⟨h1, h2, h3⟩, h5, h7⟩ := h
    have hu : usesN k = false := by simp [usesN, h4, h8]
    unfold condT
    rw [badA_no.2 ⟨h1, by omega, by omega, .inl h5, .inr hu⟩, badB_no.2 (.inr ⟨h2, h3⟩), if_neg (by simp), if_neg (by simp), if_neg h4]
    unfold strB at h7
    split at h7
    · rename_i e; rw [if_pos e, if_pos h7]; rfl
    rename_i e; rw [if_neg e]
    split at h7
    · rename_i e; rw [if_pos e, if_pos h7]; rfl
    rename_i e; rw [if_neg e]
    split at h7
    · rename_i e; rw [if_pos e, if_pos h7]; rfl
    rename_i e; rw [if_neg e, if_neg h8]
    split at h7
    · rename_i e; rw [if_pos e, if_pos h7]; rfl
    · cases h7
end Go.Proofs.YtliogkkhofhfcaaGreatDoor

/- Query: the reference's formed, sound, nodes. No condition. -/
set_option linter.unusedSimpArgs false
set_option maxRecDepth 4000
namespace Go.Proofs.YtliogkkhofhfcaaGreatDoor
open Go.Eng

set_option maxHeartbeats 8000000 in
theorem formed_ac (k c n : Int) (f s : List UInt8) (kv : List V) : AC Tryz.prog 46 [.agg [.int .i64 k, .int .i64 c, .int .i64 n, .str f, .str s, .ro 6 kv]] (fun r => r = .bool (frm0 k c n f s kv.length)) := by
  have hF := isField_ac f
  have hC := compareR_ac c
  have hcn := cmp_ne c
  generalize compareR c = ct at hC hcn
  have h61 := rValid_ac s
  have h62 := isState_ac s
  have h63 := isKind_ac s
  have h64 := rQuotable_ac s
  have i4 := isSome4 c n f s kv.length
  have i8 := isSome8 c n f s kv.length
  have iS := isSomeS k c n f s kv.length
  refine ac_intro Tryz.func46 rfl (by show (1 : Nat) ≤ 156; omega) (fun w0 N0 => ?_)
  refine aw_step [1] [1] (by simp [Tryz.ntmps46] <;> rfl) ?_   -- ref.go:137
  refine aw_step [1, 3] [1] (by simp <;> rfl) ?_   -- ref.go:138
  refine aw_seq ?_
  refine aw_step [1, 3, 13] [1] (by simp <;> rfl) ?_   -- ref.go:139
  refine aw_block ?_
  refine aw_viale ⟨[(1, .bp 1 0 6 0 0), (3, .bool (decide (0 ≤ n) && decide (n ≤ 999999999))), (13, .int .i64 k), (14, .bool (decide (k = 1) || decide (k = 2)))], [(1, ⟨0, 6, 24, [.agg [.int .i64 k, .int .i64 c, .int .i64 n, .str f, .str s, .ro 6 kv]]⟩)], 100, 156⟩ ?_ ?_
  · refine aw_step [1, 3, 13, 14] [1] (by simp <;> rfl) ?_   -- ref.go:140
    refine aw_cond rfl (fun h1 => aw_skip ?_) (fun h1 => ?_)   -- if t14
    · have h : k = 1 := by simpa using h1
      subst h
      exact ⟨rfl, le_to [1, 3, 13, 14] [1] (by simp) (by simp) rfl (by simp only; omega)⟩
    · have h : ¬ k = 1 := by simpa using h1
      refine aw_one [1, 3, 13, 14] [1] (by simp <;> rfl) ?_   -- ref.go:140
      exact ⟨rfl, le_to [1, 3, 13, 14] [1] (by simp [h]) (by simp) rfl (by simp only; omega)⟩
  refine aw_cond rfl (fun h2 => ?_) (fun h2 => ?_)   -- if t14
  · have h : k = 1 ∨ k = 2 := by simpa using h2
    rw [frmA h]
    clear hF hC h61 h62 h63 h64
    refine aw_step [2] [] (by simp <;> rfl) ?_   -- ref.go:141
    refine aw_ret (ends_ret (by simp [Tryz.results46] <;> rfl) ?_)
    by_cases a1 : 2 ≤ kv.length <;> by_cases a2 : c = 0 <;> by_cases a3 : n = 0 <;> by_cases a4 : f = [] <;> by_cases a5 : s = [] <;> simp [a1, a2, a3, a4, a5] <;> omega
  have h12 : k ≠ 1 ∧ k ≠ 2 := by simpa using h2
  refine aw_step [1, 3, 13, 41] [1] (by simp <;> rfl) ?_   -- ref.go:142
  refine aw_cond rfl (fun h3 => ?_) (fun h3 => ?_)   -- if t41
  · have h : k = 3 := by simpa using h3
    subst h
    rw [frmN]
    clear hF hC h61 h62 h63 h64
    refine aw_step [2] [] (by simp <;> rfl) ?_   -- ref.go:143
    refine aw_ret (ends_ret (by simp [Tryz.results46] <;> rfl) ?_)
    by_cases a1 : kv.length = 1 <;> by_cases a2 : c = 0 <;> by_cases a3 : n = 0 <;> by_cases a4 : f = [] <;> by_cases a5 : s = [] <;> simp [a1, a2, a3, a4, a5] <;> omega
  have hk3 : k ≠ 3 := by simpa using h3
  rw [frmC h12.1 h12.2 hk3]
  refine aw_step [1, 3, 67] [1] (by simp <;> rfl) ?_   -- ref.go:144
  have hz : kv = [] ∨ (¬ kv = [] ∧ ¬ kv.length = 0) := by
    cases kv with
    | nil => exact .inl rfl
    | cons x r => exact .inr ⟨by simp, by simp⟩
  refine aw_cond rfl (fun h4 => ?_) (fun h4 => aw_skip ?_)   -- if t67
  · have h : k = 4 := by simpa using h4
    subst h
    rw [i4]
    clear h61 h62 h63 h64 i8 iS
    refine aw_seq (aw_region ?_)   -- ref.go:145
    rcases hz with rfl | ⟨hz, hz'⟩
    · refine awl_go 7 (by simp <;> rfl) ?_
      refine awl_gcall (fun hg => hF) Tryz.func60 rfl (by kernel_rfl) (by simp <;> rfl) rfl rfl (by simp <;> rfl) (by simp) (by simp <;> rfl) ?_
      cases hh : hasS fieldsL f with
      | false =>
        refine awl_go 4 (by simp <;> rfl) ?_
        refine awl_gcall (fun hg => hC) Tryz.func43 rfl (by kernel_rfl) (by simp <;> rfl) rfl rfl (by simp <;> rfl) (by simp) (by simp <;> rfl) ?_
        refine awl_end [2] [] (by simp <;> rfl) ?_
        refine aw_ret (ends_ret (by simp [Tryz.results46] <;> rfl) ?_)
        simp
      | true =>
        refine awl_go 4 (by simp <;> rfl) ?_
        refine awl_gcall (fun hg => hC) Tryz.func43 rfl (by kernel_rfl) (by simp <;> rfl) rfl rfl (by simp <;> rfl) (by simp) (by simp <;> rfl) ?_
        refine awl_end [2] [] (by simp <;> rfl) ?_
        refine aw_ret (ends_ret (by simp [Tryz.results46] <;> rfl) ?_)
        rw [← hcn]
        unfold numB
        by_cases a1 : ct = [] <;> by_cases a3 : 0 ≤ n <;> by_cases a4 : n ≤ 999999999 <;> by_cases a5 : s = [] <;> simp [a1, a3, a4, a5]
    · refine awl_go 7 (by simp [hz] <;> rfl) ?_
      refine awl_gcall (fun hg => hF) Tryz.func60 rfl (by kernel_rfl) (by simp <;> rfl) rfl rfl (by simp <;> rfl) (by simp) (by simp <;> rfl) ?_
      refine awl_go 4 (by simp <;> rfl) ?_
      refine awl_gcall (fun hg => hC) Tryz.func43 rfl (by kernel_rfl) (by simp <;> rfl) rfl rfl (by simp <;> rfl) (by simp) (by simp <;> rfl) ?_
      refine awl_end [2] [] (by simp <;> rfl) ?_
      refine aw_ret (ends_ret (by simp [Tryz.results46] <;> rfl) ?_)
      simp [hz]
  have hk4 : k ≠ 4 := by simpa using h4
  clear hF hC i4
  refine aw_seq ?_
  refine aw_step [1, 3, 105] [1] (by simp <;> rfl) ?_   -- ref.go:147
  have hnone : ∀ b : Bool, (condT k c n f s kv.length).isSome = (decide (kv.length = 0) && (decide (c = 0) && decide (f = [])) && b) → ¬ (kv = [] ∧ c = 0 ∧ f = []) → (condT k c n f s kv.length).isSome = false := fun b h hn => by
    rw [h]
    by_cases a1 : kv.length = 0
    · have : kv = [] := List.eq_nil_of_length_eq_zero a1
      by_cases a2 : c = 0
      · by_cases a3 : f = []
        · exact absurd ⟨this, a2, a3⟩ hn
        · simp [a3]
      · simp [a2]
    · simp [a1]
  have hcase : ∃ b, (condT k c n f s kv.length).isSome = (decide (kv.length = 0) && (decide (c = 0) && decide (f = [])) && b) := by
    by_cases h8 : k = 8
    · subst h8; exact ⟨_, i8⟩
    · exact ⟨_, iS hk4 h8⟩
  refine aw_cond rfl (fun h5 => ?_) (fun h5 => aw_skip ?_)   -- if t105
  · refine aw_step [2] [] (by simp <;> rfl) ?_   -- ref.go:148
    refine aw_ret (ends_ret (by simp [Tryz.results46] <;> rfl) ?_)
    obtain ⟨b, hb⟩ := hcase
    rw [hnone b hb (fun ⟨e1, e2, e3⟩ => by subst e1 e2 e3; simp at h5)]
  have h5' : kv = [] ∧ c = 0 ∧ f = [] := by
    rcases hz with rfl | ⟨hz, hz'⟩
    · simp at h5; exact ⟨rfl, h5⟩
    · exfalso
      have hpos : 0 < kv.length := by omega
      simp [hpos, hz] at h5
  obtain ⟨rfl, rfl, rfl⟩ := h5'
  clear hnone hcase hz
  refine aw_seq ?_
  refine aw_step [1, 3, 107] [1] (by simp <;> rfl) ?_   -- ref.go:150
  refine aw_block ?_
  refine aw_step [1, 3, 107, 108] [1] (by simp <;> rfl) ?_
  refine aw_cond rfl (fun q5 => ?_) (fun q5 => ?_)
  · have h : k = 5 := by simpa using q5
    subst h
    rw [iS (by omega) (by omega)]
    simp only [strB]
    refine aw_seq (aw_region ?_)
    by_cases hn : n = 0
    · subst hn
      refine awl_go 6 (by simp <;> rfl) ?_
      refine awl_gcall (fun hg => h61) Tryz.func61 rfl (by kernel_rfl) (by simp <;> rfl) rfl rfl (by simp <;> rfl) (by simp) (by simp <;> rfl) ?_
      refine awl_end [2] [] (by simp <;> rfl) ?_
      exact aw_ret (ends_ret (by simp [Tryz.results46] <;> rfl) (by simp))
    · refine awl_go 6 (by simp [hn] <;> rfl) ?_
      refine awl_gcall (fun hg => h61) Tryz.func61 rfl (by kernel_rfl) (by simp <;> rfl) rfl rfl (by simp <;> rfl) (by simp) (by simp <;> rfl) ?_
      refine awl_end [2] [] (by simp <;> rfl) ?_
      exact aw_ret (ends_ret (by simp [Tryz.results46] <;> rfl) (by simp [hn]))
  have p5 : k ≠ 5 := by simpa using q5
  refine aw_step [1, 3, 107, 118] [1] (by simp <;> rfl) ?_
  refine aw_cond rfl (fun q6 => ?_) (fun q6 => ?_)
  · have h : k = 6 := by simpa using q6
    subst h
    rw [iS (by omega) (by omega)]
    simp only [strB]
    refine aw_seq (aw_region ?_)
    by_cases hn : n = 0
    · subst hn
      refine awl_go 6 (by simp <;> rfl) ?_
      refine awl_gcall (fun hg => h62) Tryz.func62 rfl (by kernel_rfl) (by simp <;> rfl) rfl rfl (by simp <;> rfl) (by simp) (by simp <;> rfl) ?_
      refine awl_end [2] [] (by simp <;> rfl) ?_
      exact aw_ret (ends_ret (by simp [Tryz.results46] <;> rfl) (by simp))
    · refine awl_go 6 (by simp [hn] <;> rfl) ?_
      refine awl_gcall (fun hg => h62) Tryz.func62 rfl (by kernel_rfl) (by simp <;> rfl) rfl rfl (by simp <;> rfl) (by simp) (by simp <;> rfl) ?_
      refine awl_end [2] [] (by simp <;> rfl) ?_
      exact aw_ret (ends_ret (by simp [Tryz.results46] <;> rfl) (by simp [hn]))
  have p6 : k ≠ 6 := by simpa using q6
  refine aw_step [1, 3, 107, 128] [1] (by simp <;> rfl) ?_
  refine aw_cond rfl (fun q7 => ?_) (fun q7 => ?_)
  · have h : k = 7 := by simpa using q7
    subst h
    rw [iS (by omega) (by omega)]
    simp only [strB]
    refine aw_seq (aw_region ?_)
    by_cases hn : n = 0
    · subst hn
      refine awl_go 6 (by simp <;> rfl) ?_
      refine awl_gcall (fun hg => h63) Tryz.func63 rfl (by kernel_rfl) (by simp <;> rfl) rfl rfl (by simp <;> rfl) (by simp) (by simp <;> rfl) ?_
      refine awl_end [2] [] (by simp <;> rfl) ?_
      exact aw_ret (ends_ret (by simp [Tryz.results46] <;> rfl) (by simp))
    · refine awl_go 6 (by simp [hn] <;> rfl) ?_
      refine awl_gcall (fun hg => h63) Tryz.func63 rfl (by kernel_rfl) (by simp <;> rfl) rfl rfl (by simp <;> rfl) (by simp) (by simp <;> rfl) ?_
      refine awl_end [2] [] (by simp <;> rfl) ?_
      exact aw_ret (ends_ret (by simp [Tryz.results46] <;> rfl) (by simp [hn]))
  have p7 : k ≠ 7 := by simpa using q7
  refine aw_step [1, 3, 107, 138] [1] (by simp <;> rfl) ?_
  refine aw_cond rfl (fun q8 => ?_) (fun q8 => ?_)
  · have h : k = 8 := by simpa using q8
    subst h
    rw [i8]
    refine aw_step [2] [] (by simp <;> rfl) ?_
    refine aw_ret (ends_ret (by simp [Tryz.results46] <;> rfl) ?_)
    unfold numB
    by_cases a3 : 0 ≤ n <;> by_cases a4 : n ≤ 999999999 <;> by_cases a5 : s = [] <;> simp [a3, a4, a5]
  have p8 : k ≠ 8 := by simpa using q8
  rw [iS hk4 p8]
  refine aw_step [1, 146] [1] (by simp <;> rfl) ?_
  refine aw_cond rfl (fun q9 => ?_) (fun q9 => aw_skip ?_)
  · have h : k = 9 := by simpa using q9
    subst h
    simp only [strB]
    refine aw_seq (aw_region ?_)
    by_cases hn : n = 0
    · subst hn
      refine awl_go 6 (by simp <;> rfl) ?_
      refine awl_gcall (fun hg => h64) Tryz.func64 rfl (by kernel_rfl) (by simp <;> rfl) rfl rfl (by simp <;> rfl) (by simp) (by simp <;> rfl) ?_
      refine awl_end [2] [] (by simp <;> rfl) ?_
      exact aw_ret (ends_ret (by simp [Tryz.results46] <;> rfl) (by simp))
    · refine awl_go 6 (by simp [hn] <;> rfl) ?_
      refine awl_gcall (fun hg => h64) Tryz.func64 rfl (by kernel_rfl) (by simp <;> rfl) rfl rfl (by simp <;> rfl) (by simp) (by simp <;> rfl) ?_
      refine awl_end [2] [] (by simp <;> rfl) ?_
      exact aw_ret (ends_ret (by simp [Tryz.results46] <;> rfl) (by simp [hn]))
  have p9 : k ≠ 9 := by simpa using q9
  refine aw_step [2] [] (by simp <;> rfl) ?_
  refine aw_ret (ends_ret (by simp [Tryz.results46] <;> rfl) ?_)
  simp [strB, p5, p6, p7, p9]
end Go.Proofs.YtliogkkhofhfcaaGreatDoor

/- Query: how many nodes a query has, how long its text is, plain. No condition. -/
set_option linter.unusedSimpArgs false
set_option maxRecDepth 4000
namespace Go.Proofs.YtliogkkhofhfcaaGreatDoor
open Go.Eng

def sumL (f : Qy → Nat) : List Qy → Nat
  | [] => 0
  | q :: r => f q + sumL f r
/-- The number of nodes. -/
def tn : Nat → Qy → Nat
  | 0, _ => 1
  | m + 1, .mk _ _ _ _ _ ks => 1 + sumL (tn m) ks
def nodesL (f : Qy → Nat) : List Qy → Nat → Nat
  | [], n => n
  | q :: r, n => if 1000 < n + f q then n + f q else nodesL f r (n + f q)
/-- The number of nodes as the reference counts: it gives up beyond 1000. -/
def nodesR : Nat → Qy → Nat
  | 0, _ => 1
  | m + 1, .mk _ _ _ _ _ ks => nodesL (nodesR m) ks 1
theorem tn_pos : ∀ (m : Nat) (q : Qy), 1 ≤ tn m q
  | 0, _ => Nat.le_refl _
  | m + 1, .mk .. => by rw [tn]; omega
theorem nodesL_le {f g : Qy → Nat} (h : ∀ q, f q ≤ g q) : ∀ (r : List Qy) (n : Nat), nodesL f r n ≤ n + sumL g r
  | [], n => by simp [nodesL, sumL]
  | q :: r, n => by
    have hq := h q
    rw [nodesL, sumL]
    split
    · omega
    · have := nodesL_le h r (n + f q); omega
theorem nodesR_le : ∀ (m : Nat) (q : Qy), nodesR m q ≤ tn m q
  | 0, _ => Nat.le_refl _
  | m + 1, .mk _ _ _ _ _ ks => by rw [nodesR, tn]; exact nodesL_le (nodesR_le m) ks 1
theorem nodesL_eq {f g : Qy → Nat} (h : ∀ q, f q ≤ 1000 → f q = g q) : ∀ (r : List Qy) (n : Nat), nodesL f r n ≤ 1000 → nodesL f r n = n + sumL g r
  | [], n, _ => by simp [nodesL, sumL]
  | q :: r, n, hle => by
    rw [nodesL] at hle ⊢
    rw [sumL]
    split at hle
    · omega
    · rename_i hc
      rw [if_neg hc]
      have e := h q (by omega)
      have := nodesL_eq h r (n + f q) hle
      omega
theorem nodesR_eq : ∀ (m : Nat) (q : Qy), nodesR m q ≤ 1000 → nodesR m q = tn m q
  | 0, _, _ => rfl
  | m + 1, .mk _ _ _ _ _ ks, h => by rw [nodesR] at h ⊢; rw [tn]; exact nodesL_eq (nodesR_eq m) ks 1 h
theorem nodesL_big {f : Qy → Nat} {B : Nat} (h : ∀ q, f q ≤ B) : ∀ (r : List Qy) (n : Nat), n ≤ 1000 → nodesL f r n ≤ 1000 + B
  | [], n, hn => by rw [nodesL]; omega
  | q :: r, n, hn => by
    have := h q
    rw [nodesL]
    split
    · omega
    · exact nodesL_big h r _ (by omega)
theorem nodesR_big : ∀ (m : Nat) (q : Qy), nodesR m q ≤ 1000 + 1000 * m
  | 0, _ => by rw [nodesR]; omega
  | m + 1, .mk _ _ _ _ _ ks => by
    rw [nodesR]
    have := nodesL_big (nodesR_big m) ks 1 (by omega)
    omega
theorem sumL_mem {f : Qy → Nat} : ∀ {r : List Qy} {q : Qy}, q ∈ r → f q ≤ sumL f r
  | x :: r, q, h => by
    rw [sumL]
    rcases List.mem_cons.1 h with rfl | h
    · omega
    · have := sumL_mem (f := f) h; omega

theorem txtL_len {f : Qy → List UInt8} {g : Qy → Nat} (k : Int) (W : List UInt8) (hW : W.length ≤ 5) : ∀ (r : List Qy) (b : Bool), (∀ q ∈ r, (f q).length + 10 ≤ 120 * g q) → (txtL f k W b r).length ≤ 120 * sumL g r
  | [], b, _ => by simp [txtL, sumL]
  | q :: r, b, h => by
    have h1 := h q List.mem_cons_self
    have h2 := txtL_len k W hW r false (fun x hx => h x (List.mem_cons_of_mem _ hx))
    have a1 := sepT_len b W hW
    have a2 := opT_len (encl k q.kind)
    have a3 := clT_len (encl k q.kind)
    rw [txtL, sumL]
    simp only [List.length_append]
    omega
theorem txt_len : ∀ (m : Nat) (q : Qy), sndQ m q = true → (txt m q).length + 10 ≤ 120 * tn m q
  | 0, q, h => by simp [sndQ] at h
  | m + 1, .mk k c n f s ks, h => by
    rw [sndQ_mk, Bool.and_eq_true] at h
    obtain ⟨h1, h2⟩ := h
    have ih : ∀ q ∈ ks, (txt m q).length + 10 ≤ 120 * tn m q := fun q hq => txt_len m q (List.all_eq_true.1 h2 q hq)
    rw [txt, tn]
    by_cases hk : k = 1 ∨ k = 2 ∨ k = 3
    · rw [if_pos hk, List.length_append]
      have a := txtL_len k (if k = 2 then orW else andW) (by split <;> simp) ks true ih
      have b : (if k = 3 then notW else []).length ≤ 4 := by split <;> simp
      omega
    · rw [if_neg hk]
      rw [if_neg (by omega), if_neg (by omega)] at h1
      cases hc : condT k c n f s ks.length with
      | none => rw [hc] at h1; cases h1
      | some x =>
        have := condT_len hc
        simp only [Option.getD_some]
        omega
theorem txtL_ge {f : Qy → List UInt8} {g : Qy → Nat} (k : Int) (W : List UInt8) (hW : 4 ≤ W.length) : ∀ (r : List Qy), (∀ q ∈ r, g q ≤ (f q).length) → sumL g r + 4 * r.length ≤ (txtL f k W false r).length
  | [], _ => by simp [txtL, sumL]
  | q :: r, h => by
    have h1 := h q List.mem_cons_self
    have h2 := txtL_ge k W hW r (fun x hx => h x (List.mem_cons_of_mem _ hx))
    rw [txtL, sumL]
    simp only [List.length_append, List.length_cons, sepT, Bool.false_eq_true, if_false]
    omega
/-- A text has at least as many bytes as there are nodes. -/
theorem tn_txt : ∀ (m : Nat) (q : Qy), sndQ m q = true → tn m q ≤ (txt m q).length
  | 0, q, h => by simp [sndQ] at h
  | m + 1, .mk k c n f s ks, h => by
    rw [sndQ_mk, Bool.and_eq_true] at h
    obtain ⟨h1, h2⟩ := h
    have ih : ∀ q ∈ ks, tn m q ≤ (txt m q).length := fun q hq => tn_txt m q (List.all_eq_true.1 h2 q hq)
    rw [txt, tn]
    by_cases hk : k = 1 ∨ k = 2 ∨ k = 3
    · rw [if_pos hk, List.length_append]
      have key : (ks ≠ []) → sumL (tn m) ks + 4 * (ks.length - 1) ≤ (txtL (txt m) k (if k = 2 then orW else andW) true ks).length := fun hne => by
        cases ks with
        | nil => exact absurd rfl hne
        | cons q r =>
          have a := ih q List.mem_cons_self
          have b := txtL_ge (f := txt m) (g := tn m) k (if k = 2 then orW else andW) (by split <;> simp) r (fun x hx => ih x (List.mem_cons_of_mem _ hx))
          rw [txtL, sumL]
          simp only [List.length_append, List.length_cons]
          omega
      by_cases h3 : k = 3
      · rw [if_neg (by omega), if_pos h3, Bool.and_eq_true] at h1
        have hn : ks.length = 1 := by simpa using h1.2
        have := key (fun e => by rw [e] at hn; simp at hn)
        rw [if_pos h3]
        simp only [List.length_cons, List.length_nil]
        omega
      · rw [if_pos (by omega), Bool.and_eq_true] at h1
        have hn : 2 ≤ ks.length := by simpa using h1.2
        have := key (fun e => by rw [e] at hn; simp at hn)
        omega
    · rw [if_neg hk]
      rw [if_neg (by omega), if_neg (by omega)] at h1
      cases hc : condT k c n f s ks.length with
      | none => rw [hc] at h1; cases h1
      | some x =>
        have hp := condT_pos hc
        have hk0 : ks = [] := List.eq_nil_of_length_eq_zero (cond_kids hc)
        subst hk0
        simp only [Option.getD_some, sumL]
        omega
/-- The reference's words for a valid query. -/
theorem canon_ref (q : Qy) : canonB q = (sndQ 8 q && (decide (nodesR 8 q ≤ 1000) && decide ((txt 8 q).length ≤ 1000))) := by
  rw [Bool.eq_iff_iff, canon_iff]
  simp only [Bool.and_eq_true, decide_eq_true_eq]
  constructor
  · rintro ⟨a, b⟩
    exact ⟨a, Nat.le_trans (Nat.le_trans (nodesR_le 8 q) (tn_txt 8 q a)) b, b⟩
  · rintro ⟨a, _, b⟩
    exact ⟨a, b⟩

/-- What a kid's text begins with. -/
def leadT (k : Int) (i : Nat) : List UInt8 := if k = 3 then notW else if i = 0 then [] else if k = 1 then andW else orW
/-- The text of the first kids. -/
def ptx (f : Qy → List UInt8) (k : Int) (ks : List Qy) (i : Nat) : List UInt8 := (if k = 3 ∧ 0 < i then notW else []) ++ txtL f k (if k = 2 then orW else andW) true (ks.take i)
theorem txtL_snoc (f : Qy → List UInt8) (k : Int) (W : List UInt8) (x : Qy) : ∀ (l : List Qy) (b : Bool), txtL f k W b (l ++ [x]) = txtL f k W b l ++ (if b = true ∧ l = [] then [] else W) ++ opT (encl k x.kind) ++ f x ++ clT (encl k x.kind)
  | [], b => by cases b <;> simp [txtL, sepT]
  | q :: r, b => by
    have ih := txtL_snoc f k W x r false
    rw [List.cons_append, txtL, ih, txtL]
    simp
theorem ptx_succ {f : Qy → List UInt8} {k : Int} {ks : List Qy} {i : Nat} (hk : k = 1 ∨ k = 2 ∨ k = 3) (h3 : k = 3 → ks.length = 1) (hi : i < ks.length) :
    ptx f k ks (i + 1) = ptx f k ks i ++ leadT k i ++ opT (encl k ks[i].kind) ++ f ks[i] ++ clT (encl k ks[i].kind) := by
  unfold ptx
  rw [List.take_succ_eq_append_getElem hi, txtL_snoc]
  by_cases hk3 : k = 3
  · have : i = 0 := by have := h3 hk3; omega
    subst this
    simp [hk3, txtL, leadT]
  · have e : (true = true ∧ ks.take i = []) ↔ i = 0 := by
      constructor
      · rintro ⟨_, h⟩
        have := congrArg List.length h
        rw [List.length_take, List.length_nil] at this
        omega
      · rintro rfl; simp
    simp only [hk3, false_and, if_false, List.nil_append, leadT, e]
    by_cases h0 : i = 0
    · simp [h0]
    · have hne : ks ≠ [] := by rintro rfl; simp at hi
      rcases hk with rfl | rfl | h
      · simp [h0, hne]
      · simp [h0, hne]
      · exact absurd h hk3
theorem ptx_end (m : Nat) (k c n : Int) (f s : List UInt8) (ks : List Qy) (hk : k = 1 ∨ k = 2 ∨ k = 3) (hn : ks ≠ []) : ptx (txt m) k ks ks.length = txt (m + 1) (.mk k c n f s ks) := by
  rw [txt, if_pos hk, ptx, List.take_length]
  have : 0 < ks.length := List.length_pos_iff.2 hn
  simp [this]
theorem ptx_len {f : Qy → List UInt8} {g : Qy → Nat} {k : Int} {ks : List Qy} (h : ∀ q ∈ ks, (f q).length + 10 ≤ 120 * g q) (i : Nat) : (ptx f k ks i).length ≤ 120 * sumL g ks + 4 := by
  have hs : ∀ (l r : List Qy), sumL g l ≤ sumL g (l ++ r) := fun l r => by
    induction l with
    | nil => simp [sumL]
    | cons x l ih => simp only [List.cons_append, sumL]; omega
  have a := txtL_len k (if k = 2 then orW else andW) (by split <;> simp) (ks.take i) true (fun q hq => h q (List.mem_of_mem_take hq))
  have b := hs (ks.take i) (ks.drop i)
  rw [List.take_append_drop] at b
  have c : (if k = 3 ∧ 0 < i then notW else []).length ≤ 4 := by split <;> simp
  rw [ptx, List.length_append]
  omega
end Go.Proofs.YtliogkkhofhfcaaGreatDoor

/- Query: the reference's sound and nodes. No condition. -/
set_option linter.unusedSimpArgs false
set_option maxRecDepth 4000
namespace Go.Proofs.YtliogkkhofhfcaaGreatDoor
open Go.Eng

theorem sndQ_eq (m : Nat) (k c n : Int) (f s : List UInt8) (ks : List Qy) : sndQ (m + 1) (.mk k c n f s ks) = (frm0 k c n f s ks.length && ks.all (sndQ m)) := rfl
set_option maxHeartbeats 2000000 in
theorem sound_ac : ∀ (m : Nat), m ≤ 8 → ∀ (q : Qy), AC Tryz.prog 24 [q.v, .int .i64 m] (fun r => r = .bool (sndQ m q)) := by
  intro m
  induction m with
  | zero =>
    intro _ q
    obtain ⟨k, c, n, f, s, ks⟩ := q
    have hf := formed_ac k c n f s (ks.map Qy.v)
    rw [Qy.v]
    generalize ks.map Qy.v = kv at hf ⊢
    refine ac_intro Tryz.func24 rfl (by show (2 : Nat) ≤ 27; omega) (fun w0 N0 => ?_)
    refine aw_step [1, 2] [2] (by simp [Tryz.ntmps24] <;> rfl) ?_   -- ref.go:166
    refine aw_seq ?_
    refine aw_seq (aw_region ?_)   -- ref.go:167
    refine awl_go 4 (by simp <;> rfl) ?_
    refine awl_gcall (fun hg => hf) Tryz.func46 rfl (by kernel_rfl) (by simp <;> rfl) rfl rfl (by simp <;> rfl) (by simp [V.pureV, V.pureE]) (by simp <;> rfl) ?_
    refine awl_end [1, 2, 13] [2] (by simp <;> rfl) ?_
    refine aw_cond rfl (fun h1 => ?_) (fun h1 => by simp at h1)   -- if t13
    refine aw_step [4] [] (by simp <;> rfl) ?_   -- ref.go:168
    exact aw_ret (ends_ret (by simp [Tryz.results24] <;> rfl) rfl)
  | succ m ih =>
    intro hm q
    obtain ⟨k, c, n, f, s, ks⟩ := q
    have ihk := fun x => ih (by omega) x
    have hf := formed_ac k c n f s (ks.map Qy.v)
    rw [List.length_map] at hf
    rw [sndQ_eq, Qy.v]
    have hg := fun (i : Nat) (h : i < ks.length) => nthQ h
    have hlk : (ks.map Qy.v).length = ks.length := by simp
    generalize ks.map Qy.v = kv at hf hg hlk ⊢
    generalize frm0 k c n f s ks.length = fb at hf ⊢
    have hm1 : ¬ ((m : Int) + 1 < 1) := by omega
    have hmw : IntKind.i64.wrap ((m : Int)) = m := wrap_in (by omega) (by omega)
    refine ac_intro Tryz.func24 rfl (by show (2 : Nat) ≤ 27; omega) (fun w0 N0 => ?_)
    refine aw_step [1, 2] [2] (by simp [Tryz.ntmps24] <;> rfl) ?_   -- ref.go:166
    refine aw_seq ?_
    refine aw_seq (aw_region ?_)   -- ref.go:167
    refine awl_go 4 (by simp [hm1] <;> rfl) ?_
    refine awl_gcall (fun hg => hf) Tryz.func46 rfl (by kernel_rfl) (by simp <;> rfl) rfl rfl (by simp <;> rfl) (by simp [V.pureV, V.pureE]) (by simp <;> rfl) ?_
    refine awl_end [1, 2, 13] [2] (by simp <;> rfl) ?_
    refine aw_cond rfl (fun h1 => ?_) (fun h1 => aw_skip ?_)   -- if t13
    · refine aw_step [4] [] (by simp <;> rfl) ?_   -- ref.go:168
      have hb : fb = false := by simpa using h1
      subst hb
      exact aw_ret (ends_ret (by simp [Tryz.results24] <;> rfl) rfl)
    have hb : fb = true := by simpa using h1
    subst hb
    rw [Bool.true_and]
    refine aw_seq ?_
    refine aw_step [1, 15, 16, 17] [] (by simp <;> rfl) ?_   -- ref.go:170
    refine aw_len 15 rfl (fun mx => ?_)
    unfold maxLen at mx
    refine aw_block ?_
    refine aw_count (fun i nx => ⟨[(1, .int .i64 ((m : Int) + 1)), (15, .ro 6 kv), (16, .int .i64 ks.length), (17, .int .i64 i)], [], nx, 27⟩) (fun i => (ks.take i).all (sndQ m) = true) ks.length _ (by simp) (by simp only [hlk]; exact AS.le_refl _) ?_
    intro i nx hi hI
    refine aw_step [1, 15, 16, 17, 18] [] (by simp <;> rfl) ?_   -- ref.go:170
    refine aw_seq ?_
    refine aw_cond rfl (fun h2 => aw_skip ?_) (fun h2 => ?_)   -- if t18
    · have hlt : i < ks.length := by simp at h2; omega
      have hlt' : i < kv.length := by omega
      have ga := hg i hlt
      have hc := ihk ks[i]
      have htk := List.take_succ_eq_append_getElem (l := ks) (i := i) hlt
      have hmem : ks[i] ∈ ks := List.getElem_mem hlt
      have hw := wrap_succ (k := i) (by omega)
      generalize hx : ks[i] = x at ga hc htk hmem
      obtain ⟨xk, xc, xn, xf, xs, xv, vx⟩ : ∃ k c n f s kv, x.v = .agg [.int .i64 k, .int .i64 c, .int .i64 n, .str f, .str s, .ro 6 kv] := by
        obtain ⟨k, c, n, f, s, ks⟩ := x
        exact ⟨k, c, n, f, s, _, by rw [Qy.v]⟩
      rw [vx] at ga hc
      refine aw_seq ?_
      refine aw_block ?_
      refine aw_step [1, 6, 15, 16, 17] [6] (by simp [ga, hlt'] <;> rfl) ?_   -- ref.go:170
      refine aw_seq (aw_region ?_)   -- ref.go:171
      refine awl_go 3 (by simp [hmw] <;> rfl) ?_
      refine awl_call1 hc Tryz.func24 rfl (by kernel_rfl) rfl rfl rfl (by simp <;> rfl) (by simp [V.pureV, V.pureE]) (by simp <;> rfl) ?_
      refine awl_end [1, 15, 16, 17, 25] [] (by simp <;> rfl) ?_
      refine aw_cond rfl (fun h3 => ?_) (fun h3 => aw_skip ?_)   -- if t25
      · refine aw_step [4] [] (by simp <;> rfl) ?_   -- ref.go:172
        refine aw_ret (ends_ret (by simp [Tryz.results24] <;> rfl) ?_)
        have : ks.all (sndQ m) = false := List.all_eq_false.2 ⟨x, hmem, by simpa using h3⟩
        rw [this]
      have hs : sndQ m x = true := by simpa using h3
      refine aw_one [1, 15, 16, 17] [] (by simp [hw] <;> rfl) ?_   -- ref.go:170
      exact ⟨hlt, by rw [htk, List.all_append, hI]; simp [hs], _, AS.le_refl _⟩
    · refine aw_exit ?_
      refine aw_step [4] [] (by simp <;> rfl) ?_   -- ref.go:175
      refine aw_ret (ends_ret (by simp [Tryz.results24] <;> rfl) ?_)
      have hke : i = ks.length := by simp at h2; omega
      rw [hke, List.take_length] at hI
      rw [hI]
theorem nodesL_take {f : Qy → Nat} : ∀ (l : List Qy) (i n : Nat), i ≤ l.length → nodesL f (l.take i) n ≤ 1000 → nodesL f l n = nodesL f (l.drop i) (nodesL f (l.take i) n)
  | l, 0, n, _, _ => by simp [nodesL]
  | [], i + 1, n, h, _ => by simp at h
  | x :: l, i + 1, n, h, hle => by
    rw [List.take_succ_cons, nodesL] at hle ⊢
    rw [List.drop_succ_cons]
    split at hle
    · omega
    · rename_i hc
      rw [if_neg hc, nodesL, if_neg hc]
      exact nodesL_take l i _ (by simpa using h) hle
set_option maxHeartbeats 2000000 in
theorem nodes_ac : ∀ (m : Nat), m ≤ 8 → ∀ (q : Qy), sndQ m q = true → AC Tryz.prog 25 [q.v] (fun r => r = .int .i64 (nodesR m q)) := by
  intro m
  induction m with
  | zero => intro _ q h; simp [sndQ] at h
  | succ m ih =>
    intro hm q hq
    obtain ⟨k, c, n, f, s, ks⟩ := q
    rw [sndQ_mk, Bool.and_eq_true] at hq
    have hall := hq.2
    have ihk := fun x (hx : x ∈ ks) => ih (by omega) x (List.all_eq_true.1 hall x hx)
    have hbig := nodesR_big m
    rw [nodesR, Qy.v]
    have hg := fun (i : Nat) (h : i < ks.length) => nthQ h
    have hlk : (ks.map Qy.v).length = ks.length := by simp
    generalize ks.map Qy.v = kv at hg hlk ⊢
    clear hq hall
    refine ac_intro Tryz.func25 rfl (by show (1 : Nat) ≤ 22; omega) (fun w0 N0 => ?_)
    refine aw_step [1] [1] (by simp [Tryz.ntmps25] <;> rfl) ?_   -- ref.go:229
    refine aw_step [1, 3] [1] (by simp <;> rfl) ?_   -- ref.go:230
    refine aw_seq ?_
    refine aw_step [3, 7, 8, 9] [] (by simp <;> rfl) ?_   -- ref.go:231
    refine aw_len 7 rfl (fun mx => ?_)
    unfold maxLen at mx
    refine aw_block ?_
    refine aw_count (fun i nx => ⟨[(3, .int .i64 (nodesL (nodesR m) (ks.take i) 1)), (7, .ro 6 kv), (8, .int .i64 ks.length), (9, .int .i64 i)], [], nx, 22⟩) (fun i => nodesL (nodesR m) (ks.take i) 1 ≤ 1000) ks.length _ (by simp [nodesL]) (by simp only [hlk]; exact AS.le_refl _) ?_
    intro i nx hi hI
    have htake := nodesL_take (f := nodesR m) ks i 1 hi hI
    refine aw_step [3, 7, 8, 9, 10] [] (by simp <;> rfl) ?_   -- ref.go:231
    refine aw_seq ?_
    refine aw_cond rfl (fun h1 => aw_skip ?_) (fun h1 => ?_)   -- if t10
    · have hlt : i < ks.length := by simp at h1; omega
      have hlt' : i < kv.length := by omega
      have ga := hg i hlt
      have hmem : ks[i] ∈ ks := List.getElem_mem hlt
      have hc := ihk ks[i] hmem
      have hb := hbig ks[i]
      have hw := wrap_succ (k := i) (by omega)
      have htake2 : ∀ v, nodesL (nodesR m) (ks.take i) 1 = v → v + nodesR m ks[i] ≤ 1000 → nodesL (nodesR m) (ks.take (i + 1)) 1 = v + nodesR m ks[i] := fun v hv hle => by
        rw [List.take_succ_eq_append_getElem hlt]
        have h2 := nodesL_take (f := nodesR m) (ks.take i ++ [ks[i]]) i 1 (by simp; omega) (by rw [List.take_append_of_le_length (by simp; omega), List.take_take, Nat.min_self]; exact hI)
        rw [h2, List.take_append_of_le_length (by simp; omega), List.take_take, Nat.min_self, hv]
        have hd : (ks.take i ++ [ks[i]]).drop i = [ks[i]] := by
          rw [List.drop_append_of_le_length (by simp; omega)]
          simp
        rw [hd, nodesL, if_neg (by omega), nodesL]
      have hdr : ks.drop i = ks[i] :: ks.drop (i + 1) := List.drop_eq_getElem_cons hlt
      rw [hdr, nodesL] at htake
      generalize nodesL (nodesR m) (ks.take i) 1 = acc at hI htake htake2 ⊢
      have htake2 := htake2 acc rfl
      generalize hx : ks[i] = x at ga hc hb htake htake2
      generalize nodesR m x = nx1 at hc hb htake htake2
      obtain ⟨sm, hsm, hsm'⟩ : ∃ v : Int, IntKind.i64.wrap ((acc : Int) + (nx1 : Int)) = v ∧ v = ((acc + nx1 : Nat) : Int) := ⟨_, rfl, by rw [wrap_in (by omega) (by omega)]; omega⟩
      obtain ⟨xk, xc, xn, xf, xs, xv, vx⟩ : ∃ k c n f s kv, x.v = .agg [.int .i64 k, .int .i64 c, .int .i64 n, .str f, .str s, .ro 6 kv] := by
        obtain ⟨k, c, n, f, s, ks⟩ := x
        exact ⟨k, c, n, f, s, _, by rw [Qy.v]⟩
      rw [vx] at ga hc
      refine aw_seq ?_
      refine aw_block ?_
      refine aw_step [3, 5, 7, 8, 9] [5] (by simp [ga, hlt'] <;> rfl) ?_   -- ref.go:231
      refine aw_seq (aw_region ?_)   -- ref.go:232
      refine awl_go 2 (by simp <;> rfl) ?_
      refine awl_call1 hc Tryz.func25 rfl (by kernel_rfl) rfl rfl rfl (by simp <;> rfl) (by simp [V.pureV, V.pureE]) (by simp <;> rfl) ?_
      refine awl_go 2 (by simp [hsm] <;> rfl) ?_
      refine awl_end [3, 7, 8, 9] [] (by simp <;> rfl) ?_
      refine aw_step [3, 7, 8, 9, 18] [] (by simp <;> rfl) ?_   -- ref.go:233
      refine aw_cond rfl (fun h2 => ?_) (fun h2 => aw_skip ?_)   -- if t18
      · refine aw_step [2] [] (by simp <;> rfl) ?_   -- ref.go:234
        refine aw_ret (ends_ret (by simp [Tryz.results25] <;> rfl) ?_)
        have hgt : 1000 < acc + nx1 := by simp at h2; omega
        rw [if_pos hgt] at htake
        rw [htake, hsm']
      have hngt : acc + nx1 ≤ 1000 := by simp at h2; omega
      refine aw_one [3, 7, 8, 9] [] (by simp [hw] <;> rfl) ?_   -- ref.go:231
      refine ⟨hlt, by rw [htake2 hngt]; exact hngt, ?_⟩
      rw [htake2 hngt, ← hsm']
      exact ⟨_, AS.le_refl _⟩
    · refine aw_exit ?_
      refine aw_step [2] [] (by simp <;> rfl) ?_   -- ref.go:237
      refine aw_ret (ends_ret (by simp [Tryz.results25] <;> rfl) ?_)
      have hke : i = ks.length := by simp at h1; omega
      rw [hke, List.take_length]
end Go.Proofs.YtliogkkhofhfcaaGreatDoor
