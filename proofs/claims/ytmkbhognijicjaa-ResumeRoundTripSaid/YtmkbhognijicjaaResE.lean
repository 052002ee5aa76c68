/- Resume: events and their rules. No condition. -/
import Derived.Test.YtmkbhognijicjaaResD
set_option linter.unusedSimpArgs false
namespace Go.Proofs.Ytmkbhognijicjaa
open Go.Eng

structure Ev where
  kind : Int
  time : Int
  item : Int
  ch : List Int
  value : Int
  text : List UInt8
  om : Bool
  ik : Int
  it : Int
  il : Int
  ig : Int
  deriving DecidableEq
def nums (l : List Int) : List V := l.map (V.int .i64)
def Ev.v (e : Ev) : V := .agg [.int .i64 e.kind, .int .i64 e.time, .int .i64 e.item, .ro 1 (nums e.ch), .int .i64 e.value, .str e.text, .bool e.om, .int .i64 e.ik, .int .i64 e.it, .int .i64 e.il, .int .i64 e.ig]
def Ev.a (e : Ev) : V := .agg [.int .i64 e.item, .ro 1 (nums e.ch), .int .i64 e.value, .str e.text, .bool e.om]
def zE : Ev := ⟨0, 0, 0, [], 0, [], false, 0, 0, 0, 0⟩
theorem pureI (l : List Int) : (nums l).all V.pureE = true := by
  rw [List.all_eq_true]; intro x hx; simp only [nums, List.mem_map] at hx; obtain ⟨n, _, rfl⟩ := hx; rfl
theorem numsL (l : List Int) : (nums l).length = l.length := by simp [nums]
theorem nums_nil (l : List Int) : nums l = [] ↔ l = [] := by simp [nums]

def blank (e : Ev) : Bool := decide (e.item = 0) && decide (e.ch = []) && decide (e.value = 0) && decide (e.text = []) && !e.om
def inc0 (e : Ev) : Bool := decide (e.ik = 0) && (decide (e.it = 0) && (decide (e.il = 0) && decide (e.ig = 0)))
/-- The parts of an event fit its kind. -/
def fmd (e : Ev) : Bool :=
  if e.kind = 1 then blank e && inc0 e else if e.kind = 3 then blank e && inc0 e else if e.kind = 4 then blank e && inc0 e else if e.kind = 6 then blank e && inc0 e
  else if e.kind = 2 then inc0 e else if e.kind = 5 then blank e && decide (e.it = e.time) else false
def encE (e : Ev) : Int := if fmd e = false then 1 else if (decide (e.time < 0) || decide (1099511627776 < e.time)) = true then 3 else if (decide ((10 : Int) < e.ch.length) || decide ((1000 : Int) < e.text.length)) = true then 5 else 0

theorem fmd_eq (e : Ev) : fmd e = (decide (1 ≤ e.kind) && decide (e.kind ≤ 6) && (decide (e.kind = 2) || blank e) && (decide (e.kind = 5) || inc0 e) && (!decide (e.kind = 5) || decide (e.it = e.time))) := by
  unfold fmd
  by_cases h1 : e.kind = 1
  · simp [h1]
  by_cases h2 : e.kind = 2
  · simp [h2]
  by_cases h3 : e.kind = 3
  · simp [h3]
  by_cases h4 : e.kind = 4
  · simp [h4]
  by_cases h5 : e.kind = 5
  · simp [h5]
  by_cases h6 : e.kind = 6
  · simp [h6]
  have : ¬ (1 ≤ e.kind ∧ e.kind ≤ 6) := by omega
  have : (decide (1 ≤ e.kind) && decide (e.kind ≤ 6)) = false := by simpa using this
  simp [h1, h2, h3, h4, h5, h6, this]

set_option maxHeartbeats 1000000 in
theorem formed_ac (e : Ev) : AC Try.prog 16 [e.v] (fun r => r = .bool (fmd e)) := by
  have hn := nums_nil e.ch
  simp only [Ev.v]
  generalize nums e.ch = cv at hn
  refine ac_intro Try.func16 rfl (by show (1 : Nat) ≤ 62; omega) (fun w0 N0 => ?_)
  refine aw_step [1] [1] (by simp [Try.ntmps16] <;> rfl) ?_   -- resume.go:19
  refine aw_step [1, 3] [1, 3] (by simp <;> rfl) ?_   -- resume.go:20
  refine aw_step [1, 4] [1] (by simp <;> rfl) ?_   -- resume.go:21
  refine aw_seq ?_
  refine aw_step [1, 4, 32] [1] (by simp <;> rfl) ?_   -- resume.go:22
  refine aw_block ?_
  refine aw_seq ?_
  refine aw_step [1, 4, 32, 33] [1] (by simp <;> rfl) ?_   -- resume.go:23
  refine aw_cond rfl (fun h1 => aw_skip ?_) (fun h1 => ?_)   -- if t33
  · refine aw_cond rfl (fun h2 => ?_) (fun h2 => ?_)   -- if t33
    · refine aw_step [2] [] (by simp <;> rfl) ?_   -- resume.go:24
      refine aw_ret (ends_ret (by simp [Try.results16] <;> rfl) (by simp_all [fmd, blank, inc0]))
    · refine aw_step [1, 4, 32, 45] [1] (by simp <;> rfl) ?_   -- resume.go:25
      refine aw_cond rfl (fun h3 => ?_) (fun h3 => ?_)   -- if t45
      · refine aw_step [2] [] (by simp <;> rfl) ?_   -- resume.go:26
        refine aw_ret (ends_ret (by simp [Try.results16] <;> rfl) (by simp_all [fmd, blank, inc0]))
      · refine aw_step [1, 4, 51] [1] (by simp <;> rfl) ?_   -- resume.go:27
        refine aw_cond rfl (fun h4 => ?_) (fun h4 => aw_skip ?_)   -- if t51
        · refine aw_step [2] [] (by simp <;> rfl) ?_   -- resume.go:28
          refine aw_ret (ends_ret (by simp [Try.results16] <;> rfl) (by simp_all [fmd, blank, inc0]))
        refine aw_step [2] [] (by simp <;> rfl) ?_   -- resume.go:30
        refine aw_ret (ends_ret (by simp [Try.results16] <;> rfl) (by simp_all [fmd, blank, inc0]))
  · refine aw_step [1, 4, 32, 33] [1] (by simp <;> rfl) ?_   -- resume.go:23
    refine aw_cond rfl (fun h5 => aw_skip ?_) (fun h5 => ?_)   -- if t33
    · refine aw_cond rfl (fun h6 => ?_) (fun h6 => ?_)   -- if t33
      · refine aw_step [2] [] (by simp <;> rfl) ?_   -- resume.go:24
        refine aw_ret (ends_ret (by simp [Try.results16] <;> rfl) (by simp_all [fmd, blank, inc0]))
      · refine aw_step [1, 4, 32, 45] [1] (by simp <;> rfl) ?_   -- resume.go:25
        refine aw_cond rfl (fun h7 => ?_) (fun h7 => ?_)   -- if t45
        · refine aw_step [2] [] (by simp <;> rfl) ?_   -- resume.go:26
          refine aw_ret (ends_ret (by simp [Try.results16] <;> rfl) (by simp_all [fmd, blank, inc0]))
        · refine aw_step [1, 4, 51] [1] (by simp <;> rfl) ?_   -- resume.go:27
          refine aw_cond rfl (fun h8 => ?_) (fun h8 => aw_skip ?_)   -- if t51
          · refine aw_step [2] [] (by simp <;> rfl) ?_   -- resume.go:28
            refine aw_ret (ends_ret (by simp [Try.results16] <;> rfl) (by simp_all [fmd, blank, inc0]))
          refine aw_step [2] [] (by simp <;> rfl) ?_   -- resume.go:30
          refine aw_ret (ends_ret (by simp [Try.results16] <;> rfl) (by simp_all [fmd, blank, inc0]))
    · refine aw_step [1, 4, 32, 33] [1] (by simp <;> rfl) ?_   -- resume.go:23
      refine aw_cond rfl (fun h9 => aw_skip ?_) (fun h9 => ?_)   -- if t33
      · refine aw_cond rfl (fun h10 => ?_) (fun h10 => ?_)   -- if t33
        · refine aw_step [2] [] (by simp <;> rfl) ?_   -- resume.go:24
          refine aw_ret (ends_ret (by simp [Try.results16] <;> rfl) (by simp_all [fmd, blank, inc0]))
        · refine aw_step [1, 4, 32, 45] [1] (by simp <;> rfl) ?_   -- resume.go:25
          refine aw_cond rfl (fun h11 => ?_) (fun h11 => ?_)   -- if t45
          · refine aw_step [2] [] (by simp <;> rfl) ?_   -- resume.go:26
            refine aw_ret (ends_ret (by simp [Try.results16] <;> rfl) (by simp_all [fmd, blank, inc0]))
          · refine aw_step [1, 4, 51] [1] (by simp <;> rfl) ?_   -- resume.go:27
            refine aw_cond rfl (fun h12 => ?_) (fun h12 => aw_skip ?_)   -- if t51
            · refine aw_step [2] [] (by simp <;> rfl) ?_   -- resume.go:28
              refine aw_ret (ends_ret (by simp [Try.results16] <;> rfl) (by simp_all [fmd, blank, inc0]))
            refine aw_step [2] [] (by simp <;> rfl) ?_   -- resume.go:30
            refine aw_ret (ends_ret (by simp [Try.results16] <;> rfl) (by simp_all [fmd, blank, inc0]))
      · refine aw_one [1, 4, 32, 33] [1] (by simp <;> rfl) ?_   -- resume.go:23
        refine aw_cond rfl (fun h13 => ?_) (fun h13 => ?_)   -- if t33
        · refine aw_step [2] [] (by simp <;> rfl) ?_   -- resume.go:24
          refine aw_ret (ends_ret (by simp [Try.results16] <;> rfl) (by simp_all [fmd, blank, inc0]))
        · refine aw_step [1, 4, 32, 45] [1] (by simp <;> rfl) ?_   -- resume.go:25
          refine aw_cond rfl (fun h14 => ?_) (fun h14 => ?_)   -- if t45
          · refine aw_step [2] [] (by simp <;> rfl) ?_   -- resume.go:26
            refine aw_ret (ends_ret (by simp [Try.results16] <;> rfl) (by simp_all [fmd, blank, inc0]))
          · refine aw_step [1, 4, 51] [1] (by simp <;> rfl) ?_   -- resume.go:27
            refine aw_cond rfl (fun h15 => ?_) (fun h15 => aw_skip ?_)   -- if t51
            · refine aw_step [2] [] (by simp <;> rfl) ?_   -- resume.go:28
              refine aw_ret (ends_ret (by simp [Try.results16] <;> rfl) (by simp_all [fmd, blank, inc0]))
            refine aw_step [2] [] (by simp <;> rfl) ?_   -- resume.go:30
            refine aw_ret (ends_ret (by simp [Try.results16] <;> rfl) (by simp_all [fmd, blank, inc0]))

theorem blank_ac (e : Ev) : AC Try.prog 31 [e.a] (fun r => r = .bool (blank e)) := by
  have hn := nums_nil e.ch
  simp only [Ev.a]
  generalize nums e.ch = cv at hn
  refine ac_intro Try.func31 rfl (by show (1 : Nat) ≤ 27; omega) (fun w0 N0 => ?_)
  refine aw_step [1] [1] (by simp [Try.ntmps31] <;> rfl) ?_   -- ref.go:12
  refine aw_step [2] [] (by simp <;> rfl) ?_   -- ref.go:13
  exact aw_ret (ends_ret (by simp [Try.results31] <;> rfl) (by simp [blank, hn]))

set_option maxHeartbeats 1000000 in
theorem check_ac (e : Ev) : AC Try.prog 22 [e.v] (fun r => r = .int .i64 (encE e)) := by
  have hn := nums_nil e.ch
  have hl := numsL e.ch
  have hp := pureI e.ch
  have hc := blank_ac e
  simp only [Ev.v, Ev.a] at hc ⊢
  generalize nums e.ch = cv at hn hl hp hc
  refine ac_intro Try.func22 rfl (by show (1 : Nat) ≤ 60; omega) (fun w0 N0 => ?_)
  refine aw_step [1] [1] (by simp [Try.ntmps22] <;> rfl) ?_   -- ref.go:17
  refine aw_seq ?_
  refine aw_step [1, 10] [1] (by simp <;> rfl) ?_   -- ref.go:18
  refine aw_cond rfl (fun h1 => ?_) (fun h1 => aw_skip ?_)   -- if t10
  · refine aw_step [2] [] (by simp <;> rfl) ?_   -- ref.go:19
    refine aw_ret (ends_ret (by simp [Try.results22] <;> rfl) ?_)
    have hq := fmd_eq e
    have : (decide (1 ≤ e.kind) && decide (e.kind ≤ 6)) = false := by simp at h1 ⊢; omega
    rw [this] at hq
    simp at hq
    simp [encE, hq]
  refine aw_seq ?_
  refine aw_seq (aw_region ?_)   -- ref.go:21
  refine awl_go 6 (by simp <;> rfl) ?_
  refine awl_gcall (c := !decide (e.kind = 2)) (fun hg => hc) Try.func31 rfl (by kernel_rfl) (by simp) rfl rfl (by simp <;> rfl) (by simp) (by simp <;> rfl) ?_
  refine awl_end [1, 19] [1] (by simp <;> rfl) ?_
  refine aw_cond rfl (fun h2 => ?_) (fun h2 => aw_skip ?_)   -- if t19
  · refine aw_step [2] [] (by simp <;> rfl) ?_   -- ref.go:22
    refine aw_ret (ends_ret (by simp [Try.results22] <;> rfl) ?_)
    have hq := fmd_eq e
    have : (decide (e.kind = 2) || blank e) = false := by simpa using h2
    rw [this] at hq
    simp at hq
    simp [encE, hq]
  refine aw_seq ?_
  refine aw_step [1, 28] [1] (by simp <;> rfl) ?_   -- ref.go:24
  refine aw_cond rfl (fun h3 => ?_) (fun h3 => aw_skip ?_)   -- if t28
  · refine aw_step [2] [] (by simp <;> rfl) ?_   -- ref.go:25
    refine aw_ret (ends_ret (by simp [Try.results22] <;> rfl) ?_)
    have hq := fmd_eq e
    have : (decide (e.kind = 5) || inc0 e) = false := by simp [inc0] at h3 ⊢; omega
    rw [this] at hq
    simp at hq
    simp [encE, hq]
  refine aw_seq ?_
  refine aw_step [1, 39] [1] (by simp <;> rfl) ?_   -- ref.go:27
  refine aw_cond rfl (fun h4 => ?_) (fun h4 => aw_skip ?_)   -- if t39
  · refine aw_step [2] [] (by simp <;> rfl) ?_   -- ref.go:28
    refine aw_ret (ends_ret (by simp [Try.results22] <;> rfl) ?_)
    have hq := fmd_eq e
    have : (!decide (e.kind = 5) || decide (e.it = e.time)) = false := by simpa using h4
    rw [this] at hq
    simp at hq
    simp [encE, hq]
  have hfm : fmd e = true := by
    rw [fmd_eq]
    simp [inc0] at h1 h2 h3 h4 ⊢
    refine ⟨⟨⟨⟨by omega, by omega⟩, ?_⟩, ?_⟩, ?_⟩
    · by_cases k2 : e.kind = 2
      · exact .inl k2
      · exact .inr (h2 k2)
    · by_cases k5 : e.kind = 5
      · exact .inl k5
      · exact .inr (h3 k5)
    · by_cases k5 : e.kind = 5
      · exact .inr (h4 k5)
      · exact .inl k5
  refine aw_seq ?_
  refine aw_step [1, 47] [1] (by simp <;> rfl) ?_   -- ref.go:30
  refine aw_cond rfl (fun h5 => ?_) (fun h5 => aw_skip ?_)   -- if t47
  · refine aw_step [2] [] (by simp <;> rfl) ?_   -- ref.go:31
    refine aw_ret (ends_ret (by simp [Try.results22] <;> rfl) ?_)
    simp [encE, hfm, h5]
  refine aw_seq ?_
  refine aw_step [59] [] (by simp <;> rfl) ?_   -- ref.go:33
  rw [hl]
  refine aw_cond rfl (fun h6 => ?_) (fun h6 => aw_skip ?_)   -- if t59
  · refine aw_step [2] [] (by simp <;> rfl) ?_   -- ref.go:34
    refine aw_ret (ends_ret (by simp [Try.results22] <;> rfl) ?_)
    simp [encE, hfm, h5, h6]
  refine aw_step [2] [] (by simp <;> rfl) ?_   -- ref.go:36
  refine aw_ret (ends_ret (by simp [Try.results22] <;> rfl) ?_)
  simp [encE, hfm, h5, h6]

end Go.Proofs.Ytmkbhognijicjaa
