import Derived.Test.YtmkbhognijicjaaGreatDoorGA
/- Resume: events and their rules. No condition. -/
set_option linter.unusedSimpArgs false
set_option maxRecDepth 4000
namespace Go.Proofs.YtmkbhognijicjaaGreatDoor
open Go.Eng

structure Ev where
  kind : Int
  time : Int
  item : Int
  ch : List Int
  value : Int
  text : List UInt8
  om : Bool
  ik : Int
  it : Int
  il : Int
  ig : Int
  deriving DecidableEq
def nums (l : List Int) : List V := l.map (V.int .i64)
def Ev.v (e : Ev) : V := .agg [.int .i64 e.kind, .int .i64 e.time, .int .i64 e.item, .ro 1 (nums e.ch), .int .i64 e.value, .str e.text, .bool e.om, .int .i64 e.ik, .int .i64 e.it, .int .i64 e.il, .int .i64 e.ig]
def Ev.a (e : Ev) : V := .agg [.int .i64 e.item, .ro 1 (nums e.ch), .int .i64 e.value, .str e.text, .bool e.om]
def zE : Ev := ⟨0, 0, 0, [], 0, [], false, 0, 0, 0, 0⟩
theorem pureI (l : List Int) : (nums l).all V.pureE = true := by
  rw [List.all_eq_true]; intro x hx; simp only [nums, List.mem_map] at hx; obtain ⟨n, _, rfl⟩ := hx; rfl
theorem numsL (l : List Int) : (nums l).length = l.length := by simp [nums]
theorem nums_nil (l : List Int) : nums l = [] ↔ l = [] := by simp [nums]

def blank (e : Ev) : Bool := decide (e.item = 0) && decide (e.ch = []) && decide (e.value = 0) && decide (e.text = []) && !e.om
def inc0 (e : Ev) : Bool := decide (e.ik = 0) && (decide (e.it = 0) && (decide (e.il = 0) && decide (e.ig = 0)))
/-- The parts of an event fit its kind. -/
def fmd (e : Ev) : Bool :=
  if e.kind = 1 then blank e && inc0 e else if e.kind = 3 then blank e && inc0 e else if e.kind = 4 then blank e && inc0 e else if e.kind = 6 then blank e && inc0 e
  else if e.kind = 2 then inc0 e else if e.kind = 5 then blank e && decide (e.it = e.time) else false
def encE (e : Ev) : Int := if fmd e = false then 1 else if (decide (e.time < 0) || decide (1099511627776 < e.time)) = true then 3 else if (decide ((10 : Int) < e.ch.length) || decide ((1000 : Int) < e.text.length)) = true then 5 else 0

theorem fmd_eq (e : Ev) : fmd e = (decide (1 ≤ e.kind) && decide (e.kind ≤ 6) && (decide (e.kind = 2) || blank e) && (decide (e.kind = 5) || inc0 e) && (!decide (e.kind = 5) || decide (e.it = e.time))) := by
  unfold fmd
  by_cases h1 : e.kind = 1
  · simp [h1]
  by_cases h2 : e.kind = 2
  · simp [h2]
  by_cases h3 : e.kind = 3
  · simp [h3]
  by_cases h4 : e.kind = 4
  · simp [h4]
  by_cases h5 : e.kind = 5
  · simp [h5]
  by_cases h6 : e.kind = 6
  · simp [h6]
  have : ¬ (1 ≤ e.kind ∧ e.kind ≤ 6) := by omega
  have : (decide (1 ≤ e.kind) && decide (e.kind ≤ 6)) = false := by simpa using this
  simp [h1, h2, h3, h4, h5, h6, this]

set_option maxHeartbeats 1000000 in
theorem formed_ac (e : Ev) : AC Tryz.prog 27 [e.v] (fun r => r = .bool (fmd e)) := by
  have hn := nums_nil e.ch
  simp only [Ev.v]
  generalize nums e.ch = cv at hn
  refine ac_intro Tryz.func27 rfl (by show (1 : Nat) ≤ 62; omega) (fun w0 N0 => ?_)
  refine aw_step [1] [1] (by simp [Tryz.ntmps27] <;> rfl) ?_   -- resume.go:19
  refine aw_step [1, 3] [1, 3] (by simp <;> rfl) ?_   -- resume.go:20
  refine aw_step [1, 4] [1] (by simp <;> rfl) ?_   -- resume.go:21
  refine aw_seq ?_
  refine aw_step [1, 4, 32] [1] (by simp <;> rfl) ?_   -- resume.go:22
  refine aw_block ?_
  refine aw_seq ?_
  refine aw_step [1, 4, 32, 33] [1] (by simp <;> rfl) ?_   -- resume.go:23
  refine aw_cond rfl (fun h1 => aw_skip ?_) (fun h1 => ?_)   -- if t33
  · refine aw_cond rfl (fun h2 => ?_) (fun h2 => ?_)   -- if t33
    · refine aw_step [2] [] (by simp <;> rfl) ?_   -- resume.go:24
      refine aw_ret (ends_ret (by simp [Tryz.results27] <;> rfl) (by simp_all [fmd, blank, inc0]))
    · refine aw_step [1, 4, 32, 45] [1] (by simp <;> rfl) ?_   -- resume.go:25
      refine aw_cond rfl (fun h3 => ?_) (fun h3 => ?_)   -- if t45
      · refine aw_step [2] [] (by simp <;> rfl) ?_   -- resume.go:26
        refine aw_ret (ends_ret (by simp [Tryz.results27] <;> rfl) (by simp_all [fmd, blank, inc0]))
      · refine aw_step [1, 4, 51] [1] (by simp <;> rfl) ?_   -- resume.go:27
        refine aw_cond rfl (fun h4 => ?_) (fun h4 => aw_skip ?_)   -- if t51
        · refine aw_step [2] [] (by simp <;> rfl) ?_   -- resume.go:28
          refine aw_ret (ends_ret (by simp [Tryz.results27] <;> rfl) (by simp_all [fmd, blank, inc0]))
        refine aw_step [2] [] (by simp <;> rfl) ?_   -- resume.go:30
        refine aw_ret (ends_ret (by simp [Tryz.results27] <;> rfl) (by simp_all [fmd, blank, inc0]))
  · refine aw_step [1, 4, 32, 33] [1] (by simp <;> rfl) ?_   -- resume.go:23
    refine aw_cond rfl (fun h5 => aw_skip ?_) (fun h5 => ?_)   -- if t33
    · refine aw_cond rfl (fun h6 => ?_) (fun h6 => ?_)   -- if t33
      · refine aw_step [2] [] (by simp <;> rfl) ?_   -- resume.go:24
        refine aw_ret (ends_ret (by simp [Tryz.results27] <;> rfl) (by simp_all [fmd, blank, inc0]))
      · refine aw_step [1, 4, 32, 45] [1] (by simp <;> rfl) ?_   -- resume.go:25
        refine aw_cond rfl (fun h7 => ?_) (fun h7 => ?_)   -- if t45
        · refine aw_step [2] [] (by simp <;> rfl) ?_   -- resume.go:26
          refine aw_ret (ends_ret (by simp [Tryz.results27] <;> rfl) (by simp_all [fmd, blank, inc0]))
        · refine aw_step [1, 4, 51] [1] (by simp <;> rfl) ?_   -- resume.go:27
          refine aw_cond rfl (fun h8 => ?_) (fun h8 => aw_skip ?_)   -- if t51
          · refine aw_step [2] [] (by simp <;> rfl) ?_   -- resume.go:28
            refine aw_ret (ends_ret (by simp [Tryz.results27] <;> rfl) (by simp_all [fmd, blank, inc0]))
          refine aw_step [2] [] (by simp <;> rfl) ?_   -- resume.go:30
          refine aw_ret (ends_ret (by simp [Tryz.results27] <;> rfl) (by simp_all [fmd, blank, inc0]))
    · refine aw_step [1, 4, 32, 33] [1] (by simp <;> rfl) ?_   -- resume.go:23
      refine aw_cond rfl (fun h9 => aw_skip ?_) (fun h9 => ?_)   -- if t33
      · refine aw_cond rfl (fun h10 => ?_) (fun h10 => ?_)   -- if t33
        · refine aw_step [2] [] (by simp <;> rfl) ?_   -- resume.go:24
          refine aw_ret (ends_ret (by simp [Tryz.results27] <;> rfl) (by simp_all [fmd, blank, inc0]))
        · refine aw_step [1, 4, 32, 45] [1] (by simp <;> rfl) ?_   -- resume.go:25
          refine aw_cond rfl (fun h11 => ?_) (fun h11 => ?_)   -- if t45
          · refine aw_step [2] [] (by simp <;> rfl) ?_   -- resume.go:26
            refine aw_ret (ends_ret (by simp [Tryz.results27] <;> rfl) (by simp_all [fmd, blank, inc0]))
          · refine aw_step [1, 4, 51] [1] (by simp <;> rfl) ?_   -- resume.go:27
            refine aw_cond rfl (fun h12 => ?_) (fun h12 => aw_skip ?_)   -- if t51
            · refine aw_step [2] [] (by simp <;> rfl) ?_   -- resume.go:28
              refine aw_ret (ends_ret (by simp [Tryz.results27] <;> rfl) (by simp_all [fmd, blank, inc0]))
            refine aw_step [2] [] (by simp <;> rfl) ?_   -- resume.go:30
            refine aw_ret (ends_ret (by simp [Tryz.results27] <;> rfl) (by simp_all [fmd, blank, inc0]))
      · refine aw_one [1, 4, 32, 33] [1] (by simp <;> rfl) ?_   -- resume.go:23
        refine aw_cond rfl (fun h13 => ?_) (fun h13 => ?_)   -- if t33
        · refine aw_step [2] [] (by simp <;> rfl) ?_   -- resume.go:24
          refine aw_ret (ends_ret (by simp [Tryz.results27] <;> rfl) (by simp_all [fmd, blank, inc0]))
        · refine aw_step [1, 4, 32, 45] [1] (by simp <;> rfl) ?_   -- resume.go:25
          refine aw_cond rfl (fun h14 => ?_) (fun h14 => ?_)   -- if t45
          · refine aw_step [2] [] (by simp <;> rfl) ?_   -- resume.go:26
            refine aw_ret (ends_ret (by simp [Tryz.results27] <;> rfl) (by simp_all [fmd, blank, inc0]))
          · refine aw_step [1, 4, 51] [1] (by simp <;> rfl) ?_   -- resume.go:27
            refine aw_cond rfl (fun h15 => ?_) (fun h15 => aw_skip ?_)   -- if t51
            · refine aw_step [2] [] (by simp <;> rfl) ?_   -- resume.go:28
              refine aw_ret (ends_ret (by simp [Tryz.results27] <;> rfl) (by simp_all [fmd, blank, inc0]))
            refine aw_step [2] [] (by simp <;> rfl) ?_   -- resume.go:30
            refine aw_ret (ends_ret (by simp [Tryz.results27] <;> rfl) (by simp_all [fmd, blank, inc0]))

theorem blank_ac (e : Ev) : AC Tryz.prog 62 [e.a] (fun r => r = .bool (blank e)) := by
  have hn := nums_nil e.ch
  simp only [Ev.a]
  generalize nums e.ch = cv at hn
  refine ac_intro Tryz.func62 rfl (by show (1 : Nat) ≤ 27; omega) (fun w0 N0 => ?_)
  refine aw_step [1] [1] (by simp [Tryz.ntmps62] <;> rfl) ?_   -- ref.go:12
  refine aw_step [2] [] (by simp <;> rfl) ?_   -- ref.go:13
  exact aw_ret (ends_ret (by simp [Tryz.results62] <;> rfl) (by simp [blank, hn]))

set_option maxHeartbeats 1000000 in
theorem check_ac (e : Ev) : AC Tryz.prog 37 [e.v] (fun r => r = .int .i64 (encE e)) := by
  have hn := nums_nil e.ch
  have hl := numsL e.ch
  have hp := pureI e.ch
  have hc := blank_ac e
  simp only [Ev.v, Ev.a] at hc ⊢
  generalize nums e.ch = cv at hn hl hp hc
  refine ac_intro Tryz.func37 rfl (by show (1 : Nat) ≤ 60; omega) (fun w0 N0 => ?_)
  refine aw_step [1] [1] (by simp [Tryz.ntmps37] <;> rfl) ?_   -- ref.go:17
  refine aw_seq ?_
  refine aw_step [1, 10] [1] (by simp <;> rfl) ?_   -- ref.go:18
  refine aw_cond rfl (fun h1 => ?_) (fun h1 => aw_skip ?_)   -- if t10
  · refine aw_step [2] [] (by simp <;> rfl) ?_   -- ref.go:19
    refine aw_ret (ends_ret (by simp [Tryz.results37] <;> rfl) ?_)
    have hq := fmd_eq e
    have : (decide (1 ≤ e.kind) && decide (e.kind ≤ 6)) = false := by simp at h1 ⊢; omega
    rw [this] at hq
    simp at hq
    simp [encE, hq]
  refine aw_seq ?_
  refine aw_seq (aw_region ?_)   -- ref.go:21
  refine awl_go 6 (by simp <;> rfl) ?_
  refine awl_gcall (c := !decide (e.kind = 2)) (fun hg => hc) Tryz.func62 rfl (by kernel_rfl) (by simp) rfl rfl (by simp <;> rfl) (by simp) (by simp <;> rfl) ?_
  refine awl_end [1, 19] [1] (by simp <;> rfl) ?_
  refine aw_cond rfl (fun h2 => ?_) (fun h2 => aw_skip ?_)   -- if t19
  · refine aw_step [2] [] (by simp <;> rfl) ?_   -- ref.go:22
    refine aw_ret (ends_ret (by simp [Tryz.results37] <;> rfl) ?_)
    have hq := fmd_eq e
    have : (decide (e.kind = 2) || blank e) = false := by simpa using h2
    rw [this] at hq
    simp at hq
    simp [encE, hq]
  refine aw_seq ?_
  refine aw_step [1, 28] [1] (by simp <;> rfl) ?_   -- ref.go:24
  refine aw_cond rfl (fun h3 => ?_) (fun h3 => aw_skip ?_)   -- if t28
  · refine aw_step [2] [] (by simp <;> rfl) ?_   -- ref.go:25
    refine aw_ret (ends_ret (by simp [Tryz.results37] <;> rfl) ?_)
    have hq := fmd_eq e
    have : (decide (e.kind = 5) || inc0 e) = false := by simp [inc0] at h3 ⊢; omega
    rw [this] at hq
    simp at hq
    simp [encE, hq]
  refine aw_seq ?_
  refine aw_step [1, 39] [1] (by simp <;> rfl) ?_   -- ref.go:27
  refine aw_cond rfl (fun h4 => ?_) (fun h4 => aw_skip ?_)   -- if t39
  · refine aw_step [2] [] (by simp <;> rfl) ?_   -- ref.go:28
    refine aw_ret (ends_ret (by simp [Tryz.results37] <;> rfl) ?_)
    have hq := fmd_eq e
    have : (!decide (e.kind = 5) || decide (e.it = e.time)) = false := by simpa using h4
    rw [this] at hq
    simp at hq
    simp [encE, hq]
  have hfm : fmd e = true := by
    rw [fmd_eq]
    simp [inc0] at h1 h2 h3 h4 ⊢
    refine ⟨⟨⟨⟨by omega, by omega⟩, ?_⟩, ?_⟩, ?_⟩
    · by_cases k2 : e.kind = 2
      · exact .inl k2
      · exact .inr (h2 k2)
    · by_cases k5 : e.kind = 5
      · exact .inl k5
      · exact .inr (h3 k5)
    · by_cases k5 : e.kind = 5
      · exact .inr (h4 k5)
      · exact .inl k5
  refine aw_seq ?_
  refine aw_step [1, 47] [1] (by simp <;> rfl) ?_   -- ref.go:30
  refine aw_cond rfl (fun h5 => ?_) (fun h5 => aw_skip ?_)   -- if t47
  · refine aw_step [2] [] (by simp <;> rfl) ?_   -- ref.go:31
    refine aw_ret (ends_ret (by simp [Tryz.results37] <;> rfl) ?_)
    simp [encE, hfm, h5]
  refine aw_seq ?_
  refine aw_step [59] [] (by simp <;> rfl) ?_   -- ref.go:33
  rw [hl]
  refine aw_cond rfl (fun h6 => ?_) (fun h6 => aw_skip ?_)   -- if t59
  · refine aw_step [2] [] (by simp <;> rfl) ?_   -- ref.go:34
    refine aw_ret (ends_ret (by simp [Tryz.results37] <;> rfl) ?_)
    simp [encE, hfm, h5, h6]
  refine aw_step [2] [] (by simp <;> rfl) ?_   -- ref.go:36
  refine aw_ret (ends_ret (by simp [Tryz.results37] <;> rfl) ?_)
  simp [encE, hfm, h5, h6]

end Go.Proofs.YtmkbhognijicjaaGreatDoor

/- Resume: the tree of an event. No condition. -/
set_option linter.unusedSimpArgs false
set_option maxRecDepth 4000
namespace Go.Proofs.YtmkbhognijicjaaGreatDoor
open Go.Eng

def num (t n : Int) : Nd := .mk t 1 n [] []
def chN (l : List Int) : List Nd := l.map (num 0)
def ansK (e : Ev) : List Nd := [num 3 e.item, .mk 4 3 0 [] (chN e.ch), num 5 e.value, .mk 6 2 0 e.text [], num 7 (if e.om = true then 1 else 0)]
def encK (e : Ev) : List Nd := [num 1 e.kind, num 2 e.time] ++ (if e.kind = 2 then ansK e else if e.kind = 5 then [num 8 e.ik, num 9 e.il, num 10 e.ig] else [])
def zNd : Nd := .mk 0 0 0 [] []
def encN (e : Ev) : Nd := if encE e = 0 then .mk 50 3 0 [] (encK e) else zNd

theorem sm_num (t n : Int) : Sm (num t n) := .mk (by simp) (by simp)
theorem sm_ch (l : List Int) : ∀ x ∈ chN l, Sm x := by
  intro x hx
  simp only [chN, List.mem_map] at hx
  obtain ⟨n, _, rfl⟩ := hx
  exact sm_num _ _
theorem sm_leaf (t k n : Int) (s : List UInt8) : Sm (.mk t k n s []) := .mk (by simp) (by simp)
theorem sm_ans (e : Ev) (h : e.ch.length ≤ 1000) : ∀ x ∈ ansK e, Sm x := by
  intro x hx
  simp only [ansK, List.mem_cons, List.not_mem_nil, or_false] at hx
  rcases hx with rfl | rfl | rfl | rfl | rfl
  · exact sm_num _ _
  · exact .mk (by simpa [chN] using h) (sm_ch _)
  · exact sm_num _ _
  · exact sm_leaf _ _ _ _
  · exact sm_num _ _
theorem sm_enc (e : Ev) (h : e.ch.length ≤ 1000) : (∀ x ∈ encK e, Sm x) ∧ (encK e).length ≤ 1000 := by
  unfold encK
  refine ⟨fun x hx => ?_, ?_⟩
  · rcases List.mem_append.1 hx with hx | hx
    · simp only [List.mem_cons, List.not_mem_nil, or_false] at hx
      rcases hx with rfl | rfl <;> exact sm_num _ _
    · split at hx
      · exact sm_ans e h x hx
      · split at hx
        · simp only [List.mem_cons, List.not_mem_nil, or_false] at hx
          rcases hx with rfl | rfl | rfl <;> exact sm_num _ _
        · cases hx
  · split
    · simp [ansK]
    · split <;> simp

set_option maxRecDepth 100000 in
set_option maxHeartbeats 2000000 in
theorem answerKids_ac (e : Ev) (h10 : e.ch.length ≤ 10) : AC Tryz.prog 29 [e.a] (fun r => r = .ro 5 ((ansK e).map Nd.v)) := by
  have hl := numsL e.ch
  have hg : ∀ (k : Nat) (h : k < e.ch.length), nth (nums e.ch) k = some (.int .i64 e.ch[k]) := by
    intro k h; rw [nth_eq]; simp [nums, h]
  have hcl : ((chN e.ch).map Nd.v).length = e.ch.length := by simp [chN]
  have hcg : ∀ (k : Nat) (h : k < e.ch.length), ((chN e.ch).map Nd.v)[k]? = some (num 0 e.ch[k]).v := by
    intro k h; simp [chN, h]
  have hcp := pureN (chN e.ch)
  have hL := list_ac 4 (chN e.ch) (by simp [chN]; omega) (sm_ch _)
  have hnum := fun t n => number_ac t n
  have hstr := string_ac 6 e.text
  simp only [Ev.a, ansK, List.map_cons, List.map_nil]
  simp only [num, Nd.v, List.map_nil] at hnum hstr hL hcg ⊢
  generalize nums e.ch = cv at hl hg
  generalize (chN e.ch).map Nd.v = nv at hcl hcg hcp hL ⊢
  refine ac_intro Tryz.func29 rfl (by show (1 : Nat) ≤ 41; omega) (fun w0 N0 => ?_)
  refine aw_step [1] [1] (by simp [Tryz.ntmps29] <;> rfl) ?_   -- resume.go:60
  have hb1 : (cv.length : Int) ≤ 9223372036854775807 := by omega
  have hb2 : 64 * (cv.length : Int) ≤ 281474976710656 := by omega
  refine aw_step [1, 3] [1, 10] (by simp [hb1, hb2] <;> rfl) ?_   -- resume.go:61
  refine aw_seq ?_
  refine aw_step [1, 3, 12, 13, 14] [1, 10] (by simp <;> rfl) ?_   -- resume.go:62
  refine aw_block ?_
  refine aw_count (fun k nx => ⟨[(1, .bp 1 0 5 0 0), (3, .sl 10 5 5 cv.length), (12, .ro 1 cv), (13, .int .i64 cv.length), (14, .int .i64 k)], [(1, ⟨0, 5, 25, [.agg [.int .i64 e.item, .ro 1 cv, .int .i64 e.value, .str e.text, .bool e.om]]⟩), (10, ⟨5, 5, 42, fillK nv zN k⟩)], nx, 41⟩) (fun k => True) cv.length _ trivial (by rw [fillK_zero, hcl, ← hl]; exact AS.le_refl _) ?_
  intro k nx hk hI
  have hfl := fillK_len nv zN k (by omega)
  refine aw_step [1, 3, 12, 13, 14, 15] [1, 10] (by simp <;> rfl) ?_   -- resume.go:62
  refine aw_seq ?_
  refine aw_cond rfl (fun h1 => aw_skip ?_) (fun h1 => ?_)   -- if t15
  · have hlt : k < e.ch.length := by simp at h1; omega
    have hlt' : k < cv.length := by omega
    have hltn : k < nv.length := by omega
    have ga := hg k hlt
    have hset := fillK_set nv zN k hltn (hcg k hlt)
    have hz : nth (fillK nv zN k) k = some (.agg [.int .i64 0, .int .i64 0, .int .i64 0, .str [], .nils]) := fillK_nth nv zN k hltn
    have hw := wrap_succ (k := k) (by omega)
    have hc := hnum 0 e.ch[k]
    generalize fillK nv zN k = row at hz hset hfl ⊢
    refine aw_seq ?_
    refine aw_block ?_
    refine aw_step [1, 3, 4, 5, 12, 13, 14] [1, 10] (by simp [ga, hlt'] <;> rfl) ?_   -- resume.go:62
    refine aw_region ?_   -- resume.go:63
    refine awl_go 3 (by simp <;> rfl) ?_
    refine awl_call1 hc Tryz.func28 rfl (by kernel_rfl) rfl rfl rfl rfl rfl (by simp <;> rfl) ?_
    refine awl_end [1, 3, 12, 13, 14] [1, 10] (by simp [hlt', hz, hset] <;> rfl) ?_
    refine aw_one [1, 3, 12, 13, 14] [1, 10] (by simp [hw] <;> rfl) ?_   -- resume.go:62
    exact ⟨hlt', trivial, _, AS.le_refl _⟩
  · refine aw_exit ?_
    have hkl : k = cv.length := by simp at h1; omega
    rw [fillK_all nv zN k (by omega)]
    have hnc : nv.length = cv.length := by omega
    refine aw_step [1, 3, 6] [1, 10] (by simp <;> rfl) ?_   -- resume.go:65
    refine aw_viale ⟨[(1, .bp 1 0 5 0 0), (3, .sl 10 5 5 cv.length), (6, .int .i64 (if e.om = true then 1 else 0))], [(1, ⟨0, 5, 25, [.agg [.int .i64 e.item, .ro 1 cv, .int .i64 e.value, .str e.text, .bool e.om]]⟩), (10, ⟨5, 5, 42, nv⟩)], nx + 1000, 41⟩ ?_ ?_
    · refine aw_step [1, 3, 6, 26] [1, 10] (by simp <;> rfl) ?_   -- resume.go:66
      refine aw_cond rfl (fun h2 => ?_) (fun h2 => aw_skip ?_)   -- if t26
      · refine aw_one [1, 3, 6] [1, 10] (by simp <;> rfl) ?_   -- resume.go:67
        refine ⟨rfl, ?_⟩
        rw [if_pos h2]
        exact le_to [1, 3, 6] [1, 10] (by simp <;> rfl) (by simp <;> rfl) rfl (by simp only; omega)
      · refine ⟨rfl, ?_⟩
        rw [if_neg (by rw [h2]; simp)]
        exact le_to [1, 3, 6] [1, 10] (by simp <;> rfl) (by simp <;> rfl) rfl (by simp only; omega)
    refine aw_freeze 10 [1, 3, 6] [1] (by simp [hcp, hnc] <;> rfl) ?_
    generalize (if e.om = true then (1 : Int) else 0) = om
    refine aw_seq (aw_draw [(0, []), (3, []), (5, []), (8, []), (11, []), (1, [40]), (2, []), (4, []), (6, [40]), (7, []), (9, [40]), (10, []), (12, []), (13, []), (14, [])] hmix (by kernel_rfl) ?_)   -- resume.go:69
    refine awo_go 6 (by simp <;> rfl) ?_
    refine awo_call (fun hg => hnum 3 e.item) Tryz.func28 rfl (by kernel_rfl) rfl rfl (by simp <;> rfl) rfl rfl (by simp <;> rfl) (by simp) (by simp <;> rfl) ?_
    refine awo_call (fun hg => hL) Tryz.func30 rfl (by kernel_rfl) rfl rfl (by simp <;> rfl) rfl rfl (by simp <;> rfl) (by simp) (by simp <;> rfl) ?_
    refine awo_go 1 (by simp <;> rfl) ?_
    refine awo_call (fun hg => hnum 5 e.value) Tryz.func28 rfl (by kernel_rfl) rfl rfl (by simp <;> rfl) rfl rfl (by simp <;> rfl) (by simp) (by simp <;> rfl) ?_
    refine awo_go 1 (by simp <;> rfl) ?_
    refine awo_call (fun hg => hstr) Tryz.func55 rfl (by kernel_rfl) rfl rfl (by simp <;> rfl) rfl rfl (by simp <;> rfl) (by simp) (by simp <;> rfl) ?_
    refine awo_call (fun hg => hnum 7 om) Tryz.func28 rfl (by kernel_rfl) rfl rfl (by simp <;> rfl) rfl rfl (by simp <;> rfl) (by simp) (by simp <;> rfl) ?_
    refine awo_end [2] [40] (by simp <;> rfl) ?_
    exact aw_ret (ends_ret (by simp [Tryz.results29] <;> rfl) rfl)
end Go.Proofs.YtmkbhognijicjaaGreatDoor

/- Resume: Encode. No condition. -/
set_option linter.unusedSimpArgs false
set_option maxRecDepth 4000
namespace Go.Proofs.YtmkbhognijicjaaGreatDoor
open Go.Eng

theorem encE_zero {e : Ev} (h : encE e = 0) : fmd e = true ∧ 0 ≤ e.time ∧ e.time ≤ 1099511627776 ∧ e.ch.length ≤ 10 ∧ e.text.length ≤ 1000 := by
  unfold encE at h
  split at h
  · cases h
  rename_i h1
  split at h
  · cases h
  rename_i h2
  split at h
  · cases h
  rename_i h3
  simp at h1 h2 h3
  exact ⟨h1, by omega, by omega, by omega, by omega⟩
theorem relax_zN : Relax (.agg [.int .i64 0, .int .i64 0, .int .i64 0, .str [], .nils]) zNd.v := relax_node 0 0 0 []
/-- What Encode returns. -/
def encV (e : Ev) : V := .tup [(encN e).v, .int .i64 (encE e)]
theorem relax_err (c : Int) {e : Ev} (h : encE e = c) (hc : c ≠ 0) : Relax (.tup [.agg [.int .i64 0, .int .i64 0, .int .i64 0, .str [], .nils], .int .i64 c]) (encV e) := by
  subst h
  rw [encV, encN, if_neg hc]
  exact Relax.tup (.cons relax_zN (.cons (Relax.refl _) .nil))

set_option maxRecDepth 100000 in
set_option maxHeartbeats 2000000 in
theorem encode_ac (e : Ev) : AC Tryz.prog 12 [e.v] (fun r => r = encV e) := by
  have hfm := formed_ac e
  have hl := numsL e.ch
  have hp := pureI e.ch
  have hak := fun h => answerKids_ac e h
  have hnum := fun t n => number_ac t n
  by_cases hE : encE e = 0
  · obtain ⟨h1', h2', h3', h4', h5'⟩ := encE_zero hE
    have hsm := sm_enc e (by omega)
    have hL := list_ac 50 (encK e) hsm.2 hsm.1
    have hak := hak h4'
    have hpk := pureN (ansK e)
    have hpp := pureN (encK e)
    have hR : encV e = .tup [(Nd.mk 50 3 0 [] (encK e)).v, .int .i64 0] := by rw [encV, encN, if_pos hE, hE]
    rw [hR]
    rw [h1'] at hfm
    have hkl : ((ansK e).map Nd.v).length = 5 := by simp [ansK]
    have hK : (encK e).map Nd.v = [(num 1 e.kind).v, (num 2 e.time).v] ++ (if e.kind = 2 then (ansK e).map Nd.v else if e.kind = 5 then [(num 8 e.ik).v, (num 9 e.il).v, (num 10 e.ig).v] else []) := by
      unfold encK
      split
      · simp
      · split <;> simp
    rw [Nd.v] at hL ⊢
    generalize hkv : (encK e).map Nd.v = kv at hL hK hpp ⊢
    simp only [num, Nd.v, List.map_nil] at hnum hK
    simp only [Ev.v, Ev.a] at hfm hak ⊢
    generalize nums e.ch = cv at hfm hl hp hak
    generalize (ansK e).map Nd.v = av at hak hpk hkl hK
    have ht1 : ¬ e.time < 0 := by omega
    have ht2 : ¬ 1099511627776 < e.time := by omega
    have hc1 : ¬ (10 : Int) < cv.length := by omega
    have hc2 : ¬ (1000 : Int) < e.text.length := by omega
    refine ac_intro Tryz.func12 rfl (by show (1 : Nat) ≤ 66; omega) (fun w0 N0 => ?_)
    refine aw_step [1, 2] [1, 2] (by simp [Tryz.ntmps12] <;> rfl) ?_   -- resume.go:39
    refine aw_seq ?_
    refine aw_seq (aw_region ?_)   -- resume.go:40
    refine awl_go 1 (by simp <;> rfl) ?_
    refine awl_call1 hfm Tryz.func27 rfl (by kernel_rfl) rfl rfl rfl rfl (by simp [hp]) (by simp <;> rfl) ?_
    refine awl_end [1, 2, 7] [1, 2] (by simp <;> rfl) ?_
    refine aw_cond rfl (fun h1 => by simp at h1) (fun h1 => aw_skip ?_)   -- if t7
    refine aw_seq ?_
    refine aw_step [1, 2, 16] [1, 2] (by simp [ht1, ht2] <;> rfl) ?_   -- resume.go:43
    refine aw_cond rfl (fun h2 => by simp at h2) (fun h2 => aw_skip ?_)   -- if t16
    refine aw_seq ?_
    refine aw_step [1, 2, 29] [1, 2] (by simp [hc1, hc2] <;> rfl) ?_   -- resume.go:46
    refine aw_cond rfl (fun h3 => by simp at h3) (fun h3 => aw_skip ?_)   -- if t29
    refine aw_seq (aw_draw [(0, []), (3, []), (1, [37]), (2, []), (4, [37]), (5, []), (6, []), (7, [])] hmix (by kernel_rfl) ?_)   -- resume.go:49
    refine awo_go 3 (by simp <;> rfl) ?_
    refine awo_call (fun hg => hnum 1 e.kind) Tryz.func28 rfl (by kernel_rfl) rfl rfl (by simp <;> rfl) rfl rfl (by simp <;> rfl) (by simp) (by simp <;> rfl) ?_
    refine awo_go 1 (by simp <;> rfl) ?_
    refine awo_call (fun hg => hnum 2 e.time) Tryz.func28 rfl (by kernel_rfl) rfl rfl (by simp <;> rfl) rfl rfl (by simp <;> rfl) (by simp) (by simp <;> rfl) ?_
    refine awo_end [1, 2, 4] [1, 2, 37] (by simp <;> rfl) ?_
    refine aw_viale ⟨[(2, .bp 2 1 5 0 0), (4, .ro 5 kv)], [(2, ⟨1, 5, 42, [.agg [.int .i64 0, .int .i64 0, .int .i64 0, .str [], .nils]]⟩)], 1000, 66⟩ ?_ ?_
    · refine aw_step [1, 2, 4, 39] [1, 2, 37] (by simp <;> rfl) ?_   -- resume.go:50
      refine aw_block ?_
      refine aw_step [1, 2, 4, 39, 40] [1, 2, 37] (by simp <;> rfl) ?_   -- resume.go:51
      refine aw_cond rfl (fun h4 => ?_) (fun h4 => ?_)   -- if t40
      · have h4 : e.kind = 2 := by simpa using h4
        rw [if_pos h4] at hK
        refine aw_region ?_   -- resume.go:52
        refine awl_go 3 (by simp <;> rfl) ?_
        refine awl_call1 hak Tryz.func29 rfl (by kernel_rfl) rfl rfl rfl rfl (by simp [hp]) (by simp <;> rfl) ?_
        refine awl_end [2, 4] [2, 37] (by simp [hkl, maxLen] <;> rfl) ?_
        refine ⟨rfl, ?_⟩
        rw [hK]
        refine le_frz 37 [2, 4] [2] (by simp [hpk, hkl] <;> rfl) ?_ ?_ ?_ ?_ <;> first | rfl | simp
      · have h4 : ¬ e.kind = 2 := by simpa using h4
        rw [if_neg h4] at hK
        refine aw_step [1, 2, 4, 47] [1, 2, 37] (by simp <;> rfl) ?_   -- resume.go:53
        refine aw_cond rfl (fun h5 => ?_) (fun h5 => aw_skip ?_)   -- if t47
        · have h5 : e.kind = 5 := by simpa using h5
          rw [if_pos h5] at hK
          refine aw_draw [(0, []), (1, []), (2, []), (5, []), (6, []), (9, []), (10, []), (3, [62]), (4, []), (7, [62]), (8, []), (11, [62]), (12, []), (13, []), (14, []), (15, [])] hmix (by kernel_rfl) ?_   -- resume.go:54
          refine awo_go 8 (by simp <;> rfl) ?_
          refine awo_call (fun hg => hnum 8 e.ik) Tryz.func28 rfl (by kernel_rfl) rfl rfl (by simp <;> rfl) rfl rfl (by simp <;> rfl) (by simp) (by simp <;> rfl) ?_
          refine awo_go 1 (by simp <;> rfl) ?_
          refine awo_call (fun hg => hnum 9 e.il) Tryz.func28 rfl (by kernel_rfl) rfl rfl (by simp <;> rfl) rfl rfl (by simp <;> rfl) (by simp) (by simp <;> rfl) ?_
          refine awo_go 1 (by simp <;> rfl) ?_
          refine awo_call (fun hg => hnum 10 e.ig) Tryz.func28 rfl (by kernel_rfl) rfl rfl (by simp <;> rfl) rfl rfl (by simp <;> rfl) (by simp) (by simp <;> rfl) ?_
          refine awo_end [2, 4] [2, 37] (by simp [maxLen] <;> rfl) ?_
          refine ⟨rfl, ?_⟩
          rw [hK]
          refine le_frz 37 [2, 4] [2] (by simp <;> rfl) ?_ ?_ ?_ ?_ <;> first | rfl | simp
        · have h5 : ¬ e.kind = 5 := by simpa using h5
          rw [if_neg h5] at hK
          refine ⟨rfl, ?_⟩
          rw [hK]
          refine le_frz 37 [2, 4] [2] (by simp <;> rfl) ?_ ?_ ?_ ?_ <;> first | rfl | simp
    refine aw_seq (aw_region ?_)   -- resume.go:56
    refine awl_go 1 (by simp <;> rfl) ?_
    refine awl_call1 hL Tryz.func30 rfl (by kernel_rfl) rfl rfl rfl rfl (by simp [hpp]) (by simp <;> rfl) ?_
    refine awl_end [2, 3] [2] (by simp <;> rfl) ?_
    exact aw_ret (ends_ret (by simp [Tryz.results12] <;> rfl) rfl)
  · refine AC.relax ?_ (relax_err _ rfl hE)
    have hE0 : encE e = if fmd e = false then 1 else if (decide (e.time < 0) || decide (1099511627776 < e.time)) = true then 3 else if (decide ((10 : Int) < (nums e.ch).length) || decide ((1000 : Int) < e.text.length)) = true then 5 else 0 := by rw [hl]; rfl
    simp only [Ev.v] at hfm ⊢
    generalize nums e.ch = cv at hfm hl hp hE0
    generalize fmd e = fb at hfm hE0
    refine ac_intro Tryz.func12 rfl (by show (1 : Nat) ≤ 66; omega) (fun w0 N0 => ?_)
    refine aw_step [1, 2] [1, 2] (by simp [Tryz.ntmps12] <;> rfl) ?_   -- resume.go:39
    refine aw_seq ?_
    refine aw_seq (aw_region ?_)   -- resume.go:40
    refine awl_go 1 (by simp <;> rfl) ?_
    refine awl_call1 hfm Tryz.func27 rfl (by kernel_rfl) rfl rfl rfl rfl (by simp [hp]) (by simp <;> rfl) ?_
    refine awl_end [1, 2, 7] [1, 2] (by simp <;> rfl) ?_
    refine aw_cond rfl (fun h1 => ?_) (fun h1 => aw_skip ?_)   -- if t7
    · rw [if_pos (by simpa using h1)] at hE0
      refine aw_step [2, 3] [2] (by simp <;> rfl) ?_   -- resume.go:41
      exact aw_ret (ends_ret (by simp [Tryz.results12] <;> rfl) (by rw [hE0]))
    rw [if_neg (by simpa using h1)] at hE0
    refine aw_seq ?_
    refine aw_step [1, 2, 16] [1, 2] (by simp <;> rfl) ?_   -- resume.go:43
    refine aw_cond rfl (fun h2 => ?_) (fun h2 => aw_skip ?_)   -- if t16
    · rw [if_pos h2] at hE0
      refine aw_step [2, 3] [2] (by simp <;> rfl) ?_   -- resume.go:44
      exact aw_ret (ends_ret (by simp [Tryz.results12] <;> rfl) (by rw [hE0]))
    rw [if_neg (by rw [h2]; simp)] at hE0
    refine aw_seq ?_
    refine aw_step [1, 2, 29] [1, 2] (by simp <;> rfl) ?_   -- resume.go:46
    refine aw_cond rfl (fun h3 => ?_) (fun h3 => aw_skip ?_)   -- if t29
    · rw [if_pos h3] at hE0
      refine aw_step [2, 3] [2] (by simp <;> rfl) ?_   -- resume.go:47
      exact aw_ret (ends_ret (by simp [Tryz.results12] <;> rfl) (by rw [hE0]))
    rw [if_neg (by rw [h3]; simp)] at hE0
    exact absurd hE0 hE
end Go.Proofs.YtmkbhognijicjaaGreatDoor

/- Resume: the reference's Encode. No condition. -/
set_option linter.unusedSimpArgs false
set_option maxRecDepth 4000
namespace Go.Proofs.YtmkbhognijicjaaGreatDoor
open Go.Eng

set_option maxRecDepth 100000 in
set_option maxHeartbeats 4000000 in
theorem refEncode_ac (e : Ev) : AC Tryz.prog 14 [e.v] (fun r => r = encV e) := by
  have hck := check_ac e
  have hl := numsL e.ch
  have hp := pureI e.ch
  have hnum := fun t n => refNumber_ac t n
  have hstr := refString_ac 6 e.text
  by_cases hE : encE e = 0
  · obtain ⟨h1', h2', h3', h4', h5'⟩ := encE_zero hE
    have hsm := sm_enc e (by omega)
    have hL := refList_ac 50 (encK e) hsm.2 hsm.1
    have hpp := pureN (encK e)
    have hR : encV e = .tup [(Nd.mk 50 3 0 [] (encK e)).v, .int .i64 0] := by rw [encV, encN, if_pos hE, hE]
    rw [hR]
    rw [hE] at hck
    have hK : (encK e).map Nd.v = [(num 1 e.kind).v, (num 2 e.time).v] ++ (if e.kind = 2 then (ansK e).map Nd.v else if e.kind = 5 then [(num 8 e.ik).v, (num 9 e.il).v, (num 10 e.ig).v] else []) := by
      unfold encK
      split
      · simp
      · split <;> simp
    rw [Nd.v] at hL ⊢
    generalize hkv : (encK e).map Nd.v = kv at hL hK hpp ⊢
    have hg : ∀ (k : Nat) (h : k < e.ch.length), nth (nums e.ch) k = some (.int .i64 e.ch[k]) := by
      intro k h; rw [nth_eq]; simp [nums, h]
    have hcl : ((chN e.ch).map Nd.v).length = e.ch.length := by simp [chN]
    have hcg : ∀ (k : Nat) (h : k < e.ch.length), ((chN e.ch).map Nd.v)[k]? = some (num 0 e.ch[k]).v := by
      intro k h; simp [chN, h]
    have hcp := pureN (chN e.ch)
    have hL4 := refList_ac 4 (chN e.ch) (by simp [chN]; omega) (sm_ch _)
    simp only [ansK, List.map_cons, List.map_nil] at hK
    simp only [num, Nd.v, List.map_nil] at hnum hstr hL4 hcg hK
    simp only [Ev.v] at hck ⊢
    generalize nums e.ch = cv at hck hl hp hg
    generalize (chN e.ch).map Nd.v = nv at hcl hcg hcp hL4 hK
    refine ac_intro Tryz.func14 rfl (by show (1 : Nat) ≤ 85; omega) (fun w0 N0 => ?_)
    refine aw_step [1, 2] [1, 2] (by simp [Tryz.ntmps14] <;> rfl) ?_   -- ref.go:42
    refine aw_seq (aw_region ?_)   -- ref.go:43
    refine awl_go 1 (by simp <;> rfl) ?_
    refine awl_call1 hck Tryz.func37 rfl (by kernel_rfl) rfl rfl rfl rfl (by simp [hp]) (by simp <;> rfl) ?_
    refine awl_end [1, 2, 4] [1, 2] (by simp <;> rfl) ?_
    refine aw_seq ?_
    refine aw_step [1, 2, 4, 12] [1, 2] (by simp <;> rfl) ?_   -- ref.go:44
    refine aw_cond rfl (fun h1 => by simp at h1) (fun h1 => aw_skip ?_)   -- if t12
    refine aw_seq (aw_draw [(0, []), (3, []), (1, [21]), (2, []), (4, [21]), (5, []), (6, []), (7, [])] hmix (by kernel_rfl) ?_)   -- ref.go:47
    refine awo_go 3 (by simp <;> rfl) ?_
    refine awo_call (fun hg => hnum 1 e.kind) Tryz.func38 rfl (by kernel_rfl) rfl rfl (by simp <;> rfl) rfl rfl (by simp <;> rfl) (by simp) (by simp <;> rfl) ?_
    refine awo_go 1 (by simp <;> rfl) ?_
    refine awo_call (fun hg => hnum 2 e.time) Tryz.func38 rfl (by kernel_rfl) rfl rfl (by simp <;> rfl) rfl rfl (by simp <;> rfl) (by simp) (by simp <;> rfl) ?_
    refine awo_end [1, 2, 5] [1, 2, 21] (by simp <;> rfl) ?_
    refine aw_seq ?_
    refine aw_step [1, 2, 5, 24] [1, 2, 21] (by simp <;> rfl) ?_   -- ref.go:48
    refine aw_cond rfl (fun h2 => ?_) (fun h2 => aw_skip ?_)   -- if t24
    · have hk2 : e.kind = 2 := by simpa using h2
      rw [if_pos hk2] at hK
      refine aw_step [1, 2, 5, 6] [1, 2, 21] (by simp <;> rfl) ?_   -- ref.go:49
      refine aw_seq ?_
      refine aw_step [1, 2, 5, 6, 7] [1, 2, 21] (by simp <;> rfl) ?_   -- ref.go:50
      refine aw_adoptS 6 100 5 42 [1, 2, 5, 6, 7] [1, 2, 21, 100] (by simp <;> rfl) (by simp <;> rfl) ?_
      refine aw_block ?_
      refine aw_loop (fun x : Nat × Nat × Nat => ⟨[(1, .bp 1 0 11 0 0), (2, .bp 2 1 5 0 0), (5, .sl 21 14 5 2), (6, .sl 100 x.2.1 5 x.1), (7, .int .i64 x.1)],
        [(1, ⟨0, 11, 29, [.agg [.int .i64 e.kind, .int .i64 e.time, .int .i64 e.item, .ro 1 cv, .int .i64 e.value, .str e.text, .bool e.om, .int .i64 e.ik, .int .i64 e.it, .int .i64 e.il, .int .i64 e.ig]]⟩), (2, ⟨1, 5, 42, [.agg [.int .i64 0, .int .i64 0, .int .i64 0, .str [], .nils]]⟩), (21, ⟨14, 5, 42, [.agg [.int .i64 1, .int .i64 1, .int .i64 e.kind, .str [], .ro 5 []], .agg [.int .i64 2, .int .i64 1, .int .i64 e.time, .str [], .ro 5 []]]⟩), (100, ⟨x.2.1, 5, 42, nv.take x.1⟩)], x.2.2, 85⟩)
        (fun x => x.1 ≤ nv.length) (fun x => nv.length - x.1) (0, 21, _) (Nat.zero_le _) (AS.le_refl _) ?_
      rintro ⟨k, q, nx⟩ hk
      simp only at hk
      have htl : (nv.take k).length = k := by rw [List.length_take]; omega
      generalize hrow : nv.take k = row at htl ⊢
      refine aw_seq ?_
      refine aw_step [1, 2, 5, 6, 7, 30] [1, 2, 21, 100] (by simp <;> rfl) ?_   -- ref.go:50
      refine aw_cond rfl (fun h3 => aw_skip ?_) (fun h3 => ?_)   -- if t30
      · have hlt : k < e.ch.length := by simp at h3; omega
        have hlt' : k < cv.length := by omega
        have hltn : k < nv.length := by omega
        have ga := hg k hlt
        have hw := wrap_succ (k := k) (by omega)
        have htk : nv.take (k + 1) = row ++ [.agg [.int .i64 0, .int .i64 1, .int .i64 e.ch[k], .str [], .ro 5 []]] := by
          rw [List.take_succ_eq_append_getElem hltn, hrow]
          congr 2
          have := hcg k hlt
          rw [List.getElem?_eq_getElem hltn] at this
          injection this
        have hb1 : k + 1 ≤ maxLen := by unfold maxLen; omega
        have hb2 : (k + 1) * 64 ≤ 140737488355328 := by omega
        have hc := hnum 0 e.ch[k]
        refine aw_seq ?_
        refine aw_block ?_
        refine aw_region ?_   -- ref.go:51
        refine awl_go 7 (by simp [ga, hlt'] <;> rfl) ?_
        refine awl_call1 hc Tryz.func38 rfl (by kernel_rfl) rfl rfl rfl rfl rfl (by simp <;> rfl) ?_
        refine awl_end [1, 2, 5, 6, 7] [1, 2, 21, 100] (by simp [htl, hb1, hb2] <;> rfl) ?_
        refine aw_one [1, 2, 5, 6, 7] [1, 2, 21, 100] (by simp [hw] <;> rfl) ?_   -- ref.go:50
        exact ⟨(k + 1, _, _), hltn, by simp only; omega, by simp only [htk]; exact AS.le_refl _⟩
      · refine aw_exit ?_
        have hkl : k = nv.length := by simp at h3; omega
        have hrow' : row = nv := by rw [← hrow, hkl, List.take_length]
        subst hrow'
        subst hkl
        refine aw_step [1, 2, 5, 6, 8] [1, 2, 21, 100] (by simp <;> rfl) ?_   -- ref.go:53
        refine aw_freeze 100 [1, 2, 5, 6, 8] [1, 2, 21] (by simp [hcp] <;> rfl) ?_
        refine aw_viale ⟨[(1, .bp 1 0 11 0 0), (2, .bp 2 1 5 0 0), (5, .sl 21 14 5 2), (6, .ro 5 row), (8, .int .i64 (if e.om = true then 1 else 0))],
          [(1, ⟨0, 11, 29, [.agg [.int .i64 e.kind, .int .i64 e.time, .int .i64 e.item, .ro 1 cv, .int .i64 e.value, .str e.text, .bool e.om, .int .i64 e.ik, .int .i64 e.it, .int .i64 e.il, .int .i64 e.ig]]⟩), (2, ⟨1, 5, 42, [.agg [.int .i64 0, .int .i64 0, .int .i64 0, .str [], .nils]]⟩), (21, ⟨14, 5, 42, [.agg [.int .i64 1, .int .i64 1, .int .i64 e.kind, .str [], .ro 5 []], .agg [.int .i64 2, .int .i64 1, .int .i64 e.time, .str [], .ro 5 []]]⟩)], nx + 1000, 85⟩ ?_ ?_
        · refine aw_step [1, 2, 5, 6, 8, 45] [1, 2, 21] (by simp <;> rfl) ?_   -- ref.go:54
          refine aw_cond rfl (fun h4 => ?_) (fun h4 => aw_skip ?_)   -- if t45
          · refine aw_one [1, 2, 5, 6, 8] [1, 2, 21] (by simp <;> rfl) ?_   -- ref.go:55
            refine ⟨rfl, ?_⟩
            rw [if_pos h4]
            exact le_to [1, 2, 5, 6, 8] [1, 2, 21] (by simp <;> rfl) (by simp <;> rfl) rfl (by simp only; omega)
          · refine ⟨rfl, ?_⟩
            rw [if_neg (by rw [h4]; simp)]
            exact le_to [1, 2, 5, 6, 8] [1, 2, 21] (by simp <;> rfl) (by simp <;> rfl) rfl (by simp only; omega)
        generalize (if e.om = true then (1 : Int) else 0) = om at hK
        refine aw_draw [(0, []), (1, []), (2, []), (5, []), (7, []), (8, []), (11, []), (12, []), (15, []), (3, [63]), (4, []), (6, []), (9, [63]), (10, []), (13, [63]), (14, []), (16, []), (17, []), (18, []), (19, [])] hmix (by kernel_rfl) ?_   -- ref.go:57
        refine awo_go 10 (by simp <;> rfl) ?_
        refine awo_call (fun hg => hnum 3 e.item) Tryz.func38 rfl (by kernel_rfl) rfl rfl (by simp <;> rfl) rfl rfl (by simp <;> rfl) (by simp) (by simp <;> rfl) ?_
        refine awo_call (fun hg => hL4) Tryz.func39 rfl (by kernel_rfl) rfl rfl (by simp <;> rfl) rfl rfl (by simp <;> rfl) (by simp) (by simp <;> rfl) ?_
        refine awo_go 1 (by simp <;> rfl) ?_
        refine awo_call (fun hg => hnum 5 e.value) Tryz.func38 rfl (by kernel_rfl) rfl rfl (by simp <;> rfl) rfl rfl (by simp <;> rfl) (by simp) (by simp <;> rfl) ?_
        refine awo_go 1 (by simp <;> rfl) ?_
        refine awo_call (fun hg => hstr) Tryz.func40 rfl (by kernel_rfl) rfl rfl (by simp <;> rfl) rfl rfl (by simp <;> rfl) (by simp) (by simp <;> rfl) ?_
        refine awo_call (fun hg => hnum 7 om) Tryz.func38 rfl (by kernel_rfl) rfl rfl (by simp <;> rfl) rfl rfl (by simp <;> rfl) (by simp) (by simp <;> rfl) ?_
        refine awo_end [1, 2, 5] [1, 2, 21] (by simp [maxLen] <;> rfl) ?_
        refine aw_seq ?_
        refine aw_step [1, 2, 5, 67] [1, 2, 21] (by simp [hk2] <;> rfl) ?_   -- ref.go:59
        refine aw_cond rfl (fun h5 => by simp at h5) (fun h5 => aw_skip ?_)   -- if t67
        refine aw_freeze 21 [2, 5] [2] (by simp <;> rfl) ?_
        refine aw_seq (aw_region ?_)   -- ref.go:62
        refine awl_go 1 (by simp <;> rfl) ?_
        rw [hK] at hL hpp
        refine awl_call1 hL Tryz.func39 rfl (by kernel_rfl) rfl rfl rfl (by simp [hk2] <;> rfl) (by simp) (by simp <;> rfl) ?_
        refine awl_end [2, 3] [2] (by simp <;> rfl) ?_
        exact aw_ret (ends_ret (by simp [Tryz.results14] <;> rfl) (by simp [hK, hk2]))
    have hk2 : ¬ e.kind = 2 := by simpa using h2
    rw [if_neg hk2] at hK
    refine aw_seq ?_
    refine aw_step [1, 2, 5, 67] [1, 2, 21] (by simp <;> rfl) ?_   -- ref.go:59
    refine aw_cond rfl (fun h7 => ?_) (fun h7 => aw_skip ?_)   -- if t67
    · have hk5 : e.kind = 5 := by simpa using h7
      rw [if_pos hk5] at hK
      refine aw_draw [(0, []), (1, []), (2, []), (5, []), (6, []), (9, []), (10, []), (3, [81]), (4, []), (7, [81]), (8, []), (11, [81]), (12, []), (13, []), (14, []), (15, [])] hmix (by kernel_rfl) ?_   -- ref.go:60
      refine awo_go 8 (by simp <;> rfl) ?_
      refine awo_call (fun hg => hnum 8 e.ik) Tryz.func38 rfl (by kernel_rfl) rfl rfl (by simp <;> rfl) rfl rfl (by simp <;> rfl) (by simp) (by simp <;> rfl) ?_
      refine awo_go 1 (by simp <;> rfl) ?_
      refine awo_call (fun hg => hnum 9 e.il) Tryz.func38 rfl (by kernel_rfl) rfl rfl (by simp <;> rfl) rfl rfl (by simp <;> rfl) (by simp) (by simp <;> rfl) ?_
      refine awo_go 1 (by simp <;> rfl) ?_
      refine awo_call (fun hg => hnum 10 e.ig) Tryz.func38 rfl (by kernel_rfl) rfl rfl (by simp <;> rfl) rfl rfl (by simp <;> rfl) (by simp) (by simp <;> rfl) ?_
      refine awo_end [2, 5] [2, 21] (by simp [maxLen] <;> rfl) ?_
      refine aw_freeze 21 [2, 5] [2] (by simp <;> rfl) ?_
      refine aw_seq (aw_region ?_)   -- ref.go:62
      refine awl_go 1 (by simp <;> rfl) ?_
      rw [hK] at hL hpp
      refine awl_call1 hL Tryz.func39 rfl (by kernel_rfl) rfl rfl rfl (by simp <;> rfl) (by simp) (by simp <;> rfl) ?_
      refine awl_end [2, 3] [2] (by simp <;> rfl) ?_
      exact aw_ret (ends_ret (by simp [Tryz.results14] <;> rfl) (by simp [hK]))
    have hk5 : ¬ e.kind = 5 := by simpa using h7
    rw [if_neg hk5] at hK
    refine aw_freeze 21 [2, 5] [2] (by simp <;> rfl) ?_
    refine aw_seq (aw_region ?_)   -- ref.go:62
    refine awl_go 1 (by simp <;> rfl) ?_
    rw [hK] at hL hpp
    refine awl_call1 hL Tryz.func39 rfl (by kernel_rfl) rfl rfl rfl (by simp <;> rfl) (by simp) (by simp <;> rfl) ?_
    refine awl_end [2, 3] [2] (by simp <;> rfl) ?_
    exact aw_ret (ends_ret (by simp [Tryz.results14] <;> rfl) (by simp [hK]))
  · refine AC.relax ?_ (relax_err _ rfl hE)
    simp only [Ev.v] at hck ⊢
    generalize nums e.ch = cv at hck hl hp
    generalize encE e = c at hck hE
    refine ac_intro Tryz.func14 rfl (by show (1 : Nat) ≤ 85; omega) (fun w0 N0 => ?_)
    refine aw_step [1, 2] [1, 2] (by simp [Tryz.ntmps14] <;> rfl) ?_   -- ref.go:42
    refine aw_seq (aw_region ?_)   -- ref.go:43
    refine awl_go 1 (by simp <;> rfl) ?_
    refine awl_call1 hck Tryz.func37 rfl (by kernel_rfl) rfl rfl rfl rfl (by simp [hp]) (by simp <;> rfl) ?_
    refine awl_end [1, 2, 4] [1, 2] (by simp <;> rfl) ?_
    refine aw_seq ?_
    refine aw_step [1, 2, 4, 12] [1, 2] (by simp <;> rfl) ?_   -- ref.go:44
    refine aw_cond rfl (fun h1 => ?_) (fun h1 => by simp [hE] at h1)   -- if t12
    refine aw_step [2, 3] [2] (by simp <;> rfl) ?_   -- ref.go:45
    exact aw_ret (ends_ret (by simp [Tryz.results14] <;> rfl) rfl)
end Go.Proofs.YtmkbhognijicjaaGreatDoor
