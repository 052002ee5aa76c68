import Derived.Test.YtmkbhognijicjaaDoorGA
/- Resume: events and their rules. No condition. -/
set_option linter.unusedSimpArgs false
set_option maxRecDepth 4000
namespace Go.Proofs.YtmkbhognijicjaaDoor
open Go.Eng

structure Ev where
  kind : Int
  time : Int
  item : Int
  ch : List Int
  value : Int
  text : List UInt8
  om : Bool
  ik : Int
  it : Int
  il : Int
  ig : Int
  deriving DecidableEq
def nums (l : List Int) : List V := l.map (V.int .i64)
def Ev.v (e : Ev) : V := .agg [.int .i64 e.kind, .int .i64 e.time, .int .i64 e.item, .ro 1 (nums e.ch), .int .i64 e.value, .str e.text, .bool e.om, .int .i64 e.ik, .int .i64 e.it, .int .i64 e.il, .int .i64 e.ig]
def Ev.a (e : Ev) : V := .agg [.int .i64 e.item, .ro 1 (nums e.ch), .int .i64 e.value, .str e.text, .bool e.om]
def zE : Ev := ⟨0, 0, 0, [], 0, [], false, 0, 0, 0, 0⟩
theorem pureI (l : List Int) : (nums l).all V.pureE = true := by
  rw [List.all_eq_true]; intro x hx; simp only [nums, List.mem_map] at hx; obtain ⟨n, _, rfl⟩ := hx; rfl
theorem numsL (l : List Int) : (nums l).length = l.length := by simp [nums]
theorem nums_nil (l : List Int) : nums l = [] ↔ l = [] := by simp [nums]

def blank (e : Ev) : Bool := decide (e.item = 0) && decide (e.ch = []) && decide (e.value = 0) && decide (e.text = []) && !e.om
def inc0 (e : Ev) : Bool := decide (e.ik = 0) && (decide (e.it = 0) && (decide (e.il = 0) && decide (e.ig = 0)))
/-- The parts of an event fit its kind. -/
def fmd (e : Ev) : Bool :=
  if e.kind = 1 then blank e && inc0 e else if e.kind = 3 then blank e && inc0 e else if e.kind = 4 then blank e && inc0 e else if e.kind = 6 then blank e && inc0 e
  else if e.kind = 2 then inc0 e else if e.kind = 5 then blank e && decide (e.it = e.time) else false
def encE (e : Ev) : Int := if fmd e = false then 1 else if (decide (e.time < 0) || decide (1099511627776 < e.time)) = true then 3 else if (decide ((10 : Int) < e.ch.length) || decide ((1000 : Int) < e.text.length)) = true then 5 else 0

theorem fmd_eq (e : Ev) : fmd e = (decide (1 ≤ e.kind) && decide (e.kind ≤ 6) && (decide (e.kind = 2) || blank e) && (decide (e.kind = 5) || inc0 e) && (!decide (e.kind = 5) || decide (e.it = e.time))) := by
  unfold fmd
  by_cases h1 : e.kind = 1
  · simp [h1]
  by_cases h2 : e.kind = 2
  · simp [h2]
  by_cases h3 : e.kind = 3
  · simp [h3]
  by_cases h4 : e.kind = 4
  · simp [h4]
  by_cases h5 : e.kind = 5
  · simp [h5]
  by_cases h6 : e.kind = 6
  · simp [h6]
  have : ¬ (1 ≤ e.kind ∧ e.kind ≤ 6) := by omega
  have : (decide (1 ≤ e.kind) && decide (e.kind ≤ 6)) = false := by simpa using this
  simp [h1, h2, h3, h4, h5, h6, this]

set_option maxHeartbeats 1000000 in
theorem formed_ac (e : Ev) : AC Tryd.prog 11 [e.v] (fun r => r = .bool (fmd e)) := by
  have hn := nums_nil e.ch
  simp only [Ev.v]
  generalize nums e.ch = cv at hn
  refine ac_intro Tryd.func11 rfl (by show (1 : Nat) ≤ 62; omega) (fun w0 N0 => ?_)
  refine aw_step [1] [1] (by simp [Tryd.ntmps11] <;> rfl) ?_   -- resume.go:19
  refine aw_step [1, 3] [1, 3] (by simp <;> rfl) ?_   -- resume.go:20
  refine aw_step [1, 4] [1] (by simp <;> rfl) ?_   -- resume.go:21
  refine aw_seq ?_
  refine aw_step [1, 4, 32] [1] (by simp <;> rfl) ?_   -- resume.go:22
  refine aw_block ?_
  refine aw_seq ?_
  refine aw_step [1, 4, 32, 33] [1] (by simp <;> rfl) ?_   -- resume.go:23
  refine aw_cond rfl (fun h1 => aw_skip ?_) (fun h1 => ?_)   -- if t33
  · refine aw_cond rfl (fun h2 => ?_) (fun h2 => ?_)   -- if t33
    · refine aw_step [2] [] (by simp <;> rfl) ?_   -- resume.go:24
      refine aw_ret (ends_ret (by simp [Tryd.results11] <;> rfl) (by simp_all [fmd, blank, inc0]))
    · refine aw_step [1, 4, 32, 45] [1] (by simp <;> rfl) ?_   -- resume.go:25
      refine aw_cond rfl (fun h3 => ?_) (fun h3 => ?_)   -- if t45
      · refine aw_step [2] [] (by simp <;> rfl) ?_   -- resume.go:26
        refine aw_ret (ends_ret (by simp [Tryd.results11] <;> rfl) (by simp_all [fmd, blank, inc0]))
      · refine aw_step [1, 4, 51] [1] (by simp <;> rfl) ?_   -- resume.go:27
        refine aw_cond rfl (fun h4 => ?_) (fun h4 => aw_skip ?_)   -- if t51
        · refine aw_step [2] [] (by simp <;> rfl) ?_   -- resume.go:28
          refine aw_ret (ends_ret (by simp [Tryd.results11] <;> rfl) (by simp_all [fmd, blank, inc0]))
        refine aw_step [2] [] (by simp <;> rfl) ?_   -- resume.go:30
        refine aw_ret (ends_ret (by simp [Tryd.results11] <;> rfl) (by simp_all [fmd, blank, inc0]))
  · refine aw_step [1, 4, 32, 33] [1] (by simp <;> rfl) ?_   -- resume.go:23
    refine aw_cond rfl (fun h5 => aw_skip ?_) (fun h5 => ?_)   -- if t33
    · refine aw_cond rfl (fun h6 => ?_) (fun h6 => ?_)   -- if t33
      · refine aw_step [2] [] (by simp <;> rfl) ?_   -- resume.go:24
        refine aw_ret (ends_ret (by simp [Tryd.results11] <;> rfl) (by simp_all [fmd, blank, inc0]))
      · refine aw_step [1, 4, 32, 45] [1] (by simp <;> rfl) ?_   -- resume.go:25
        refine aw_cond rfl (fun h7 => ?_) (fun h7 => ?_)   -- if t45
        · refine aw_step [2] [] (by simp <;> rfl) ?_   -- resume.go:26
          refine aw_ret (ends_ret (by simp [Tryd.results11] <;> rfl) (by simp_all [fmd, blank, inc0]))
        · refine aw_step [1, 4, 51] [1] (by simp <;> rfl) ?_   -- resume.go:27
          refine aw_cond rfl (fun h8 => ?_) (fun h8 => aw_skip ?_)   -- if t51
          · refine aw_step [2] [] (by simp <;> rfl) ?_   -- resume.go:28
            refine aw_ret (ends_ret (by simp [Tryd.results11] <;> rfl) (by simp_all [fmd, blank, inc0]))
          refine aw_step [2] [] (by simp <;> rfl) ?_   -- resume.go:30
          refine aw_ret (ends_ret (by simp [Tryd.results11] <;> rfl) (by simp_all [fmd, blank, inc0]))
    · refine aw_step [1, 4, 32, 33] [1] (by simp <;> rfl) ?_   -- resume.go:23
      refine aw_cond rfl (fun h9 => aw_skip ?_) (fun h9 => ?_)   -- if t33
      · refine aw_cond rfl (fun h10 => ?_) (fun h10 => ?_)   -- if t33
        · refine aw_step [2] [] (by simp <;> rfl) ?_   -- resume.go:24
          refine aw_ret (ends_ret (by simp [Tryd.results11] <;> rfl) (by simp_all [fmd, blank, inc0]))
        · refine aw_step [1, 4, 32, 45] [1] (by simp <;> rfl) ?_   -- resume.go:25
          refine aw_cond rfl (fun h11 => ?_) (fun h11 => ?_)   -- if t45
          · refine aw_step [2] [] (by simp <;> rfl) ?_   -- resume.go:26
            refine aw_ret (ends_ret (by simp [Tryd.results11] <;> rfl) (by simp_all [fmd, blank, inc0]))
          · refine aw_step [1, 4, 51] [1] (by simp <;> rfl) ?_   -- resume.go:27
            refine aw_cond rfl (fun h12 => ?_) (fun h12 => aw_skip ?_)   -- if t51
            · refine aw_step [2] [] (by simp <;> rfl) ?_   -- resume.go:28
              refine aw_ret (ends_ret (by simp [Tryd.results11] <;> rfl) (by simp_all [fmd, blank, inc0]))
            refine aw_step [2] [] (by simp <;> rfl) ?_   -- resume.go:30
            refine aw_ret (ends_ret (by simp [Tryd.results11] <;> rfl) (by simp_all [fmd, blank, inc0]))
      · refine aw_one [1, 4, 32, 33] [1] (by simp <;> rfl) ?_   -- resume.go:23
        refine aw_cond rfl (fun h13 => ?_) (fun h13 => ?_)   -- if t33
        · refine aw_step [2] [] (by simp <;> rfl) ?_   -- resume.go:24
          refine aw_ret (ends_ret (by simp [Tryd.results11] <;> rfl) (by simp_all [fmd, blank, inc0]))
        · refine aw_step [1, 4, 32, 45] [1] (by simp <;> rfl) ?_   -- resume.go:25
          refine aw_cond rfl (fun h14 => ?_) (fun h14 => ?_)   -- if t45
          · refine aw_step [2] [] (by simp <;> rfl) ?_   -- resume.go:26
            refine aw_ret (ends_ret (by simp [Tryd.results11] <;> rfl) (by simp_all [fmd, blank, inc0]))
          · refine aw_step [1, 4, 51] [1] (by simp <;> rfl) ?_   -- resume.go:27
            refine aw_cond rfl (fun h15 => ?_) (fun h15 => aw_skip ?_)   -- if t51
            · refine aw_step [2] [] (by simp <;> rfl) ?_   -- resume.go:28
              refine aw_ret (ends_ret (by simp [Tryd.results11] <;> rfl) (by simp_all [fmd, blank, inc0]))
            refine aw_step [2] [] (by simp <;> rfl) ?_   -- resume.go:30
            refine aw_ret (ends_ret (by simp [Tryd.results11] <;> rfl) (by simp_all [fmd, blank, inc0]))

end Go.Proofs.YtmkbhognijicjaaDoor

/- Resume: the tree of an event. No condition. -/
set_option linter.unusedSimpArgs false
set_option maxRecDepth 4000
namespace Go.Proofs.YtmkbhognijicjaaDoor
open Go.Eng

def num (t n : Int) : Nd := .mk t 1 n [] []
def chN (l : List Int) : List Nd := l.map (num 0)
def ansK (e : Ev) : List Nd := [num 3 e.item, .mk 4 3 0 [] (chN e.ch), num 5 e.value, .mk 6 2 0 e.text [], num 7 (if e.om = true then 1 else 0)]
def encK (e : Ev) : List Nd := [num 1 e.kind, num 2 e.time] ++ (if e.kind = 2 then ansK e else if e.kind = 5 then [num 8 e.ik, num 9 e.il, num 10 e.ig] else [])
def zNd : Nd := .mk 0 0 0 [] []
def encN (e : Ev) : Nd := if encE e = 0 then .mk 50 3 0 [] (encK e) else zNd

theorem sm_num (t n : Int) : Sm (num t n) := .mk (by simp) (by simp)
theorem sm_ch (l : List Int) : ∀ x ∈ chN l, Sm x := by
  intro x hx
  simp only [chN, List.mem_map] at hx
  obtain ⟨n, _, rfl⟩ := hx
  exact sm_num _ _
theorem sm_leaf (t k n : Int) (s : List UInt8) : Sm (.mk t k n s []) := .mk (by simp) (by simp)
theorem sm_ans (e : Ev) (h : e.ch.length ≤ 1000) : ∀ x ∈ ansK e, Sm x := by
  intro x hx
  simp only [ansK, List.mem_cons, List.not_mem_nil, or_false] at hx
  rcases hx with rfl | rfl | rfl | rfl | rfl
  · exact sm_num _ _
  · exact .mk (by simpa [chN] using h) (sm_ch _)
  · exact sm_num _ _
  · exact sm_leaf _ _ _ _
  · exact sm_num _ _
theorem sm_enc (e : Ev) (h : e.ch.length ≤ 1000) : (∀ x ∈ encK e, Sm x) ∧ (encK e).length ≤ 1000 := by
  unfold encK
  refine ⟨fun x hx => ?_, ?_⟩
  · rcases List.mem_append.1 hx with hx | hx
    · simp only [List.mem_cons, List.not_mem_nil, or_false] at hx
      rcases hx with rfl | rfl <;> exact sm_num _ _
    · split at hx
      · exact sm_ans e h x hx
      · split at hx
        · simp only [List.mem_cons, List.not_mem_nil, or_false] at hx
          rcases hx with rfl | rfl | rfl <;> exact sm_num _ _
        · cases hx
  · split
    · simp [ansK]
    · split <;> simp

set_option maxRecDepth 100000 in
set_option maxHeartbeats 2000000 in
theorem answerKids_ac (e : Ev) (h10 : e.ch.length ≤ 10) : AC Tryd.prog 13 [e.a] (fun r => r = .ro 5 ((ansK e).map Nd.v)) := by
  have hl := numsL e.ch
  have hg : ∀ (k : Nat) (h : k < e.ch.length), nth (nums e.ch) k = some (.int .i64 e.ch[k]) := by
    intro k h; rw [nth_eq]; simp [nums, h]
  have hcl : ((chN e.ch).map Nd.v).length = e.ch.length := by simp [chN]
  have hcg : ∀ (k : Nat) (h : k < e.ch.length), ((chN e.ch).map Nd.v)[k]? = some (num 0 e.ch[k]).v := by
    intro k h; simp [chN, h]
  have hcp := pureN (chN e.ch)
  have hL := list_ac 4 (chN e.ch) (by simp [chN]; omega) (sm_ch _)
  have hnum := fun t n => number_ac t n
  have hstr := string_ac 6 e.text
  simp only [Ev.a, ansK, List.map_cons, List.map_nil]
  simp only [num, Nd.v, List.map_nil] at hnum hstr hL hcg ⊢
  generalize nums e.ch = cv at hl hg
  generalize (chN e.ch).map Nd.v = nv at hcl hcg hcp hL ⊢
  refine ac_intro Tryd.func13 rfl (by show (1 : Nat) ≤ 41; omega) (fun w0 N0 => ?_)
  refine aw_step [1] [1] (by simp [Tryd.ntmps13] <;> rfl) ?_   -- resume.go:60
  have hb1 : (cv.length : Int) ≤ 9223372036854775807 := by omega
  have hb2 : 64 * (cv.length : Int) ≤ 281474976710656 := by omega
  refine aw_step [1, 3] [1, 10] (by simp [hb1, hb2] <;> rfl) ?_   -- resume.go:61
  refine aw_seq ?_
  refine aw_step [1, 3, 12, 13, 14] [1, 10] (by simp <;> rfl) ?_   -- resume.go:62
  refine aw_block ?_
  refine aw_count (fun k nx => ⟨[(1, .bp 1 0 5 0 0), (3, .sl 10 5 5 cv.length), (12, .ro 1 cv), (13, .int .i64 cv.length), (14, .int .i64 k)], [(1, ⟨0, 5, 29, [.agg [.int .i64 e.item, .ro 1 cv, .int .i64 e.value, .str e.text, .bool e.om]]⟩), (10, ⟨5, 5, 39, fillK nv zN k⟩)], nx, 41⟩) (fun k => True) cv.length _ trivial (by rw [fillK_zero, hcl, ← hl]; exact AS.le_refl _) ?_
  intro k nx hk hI
  have hfl := fillK_len nv zN k (by omega)
  refine aw_step [1, 3, 12, 13, 14, 15] [1, 10] (by simp <;> rfl) ?_   -- resume.go:62
  refine aw_seq ?_
  refine aw_cond rfl (fun h1 => aw_skip ?_) (fun h1 => ?_)   -- if t15
  · have hlt : k < e.ch.length := by simp at h1; omega
    have hlt' : k < cv.length := by omega
    have hltn : k < nv.length := by omega
    have ga := hg k hlt
    have hset := fillK_set nv zN k hltn (hcg k hlt)
    have hz : nth (fillK nv zN k) k = some (.agg [.int .i64 0, .int .i64 0, .int .i64 0, .str [], .nils]) := fillK_nth nv zN k hltn
    have hw := wrap_succ (k := k) (by omega)
    have hc := hnum 0 e.ch[k]
    generalize fillK nv zN k = row at hz hset hfl ⊢
    refine aw_seq ?_
    refine aw_block ?_
    refine aw_step [1, 3, 4, 5, 12, 13, 14] [1, 10] (by simp [ga, hlt'] <;> rfl) ?_   -- resume.go:62
    refine aw_region ?_   -- resume.go:63
    refine awl_go 3 (by simp <;> rfl) ?_
    refine awl_call1 hc Tryd.func12 rfl (by kernel_rfl) rfl rfl rfl rfl rfl (by simp <;> rfl) ?_
    refine awl_end [1, 3, 12, 13, 14] [1, 10] (by simp [hlt', hz, hset] <;> rfl) ?_
    refine aw_one [1, 3, 12, 13, 14] [1, 10] (by simp [hw] <;> rfl) ?_   -- resume.go:62
    exact ⟨hlt', trivial, _, AS.le_refl _⟩
  · refine aw_exit ?_
    have hkl : k = cv.length := by simp at h1; omega
    rw [fillK_all nv zN k (by omega)]
    have hnc : nv.length = cv.length := by omega
    refine aw_step [1, 3, 6] [1, 10] (by simp <;> rfl) ?_   -- resume.go:65
    refine aw_viale ⟨[(1, .bp 1 0 5 0 0), (3, .sl 10 5 5 cv.length), (6, .int .i64 (if e.om = true then 1 else 0))], [(1, ⟨0, 5, 29, [.agg [.int .i64 e.item, .ro 1 cv, .int .i64 e.value, .str e.text, .bool e.om]]⟩), (10, ⟨5, 5, 39, nv⟩)], nx + 1000, 41⟩ ?_ ?_
    · refine aw_step [1, 3, 6, 26] [1, 10] (by simp <;> rfl) ?_   -- resume.go:66
      refine aw_cond rfl (fun h2 => ?_) (fun h2 => aw_skip ?_)   -- if t26
      · refine aw_one [1, 3, 6] [1, 10] (by simp <;> rfl) ?_   -- resume.go:67
        refine ⟨rfl, ?_⟩
        rw [if_pos h2]
        exact le_to [1, 3, 6] [1, 10] (by simp <;> rfl) (by simp <;> rfl) rfl (by simp only; omega)
      · refine ⟨rfl, ?_⟩
        rw [if_neg (by rw [h2]; simp)]
        exact le_to [1, 3, 6] [1, 10] (by simp <;> rfl) (by simp <;> rfl) rfl (by simp only; omega)
    refine aw_freeze 10 [1, 3, 6] [1] (by simp [hcp, hnc] <;> rfl) ?_
    generalize (if e.om = true then (1 : Int) else 0) = om
    refine aw_seq (aw_draw [(0, []), (3, []), (5, []), (8, []), (11, []), (1, [40]), (2, []), (4, []), (6, [40]), (7, []), (9, [40]), (10, []), (12, []), (13, []), (14, [])] hmix (by kernel_rfl) ?_)   -- resume.go:69
    refine awo_go 6 (by simp <;> rfl) ?_
    refine awo_call (fun hg => hnum 3 e.item) Tryd.func12 rfl (by kernel_rfl) rfl rfl (by simp <;> rfl) rfl rfl (by simp <;> rfl) (by simp) (by simp <;> rfl) ?_
    refine awo_call (fun hg => hL) Tryd.func14 rfl (by kernel_rfl) rfl rfl (by simp <;> rfl) rfl rfl (by simp <;> rfl) (by simp) (by simp <;> rfl) ?_
    refine awo_go 1 (by simp <;> rfl) ?_
    refine awo_call (fun hg => hnum 5 e.value) Tryd.func12 rfl (by kernel_rfl) rfl rfl (by simp <;> rfl) rfl rfl (by simp <;> rfl) (by simp) (by simp <;> rfl) ?_
    refine awo_go 1 (by simp <;> rfl) ?_
    refine awo_call (fun hg => hstr) Tryd.func24 rfl (by kernel_rfl) rfl rfl (by simp <;> rfl) rfl rfl (by simp <;> rfl) (by simp) (by simp <;> rfl) ?_
    refine awo_call (fun hg => hnum 7 om) Tryd.func12 rfl (by kernel_rfl) rfl rfl (by simp <;> rfl) rfl rfl (by simp <;> rfl) (by simp) (by simp <;> rfl) ?_
    refine awo_end [2] [40] (by simp <;> rfl) ?_
    exact aw_ret (ends_ret (by simp [Tryd.results13] <;> rfl) rfl)
end Go.Proofs.YtmkbhognijicjaaDoor

/- Resume: Encode. No condition. -/
set_option linter.unusedSimpArgs false
set_option maxRecDepth 4000
namespace Go.Proofs.YtmkbhognijicjaaDoor
open Go.Eng

theorem encE_zero {e : Ev} (h : encE e = 0) : fmd e = true ∧ 0 ≤ e.time ∧ e.time ≤ 1099511627776 ∧ e.ch.length ≤ 10 ∧ e.text.length ≤ 1000 := by
  unfold encE at h
  split at h
  · cases h
  rename_i h1
  split at h
  · cases h
  rename_i h2
  split at h
  · cases h
  rename_i h3
  simp at h1 h2 h3
  exact ⟨h1, by omega, by omega, by omega, by omega⟩
theorem relax_zN : Relax (.agg [.int .i64 0, .int .i64 0, .int .i64 0, .str [], .nils]) zNd.v := relax_node 0 0 0 []
/-- What Encode returns. -/
def encV (e : Ev) : V := .tup [(encN e).v, .int .i64 (encE e)]
theorem relax_err (c : Int) {e : Ev} (h : encE e = c) (hc : c ≠ 0) : Relax (.tup [.agg [.int .i64 0, .int .i64 0, .int .i64 0, .str [], .nils], .int .i64 c]) (encV e) := by
  subst h
  rw [encV, encN, if_neg hc]
  exact Relax.tup (.cons relax_zN (.cons (Relax.refl _) .nil))

set_option maxRecDepth 100000 in
set_option maxHeartbeats 2000000 in
theorem encode_ac (e : Ev) : AC Tryd.prog 7 [e.v] (fun r => r = encV e) := by
  have hfm := formed_ac e
  have hl := numsL e.ch
  have hp := pureI e.ch
  have hak := fun h => answerKids_ac e h
  have hnum := fun t n => number_ac t n
  by_cases hE : encE e = 0
  · obtain ⟨h1', h2', h3', h4', h5'⟩ := encE_zero hE
    have hsm := sm_enc e (by omega)
    have hL := list_ac 50 (encK e) hsm.2 hsm.1
    have hak := hak h4'
    have hpk := pureN (ansK e)
    have hpp := pureN (encK e)
    have hR : encV e = .tup [(Nd.mk 50 3 0 [] (encK e)).v, .int .i64 0] := by rw [encV, encN, if_pos hE, hE]
    rw [hR]
    rw [h1'] at hfm
    have hkl : ((ansK e).map Nd.v).length = 5 := by simp [ansK]
    have hK : (encK e).map Nd.v = [(num 1 e.kind).v, (num 2 e.time).v] ++ (if e.kind = 2 then (ansK e).map Nd.v else if e.kind = 5 then [(num 8 e.ik).v, (num 9 e.il).v, (num 10 e.ig).v] else []) := by
      unfold encK
      split
      · simp
      · split <;> simp
    rw [Nd.v] at hL ⊢
    generalize hkv : (encK e).map Nd.v = kv at hL hK hpp ⊢
    simp only [num, Nd.v, List.map_nil] at hnum hK
    simp only [Ev.v, Ev.a] at hfm hak ⊢
    generalize nums e.ch = cv at hfm hl hp hak
    generalize (ansK e).map Nd.v = av at hak hpk hkl hK
    have ht1 : ¬ e.time < 0 := by omega
    have ht2 : ¬ 1099511627776 < e.time := by omega
    have hc1 : ¬ (10 : Int) < cv.length := by omega
    have hc2 : ¬ (1000 : Int) < e.text.length := by omega
    refine ac_intro Tryd.func7 rfl (by show (1 : Nat) ≤ 66; omega) (fun w0 N0 => ?_)
    refine aw_step [1, 2] [1, 2] (by simp [Tryd.ntmps7] <;> rfl) ?_   -- resume.go:39
    refine aw_seq ?_
    refine aw_seq (aw_region ?_)   -- resume.go:40
    refine awl_go 1 (by simp <;> rfl) ?_
    refine awl_call1 hfm Tryd.func11 rfl (by kernel_rfl) rfl rfl rfl rfl (by simp [hp]) (by simp <;> rfl) ?_
    refine awl_end [1, 2, 7] [1, 2] (by simp <;> rfl) ?_
    refine aw_cond rfl (fun h1 => by simp at h1) (fun h1 => aw_skip ?_)   -- if t7
    refine aw_seq ?_
    refine aw_step [1, 2, 16] [1, 2] (by simp [ht1, ht2] <;> rfl) ?_   -- resume.go:43
    refine aw_cond rfl (fun h2 => by simp at h2) (fun h2 => aw_skip ?_)   -- if t16
    refine aw_seq ?_
    refine aw_step [1, 2, 29] [1, 2] (by simp [hc1, hc2] <;> rfl) ?_   -- resume.go:46
    refine aw_cond rfl (fun h3 => by simp at h3) (fun h3 => aw_skip ?_)   -- if t29
    refine aw_seq (aw_draw [(0, []), (3, []), (1, [37]), (2, []), (4, [37]), (5, []), (6, []), (7, [])] hmix (by kernel_rfl) ?_)   -- resume.go:49
    refine awo_go 3 (by simp <;> rfl) ?_
    refine awo_call (fun hg => hnum 1 e.kind) Tryd.func12 rfl (by kernel_rfl) rfl rfl (by simp <;> rfl) rfl rfl (by simp <;> rfl) (by simp) (by simp <;> rfl) ?_
    refine awo_go 1 (by simp <;> rfl) ?_
    refine awo_call (fun hg => hnum 2 e.time) Tryd.func12 rfl (by kernel_rfl) rfl rfl (by simp <;> rfl) rfl rfl (by simp <;> rfl) (by simp) (by simp <;> rfl) ?_
    refine awo_end [1, 2, 4] [1, 2, 37] (by simp <;> rfl) ?_
    refine aw_viale ⟨[(2, .bp 2 1 5 0 0), (4, .ro 5 kv)], [(2, ⟨1, 5, 39, [.agg [.int .i64 0, .int .i64 0, .int .i64 0, .str [], .nils]]⟩)], 1000, 66⟩ ?_ ?_
    · refine aw_step [1, 2, 4, 39] [1, 2, 37] (by simp <;> rfl) ?_   -- resume.go:50
      refine aw_block ?_
      refine aw_step [1, 2, 4, 39, 40] [1, 2, 37] (by simp <;> rfl) ?_   -- resume.go:51
      refine aw_cond rfl (fun h4 => ?_) (fun h4 => ?_)   -- if t40
      · have h4 : e.kind = 2 := by simpa using h4
        rw [if_pos h4] at hK
        refine aw_region ?_   -- resume.go:52
        refine awl_go 3 (by simp <;> rfl) ?_
        refine awl_call1 hak Tryd.func13 rfl (by kernel_rfl) rfl rfl rfl rfl (by simp [hp]) (by simp <;> rfl) ?_
        refine awl_end [2, 4] [2, 37] (by simp [hkl, maxLen] <;> rfl) ?_
        refine ⟨rfl, ?_⟩
        rw [hK]
        refine le_frz 37 [2, 4] [2] (by simp [hpk, hkl] <;> rfl) ?_ ?_ ?_ ?_ <;> first | rfl | simp
      · have h4 : ¬ e.kind = 2 := by simpa using h4
        rw [if_neg h4] at hK
        refine aw_step [1, 2, 4, 47] [1, 2, 37] (by simp <;> rfl) ?_   -- resume.go:53
        refine aw_cond rfl (fun h5 => ?_) (fun h5 => aw_skip ?_)   -- if t47
        · have h5 : e.kind = 5 := by simpa using h5
          rw [if_pos h5] at hK
          refine aw_draw [(0, []), (1, []), (2, []), (5, []), (6, []), (9, []), (10, []), (3, [62]), (4, []), (7, [62]), (8, []), (11, [62]), (12, []), (13, []), (14, []), (15, [])] hmix (by kernel_rfl) ?_   -- resume.go:54
          refine awo_go 8 (by simp <;> rfl) ?_
          refine awo_call (fun hg => hnum 8 e.ik) Tryd.func12 rfl (by kernel_rfl) rfl rfl (by simp <;> rfl) rfl rfl (by simp <;> rfl) (by simp) (by simp <;> rfl) ?_
          refine awo_go 1 (by simp <;> rfl) ?_
          refine awo_call (fun hg => hnum 9 e.il) Tryd.func12 rfl (by kernel_rfl) rfl rfl (by simp <;> rfl) rfl rfl (by simp <;> rfl) (by simp) (by simp <;> rfl) ?_
          refine awo_go 1 (by simp <;> rfl) ?_
          refine awo_call (fun hg => hnum 10 e.ig) Tryd.func12 rfl (by kernel_rfl) rfl rfl (by simp <;> rfl) rfl rfl (by simp <;> rfl) (by simp) (by simp <;> rfl) ?_
          refine awo_end [2, 4] [2, 37] (by simp [maxLen] <;> rfl) ?_
          refine ⟨rfl, ?_⟩
          rw [hK]
          refine le_frz 37 [2, 4] [2] (by simp <;> rfl) ?_ ?_ ?_ ?_ <;> first | rfl | simp
        · have h5 : ¬ e.kind = 5 := by simpa using h5
          rw [if_neg h5] at hK
          refine ⟨rfl, ?_⟩
          rw [hK]
          refine le_frz 37 [2, 4] [2] (by simp <;> rfl) ?_ ?_ ?_ ?_ <;> first | rfl | simp
    refine aw_seq (aw_region ?_)   -- resume.go:56
    refine awl_go 1 (by simp <;> rfl) ?_
    refine awl_call1 hL Tryd.func14 rfl (by kernel_rfl) rfl rfl rfl rfl (by simp [hpp]) (by simp <;> rfl) ?_
    refine awl_end [2, 3] [2] (by simp <;> rfl) ?_
    exact aw_ret (ends_ret (by simp [Tryd.results7] <;> rfl) rfl)
  · refine AC.relax ?_ (relax_err _ rfl hE)
    have hE0 : encE e = if fmd e = false then 1 else if (decide (e.time < 0) || decide (1099511627776 < e.time)) = true then 3 else if (decide ((10 : Int) < (nums e.ch).length) || decide ((1000 : Int) < e.text.length)) = true then 5 else 0 := by rw [hl]; rfl
    simp only [Ev.v] at hfm ⊢
    generalize nums e.ch = cv at hfm hl hp hE0
    generalize fmd e = fb at hfm hE0
    refine ac_intro Tryd.func7 rfl (by show (1 : Nat) ≤ 66; omega) (fun w0 N0 => ?_)
    refine aw_step [1, 2] [1, 2] (by simp [Tryd.ntmps7] <;> rfl) ?_   -- resume.go:39
    refine aw_seq ?_
    refine aw_seq (aw_region ?_)   -- resume.go:40
    refine awl_go 1 (by simp <;> rfl) ?_
    refine awl_call1 hfm Tryd.func11 rfl (by kernel_rfl) rfl rfl rfl rfl (by simp [hp]) (by simp <;> rfl) ?_
    refine awl_end [1, 2, 7] [1, 2] (by simp <;> rfl) ?_
    refine aw_cond rfl (fun h1 => ?_) (fun h1 => aw_skip ?_)   -- if t7
    · rw [if_pos (by simpa using h1)] at hE0
      refine aw_step [2, 3] [2] (by simp <;> rfl) ?_   -- resume.go:41
      exact aw_ret (ends_ret (by simp [Tryd.results7] <;> rfl) (by rw [hE0]))
    rw [if_neg (by simpa using h1)] at hE0
    refine aw_seq ?_
    refine aw_step [1, 2, 16] [1, 2] (by simp <;> rfl) ?_   -- resume.go:43
    refine aw_cond rfl (fun h2 => ?_) (fun h2 => aw_skip ?_)   -- if t16
    · rw [if_pos h2] at hE0
      refine aw_step [2, 3] [2] (by simp <;> rfl) ?_   -- resume.go:44
      exact aw_ret (ends_ret (by simp [Tryd.results7] <;> rfl) (by rw [hE0]))
    rw [if_neg (by rw [h2]; simp)] at hE0
    refine aw_seq ?_
    refine aw_step [1, 2, 29] [1, 2] (by simp <;> rfl) ?_   -- resume.go:46
    refine aw_cond rfl (fun h3 => ?_) (fun h3 => aw_skip ?_)   -- if t29
    · rw [if_pos h3] at hE0
      refine aw_step [2, 3] [2] (by simp <;> rfl) ?_   -- resume.go:47
      exact aw_ret (ends_ret (by simp [Tryd.results7] <;> rfl) (by rw [hE0]))
    rw [if_neg (by rw [h3]; simp)] at hE0
    exact absurd hE0 hE
end Go.Proofs.YtmkbhognijicjaaDoor

/- Resume: the lengths of varints. No condition. -/
set_option linter.unusedSimpArgs false
set_option maxRecDepth 4000
namespace Go.Proofs.YtmkbhognijicjaaDoor
open Go.Eng

theorem u8_range (x : Int) : 0 ≤ IntKind.u8.wrap x ∧ IntKind.u8.wrap x < 256 := by
  rw [IntKind.wrap_u8]; omega
def tab8 : List UInt8 := [0, 1] ++ List.replicate 2 2 ++ List.replicate 4 3 ++ List.replicate 8 4 ++ List.replicate 16 5 ++ List.replicate 32 6 ++ List.replicate 64 7 ++ List.replicate 128 8
theorem tab8_len : tab8.length = 256 := by decide +kernel
theorem tab8_le : ∀ b ∈ tab8, b.toNat ≤ 8 := by decide +kernel
def la (x : Int) : Int × Int := if decide (4294967296 ≤ x) = true then (x.fdiv 4294967296, 32) else (x, 0)
def lb (p : Int × Int) : Int × Int := if decide (65536 ≤ p.1) = true then (p.1.fdiv 65536, p.2 + 16) else p
def lc (p : Int × Int) : Int × Int := if decide (256 ≤ p.1) = true then (p.1.fdiv 256, p.2 + 8) else p
def t8 (x : Int) : Int := ((nth tab8 (IntKind.u8.wrap x).toNat).getD 0).toNat
def l64 (x : Int) : Int := (lc (lb (la x))).2 + t8 (lc (lb (la x))).1
theorem la_b (x : Int) : 0 ≤ (la x).2 ∧ (la x).2 ≤ 32 := by unfold la; split <;> simp
theorem lb_b (p : Int × Int) : p.2 ≤ (lb p).2 ∧ (lb p).2 ≤ p.2 + 16 := by unfold lb; split <;> (try simp only) <;> omega
theorem lc_b (p : Int × Int) : p.2 ≤ (lc p).2 ∧ (lc p).2 ≤ p.2 + 8 := by unfold lc; split <;> (try simp only) <;> omega
theorem t8_at (x : Int) : ∃ b, nth tab8 (IntKind.u8.wrap x).toNat = some b ∧ t8 x = b.toNat ∧ b.toNat ≤ 8 := by
  have hu := u8_range x
  have hml : (IntKind.u8.wrap x).toNat < tab8.length := by rw [tab8_len]; omega
  have hmn : nth tab8 (IntKind.u8.wrap x).toNat = some tab8[(IntKind.u8.wrap x).toNat] := by rw [nth_eq]; simp [hml]
  exact ⟨_, hmn, by rw [t8, hmn]; rfl, tab8_le _ (List.getElem_mem hml)⟩
theorem l64_b (x : Int) : 0 ≤ l64 x ∧ l64 x ≤ 64 := by
  have h1 := la_b x
  have h2 := lb_b (la x)
  have h3 := lc_b (lb (la x))
  obtain ⟨b, _, h4, h5⟩ := t8_at (lc (lb (la x))).1
  unfold l64
  omega

set_option maxRecDepth 100000 in
set_option maxHeartbeats 1000000 in
theorem len64_ac (x : Int) : AC Tryd.prog 48 [.int .u64 x] (fun r => r = .int .i64 (l64 x)) := by
  refine ac_intro Tryd.func48 rfl (by show (1 : Nat) ≤ 25; omega) (fun w0 N0 => ?_)
  refine aw_step [0, 2] [] (by simp [Tryd.ntmps48] <;> rfl) ?_   -- bits.go:337
  refine aw_viale ⟨[(0, .int .u64 (la x).1), (2, .int .i64 (la x).2)], [], 1000, 25⟩ ?_ ?_
  · refine aw_step [0, 2, 4] [] (by simp <;> rfl) ?_   -- bits.go:338
    refine aw_cond rfl (fun h1 => ?_) (fun h1 => aw_skip ?_)   -- if t4
    · refine aw_step [0] [] (by simp <;> rfl) ?_   -- bits.go:339
      refine aw_one [0, 2] [] (by simp <;> rfl) ?_   -- bits.go:340
      refine ⟨rfl, ?_⟩
      rw [la, if_pos h1]
      exact le_nx rfl rfl rfl (by simp)
    · refine ⟨rfl, ?_⟩
      rw [la, if_neg (by rw [h1]; simp)]
      exact le_to [0, 2] [] (by simp <;> rfl) (by simp <;> rfl) rfl (by simp)
  have hb1 := la_b x
  unfold l64
  generalize la x = p1 at hb1
  obtain ⟨x1, n1⟩ := p1
  simp only at hb1
  have hw1 : IntKind.i64.wrap (n1 + 16) = n1 + 16 := wrap_in (by omega) (by omega)
  refine aw_viale ⟨[(0, .int .u64 (lb (x1, n1)).1), (2, .int .i64 (lb (x1, n1)).2)], [], 2000, 25⟩ ?_ ?_
  · refine aw_step [0, 2, 8] [] (by simp <;> rfl) ?_   -- bits.go:342
    refine aw_cond rfl (fun h1 => ?_) (fun h1 => aw_skip ?_)   -- if t8
    · refine aw_step [0, 2] [] (by simp <;> rfl) ?_   -- bits.go:343
      refine aw_one [0, 2] [] (by simp [hw1] <;> rfl) ?_   -- bits.go:344
      refine ⟨rfl, ?_⟩
      rw [lb, if_pos h1]
      exact le_nx rfl rfl rfl (by simp)
    · refine ⟨rfl, ?_⟩
      rw [lb, if_neg (by rw [h1]; simp)]
      exact le_to [0, 2] [] (by simp <;> rfl) (by simp <;> rfl) rfl (by simp)
  have hb2 := lb_b (x1, n1)
  generalize lb (x1, n1) = p2 at hb2
  obtain ⟨x2, n2⟩ := p2
  simp only at hb2
  have hw2 : IntKind.i64.wrap (n2 + 8) = n2 + 8 := wrap_in (by omega) (by omega)
  refine aw_viale ⟨[(0, .int .u64 (lc (x2, n2)).1), (2, .int .i64 (lc (x2, n2)).2)], [], 3000, 25⟩ ?_ ?_
  · refine aw_step [0, 2, 14] [] (by simp <;> rfl) ?_   -- bits.go:346
    refine aw_cond rfl (fun h1 => ?_) (fun h1 => aw_skip ?_)   -- if t14
    · refine aw_step [0, 2] [] (by simp <;> rfl) ?_   -- bits.go:347
      refine aw_one [0, 2] [] (by simp [hw2] <;> rfl) ?_   -- bits.go:348
      refine ⟨rfl, ?_⟩
      rw [lc, if_pos h1]
      exact le_nx rfl rfl rfl (by simp)
    · refine ⟨rfl, ?_⟩
      rw [lc, if_neg (by rw [h1]; simp)]
      exact le_to [0, 2] [] (by simp <;> rfl) (by simp <;> rfl) rfl (by simp)
  have hb3 := lc_b (x2, n2)
  generalize lc (x2, n2) = p3 at hb3
  obtain ⟨x3, n3⟩ := p3
  simp only at hb3
  generalize hc : ByteArray.mk _ = c0
  have hL : c0.data.toList = tab8 := by rw [← hc]; decide +kernel
  clear hc
  obtain ⟨b, hmn, ht, hb⟩ := t8_at x3
  have hu := u8_range x3
  rw [ht]
  obtain ⟨m, hm⟩ := Int.eq_ofNat_of_zero_le hu.1
  rw [hm] at hmn
  simp only [Int.toNat_natCast] at hmn
  have hwb : IntKind.i64.wrap (b.toNat : Int) = b.toNat := wrap_in (by omega) (by omega)
  have hws : IntKind.i64.wrap (n3 + b.toNat) = n3 + b.toNat := wrap_in (by omega) (by omega)
  generalize tab8 = L at hL hmn
  refine aw_step [2] [] (by simp [hL, hm, hmn, hwb, hws] <;> rfl) ?_   -- bits.go:350
  exact aw_ret (ends_ret (by simp [Tryd.results48] <;> rfl) rfl)

/-- The length of a varint. -/
def vl (x : Int) : Int := (l64 (bits .or .u64 x 1) + 6) / 7
theorem vl_b (x : Int) : 0 ≤ vl x ∧ vl x ≤ 10 := by
  have := l64_b (bits .or .u64 x 1)
  unfold vl
  omega
theorem varintLen_ac (x : Int) : AC Tryd.prog 40 [.int .u64 x] (fun r => r = .int .i64 (vl x)) := by
  have hc := len64_ac (bits .or .u64 x 1)
  have hb := l64_b (bits .or .u64 x 1)
  unfold vl
  generalize l64 (bits .or .u64 x 1) = k at hc hb
  have hw : IntKind.i64.wrap (k + 6) = k + 6 := wrap_in (by omega) (by omega)
  have hq : (k + 6).tdiv 7 = (k + 6) / 7 := Int.tdiv_eq_ediv_of_nonneg (by omega)
  have hw2 : IntKind.i64.wrap ((k + 6) / 7) = (k + 6) / 7 := wrap_in (by omega) (by omega)
  refine ac_intro Tryd.func40 rfl (by show (1 : Nat) ≤ 8; omega) (fun w0 N0 => ?_)
  refine aw_step [0] [] (by simp [Tryd.ntmps40] <;> rfl) ?_   -- codec.go:50
  refine aw_seq (aw_region ?_)   -- codec.go:51
  refine awl_go 2 (by simp <;> rfl) ?_
  refine awl_call1 hc Tryd.func48 rfl (by kernel_rfl) rfl rfl rfl rfl rfl (by simp <;> rfl) ?_
  refine awl_end [2] [] (by simp [hw, hq, hw2] <;> rfl) ?_
  exact aw_ret (ends_ret (by simp [Tryd.results40] <;> rfl) rfl)

theorem fold_ac (n : Int) : AC Tryd.prog 41 [.int .i64 n] (fun r => ∃ k : Int, r = .int .u64 k) := by
  refine ac_intro Tryd.func41 rfl (by show (1 : Nat) ≤ 10; omega) (fun w0 N0 => ?_)
  refine aw_step [0] [] (by simp [Tryd.ntmps41] <;> rfl) ?_   -- codec.go:40
  refine aw_step [2] [] (by simp <;> rfl) ?_   -- codec.go:41
  exact aw_ret (ends_ret (by simp [Tryd.results41] <;> rfl) ⟨_, rfl⟩)
end Go.Proofs.YtmkbhognijicjaaDoor
