/- Resume: the tree of an event. No condition. -/
import Derived.Test.YtmkbhognijicjaaResE
set_option linter.unusedSimpArgs false
namespace Go.Proofs.Ytmkbhognijicjaa
open Go.Eng

def num (t n : Int) : Nd := .mk t 1 n [] []
def chN (l : List Int) : List Nd := l.map (num 0)
def ansK (e : Ev) : List Nd := [num 3 e.item, .mk 4 3 0 [] (chN e.ch), num 5 e.value, .mk 6 2 0 e.text [], num 7 (if e.om = true then 1 else 0)]
def encK (e : Ev) : List Nd := [num 1 e.kind, num 2 e.time] ++ (if e.kind = 2 then ansK e else if e.kind = 5 then [num 8 e.ik, num 9 e.il, num 10 e.ig] else [])
def zNd : Nd := .mk 0 0 0 [] []
def encN (e : Ev) : Nd := if encE e = 0 then .mk 50 3 0 [] (encK e) else zNd

theorem sm_num (t n : Int) : Sm (num t n) := .mk (by simp) (by simp)
theorem sm_ch (l : List Int) : ∀ x ∈ chN l, Sm x := by
  intro x hx
  simp only [chN, List.mem_map] at hx
  obtain ⟨n, _, rfl⟩ := hx
  exact sm_num _ _
theorem sm_leaf (t k n : Int) (s : List UInt8) : Sm (.mk t k n s []) := .mk (by simp) (by simp)
theorem sm_ans (e : Ev) (h : e.ch.length ≤ 1000) : ∀ x ∈ ansK e, Sm x := by
  intro x hx
  simp only [ansK, List.mem_cons, List.not_mem_nil, or_false] at hx
  rcases hx with rfl | rfl | rfl | rfl | rfl
  · exact sm_num _ _
  · exact .mk (by simpa [chN] using h) (sm_ch _)
  · exact sm_num _ _
  · exact sm_leaf _ _ _ _
  · exact sm_num _ _
theorem sm_enc (e : Ev) (h : e.ch.length ≤ 1000) : (∀ x ∈ encK e, Sm x) ∧ (encK e).length ≤ 1000 := by
  unfold encK
  refine ⟨fun x hx => ?_, ?_⟩
  · rcases List.mem_append.1 hx with hx | hx
    · simp only [List.mem_cons, List.not_mem_nil, or_false] at hx
      rcases hx with rfl | rfl <;> exact sm_num _ _
    · split at hx
      · exact sm_ans e h x hx
      · split at hx
        · simp only [List.mem_cons, List.not_mem_nil, or_false] at hx
          rcases hx with rfl | rfl | rfl <;> exact sm_num _ _
        · cases hx
  · split
    · simp [ansK]
    · split <;> simp

set_option maxRecDepth 100000 in
set_option maxHeartbeats 2000000 in
theorem answerKids_ac (e : Ev) (h10 : e.ch.length ≤ 10) : AC Try.prog 18 [e.a] (fun r => r = .ro 5 ((ansK e).map Nd.v)) := by
  have hl := numsL e.ch
  have hg : ∀ (k : Nat) (h : k < e.ch.length), nth (nums e.ch) k = some (.int .i64 e.ch[k]) := by
    intro k h; rw [nth_eq]; simp [nums, h]
  have hcl : ((chN e.ch).map Nd.v).length = e.ch.length := by simp [chN]
  have hcg : ∀ (k : Nat) (h : k < e.ch.length), ((chN e.ch).map Nd.v)[k]? = some (num 0 e.ch[k]).v := by
    intro k h; simp [chN, h]
  have hcp := pureN (chN e.ch)
  have hL := list_ac 4 (chN e.ch) (by simp [chN]; omega) (sm_ch _)
  have hnum := fun t n => number_ac t n
  have hstr := string_ac 6 e.text
  simp only [Ev.a, ansK, List.map_cons, List.map_nil]
  simp only [num, Nd.v, List.map_nil] at hnum hstr hL hcg ⊢
  generalize nums e.ch = cv at hl hg
  generalize (chN e.ch).map Nd.v = nv at hcl hcg hcp hL ⊢
  refine ac_intro Try.func18 rfl (by show (1 : Nat) ≤ 41; omega) (fun w0 N0 => ?_)
  refine aw_step [1] [1] (by simp [Try.ntmps18] <;> rfl) ?_   -- resume.go:60
  have hb1 : (cv.length : Int) ≤ 9223372036854775807 := by omega
  have hb2 : 64 * (cv.length : Int) ≤ 281474976710656 := by omega
  refine aw_step [1, 3] [1, 10] (by simp [hb1, hb2] <;> rfl) ?_   -- resume.go:61
  refine aw_seq ?_
  refine aw_step [1, 3, 12, 13, 14] [1, 10] (by simp <;> rfl) ?_   -- resume.go:62
  refine aw_block ?_
  refine aw_count (fun k nx => ⟨[(1, .bp 1 0 5 0 0), (3, .sl 10 5 5 cv.length), (12, .ro 1 cv), (13, .int .i64 cv.length), (14, .int .i64 k)], [(1, ⟨0, 5, 28, [.agg [.int .i64 e.item, .ro 1 cv, .int .i64 e.value, .str e.text, .bool e.om]]⟩), (10, ⟨5, 5, 24, fillK nv zN k⟩)], nx, 41⟩) (fun k => True) cv.length _ trivial (by rw [fillK_zero, hcl, ← hl]; exact AS.le_refl _) ?_
  intro k nx hk hI
  have hfl := fillK_len nv zN k (by omega)
  refine aw_step [1, 3, 12, 13, 14, 15] [1, 10] (by simp <;> rfl) ?_   -- resume.go:62
  refine aw_seq ?_
  refine aw_cond rfl (fun h1 => aw_skip ?_) (fun h1 => ?_)   -- if t15
  · have hlt : k < e.ch.length := by simp at h1; omega
    have hlt' : k < cv.length := by omega
    have hltn : k < nv.length := by omega
    have ga := hg k hlt
    have hset := fillK_set nv zN k hltn (hcg k hlt)
    have hz : nth (fillK nv zN k) k = some (.agg [.int .i64 0, .int .i64 0, .int .i64 0, .str [], .nils]) := fillK_nth nv zN k hltn
    have hw := wrap_succ (k := k) (by omega)
    have hc := hnum 0 e.ch[k]
    generalize fillK nv zN k = row at hz hset hfl ⊢
    refine aw_seq ?_
    refine aw_block ?_
    refine aw_step [1, 3, 4, 5, 12, 13, 14] [1, 10] (by simp [ga, hlt'] <;> rfl) ?_   -- resume.go:62
    refine aw_region ?_   -- resume.go:63
    refine awl_go 3 (by simp <;> rfl) ?_
    refine awl_call1 hc Try.func17 rfl (by kernel_rfl) rfl rfl rfl rfl rfl (by simp <;> rfl) ?_
    refine awl_end [1, 3, 12, 13, 14] [1, 10] (by simp [hlt', hz, hset] <;> rfl) ?_
    refine aw_one [1, 3, 12, 13, 14] [1, 10] (by simp [hw] <;> rfl) ?_   -- resume.go:62
    exact ⟨hlt', trivial, _, AS.le_refl _⟩
  · refine aw_exit ?_
    have hkl : k = cv.length := by simp at h1; omega
    rw [fillK_all nv zN k (by omega)]
    have hnc : nv.length = cv.length := by omega
    refine aw_step [1, 3, 6] [1, 10] (by simp <;> rfl) ?_   -- resume.go:65
    refine aw_viale ⟨[(1, .bp 1 0 5 0 0), (3, .sl 10 5 5 cv.length), (6, .int .i64 (if e.om = true then 1 else 0))], [(1, ⟨0, 5, 28, [.agg [.int .i64 e.item, .ro 1 cv, .int .i64 e.value, .str e.text, .bool e.om]]⟩), (10, ⟨5, 5, 24, nv⟩)], nx + 1000, 41⟩ ?_ ?_
    · refine aw_step [1, 3, 6, 26] [1, 10] (by simp <;> rfl) ?_   -- resume.go:66
      refine aw_cond rfl (fun h2 => ?_) (fun h2 => aw_skip ?_)   -- if t26
      · refine aw_one [1, 3, 6] [1, 10] (by simp <;> rfl) ?_   -- resume.go:67
        refine ⟨rfl, ?_⟩
        rw [if_pos h2]
        exact le_to [1, 3, 6] [1, 10] (by simp <;> rfl) (by simp <;> rfl) rfl (by simp only; omega)
      · refine ⟨rfl, ?_⟩
        rw [if_neg (by rw [h2]; simp)]
        exact le_to [1, 3, 6] [1, 10] (by simp <;> rfl) (by simp <;> rfl) rfl (by simp only; omega)
    refine aw_freeze 10 [1, 3, 6] [1] (by simp [hcp, hnc] <;> rfl) ?_
    generalize (if e.om = true then (1 : Int) else 0) = om
    refine aw_seq (aw_draw [(0, []), (3, []), (5, []), (8, []), (11, []), (1, [40]), (2, []), (4, []), (6, [40]), (7, []), (9, [40]), (10, []), (12, []), (13, []), (14, [])] hmix (by kernel_rfl) ?_)   -- resume.go:69
    refine awo_go 6 (by simp <;> rfl) ?_
    refine awo_call (fun hg => hnum 3 e.item) Try.func17 rfl (by kernel_rfl) rfl rfl (by simp <;> rfl) rfl rfl (by simp <;> rfl) (by simp) (by simp <;> rfl) ?_
    refine awo_call (fun hg => hL) Try.func19 rfl (by kernel_rfl) rfl rfl (by simp <;> rfl) rfl rfl (by simp <;> rfl) (by simp) (by simp <;> rfl) ?_
    refine awo_go 1 (by simp <;> rfl) ?_
    refine awo_call (fun hg => hnum 5 e.value) Try.func17 rfl (by kernel_rfl) rfl rfl (by simp <;> rfl) rfl rfl (by simp <;> rfl) (by simp) (by simp <;> rfl) ?_
    refine awo_go 1 (by simp <;> rfl) ?_
    refine awo_call (fun hg => hstr) Try.func27 rfl (by kernel_rfl) rfl rfl (by simp <;> rfl) rfl rfl (by simp <;> rfl) (by simp) (by simp <;> rfl) ?_
    refine awo_call (fun hg => hnum 7 om) Try.func17 rfl (by kernel_rfl) rfl rfl (by simp <;> rfl) rfl rfl (by simp <;> rfl) (by simp) (by simp <;> rfl) ?_
    refine awo_end [2] [40] (by simp <;> rfl) ?_
    exact aw_ret (ends_ret (by simp [Try.results18] <;> rfl) rfl)
end Go.Proofs.Ytmkbhognijicjaa
