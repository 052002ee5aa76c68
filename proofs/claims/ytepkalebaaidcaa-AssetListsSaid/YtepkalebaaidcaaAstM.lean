/- Asset: Missing. No condition. -/
import Derived.Test.YtepkalebaaidcaaAstS
set_option linter.unusedSimpArgs false
namespace Go.Proofs.Ytepkalebaaidcaa
open Go.Eng

def mStep (day : Int) (m : List (Int × V)) (a : As) : List (Int × V) := match assoc a.id m with
  | some _ => m
  | none => (a.id, .bool (decide (uA a day = 0))) :: m
/-- The map of the numbers that are usable. -/
def mU (day : Int) (l : List As) : List (Int × V) := l.foldl (mStep day) []
def usb (l : List As) (day r : Int) : Bool := match fA l r with | some a => decide (uA a day = 0) | none => false
theorem mU_succ (day : Int) (l : List As) (k : Nat) (h : k < l.length) : mU day (l.take (k + 1)) = mStep day (mU day (l.take k)) l[k] := by
  rw [List.take_succ_eq_append_getElem h, mU, List.foldl_append]; rfl
theorem mU_fold (day c : Int) : ∀ (l : List As) (m : List (Int × V)), assoc c (l.foldl (mStep day) m) = match assoc c m with
    | some v => some v
    | none => (fA l c).map fun a => .bool (decide (uA a day = 0))
  | [], m => by simp only [List.foldl_nil, fA, List.find?_nil, Option.map_none]; split <;> simp_all
  | a :: l, m => by
    rw [List.foldl_cons, mU_fold day c l]
    have hf : fA (a :: l) c = if a.id = c then some a else fA l c := by
      unfold fA
      rw [List.find?_cons]
      by_cases e : a.id = c <;> simp [e]
    rw [hf]
    unfold mStep
    by_cases e : a.id = c
    · subst e
      rw [if_pos rfl]
      cases h1 : assoc a.id m with
      | some v => simp only [h1]
      | none => simp only [assoc, if_pos, Option.map_some]
    · rw [if_neg e]
      cases h1 : assoc a.id m with
      | some v => simp only
      | none => simp only [assoc, if_neg e]
theorem mU_look (day c : Int) (l : List As) : (match assoc c (mU day l) with | some v => v | none => .bool false) = .bool (usb l day c) := by
  rw [mU, mU_fold]
  simp only [assoc, usb]
  cases fA l c <;> rfl

theorem mU_bool (day c : Int) (l : List As) (v : V) (h : assoc c (mU day l) = some v) : ∃ b, v = .bool b := by
  rw [mU, mU_fold] at h
  simp only [assoc, Option.map_eq_some_iff] at h
  obtain ⟨a, _, h⟩ := h
  exact ⟨_, h.symm⟩

def misL (l : List As) (day : Int) (refs : List Int) : List Int := refs.filter fun r => !usb l day r
def misF (l : List As) (day : Int) (refs : List Int) : List Int := Lib.compact (sortI (misL l day refs))
theorem misL_len (l : List As) (day : Int) (refs : List Int) : (misL l day refs).length ≤ refs.length := List.length_filter_le _ _
theorem misL_succ (l : List As) (day : Int) (refs : List Int) (k : Nat) (h : k < refs.length) : misL l day (refs.take (k + 1)) = misL l day (refs.take k) ++ (if (!usb l day refs[k]) = true then [refs[k]] else []) := by
  rw [List.take_succ_eq_append_getElem h, misL, misL, List.filter_append]
  congr 1
  by_cases h0 : (!usb l day refs[k]) = true <;> simp [List.filter, h0]

set_option maxHeartbeats 1000000 in
theorem missing_ac (refs : List Int) (l : List As) (day : Int) (hsm : refs.length ≤ 17592186044416) : ACO Try.prog 17 [.ro 1 (nums refs), .ro 5 (l.map As.v), .int .i64 day] 1 3 (fun F es' => (F = fun d q => .sl d q 1 (misF l day refs).length) ∧ es' = nums (misF l day refs)) := by
  have hg := fun (k : Nat) (h : k < l.length) => nthA h
  have hl : (l.map As.v).length = l.length := by simp
  have hgr := fun (k : Nat) (h : k < refs.length) => nthI h
  have hlr := numsL refs
  generalize l.map As.v = lv at hg hl
  generalize nums refs = rv at hgr hlr
  refine acO_lenR 1 rfl (fun hmax => ?_)
  unfold maxLen at hmax
  refine aco_intro Try.func17 rfl (by show (3 : Nat) ≤ 58; omega) (fun w0 N0 => ?_)
  refine aw_step [0, 1, 2] [] (by simp [Try.ntmps17] <;> rfl) ?_   -- asset.go:54
  refine aw_seq (aw_region ?_)   -- asset.go:55
  refine awl_makeMap .i64 rfl rfl (fun b hb _ => ⟨_, rfl, ?_⟩)
  refine awl_end [0, 1, 2, 7] [] (by simp <;> rfl) ?_
  refine aw_seq ?_
  refine aw_step [0, 2, 7, 16, 17, 18] [] (by simp <;> rfl) ?_   -- asset.go:56
  refine aw_block ?_
  refine aw_count (fun k nx => ⟨[(0, .ro 1 rv), (2, .int .i64 day), (7, .mp b .i64 (mU day (l.take k))), (16, .ro 5 lv), (17, .int .i64 lv.length), (18, .int .i64 k)], [], nx, 58⟩) (fun k => True) l.length _ trivial (AS.le_refl _) ?_
  intro k nx hk _
  refine aw_step [0, 2, 7, 16, 17, 18, 19] [] (by simp <;> rfl) ?_   -- asset.go:56
  refine aw_seq ?_
  refine aw_cond rfl (fun h1 => aw_skip ?_) (fun h1 => ?_)   -- if t19
  · have hlt : k < l.length := by simp at h1; omega
    have hlt' : k < lv.length := by omega
    have ga := hg k hlt
    have hw := wrap_succ (k := k) (by omega)
    have hsu := mU_succ day l k hlt
    generalize l[k] = a at ga hsu
    have hbv := fun c v => mU_bool day c (l.take k) v
    generalize mU day (l.take k) = m at hsu hbv
    have hcall := usable_ac a day
    unfold mStep at hsu
    generalize uA a day = ua at hcall hsu
    obtain ⟨ai, ab, aa, af, au⟩ := a
    simp only [As.v] at ga hcall hsu
    refine aw_seq ?_
    refine aw_block ?_
    refine aw_step [0, 2, 7, 9, 16, 17, 18] [9] (by simp [ga, hlt'] <;> rfl) ?_   -- asset.go:56
    cases hlook : assoc ai m with
    | some v =>
      obtain ⟨bv, rfl⟩ := hbv _ _ hlook
      rw [hlook] at hsu
      simp only at hsu
      refine aw_step [0, 2, 7, 9, 11, 16, 17, 18] [9] (by simp [hlook] <;> rfl) ?_   -- asset.go:57
      refine aw_step [0, 2, 7, 9, 16, 17, 18, 30] [9] (by simp <;> rfl) ?_   -- asset.go:57
      refine aw_cond rfl (fun h2 => by simp at h2) (fun h2 => aw_skip ?_)   -- if t30
      refine aw_one [0, 2, 7, 16, 17, 18] [] (by simp [hw] <;> rfl) ?_   -- asset.go:56
      exact ⟨hlt, trivial, _, by rw [hsu]; exact AS.le_refl _⟩
    | none =>
      rw [hlook] at hsu
      simp only at hsu
      refine aw_step [0, 2, 7, 9, 11, 16, 17, 18] [9] (by simp [hlook] <;> rfl) ?_   -- asset.go:57
      refine aw_step [0, 2, 7, 9, 16, 17, 18, 30] [9] (by simp <;> rfl) ?_   -- asset.go:57
      refine aw_cond rfl (fun h2 => ?_) (fun h2 => by simp at h2)   -- if t30
      refine aw_draw [(0, []), (1, []), (4, []), (2, []), (3, []), (5, []), (6, []), (7, [])] hmix (by kernel_rfl) ?_   -- asset.go:58
      refine awo_go 5 (by simp <;> rfl) ?_
      refine awo_call (fun hg => hcall) Try.func10 rfl (by kernel_rfl) rfl rfl (by simp <;> rfl) rfl rfl (by simp <;> rfl) (by simp) (by simp <;> rfl) ?_
      refine awo_go 1 (by simp <;> rfl) ?_
      refine awo_mapUpdate (b := b) hb rfl (by simp) rfl rfl rfl (by simp <;> rfl) (by simp <;> rfl) (by simp <;> rfl) rfl tyM45 rfl (by simp <;> rfl) ?_
      refine awo_end [0, 2, 7, 16, 17, 18] [] (by simp <;> rfl) ?_
      refine aw_one [0, 2, 7, 16, 17, 18] [] (by simp [hw] <;> rfl) ?_   -- asset.go:56
      exact ⟨hlt, trivial, _, by rw [hsu]; exact AS.le_refl _⟩
  · refine aw_exit ?_
    have hk' : k = l.length := by simp at h1; omega
    subst hk'
    rw [List.take_length]
    have hlk := fun c => mU_look day c l
    generalize mU day l = m at hlk
    refine aw_step [0, 7, 12] [] (by simp <;> rfl) ?_   -- asset.go:61
    refine aw_seq ?_
    refine aw_step [7, 12, 39, 40, 41] [] (by simp <;> rfl) ?_   -- asset.go:62
    refine aw_adoptS 12 100 1 3 [7, 12, 39, 40, 41] [100] (by simp <;> rfl) (by simp <;> rfl) ?_
    refine aw_block ?_
    refine aw_loop (fun x : Nat × Nat × Nat => ⟨[(7, .mp b .i64 m), (12, .sl 100 x.2.1 1 (nums (misL l day (refs.take x.1))).length), (39, .ro 1 rv), (40, .int .i64 rv.length), (41, .int .i64 x.1)], [(100, ⟨x.2.1, 1, 3, nums (misL l day (refs.take x.1))⟩)], x.2.2, 58⟩)
      (fun x => x.1 ≤ refs.length) (fun x => refs.length - x.1) (0, _, _) (Nat.zero_le _) (AS.le_refl _) ?_
    rintro ⟨k, q, nx⟩ hk
    simp only at hk
    refine aw_step [7, 12, 39, 40, 41, 42] [100] (by simp <;> rfl) ?_   -- asset.go:62
    refine aw_seq ?_
    refine aw_cond rfl (fun h3 => aw_skip ?_) (fun h3 => ?_)   -- if t42
    · have hlt : k < refs.length := by simp at h3; omega
      have hlt' : k < rv.length := by omega
      have hget := hgr k hlt
      have hw := wrap_succ (k := k) (by omega)
      have hsu := misL_succ l day refs k hlt
      have hkl : (nums (misL l day (refs.take k))).length ≤ k := by rw [numsL]; exact Nat.le_trans (misL_len _ _ _) (by simp; omega)
      generalize refs[k] = h at hget hsu
      have hlk1 := hlk h
      have hnu : nums (misL l day (refs.take (k + 1))) = nums (misL l day (refs.take k)) ++ (if (!usb l day h) = true then [.int .i64 h] else []) := by
        rw [hsu]; by_cases h0 : (!usb l day h) = true <;> simp [nums, h0]
      generalize nums (misL l day (refs.take k)) = rk at hkl hnu
      have hro : rk.length + 1 ≤ maxLen ∧ (rk.length + 1) * 8 ≤ 140737488355328 := ⟨Nat.le_trans (show rk.length + 1 ≤ 17592186044416 by omega) (by decide), by omega⟩
      have hlk2 : lookV false (.bool false) (assoc h m) = .bool (usb l day h) := by
        rw [← hlk1]; cases assoc h m <;> rfl
      generalize usb l day h = u at hlk2 hnu
      refine aw_seq ?_
      refine aw_block ?_
      refine aw_step [7, 12, 14, 39, 40, 41] [100] (by simp [hget, hlt'] <;> rfl) ?_   -- asset.go:62
      refine aw_step [7, 12, 14, 39, 40, 41, 48] [100] (by simp [hlk2, -lookV] <;> rfl) ?_   -- asset.go:63
      refine aw_cond rfl (fun h4 => ?_) (fun h4 => aw_skip ?_)   -- if t48
      · refine aw_one [7, 12, 39, 40, 41] [100] (by simp [hro] <;> rfl) ?_   -- asset.go:64
        refine aw_one [7, 12, 39, 40, 41] [100] (by simp [hw] <;> rfl) ?_   -- asset.go:62
        rw [if_pos h4] at hnu
        exact ⟨(k + 1, _, _), hlt, by simp only; omega, by simp only [hnu, List.length_append, List.length_cons, List.length_nil]; exact AS.le_refl _⟩
      refine aw_one [7, 12, 39, 40, 41] [100] (by simp [hw] <;> rfl) ?_   -- asset.go:62
      rw [if_neg (by rw [h4]; simp), List.append_nil] at hnu
      exact ⟨(k + 1, _, _), hlt, by simp only; omega, by simp only [hnu]; exact AS.le_refl _⟩
    · refine aw_exit ?_
      have hk' : k = refs.length := by simp at h3; omega
      subst hk'
      have hol := misL_len l day refs
      simp only [List.take_length]
      have hcs := sort_aci (misL l day refs) (by omega)
      have hsl : (sortI (misL l day refs)).length = (misL l day refs).length := by simp [sortI]
      have hcc := compact_aci (sortI (misL l day refs)) (by omega)
      have hl1 : (nums (misL l day refs)).length = (nums (sortI (misL l day refs))).length := by rw [numsL, numsL, hsl]
      have hf1 := flatI (misL l day refs)
      have hf2 := flatI (sortI (misL l day refs))
      have hf3 := flatI (misF l day refs)
      change ACI Try.prog 26 1 3 _ (nums (misF l day refs)) (fun d v => .sl d v 1 (misF l day refs).length) at hcc
      generalize nums (misL l day refs) = r1 at hcs hl1 hf1
      generalize nums (sortI (misL l day refs)) = r2 at hcs hcc hl1 hf2
      refine aw_seq (aw_region ?_)   -- asset.go:67
      refine awl_go 1 (by simp <;> rfl) ?_
      refine awl_callI (d := 100) (v := q) hcs hf1 hf2 Try.func25 rfl (by kernel_rfl) rfl rfl rfl (by simp <;> rfl) (by simp <;> rfl) (by simp <;> rfl) ?_
      refine awl_end [12] [100] (by simp <;> rfl) ?_
      rw [hl1]
      refine aw_seq (aw_region ?_)   -- asset.go:68
      refine awl_go 1 (by simp <;> rfl) ?_
      refine awl_callI (d := 100) (v := q) hcc hf2 hf3 Try.func26 rfl (by kernel_rfl) rfl rfl rfl (by simp <;> rfl) (by simp <;> rfl) (by simp <;> rfl) ?_
      refine awl_end [6] [100] (by simp <;> rfl) ?_
      exact aw_ret (endso_row 100 (by simp <;> rfl) rfl rfl hf3 (by simp [Try.results17] <;> rfl) ⟨rfl, rfl⟩)
end Go.Proofs.Ytepkalebaaidcaa
