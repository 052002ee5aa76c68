/- Asset: Bytes. No condition. -/
import Derived.Test.YtepkalebaaidcaaAstM
set_option linter.unusedSimpArgs false
set_option linter.unnecessarySimpa false
namespace Go.Proofs.Ytepkalebaaidcaa
open Go.Eng

/-- What a reference adds. -/
def wt (l : List As) (r : Int) : Int := match fA l r with
  | some a => if vA a = 0 then a.by_ else 0
  | none => 0
def bStep (l : List As) (s : List (Int × V) × Int) (r : Int) : List (Int × V) × Int := match assoc r s.1 with
  | some _ => s
  | none => ((r, .bool true) :: s.1, s.2 + wt l r)
def bS (l : List As) (refs : List Int) : List (Int × V) × Int := refs.foldl (bStep l) ([], 0)
def bF (l : List As) (refs : List Int) : Int := (bS (l.take 1024) (refs.take 1024)).2
theorem bS_succ (l : List As) (refs : List Int) (k : Nat) (h : k < refs.length) : bS l (refs.take (k + 1)) = bStep l (bS l (refs.take k)) refs[k] := by
  rw [List.take_succ_eq_append_getElem h, bS, List.foldl_append]; rfl
theorem vA_by {a : As} (h : vA a = 0) : 1 ≤ a.by_ ∧ a.by_ ≤ 1048576 := by
  unfold vA at h
  split at h
  · cases h
  · rename_i h1
    simp [inR] at h1
    omega
theorem wt_le (l : List As) (r : Int) : 0 ≤ wt l r ∧ wt l r ≤ 1048576 := by
  unfold wt
  split
  · rename_i a _
    split
    · rename_i h; have := vA_by h; omega
    · omega
  · omega
theorem bStep_le (l : List As) (s : List (Int × V) × Int) (r : Int) : s.2 ≤ (bStep l s r).2 ∧ (bStep l s r).2 ≤ s.2 + 1048576 := by
  unfold bStep
  have := wt_le l r
  split
  · omega
  · simp only; omega
theorem bS_le (l : List As) (refs : List Int) : ∀ k, k ≤ refs.length → 0 ≤ (bS l (refs.take k)).2 ∧ (bS l (refs.take k)).2 ≤ k * 1048576
  | 0, _ => by simp [bS]
  | k + 1, h => by
    have h1 := bS_le l refs k (by omega)
    have h2 := bStep_le l (bS l (refs.take k)) refs[k]
    rw [bS_succ l refs k (by omega)]
    omega
theorem bS_true (l : List As) (refs : List Int) : ∀ k, k ≤ refs.length → ∀ c v, assoc c (bS l (refs.take k)).1 = some v → v = .bool true
  | 0, _, c, v, h => by simp [bS] at h
  | k + 1, h, c, v, hc => by
    rw [bS_succ l refs k (by omega)] at hc
    unfold bStep at hc
    split at hc
    · exact bS_true l refs k (by omega) c v hc
    · simp only [assoc] at hc
      split at hc
      · injection hc with hc; exact hc.symm
      · exact bS_true l refs k (by omega) c v hc

theorem cut1024 {α β : Type} (f : α → β) (l : List α) : ∃ q : Nat, (if (1024 : Int) < ((l.map f).length : Int) then (1024 : Int) else ((l.map f).length : Int)) = q ∧ (q : Int) ≤ ((l.map f).length : Int) ∧ (l.map f).take q = (l.take 1024).map f := by
  refine ⟨min l.length 1024, ?_, ?_, ?_⟩
  · rw [List.length_map]; split <;> omega
  · rw [List.length_map]; omega
  · rw [List.map_take]
    rcases Nat.le_total l.length 1024 with h | h
    · rw [Nat.min_eq_left h, List.take_of_length_le (by simp), List.take_of_length_le (by simpa using h)]
    · rw [Nat.min_eq_right h]

set_option maxHeartbeats 1000000 in
theorem bytes_ac (refs : List Int) (l : List As) : AC Try.prog 19 [.ro 1 (nums refs), .ro 5 (l.map As.v)] (fun r => r = .int .i64 (bF l refs)) := by
  obtain ⟨q1, hq1, hq1', hq1v⟩ := cut1024 (V.int .i64) refs
  obtain ⟨q2, hq2, hq2', hq2v⟩ := cut1024 As.v l
  change (if (1024 : Int) < ((nums refs).length : Int) then (1024 : Int) else ((nums refs).length : Int)) = q1 at hq1
  change (q1 : Int) ≤ ((nums refs).length : Int) at hq1'
  change (nums refs).take q1 = nums (refs.take 1024) at hq1v
  generalize nums refs = rv0 at *
  generalize l.map As.v = lv0 at *
  unfold bF
  have hR : (refs.take 1024).length ≤ 1024 := by simp; omega
  generalize refs.take 1024 = R at *
  generalize l.take 1024 = L at *
  refine ac_intro Try.func19 rfl (by show (2 : Nat) ≤ 51; omega) (fun w0 N0 => ?_)
  refine aw_step [0, 1] [] (by simp [Try.ntmps19] <;> rfl) ?_   -- asset.go:73
  refine aw_step [0, 1] [] (by simp [hq1, hq1', hq1v] <;> rfl) ?_   -- asset.go:74
  refine aw_step [0, 1] [] (by simp [hq2, hq2', hq2v] <;> rfl) ?_   -- asset.go:75
  have hgr := fun (k : Nat) (h : k < R.length) => nthI h
  have hlr := numsL R
  have hpl := pureAs L
  have hfind := fun id => find_ac L id
  generalize nums R = rv at hgr hlr
  generalize L.map As.v = lv at hpl hfind
  refine aw_seq (aw_region ?_)   -- asset.go:76
  refine awl_makeMap .i64 rfl rfl (fun b hb _ => ⟨_, rfl, ?_⟩)
  refine awl_end [0, 1, 5] [] (by simp <;> rfl) ?_
  refine aw_step [0, 1, 5, 6] [] (by simp <;> rfl) ?_   -- asset.go:77
  refine aw_seq ?_
  refine aw_step [1, 5, 6, 22, 23, 24] [] (by simp <;> rfl) ?_   -- asset.go:78
  refine aw_block ?_
  refine aw_count (fun k nx => ⟨[(1, .ro 5 lv), (5, .mp b .i64 (bS L (R.take k)).1), (6, .int .i64 (bS L (R.take k)).2), (22, .ro 1 rv), (23, .int .i64 rv.length), (24, .int .i64 k)], [], nx, 51⟩) (fun k => True) R.length _ trivial (AS.le_refl _) ?_
  intro k nx hk _
  refine aw_step [1, 5, 6, 22, 23, 24, 25] [] (by simp <;> rfl) ?_   -- asset.go:78
  refine aw_seq ?_
  refine aw_cond rfl (fun h1 => aw_skip ?_) (fun h1 => ?_)   -- if t25
  · have hlt : k < R.length := by simp at h1; omega
    have hlt' : k < rv.length := by omega
    have hget := hgr k hlt
    have hw := wrap_succ (k := k) (by omega)
    have hsu := bS_succ L R k hlt
    have hle := bS_le L R k hk
    have htr := bS_true L R k hk
    generalize R[k] = h at hget hsu
    have hf := hfind h
    generalize bS L (R.take k) = s at hsu hle htr
    obtain ⟨m, t⟩ := s
    simp only at hle htr
    unfold bStep at hsu
    simp only at hsu
    refine aw_seq ?_
    refine aw_block ?_
    refine aw_step [1, 5, 6, 8, 22, 23, 24] [] (by simp [hget, hlt'] <;> rfl) ?_   -- asset.go:78
    refine aw_seq ?_
    cases hlook : assoc h m with
    | some v =>
      have := htr _ _ hlook
      subst this
      rw [hlook] at hsu
      simp only at hsu
      refine aw_step [1, 5, 6, 8, 22, 23, 24, 30] [] (by simp [hlook] <;> rfl) ?_   -- asset.go:79
      refine aw_cond rfl (fun h2 => ?_) (fun h2 => by simp at h2)   -- if t30
      refine aw_exit ?_
      refine aw_one [1, 5, 6, 22, 23, 24] [] (by simp [hw] <;> rfl) ?_   -- asset.go:78
      exact ⟨hlt, trivial, _, by rw [hsu]; exact AS.le_refl _⟩
    | none =>
    rw [hlook] at hsu
    simp only at hsu
    refine aw_step [1, 5, 6, 8, 22, 23, 24, 30] [] (by simp [hlook] <;> rfl) ?_   -- asset.go:79
    refine aw_cond rfl (fun h2 => by simp at h2) (fun h2 => aw_skip ?_)   -- if t30
    refine aw_seq (aw_region ?_)   -- asset.go:82
    refine awl_go 2 (by simp <;> rfl) ?_
    refine awl_mapUpdate (b := b) hb rfl rfl rfl (by simp <;> rfl) (by simp <;> rfl) (by simp <;> rfl) rfl tyM45 rfl (by simp <;> rfl) ?_
    refine awl_end [1, 5, 6, 8, 22, 23, 24] [] (by simp <;> rfl) ?_
    have hwt : wt L h = match fA L h with | some a => if vA a = 0 then a.by_ else 0 | none => 0 := rfl
    have hval : ∀ a, AC Try.prog 8 [As.v a] (fun r => r = .int .i64 (vA a)) := valid_ac
    have hby : ∀ a, vA a = 0 → 1 ≤ a.by_ ∧ a.by_ ≤ 1048576 := fun a => vA_by
    generalize wt L h = wth at hsu hwt
    generalize fA L h = fa at hf hwt
    have hz : ∃ x, fa.getD zA = x ∧ (fa.isSome = true → fa = some x) := ⟨_, rfl, by cases fa <;> simp⟩
    obtain ⟨a, hz1, hz2⟩ := hz
    rw [hz1] at hf
    have hva := hval a
    have hbya := hby a
    have hwt' : wth = if (fa.isSome && decide (vA a = 0)) = true then a.by_ else 0 := by
      rw [hwt]
      cases fa with
      | none => rfl
      | some a' => simp at hz1; subst hz1; simp
    generalize fa.isSome = ok at hf hwt'
    generalize vA a = va at hva hbya hwt'
    obtain ⟨ai, ab, aa, af, au⟩ := a
    simp only [As.v] at hf hva hbya hwt'
    refine aw_seq (aw_region ?_)   -- asset.go:83
    refine awl_go 2 (by simp <;> rfl) ?_
    refine awl_call1 hf Try.func14 rfl (by kernel_rfl) rfl rfl rfl rfl (by simp [hpl]) (by simp <;> rfl) ?_
    refine awl_end [1, 5, 6, 9, 10, 22, 23, 24] [9] (by simp <;> rfl) ?_
    refine aw_seq (aw_region ?_)   -- asset.go:83
    refine awl_go 3 (by simp <;> rfl) ?_
    refine awl_gcall (fun hg => hva) Try.func8 rfl (by kernel_rfl) (by simp <;> rfl) rfl rfl (by simp <;> rfl) (by simp) (by simp <;> rfl) ?_
    refine awl_end [1, 5, 6, 9, 22, 23, 24, 44] [9] (by simp <;> rfl) ?_
    refine aw_cond rfl (fun h3 => ?_) (fun h3 => aw_skip ?_)   -- if t44
    · have hc : (ok && decide (va = 0)) = true := by
        cases ok <;> simpa using h3
      rw [if_pos hc] at hwt'
      have hb2 := hbya (by simp at hc; exact hc.2)
      have hw2 : IntKind.i64.wrap (t + ab) = t + ab := wrap_in (by omega) (by omega)
      refine aw_one [1, 5, 6, 22, 23, 24] [] (by simp [hw2] <;> rfl) ?_   -- asset.go:84
      refine aw_one [1, 5, 6, 22, 23, 24] [] (by simp [hw] <;> rfl) ?_   -- asset.go:78
      exact ⟨hlt, trivial, _, by rw [hsu, hwt']; exact AS.le_refl _⟩
    have hc : ¬ (ok && decide (va = 0)) = true := by
      cases ok <;> simpa using h3
    rw [if_neg hc] at hwt'
    refine aw_one [1, 5, 6, 22, 23, 24] [] (by simp [hw] <;> rfl) ?_   -- asset.go:78
    exact ⟨hlt, trivial, _, by rw [hsu, hwt', Int.add_zero]; exact AS.le_refl _⟩
  · refine aw_exit ?_
    have hk' : k = R.length := by simp at h1; omega
    subst hk'
    rw [List.take_length]
    refine aw_step [4] [] (by simp <;> rfl) ?_   -- asset.go:87
    exact aw_ret (ends_ret (by simp [Try.results19] <;> rfl) rfl)
end Go.Proofs.Ytepkalebaaidcaa
