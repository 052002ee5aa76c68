/- Hold: a deed keeps a record valid, its time does not fall, its holds stay. No condition. -/
import Derived.Test.YtjgngffbmfbdkaaHoldT
set_option linter.unusedSimpArgs false
namespace Go.Proofs.Ytjgngffbmfbdkaa
open Go.Eng

theorem hErr_zero {l : Int} {h : H3} : hErr l h = 0 ↔ (1 ≤ h.r ∧ h.r ≤ 5 ∧ 0 ≤ h.f ∧ h.f ≤ l ∧ 0 ≤ h.u ∧ h.u ≤ l ∧ (0 < h.u → h.f ≤ h.u)) := by
  unfold hErr
  split
  · rename_i h1
    simp [rsn] at h1
    constructor
    · intro h; omega
    · intro h; omega
  rename_i h1
  simp [rsn] at h1
  split
  · rename_i h2
    simp at h2
    constructor
    · intro h; omega
    · intro h; omega
  rename_i h2
  simp at h2
  split
  · rename_i h3
    simp at h3
    constructor
    · intro h; omega
    · intro h; omega
  rename_i h3
  simp at h3
  constructor
  · intro _
    refine ⟨by omega, by omega, by omega, by omega, by omega, by omega, fun h => ?_⟩
    have := h3 h
    omega
  · intro _; rfl
theorem hsErr_zero {l : Int} : ∀ {hs : List H3}, hsErr l hs = 0 ↔ ∀ h ∈ hs, hErr l h = 0
  | [] => by simp [hsErr]
  | h :: t => by
    have ih := hsErr_zero (l := l) (hs := t)
    simp only [hsErr, List.mem_cons, forall_eq_or_imp]
    by_cases h0 : hErr l h = 0
    · simp [h0, ih]
    · simp [h0]
theorem valid_iff {s v l : Int} {hs : List H3} : validF s v l hs = 0 ↔ (1 ≤ s ∧ s ≤ 4 ∧ 0 ≤ v ∧ v ≤ 9999999 ∧ 0 ≤ l ∧ l ≤ 1099511627776 ∧ hs.length ≤ 20 ∧ (∀ h ∈ hs, hErr l h = 0) ∧ (s = 1 → v = 0) ∧ (s = 2 → v = 1) ∧ (s = 3 → 2 ≤ v)) := by
  constructor
  · intro h
    obtain ⟨h1, h2, h3, h4, h5, h6, h7, h8, h9⟩ := valid_zero h
    exact ⟨h1, h2, h3, h4, h5, h6, h7, hsErr_zero.1 h8, h9⟩
  · rintro ⟨h1, h2, h3, h4, h5, h6, h7, h8, h9, h10, h11⟩
    unfold validF
    rw [if_neg (by simp; omega), if_neg (by simp; omega), if_neg (by simp; omega), if_neg (by simpa using hsErr_zero.2 h8), if_neg ?_]
    simp only [Bool.or_eq_true, Bool.and_eq_true, Bool.not_eq_true', decide_eq_true_eq, decide_eq_false_iff_not]
    omega

/-- What a deed keeps. -/
def Keep (R R' : Rec) (t : Int) : Prop := validF R'.s R'.v R'.l R'.hs = 0 ∧ R'.l = t ∧ R.l ≤ t ∧ R.hs.length ≤ R'.hs.length ∧ ∀ (j : Nat) (hj : j < R.hs.length), ∃ h', R'.hs[j]? = some h' ∧ h'.r = R.hs[j].r ∧ h'.f = R.hs[j].f

theorem hErr_up {l t : Int} {h : H3} (h0 : hErr l h = 0) (hl : l ≤ t) : hErr t h = 0 := by
  rw [hErr_zero] at h0 ⊢
  omega

theorem pre_zero {s v l t : Int} {hs : List H3} (h : preE s v l t hs = 0) : validF s v l hs = 0 ∧ readyF s l t = 0 := by
  unfold preE at h
  split at h
  · rename_i h1; exact absurd h h1
  rename_i h1
  exact ⟨by simpa using h1, h⟩

theorem place_keep {R : Rec} {r t : Int} (he : placeE R.s R.v R.l r t R.hs = 0) : Keep R (placeR R.s R.v R.l r t R.hs) t ∧ placeR R.s R.v R.l r t R.hs = ⟨R.s, R.v, t, R.hs ++ [⟨r, t, 0⟩]⟩ ∧ checkF R.s R.v R.l r t R.hs = 0 := by
  have hR : placeR R.s R.v R.l r t R.hs = ⟨R.s, R.v, t, R.hs ++ [⟨r, t, 0⟩]⟩ := by rw [placeR, if_neg (by rw [he]; simp)]
  unfold placeE at he
  split at he
  · rename_i h1; exact absurd he h1
  rename_i h1
  split at he
  · cases he
  rename_i h2
  have h1 : checkF R.s R.v R.l r t R.hs = 0 := by simpa using h1
  obtain ⟨hv, hrs, hrd⟩ := check_zero h1
  obtain ⟨t1, t2, t3, t4⟩ := ready_zero hrd
  rw [hR]
  refine ⟨⟨?_, rfl, t2, by simp, fun j hj => ⟨R.hs[j], by rw [List.getElem?_append_left hj]; exact List.getElem?_eq_getElem hj, rfl, rfl⟩⟩, rfl, h1⟩
  show validF R.s R.v t (R.hs ++ [⟨r, t, 0⟩]) = 0
  rw [valid_iff] at hv ⊢
  obtain ⟨a1, a2, a3, a4, a5, a6, a7, a8, a9, a10, a11⟩ := hv
  simp at h2
  refine ⟨a1, a2, a3, a4, by omega, t3, by simp; omega, fun h hh => ?_, a9, a10, a11⟩
  rcases List.mem_append.1 hh with hh | hh
  · exact hErr_up (a8 h hh) t2
  · simp at hh
    subst hh
    rw [hErr_zero]
    simp [rsn] at hrs
    simp only
    omega

theorem lift_keep {R : Rec} {r t : Int} (he : liftE R.s R.v R.l r t R.hs = 0) : Keep R (liftR R.s R.v R.l r t R.hs) t := by
  obtain ⟨h1, _, hR⟩ := lift_zero he
  obtain ⟨hv, hrs, hrd⟩ := check_zero h1
  obtain ⟨t1, t2, t3, t4⟩ := ready_zero hrd
  rw [hR]
  refine ⟨?_, rfl, t2, by simp, fun j hj => ⟨lift1 r t R.hs[j], by simp [hj], ?_, ?_⟩⟩
  · show validF R.s R.v t (R.hs.map (lift1 r t)) = 0
    rw [valid_iff] at hv ⊢
    obtain ⟨a1, a2, a3, a4, a5, a6, a7, a8, a9, a10, a11⟩ := hv
    refine ⟨a1, a2, a3, a4, by omega, t3, by simp; omega, fun h hh => ?_, a9, a10, a11⟩
    simp only [List.mem_map] at hh
    obtain ⟨g, hg, rfl⟩ := hh
    have hg0 := a8 g hg
    unfold lift1
    split
    · rw [hErr_zero] at hg0 ⊢
      simp only
      omega
    · exact hErr_up hg0 t2
  · unfold lift1; split <;> rfl
  · unfold lift1; split <;> rfl

theorem void_keep {R : Rec} {t : Int} (he : preE R.s R.v R.l t R.hs = 0) : Keep R (voidR R.s R.v R.l t R.hs) t := by
  have hR : voidR R.s R.v R.l t R.hs = ⟨4, R.v, t, R.hs⟩ := by rw [voidR, if_neg (by rw [he]; simp)]
  obtain ⟨hv, hrd⟩ := pre_zero he
  obtain ⟨t1, t2, t3, t4⟩ := ready_zero hrd
  rw [hR]
  refine ⟨?_, rfl, t2, Nat.le_refl _, fun j hj => ⟨R.hs[j], List.getElem?_eq_getElem hj, rfl, rfl⟩⟩
  show validF 4 R.v t R.hs = 0
  rw [valid_iff] at hv ⊢
  obtain ⟨a1, a2, a3, a4, a5, a6, a7, a8, a9, a10, a11⟩ := hv
  exact ⟨by omega, by omega, a3, a4, by omega, t3, a7, fun h hh => hErr_up (a8 h hh) t2, by omega, by omega, by omega⟩

theorem pub_zero {s v l t : Int} {hs : List H3} (h : pubE s v l t hs = 0) : preE s v l t hs = 0 ∧ openF hs = [] ∧ v ≠ 9999999 := by
  unfold pubE at h
  split at h
  · rename_i h1; exact absurd h h1
  rename_i h1
  split at h
  · cases h
  rename_i h2
  split at h
  · cases h
  rename_i h3
  refine ⟨by simpa using h1, ?_, by simpa using h3⟩
  simp at h2
  exact h2

theorem pub_keep {R : Rec} {t : Int} (he : pubE R.s R.v R.l t R.hs = 0) : Keep R (pubR R.s R.v R.l t R.hs) t ∧ pubR R.s R.v R.l t R.hs = ⟨if decide (R.s = 1) = true then 2 else 3, R.v + 1, t, R.hs⟩ := by
  have hR : pubR R.s R.v R.l t R.hs = ⟨if decide (R.s = 1) = true then 2 else 3, R.v + 1, t, R.hs⟩ := by rw [pubR, if_neg (by rw [he]; simp)]
  obtain ⟨hp, _, hn⟩ := pub_zero he
  obtain ⟨hv, hrd⟩ := pre_zero hp
  obtain ⟨t1, t2, t3, t4⟩ := ready_zero hrd
  rw [hR]
  refine ⟨⟨?_, rfl, t2, Nat.le_refl _, fun j hj => ⟨R.hs[j], List.getElem?_eq_getElem hj, rfl, rfl⟩⟩, rfl⟩
  rw [valid_iff] at hv ⊢
  obtain ⟨a1, a2, a3, a4, a5, a6, a7, a8, a9, a10, a11⟩ := hv
  refine ⟨?_, ?_, by simp only; omega, by simp only; omega, by simp only; omega, t3, a7, fun h hh => hErr_up (a8 h hh) t2, ?_, ?_, ?_⟩
  all_goals
    simp only
    by_cases h1 : R.s = 1
    · simp [h1]
      try omega
    · simp [h1]
      try omega

theorem do_keep {R : Rec} {k r t : Int} (he : doE R k r t = 0) : Keep R (doR R k r t) t := by
  unfold doE at he
  unfold doR
  split at he
  · rename_i h1; rw [if_pos h1]; exact (place_keep he).1
  rename_i h1
  rw [if_neg h1]
  split at he
  · rename_i h2; rw [if_pos h2]; exact lift_keep he
  rename_i h2
  rw [if_neg h2]
  split at he
  · rename_i h3; rw [if_pos h3]; exact (pub_keep he).1
  rename_i h3
  rw [if_neg h3]
  exact void_keep he
end Go.Proofs.Ytjgngffbmfbdkaa
