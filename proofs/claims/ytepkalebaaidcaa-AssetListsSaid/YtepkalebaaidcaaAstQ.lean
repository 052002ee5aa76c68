/- Asset: the plain law of Missing. No condition. -/
import Derived.Test.YtepkalebaaidcaaAstC
set_option linter.unusedSimpArgs false
namespace Go.Proofs.Ytepkalebaaidcaa
open Go.Eng

theorem compact_up {d : Array Int} (hs : ∀ a b, a < b → b < d.size → d[a]! ≤ d[b]!) : ∀ m, m ≤ d.size → (Lib.compactUpTo d m).Pairwise (· < ·) ∧ (∀ x, x ∈ Lib.compactUpTo d m ↔ ∃ i, i < m ∧ d[i]! = x)
  | 0, _ => by simp [Lib.compactUpTo]
  | m + 1, hm => by
    obtain ⟨h1, h2⟩ := compact_up hs m (by omega)
    rw [Lib.compactUpTo_succ]
    by_cases hk : Lib.keeps d m = true
    · rw [if_pos hk]
      have hall : ∀ x ∈ Lib.compactUpTo d m, x < d[m]! := by
        intro x hx
        obtain ⟨i, hi, rfl⟩ := (h2 x).1 hx
        have hne : d[m]! ≠ d[m - 1]! := by
          intro he
          have := Lib.keeps_neg (d := d) (m := m) (by omega) he
          rw [hk] at this; cases this
        have h3 := hs (m - 1) m (by omega) (by omega)
        rcases Nat.lt_or_ge i (m - 1) with h4 | h4
        · have := hs i (m - 1) h4 (by omega)
          omega
        · have : i = m - 1 := by omega
          subst this
          omega
      refine ⟨List.pairwise_append.2 ⟨h1, by simp, fun x hx y hy => by simp at hy; subst hy; exact hall x hx⟩, fun x => ?_⟩
      simp only [List.mem_append, List.mem_singleton, h2]
      constructor
      · rintro (⟨i, hi, he⟩ | he)
        · exact ⟨i, by omega, he⟩
        · exact ⟨m, by omega, he.symm⟩
      · rintro ⟨i, hi, he⟩
        rcases Nat.lt_or_ge i m with h5 | h5
        · exact .inl ⟨i, h5, he⟩
        · have : i = m := by omega
          subst this
          exact .inr he.symm
    · rw [if_neg hk, List.append_nil]
      refine ⟨h1, fun x => ?_⟩
      rw [h2]
      have heq : 0 < m ∧ d[m]! = d[m - 1]! := by
        constructor
        · rcases Nat.eq_zero_or_pos m with h0 | h0
          · subst h0; exact absurd (Lib.keeps_lt_one d 0 (by omega)) hk
          · exact h0
        · exact Classical.byContradiction fun hne => hk (Lib.keeps_pos hne)
      constructor
      · rintro ⟨i, hi, he⟩
        exact ⟨i, by omega, he⟩
      · rintro ⟨i, hi, he⟩
        rcases Nat.lt_or_ge i m with h5 | h5
        · exact ⟨i, h5, he⟩
        · have : i = m := by omega
          subst this
          exact ⟨i - 1, by omega, by rw [← heq.2]; exact he⟩

/-- What is sorted and compacted rises, and holds what was there. -/
theorem sorted_up (zs : List Int) : (Lib.compact (sortI zs)).Pairwise (· < ·) ∧ ∀ x, x ∈ Lib.compact (sortI zs) ↔ x ∈ zs := by
  have hsorted : (sortI zs).Pairwise (fun a b => decide (a ≤ b) = true) := by
    refine List.pairwise_mergeSort (le := fun x y => decide (x ≤ y)) (fun a b c h1 h2 => ?_) (fun a b => ?_) _
    · simp at h1 h2 ⊢; omega
    · simp; omega
  have hup := compact_up (d := (sortI zs).toArray) (fun a b hab hb => by
    simp only [List.size_toArray] at hb
    have := List.pairwise_iff_getElem.1 hsorted a b (by omega) hb hab
    simp only [decide_eq_true_eq] at this
    rw [getElem!_pos _ a (by simp; omega), getElem!_pos _ b (by simpa using hb)]
    simpa using this) (sortI zs).length (by simp)
  refine ⟨hup.1, fun x => ?_⟩
  have h1 : x ∈ Lib.compact (sortI zs) ↔ x ∈ sortI zs := by
    show x ∈ Lib.compactUpTo _ _ ↔ _
    rw [hup.2]
    constructor
    · rintro ⟨i, hi, rfl⟩
      rw [getElem!_pos _ i (by simpa using hi)]
      simp
    · intro hx
      obtain ⟨i, hi, he⟩ := List.getElem_of_mem hx
      exact ⟨i, hi, by rw [getElem!_pos _ i (by simpa using hi)]; simpa using he⟩
  rw [h1, sortI, List.mem_mergeSort]
theorem misF_up (l : List As) (day : Int) (refs : List Int) : (misF l day refs).Pairwise (· < ·) := (sorted_up _).1
theorem misF_mem (l : List As) (day : Int) (refs : List Int) (x : Int) : x ∈ misF l day refs ↔ x ∈ refs ∧ usb l day x = false := by
  rw [misF, (sorted_up _).2, misL, List.mem_filter]
  simp
theorem misF_len (l : List As) (day : Int) (refs : List Int) : (misF l day refs).length ≤ refs.length := by
  have h1 := compact_le (sortI (misL l day refs))
  have h2 : (sortI (misL l day refs)).length = (misL l day refs).length := by simp [sortI]
  have h3 := misL_len l day refs
  simp only [misF]
  omega
theorem misF_step (l : List As) (day : Int) (refs : List Int) (k : Nat) (h : k + 1 < (misF l day refs).length) : (misF l day refs)[k] < (misF l day refs)[k + 1] :=
  List.pairwise_iff_getElem.1 (misF_up l day refs) k (k + 1) (by omega) h (by omega)
end Go.Proofs.Ytepkalebaaidcaa
