/- Hold: the plain law of the reasons that stand: a rising list is found by taking the least that is greater than the last. No condition. -/
import Derived.Test.YtjgngffbmfbdkaaHoldO
set_option linter.unusedSimpArgs false
namespace Go.Proofs.Ytjgngffbmfbdkaa
open Go.Eng

/-- A reason that may follow. -/
def cand (last : Option Int) (h : H3) : Bool := decide (h.u = 0) && (match last with | none => true | some x => decide (x < h.r))
def lessO : Option Int → Int → Bool
  | none, _ => true
  | some b, r => decide (r < b)
def nb (last acc : Option Int) (h : H3) : Option Int := if (cand last h && lessO acc h.r) = true then some h.r else acc
def bestK (last : Option Int) (hs : List H3) : Option Int := hs.foldl (nb last) none
theorem bestK_succ (last : Option Int) (hs : List H3) (k : Nat) (h : k < hs.length) : bestK last (hs.take (k + 1)) = nb last (bestK last (hs.take k)) hs[k] := by
  rw [List.take_succ_eq_append_getElem h, bestK, List.foldl_append]; rfl

theorem bestK_spec (last : Option Int) : ∀ (hs : List H3) (acc : Option Int), (match hs.foldl (nb last) acc with
    | none => acc = none ∧ ∀ h ∈ hs, cand last h = false
    | some x => (acc = some x ∨ ∃ h ∈ hs, cand last h = true ∧ h.r = x) ∧ (∀ b, acc = some b → x ≤ b) ∧ ∀ h ∈ hs, cand last h = true → x ≤ h.r)
  | [], acc => by
    simp only [List.foldl_nil]
    cases acc with
    | none => simp
    | some b => simp
  | h :: hs, acc => by
    have ih := bestK_spec last hs (nb last acc h)
    simp only [List.foldl_cons]
    cases hf : hs.foldl (nb last) (nb last acc h) with
    | none =>
      rw [hf] at ih
      simp only at ih ⊢
      obtain ⟨h1, h2⟩ := ih
      unfold nb at h1
      by_cases hn : (cand last h && lessO acc h.r) = true
      · rw [if_pos hn] at h1; cases h1
      · rw [if_neg hn] at h1
        subst h1
        refine ⟨rfl, fun g hg => ?_⟩
        rcases List.mem_cons.1 hg with rfl | hg
        · simpa [lessO] using hn
        · exact h2 g hg
    | some x =>
      rw [hf] at ih
      simp only at ih ⊢
      obtain ⟨h1, h2, h3⟩ := ih
      unfold nb at h1 h2
      by_cases hc : (cand last h && lessO acc h.r) = true
      · rw [if_pos hc] at h1 h2
        simp only [Bool.and_eq_true] at hc
        have hx := h2 h.r rfl
        refine ⟨.inr ?_, fun b hb => ?_, fun g hg hcg => ?_⟩
        · rcases h1 with h1 | ⟨g, hg, h4, h5⟩
          · injection h1 with h1
            exact ⟨h, by simp, hc.1, h1⟩
          · exact ⟨g, by simp [hg], h4, h5⟩
        · subst hb
          have := hc.2
          simp only [lessO, decide_eq_true_eq] at this
          omega
        · rcases List.mem_cons.1 hg with rfl | hg
          · exact hx
          · exact h3 g hg hcg
      · rw [if_neg hc] at h1 h2
        refine ⟨?_, h2, fun g hg hcg => ?_⟩
        · rcases h1 with h1 | ⟨g, hg, h4, h5⟩
          · exact .inl h1
          · exact .inr ⟨g, by simp [hg], h4, h5⟩
        · rcases List.mem_cons.1 hg with rfl | hg
          · cases acc with
            | none => simp [hcg, lessO] at hc
            | some b =>
              have := h2 b rfl
              simp only [hcg, lessO, Bool.true_and, decide_eq_true_eq] at hc
              omega
          · exact h3 g hg hcg

/-- A rising list of the reasons that stand. -/
def Rises (D : List Int) (hs : List H3) : Prop := D.Pairwise (· < ·) ∧ ∀ x, x ∈ D ↔ ∃ h ∈ hs, h.u = 0 ∧ h.r = x

theorem rises_next {D : List Int} {hs : List H3} (hD : Rises D hs) (j : Nat) (hj : j ≤ D.length) : bestK (D.take j).getLast? hs = D[j]? := by
  obtain ⟨hp, hm⟩ := hD
  have hlt : ∀ a b, a < b → (hb : b < D.length) → (ha : a < D.length) → D[a] < D[b] := fun a b h hb ha => List.pairwise_iff_getElem.1 hp a b ha hb h
  have hcand : ∀ h ∈ hs, (cand (D.take j).getLast? h = true ↔ ∃ i, ∃ hi : i < D.length, j ≤ i ∧ D[i] = h.r ∧ h.u = 0) := by
    intro h hh
    unfold cand
    simp only [Bool.and_eq_true, decide_eq_true_eq]
    constructor
    · rintro ⟨hu, hl⟩
      obtain ⟨i, hi, he⟩ := List.getElem_of_mem ((hm h.r).2 ⟨h, hh, hu, rfl⟩)
      refine ⟨i, hi, ?_, he, hu⟩
      rcases Nat.lt_or_ge i j with hij | hij
      · exfalso
        have hj0 : 0 < j := by omega
        have : (D.take j).getLast? = some (D[j - 1]'(by omega)) := by
          rw [List.getLast?_eq_getElem?]
          simp only [List.length_take, Nat.min_eq_left hj]
          rw [List.getElem?_take_of_lt (by omega)]
          exact List.getElem?_eq_getElem (by omega)
        rw [this] at hl
        simp only [decide_eq_true_eq] at hl
        rcases Nat.lt_or_ge i (j - 1) with h2 | h2
        · have := hlt i (j - 1) h2 (by omega) hi
          omega
        · have : i = j - 1 := by omega
          subst this
          omega
      · exact hij
    · rintro ⟨i, hi, hij, he, hu⟩
      refine ⟨hu, ?_⟩
      rcases Nat.eq_zero_or_pos j with h0 | h0
      · subst h0; simp
      · have : (D.take j).getLast? = some (D[j - 1]'(by omega)) := by
          rw [List.getLast?_eq_getElem?]
          simp only [List.length_take, Nat.min_eq_left hj]
          rw [List.getElem?_take_of_lt (by omega)]
          exact List.getElem?_eq_getElem (by omega)
        rw [this]
        simp only [decide_eq_true_eq]
        have := hlt (j - 1) i (by omega) hi (by omega)
        omega
  have hb := bestK_spec (D.take j).getLast? hs none
  unfold bestK
  cases hf : hs.foldl (nb (D.take j).getLast?) none with
  | none =>
    rw [hf] at hb
    simp only at hb
    rcases Nat.lt_or_ge j D.length with h1 | h1
    · exfalso
      obtain ⟨h, hh, hu, hr⟩ := (hm D[j]).1 (List.getElem_mem h1)
      have := (hcand h hh).2 ⟨j, h1, Nat.le_refl _, hr.symm, hu⟩
      rw [hb.2 h hh] at this
      cases this
    · rw [List.getElem?_eq_none h1]
  | some x =>
    rw [hf] at hb
    simp only at hb
    obtain ⟨h1, _, h3⟩ := hb
    rcases h1 with h1 | ⟨h, hh, hc, hr⟩
    · cases h1
    obtain ⟨i, hi, hij, he, hu⟩ := (hcand h hh).1 hc
    have hjl : j < D.length := by omega
    obtain ⟨g, hg, gu, gr⟩ := (hm D[j]).1 (List.getElem_mem hjl)
    have h4 := h3 g hg ((hcand g hg).2 ⟨j, hjl, Nat.le_refl _, gr.symm, gu⟩)
    rw [List.getElem?_eq_getElem hjl]
    rcases Nat.lt_or_ge j i with h5 | h5
    · have := hlt j i h5 hi hjl
      omega
    · have : i = j := by omega
      subst this
      rw [he, hr]

/-! ### What is sorted and compacted rises. -/
theorem compact_up {d : Array Int} (hs : ∀ a b, a < b → b < d.size → d[a]! ≤ d[b]!) : ∀ m, m ≤ d.size → (Lib.compactUpTo d m).Pairwise (· < ·) ∧ (∀ x, x ∈ Lib.compactUpTo d m ↔ ∃ i, i < m ∧ d[i]! = x)
  | 0, _ => by simp [Lib.compactUpTo]
  | m + 1, hm => by
    obtain ⟨h1, h2⟩ := compact_up hs m (by omega)
    rw [Lib.compactUpTo_succ]
    by_cases hk : Lib.keeps d m = true
    · rw [if_pos hk]
      have hall : ∀ x ∈ Lib.compactUpTo d m, x < d[m]! := by
        intro x hx
        obtain ⟨i, hi, rfl⟩ := (h2 x).1 hx
        have hne : d[m]! ≠ d[m - 1]! := by
          intro he
          have := Lib.keeps_neg (d := d) (m := m) (by omega) he
          rw [hk] at this; cases this
        have h3 := hs (m - 1) m (by omega) (by omega)
        rcases Nat.lt_or_ge i (m - 1) with h4 | h4
        · have := hs i (m - 1) h4 (by omega)
          omega
        · have : i = m - 1 := by omega
          subst this
          omega
      refine ⟨List.pairwise_append.2 ⟨h1, by simp, fun x hx y hy => by simp at hy; subst hy; exact hall x hx⟩, fun x => ?_⟩
      simp only [List.mem_append, List.mem_singleton, h2]
      constructor
      · rintro (⟨i, hi, he⟩ | he)
        · exact ⟨i, by omega, he⟩
        · exact ⟨m, by omega, he.symm⟩
      · rintro ⟨i, hi, he⟩
        rcases Nat.lt_or_ge i m with h5 | h5
        · exact .inl ⟨i, h5, he⟩
        · have : i = m := by omega
          subst this
          exact .inr he.symm
    · rw [if_neg hk, List.append_nil]
      refine ⟨h1, fun x => ?_⟩
      rw [h2]
      have heq : 0 < m ∧ d[m]! = d[m - 1]! := by
        constructor
        · rcases Nat.eq_zero_or_pos m with h0 | h0
          · subst h0; exact absurd (Lib.keeps_lt_one d 0 (by omega)) hk
          · exact h0
        · exact Classical.byContradiction fun hne => hk (Lib.keeps_pos hne)
      constructor
      · rintro ⟨i, hi, he⟩
        exact ⟨i, by omega, he⟩
      · rintro ⟨i, hi, he⟩
        rcases Nat.lt_or_ge i m with h5 | h5
        · exact ⟨i, h5, he⟩
        · have : i = m := by omega
          subst this
          exact ⟨i - 1, by omega, by rw [← heq.2]; exact he⟩

theorem openF_rises (hs : List H3) : Rises (openF hs) hs := by
  have hsorted : (sortI (openL hs)).Pairwise (fun a b => decide (a ≤ b) = true) := by
    refine List.pairwise_mergeSort (le := fun x y => decide (x ≤ y)) (fun a b c h1 h2 => ?_) (fun a b => ?_) _
    · simp at h1 h2 ⊢; omega
    · simp; omega
  have hup := compact_up (d := (sortI (openL hs)).toArray) (fun a b hab hb => by
    simp only [List.size_toArray] at hb
    have := List.pairwise_iff_getElem.1 hsorted a b (by omega) hb hab
    simp only [decide_eq_true_eq] at this
    rw [getElem!_pos _ a (by simp; omega), getElem!_pos _ b (by simpa using hb)]
    simpa using this) (sortI (openL hs)).length (by simp)
  refine ⟨hup.1, fun x => ?_⟩
  have h1 : x ∈ openF hs ↔ x ∈ sortI (openL hs) := by
    show x ∈ Lib.compactUpTo _ _ ↔ _
    rw [hup.2]
    constructor
    · rintro ⟨i, hi, rfl⟩
      rw [getElem!_pos _ i (by simpa using hi)]
      simp
    · intro hx
      obtain ⟨i, hi, he⟩ := List.getElem_of_mem hx
      exact ⟨i, hi, by rw [getElem!_pos _ i (by simpa using hi)]; simpa using he⟩
  rw [h1, sortI, List.mem_mergeSort, openL]
  simp only [List.mem_map, List.mem_filter, decide_eq_true_eq]
  constructor
  · rintro ⟨h, ⟨h1, h2⟩, h3⟩
    exact ⟨h, h1, h2, h3⟩
  · rintro ⟨h, h1, h2, h3⟩
    exact ⟨h, ⟨h1, h2⟩, h3⟩

theorem openF_len (hs : List H3) : (openF hs).length ≤ hs.length := by
  have h1 := compact_le (sortI (openL hs))
  have h2 : (sortI (openL hs)).length = (openL hs).length := by simp [sortI]
  have h3 := openL_len hs
  simp only [openF]
  omega
end Go.Proofs.Ytjgngffbmfbdkaa
