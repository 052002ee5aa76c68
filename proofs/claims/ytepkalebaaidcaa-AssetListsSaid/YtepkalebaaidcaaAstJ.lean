/- Asset: the plain law of insert; the reference's Missing and Bytes. No condition. -/
import Derived.Test.YtepkalebaaidcaaAstI
import Derived.Test.YtepkalebaaidcaaAstP
set_option linter.unusedSimpArgs false
set_option linter.unnecessarySimpa false
namespace Go.Proofs.Ytepkalebaaidcaa
open Go.Eng

theorem rising_ext : ∀ {a b : List Int}, a.Pairwise (· < ·) → b.Pairwise (· < ·) → (∀ x, x ∈ a ↔ x ∈ b) → a = b
  | [], [], _, _, _ => rfl
  | [], y :: b, _, _, h => by have := (h y).2 (by simp); cases this
  | x :: a, [], _, _, h => by have := (h x).1 (by simp); cases this
  | x :: a, y :: b, ha, hb, h => by
    rw [List.pairwise_cons] at ha hb
    have hxy : x = y := by
      rcases List.mem_cons.1 ((h x).1 (by simp)) with h1 | h1
      · exact h1
      · rcases List.mem_cons.1 ((h y).2 (by simp)) with h2 | h2
        · exact h2.symm
        · have := hb.1 x h1
          have := ha.1 y h2
          omega
    subst hxy
    congr 1
    refine rising_ext ha.2 hb.2 (fun z => ?_)
    constructor
    · intro hz
      rcases List.mem_cons.1 ((h z).1 (by simp [hz])) with h1 | h1
      · have := ha.1 z hz; omega
      · exact h1
    · intro hz
      rcases List.mem_cons.1 ((h z).2 (by simp [hz])) with h1 | h1
      · have := hb.1 z hz; omega
      · exact h1

theorem pw_snoc {l : List Int} {x : Int} (h : l.Pairwise (· < ·)) (hx : ∀ y ∈ l, y < x) : (l ++ [x]).Pairwise (· < ·) :=
  List.pairwise_append.2 ⟨h, by simp, fun a ha b hb => by simp at hb; subst hb; exact hx a ha⟩

theorem insK_spec (n : Int) (l : List Int) (hl : l.Pairwise (· < ·)) : ∀ k, k ≤ l.length →
    ((insK n (l.take k)).2 = false → (insK n (l.take k)).1 = l.take k ∧ ∀ x ∈ l.take k, x < n) ∧
    ((insK n (l.take k)).2 = true → (insK n (l.take k)).1.Pairwise (· < ·) ∧ (∀ x, x ∈ (insK n (l.take k)).1 ↔ x ∈ l.take k ∨ x = n) ∧ ∃ y ∈ l.take k, n ≤ y)
  | 0, _ => by simp [insK]
  | k + 1, h => by
    obtain ⟨ih0, ih1⟩ := insK_spec n l hl k (by omega)
    have hmem : ∀ x, x ∈ l.take (k + 1) ↔ x ∈ l.take k ∨ x = l[k] := fun x => by
      rw [List.take_succ_eq_append_getElem (by omega), List.mem_append]; simp
    have htk : l.take (k + 1) = l.take k ++ [l[k]] := List.take_succ_eq_append_getElem (by omega)
    have hlast : ∀ x ∈ l.take k, x < l[k] := fun x hx => by
      have hp : (l.take (k + 1)).Pairwise (· < ·) := hl.sublist (List.take_sublist _ _)
      rw [htk] at hp
      exact (List.pairwise_append.1 hp).2.2 x hx _ (by simp)
    have hpk : (l.take k).Pairwise (· < ·) := hl.sublist (List.take_sublist _ _)
    rw [insK_succ n l k (by omega)]
    generalize insK n (l.take k) = s at ih0 ih1
    obtain ⟨r, dn⟩ := s
    simp only at ih0 ih1
    unfold insS
    simp only
    cases dn with
    | false =>
      obtain ⟨rfl, hlt⟩ := ih0 rfl
      by_cases hc : n ≤ l[k]
      · rw [if_pos (by simp [hc])]
        by_cases hc2 : n < l[k]
        · rw [if_pos (by simp [hc2])]
          refine ⟨fun h => (by cases h), fun _ => ⟨pw_snoc (pw_snoc hpk hlt) (fun y hy => ?_), fun x => ?_, l[k], (hmem _).2 (.inr rfl), hc⟩⟩
          · rcases List.mem_append.1 hy with h | h
            · exact hlast y h
            · simp at h; subst h; exact hc2
          · rw [hmem]
            simp only [List.mem_append, List.mem_singleton]
            constructor
            · rintro ((h | h) | h)
              · exact .inl (.inl h)
              · exact .inr h
              · exact .inl (.inr h)
            · rintro ((h | h) | h)
              · exact .inl (.inl h)
              · exact .inr h
              · exact .inl (.inr h)
        · rw [if_neg (by simp; omega)]
          have he : n = l[k] := by omega
          refine ⟨fun h => (by cases h), fun _ => ⟨pw_snoc hpk hlast, fun x => ?_, l[k], (hmem _).2 (.inr rfl), hc⟩⟩
          rw [hmem]
          simp only [List.mem_append, List.mem_singleton]
          rw [he]
          constructor
          · exact .inl
          · rintro (h | h)
            · exact h
            · exact .inr h
      · rw [if_neg (by simp; omega)]
        refine ⟨fun _ => ⟨htk.symm, fun x hx => ?_⟩, fun h => (by cases h)⟩
        rcases (hmem x).1 hx with h | h
        · exact hlt x h
        · omega
    | true =>
      obtain ⟨h1, h2, y, hy, hny⟩ := ih1 rfl
      rw [if_neg (by simp)]
      refine ⟨fun h => (by cases h), fun _ => ⟨pw_snoc h1 (fun z hz => ?_), fun x => ?_, y, (hmem _).2 (.inl hy), hny⟩⟩
      · rcases (h2 z).1 hz with h | h
        · exact hlast z h
        · have := hlast y hy; omega
      · rw [hmem]
        simp only [List.mem_append, List.mem_singleton, h2]
        constructor
        · rintro ((h | h) | h)
          · exact .inl (.inl h)
          · exact .inr h
          · exact .inl (.inr h)
        · rintro ((h | h) | h)
          · exact .inl (.inl h)
          · exact .inr h
          · exact .inl (.inr h)
theorem insF_spec {l : List Int} (n : Int) (hl : l.Pairwise (· < ·)) : (insF l n).Pairwise (· < ·) ∧ ∀ x, x ∈ insF l n ↔ x ∈ l ∨ x = n := by
  obtain ⟨h0, h1⟩ := insK_spec n l hl l.length (Nat.le_refl _)
  rw [List.take_length] at h0 h1
  unfold insF
  cases hb : (insK n l).2 with
  | true =>
    rw [if_pos rfl]
    obtain ⟨a, b, _⟩ := h1 hb
    exact ⟨a, b⟩
  | false =>
    rw [if_neg (by simp)]
    obtain ⟨a, b⟩ := h0 hb
    rw [a]
    exact ⟨pw_snoc hl b, fun x => by simp⟩
theorem insF_len (l : List Int) (n : Int) : (insF l n).length ≤ l.length + 1 := by
  have h := insK_len n l l.length (Nat.le_refl _)
  rw [List.take_length] at h
  unfold insF
  split
  · rename_i hb; rw [hb] at h; simpa using h
  · rename_i hb; rw [if_neg hb] at h; simp; omega

def rMs (l : List As) (day : Int) (m : List Int) (r : Int) : List Int := if (!usb l day r) = true then insF m r else m
def rM (l : List As) (day : Int) (refs : List Int) : List Int := refs.foldl (rMs l day) []
theorem rM_succ (l : List As) (day : Int) (refs : List Int) (k : Nat) (h : k < refs.length) : rM l day (refs.take (k + 1)) = rMs l day (rM l day (refs.take k)) refs[k] := by
  rw [List.take_succ_eq_append_getElem h, rM, List.foldl_append]; rfl
theorem rM_len (l : List As) (day : Int) (refs : List Int) : ∀ k, k ≤ refs.length → (rM l day (refs.take k)).length ≤ k
  | 0, _ => by simp [rM]
  | k + 1, h => by
    have ih := rM_len l day refs k (by omega)
    rw [rM_succ l day refs k (by omega)]
    unfold rMs
    split
    · have := insF_len (rM l day (refs.take k)) refs[k]; omega
    · omega
theorem rM_spec (l : List As) (day : Int) (refs : List Int) : ∀ k, k ≤ refs.length → (rM l day (refs.take k)).Pairwise (· < ·) ∧ ∀ x, x ∈ rM l day (refs.take k) ↔ x ∈ refs.take k ∧ usb l day x = false
  | 0, _ => by simp [rM]
  | k + 1, h => by
    obtain ⟨h1, h2⟩ := rM_spec l day refs k (by omega)
    rw [rM_succ l day refs k (by omega)]
    have hmem : ∀ x, x ∈ refs.take (k + 1) ↔ x ∈ refs.take k ∨ x = refs[k] := fun x => by
      rw [List.take_succ_eq_append_getElem (by omega), List.mem_append]; simp
    unfold rMs
    split
    · rename_i hu
      obtain ⟨h3, h4⟩ := insF_spec refs[k] h1
      refine ⟨h3, fun x => ?_⟩
      rw [h4, h2, hmem]
      constructor
      · rintro (h | h)
        · exact ⟨.inl h.1, h.2⟩
        · refine ⟨.inr h, ?_⟩
          rw [h]
          simpa using hu
      · rintro ⟨h | h, h'⟩
        · exact .inl ⟨h, h'⟩
        · exact .inr h
    · rename_i hu
      refine ⟨h1, fun x => ?_⟩
      rw [h2, hmem]
      constructor
      · rintro ⟨h, h'⟩
        exact ⟨.inl h, h'⟩
      · rintro ⟨h | h, h'⟩
        · exact ⟨h, h'⟩
        · rw [h] at h'
          simp [h'] at hu
theorem rM_eq (l : List As) (day : Int) (refs : List Int) : rM l day refs = misF l day refs := by
  obtain ⟨h1, h2⟩ := rM_spec l day refs refs.length (Nat.le_refl _)
  rw [List.take_length] at h1 h2
  exact rising_ext h1 (misF_up l day refs) (fun x => by rw [h2, misF_mem])

def onc (refs : List Int) : List Int := refs.foldl insF []
theorem onc_succ (refs : List Int) (k : Nat) (h : k < refs.length) : onc (refs.take (k + 1)) = insF (onc (refs.take k)) refs[k] := by
  rw [List.take_succ_eq_append_getElem h, onc, List.foldl_append]; rfl
theorem onc_spec (refs : List Int) : ∀ k, k ≤ refs.length → (onc (refs.take k)).Pairwise (· < ·) ∧ (∀ x, x ∈ onc (refs.take k) ↔ x ∈ refs.take k) ∧ (onc (refs.take k)).length ≤ k
  | 0, _ => by simp [onc]
  | k + 1, h => by
    obtain ⟨h1, h2, h5⟩ := onc_spec refs k (by omega)
    rw [onc_succ refs k (by omega)]
    obtain ⟨h3, h4⟩ := insF_spec refs[k] h1
    refine ⟨h3, fun x => ?_, by have := insF_len (onc (refs.take k)) refs[k]; omega⟩
    rw [h4, h2, List.take_succ_eq_append_getElem (by omega), List.mem_append]
    simp
theorem onc_sum (L : List As) (R : List Int) : sumF (wt L) (onc R) = (bS L R).2 := by
  obtain ⟨h1, h2, _⟩ := onc_spec R R.length (Nat.le_refl _)
  rw [List.take_length] at h1 h2
  have h3 := bS_sum L R (onc R) (h1.imp (fun h => by omega)) (fun x hx => (h2 x).2 hx) R.length (Nat.le_refl _)
  rw [List.take_length] at h3
  rw [h3]
  refine sumF_congr fun u hu => ?_
  unfold ind
  rw [if_pos ((h2 u).1 hu)]
theorem sumF_succ (f : Int → Int) : ∀ (U : List Int) (k : Nat) (h : k < U.length), sumF f (U.take (k + 1)) = sumF f (U.take k) + f U[k]
  | u :: U, 0, _ => by simp [sumF]
  | u :: U, k + 1, h => by
    simp only [List.take_succ_cons, sumF, List.getElem_cons_succ]
    rw [sumF_succ f U k (by simpa using h)]
    omega
theorem sumF_bound (L : List As) (U : List Int) : ∀ k, k ≤ U.length → 0 ≤ sumF (wt L) (U.take k) ∧ sumF (wt L) (U.take k) ≤ k * 1048576
  | 0, _ => by simp [sumF]
  | k + 1, h => by
    have ih := sumF_bound L U k (by omega)
    have := wt_le L U[k]
    rw [sumF_succ _ U k (by omega)]
    omega
end Go.Proofs.Ytepkalebaaidcaa
