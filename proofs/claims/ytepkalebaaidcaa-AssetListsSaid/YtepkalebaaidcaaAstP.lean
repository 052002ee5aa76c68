/- Asset: the plain law of Bytes. No condition. -/
import Derived.Test.YtepkalebaaidcaaAstC
set_option linter.unusedSimpArgs false
namespace Go.Proofs.Ytepkalebaaidcaa
open Go.Eng

theorem exists_nodup : ∀ (l : List Int), ∃ U : List Int, U.Nodup ∧ ∀ x ∈ l, x ∈ U
  | [] => ⟨[], List.nodup_nil, by simp⟩
  | a :: l => by
    obtain ⟨U, h1, h2⟩ := exists_nodup l
    by_cases h : a ∈ U
    · exact ⟨U, h1, fun x hx => by rcases List.mem_cons.1 hx with rfl | hx; exact h; exact h2 x hx⟩
    · exact ⟨a :: U, List.nodup_cons.2 ⟨h, h1⟩, fun x hx => by
        rcases List.mem_cons.1 hx with rfl | hx
        · simp
        · exact List.mem_cons_of_mem _ (h2 x hx)⟩

def sumF (f : Int → Int) : List Int → Int
  | [] => 0
  | u :: U => f u + sumF f U
theorem sumF_congr {f g : Int → Int} : ∀ {U : List Int}, (∀ u ∈ U, f u = g u) → sumF f U = sumF g U
  | [], _ => rfl
  | u :: U, h => by simp only [sumF]; rw [h u (by simp), sumF_congr (fun v hv => h v (by simp [hv]))]
theorem sumF_add (f g : Int → Int) : ∀ (U : List Int), sumF f U + sumF g U = sumF (fun u => f u + g u) U
  | [] => rfl
  | u :: U => by simp only [sumF]; rw [← sumF_add f g U]; omega
theorem sumF_le {f g : Int → Int} (h : ∀ u, f u ≤ g u) : ∀ (U : List Int), sumF f U ≤ sumF g U
  | [] => Int.le_refl _
  | u :: U => by simp only [sumF]; have := h u; have := sumF_le h U; omega
theorem sumF_zero : ∀ (U : List Int), sumF (fun _ => 0) U = 0
  | [] => rfl
  | u :: U => by simp only [sumF]; rw [sumF_zero U]; rfl
theorem sumF_one {f g : Int → Int} {r c : Int} (hr : f r = g r + c) (ho : ∀ u, u ≠ r → f u = g u) : ∀ (U : List Int), U.Nodup → r ∈ U → sumF f U = sumF g U + c
  | [], _, h => by cases h
  | u :: U, hn, h => by
    rw [List.nodup_cons] at hn
    simp only [sumF]
    by_cases e : u = r
    · subst e
      rw [hr, sumF_congr (f := f) (g := g) (fun v hv => ho v (fun e => hn.1 (by rw [← e]; exact hv)))]
      omega
    · rw [ho u e, sumF_one hr ho U hn.2 (by rcases List.mem_cons.1 h with h | h; exact absurd h.symm e; exact h)]
      omega

def ind (l : List As) (refs : List Int) (u : Int) : Int := if u ∈ refs then wt l u else 0
theorem bS_mem (l : List As) (refs : List Int) : ∀ k, k ≤ refs.length → ∀ c, (assoc c (bS l (refs.take k)).1).isSome = true ↔ c ∈ refs.take k
  | 0, _, c => by simp [bS]
  | k + 1, h, c => by
    have ih := bS_mem l refs k (by omega)
    rw [bS_succ l refs k (by omega), List.take_succ_eq_append_getElem (by omega)]
    unfold bStep
    have ihr := ih refs[k]
    split
    · rename_i v hv
      rw [hv] at ihr
      have hm : refs[k] ∈ refs.take k := ihr.1 rfl
      rw [ih c, List.mem_append]
      constructor
      · exact .inl
      · rintro (h | h)
        · exact h
        · simp at h; rw [h]; exact hm
    · simp only [assoc]
      rw [List.mem_append, ← ih c]
      by_cases e : refs[k] = c
      · simp [e]
      · rw [if_neg e]
        constructor
        · exact .inl
        · rintro (h | h)
          · exact h
          · simp at h; exact absurd h.symm e
theorem bS_sum (l : List As) (refs U : List Int) (hU : U.Nodup) (hs : ∀ x ∈ refs, x ∈ U) : ∀ k, k ≤ refs.length → (bS l (refs.take k)).2 = sumF (ind l (refs.take k)) U
  | 0, _ => by
    rw [sumF_congr (g := fun _ => 0) (fun u _ => by simp [ind]), sumF_zero]
    rfl
  | k + 1, h => by
    have ih := bS_sum l refs U hU hs k (by omega)
    have hm := bS_mem l refs k (by omega) refs[k]
    rw [bS_succ l refs k (by omega)]
    have hin : ∀ u, u ∈ refs.take (k + 1) ↔ u ∈ refs.take k ∨ u = refs[k] := fun u => by
      rw [List.take_succ_eq_append_getElem (by omega), List.mem_append]; simp
    unfold bStep
    split
    · rename_i v hv
      rw [hv] at hm
      rw [ih]
      refine sumF_congr fun u _ => ?_
      unfold ind
      by_cases hu : u ∈ refs.take k
      · rw [if_pos hu, if_pos ((hin u).2 (.inl hu))]
      · rw [if_neg hu, if_neg (fun h => by
          rcases (hin u).1 h with h | h
          · exact hu h
          · exact hu (by rw [h]; exact hm.1 rfl))]
    · rename_i hv
      rw [hv] at hm
      have hnm : refs[k] ∉ refs.take k := fun h => by have := hm.2 h; cases this
      simp only
      rw [ih]
      symm
      refine sumF_one (r := refs[k]) ?_ ?_ U hU (hs _ (List.getElem_mem _))
      · unfold ind
        rw [if_pos ((hin _).2 (.inr rfl)), if_neg hnm]
        omega
      · intro u hu
        unfold ind
        by_cases h1 : u ∈ refs.take k
        · rw [if_pos h1, if_pos ((hin u).2 (.inl h1))]
        · rw [if_neg h1, if_neg (fun h => by rcases (hin u).1 h with h | h; exact h1 h; exact hu h)]

/-- What the law says of the sizes. -/
theorem once_plain (l : List As) (x y : List Int) (hx : x.length ≤ 40) (hy : y.length ≤ 40) :
    bF l (x ++ x) = bF l x ∧ 0 ≤ bF l x ∧ bF l [] = 0 ∧ bF l (x ++ y) = bF l (y ++ x) ∧ bF l x ≤ bF l (x ++ y) ∧ bF l x + bF l y = bF l (x ++ y) + bF l (x.filter fun r => decide (r ∈ y)) ∧
      bF l x ≤ 1000000000 ∧ bF l y ≤ 1000000000 ∧ bF l (x ++ y) ≤ 1000000000 ∧ (0 ≤ bF l y) ∧ 0 ≤ bF l (x ++ y) ∧ 0 ≤ bF l (x.filter fun r => decide (r ∈ y)) ∧ bF l (x.filter fun r => decide (r ∈ y)) ≤ 1000000000 := by
  obtain ⟨U, hU, hs⟩ := exists_nodup (x ++ y)
  have hsx : ∀ z ∈ x, z ∈ U := fun z hz => hs z (by simp [hz])
  have hsy : ∀ z ∈ y, z ∈ U := fun z hz => hs z (by simp [hz])
  have key : ∀ r : List Int, r.length ≤ 80 → (∀ z ∈ r, z ∈ U) → bF l r = sumF (ind (l.take 1024) r) U ∧ 0 ≤ bF l r ∧ bF l r ≤ 83886080 := fun r h1 h2 => by
    have ht : r.take 1024 = r := List.take_of_length_le (by omega)
    have h3 := bS_sum (l.take 1024) r U hU h2 r.length (Nat.le_refl _)
    have h4 := bS_le (l.take 1024) r r.length (Nat.le_refl _)
    unfold bF
    rw [ht]
    rw [List.take_length] at h3 h4
    exact ⟨h3, h4.1, by omega⟩
  have hfl : (x.filter fun r => decide (r ∈ y)).length ≤ 40 := Nat.le_trans (List.length_filter_le _ _) hx
  obtain ⟨k1, p1, q1⟩ := key x (by omega) hsx
  obtain ⟨k2, p2, q2⟩ := key y (by omega) hsy
  obtain ⟨k3, p3, q3⟩ := key (x ++ y) (by simp; omega) (fun z hz => by rcases List.mem_append.1 hz with h | h; exact hsx z h; exact hsy z h)
  obtain ⟨k4, p4, q4⟩ := key (y ++ x) (by simp; omega) (fun z hz => by rcases List.mem_append.1 hz with h | h; exact hsy z h; exact hsx z h)
  obtain ⟨k5, p5, q5⟩ := key (x ++ x) (by simp; omega) (fun z hz => by rcases List.mem_append.1 hz with h | h; exact hsx z h; exact hsx z h)
  obtain ⟨k6, p6, q6⟩ := key (x.filter fun r => decide (r ∈ y)) (by omega) (fun z hz => hsx z (List.mem_filter.1 hz).1)
  have hw := fun u => (wt_le (l.take 1024) u).1
  refine ⟨?_, p1, rfl, ?_, ?_, ?_, by omega, by omega, by omega, p2, p3, p6, by omega⟩
  · rw [k5, k1]
    exact sumF_congr fun u _ => by unfold ind; simp
  · rw [k3, k4]
    exact sumF_congr fun u _ => by unfold ind; simp only [List.mem_append, Or.comm]
  · rw [k1, k3]
    refine sumF_le (fun u => ?_) U
    unfold ind
    have := hw u
    by_cases h : u ∈ x
    · simp [h]
    · rw [if_neg h]
      split <;> omega
  · rw [k1, k2, k3, k6, sumF_add, sumF_add]
    refine sumF_congr fun u _ => ?_
    unfold ind
    by_cases h1 : u ∈ x <;> by_cases h2 : u ∈ y <;> simp [h1, h2]
end Go.Proofs.Ytepkalebaaidcaa
