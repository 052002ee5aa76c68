import Derived.Test.YtnklkkagpkcmfaaGreatDoorE4
import Derived.Test.YtnklkkagpkcmfaaGreatDoorProg
import Derived.KernelRfl
import Derived.IntWalk
set_option linter.all false
namespace Go.Eng.Limb

def limbs (l : List Nat) : Prop := ∀ x ∈ l, x < 4294967296
def valN : List Nat → Nat
  | [] => 0
  | x :: r => x + 4294967296 * valN r
def trimL : List Nat → List Nat
  | [] => []
  | x :: r => if trimL r = [] then (if x = 0 then [] else [x]) else x :: trimL r
theorem trimL_zero : ∀ (a : List Nat), trimL (a ++ [0]) = trimL a
  | [] => by simp [trimL]
  | x :: a => by simp [trimL, trimL_zero a]
theorem trimL_last (y : Nat) (h : y ≠ 0) : ∀ (a : List Nat), trimL (a ++ [y]) = a ++ [y]
  | [] => by simp [trimL, h]
  | x :: a => by simp [trimL, trimL_last y h a]
theorem trimL_len : ∀ (l : List Nat), (trimL l).length ≤ l.length
  | [] => by simp [trimL]
  | x :: r => by
    have := trimL_len r
    rw [trimL]
    split
    · split <;> simp
    · simp; omega
/-- The limbs of a number, without high zeros. -/
def natL (n : Nat) : List Nat := if h : n = 0 then [] else n % 4294967296 :: natL (n / 4294967296)
  termination_by n
  decreasing_by omega
theorem natL_zero : natL 0 = [] := by rw [natL]; simp
theorem natL_pos {n : Nat} (h : n ≠ 0) : natL n = n % 4294967296 :: natL (n / 4294967296) := by rw [natL]; simp [h]
theorem trimL_val : ∀ (l : List Nat), limbs l → trimL l = natL (valN l)
  | [], _ => by simp [trimL, valN, natL_zero]
  | x :: r, h => by
    have hx : x < 4294967296 := h x (by simp)
    have ih := trimL_val r (fun y hy => h y (by simp [hy]))
    rw [trimL, valN, ih]
    by_cases hv : valN r = 0
    · rw [hv, natL_zero]
      by_cases h0 : x = 0
      · subst h0; simp [natL_zero]
      · rw [if_pos rfl, if_neg h0, natL_pos (by omega)]
        rw [show (x + 4294967296 * 0) % 4294967296 = x by omega, show (x + 4294967296 * 0) / 4294967296 = 0 by omega, natL_zero]
    · have hne : natL (valN r) ≠ [] := by rw [natL_pos hv]; simp
      rw [if_neg hne, natL_pos (n := x + 4294967296 * valN r) (by omega)]
      rw [show (x + 4294967296 * valN r) % 4294967296 = x by omega, show (x + 4294967296 * valN r) / 4294967296 = valN r by omega]
theorem valN_natL (n : Nat) : valN (natL n) = n := by
  induction n using Nat.strongRecOn with
  | _ n ih =>
    by_cases h : n = 0
    · subst h; simp [natL_zero, valN]
    · rw [natL_pos h, valN, ih _ (by omega)]; omega
theorem limbs_natL (n : Nat) : limbs (natL n) := by
  induction n using Nat.strongRecOn with
  | _ n ih =>
    by_cases h : n = 0
    · subst h; simp [natL_zero, limbs]
    · rw [natL_pos h]
      intro x hx
      rcases List.mem_cons.1 hx with h1 | h1
      · omega
      · exact ih _ (by omega) x h1
/-- So many limbs of a number, the lowest ones. -/
def digs : Nat → Nat → List Nat
  | 0, _ => []
  | k + 1, v => v % 4294967296 :: digs k (v / 4294967296)
@[simp] theorem digs_len : ∀ (k v : Nat), (digs k v).length = k
  | 0, _ => rfl
  | k + 1, v => by simp [digs, digs_len k]
theorem digs_limbs : ∀ (k v : Nat), limbs (digs k v)
  | 0, _ => by simp [digs, limbs]
  | k + 1, v => by
    intro x hx
    rcases List.mem_cons.1 hx with h | h
    · rw [h]; exact Nat.mod_lt _ (by decide)
    · exact digs_limbs k _ x h
theorem digs_val : ∀ (k v : Nat), valN (digs k v) = v % 4294967296 ^ k
  | 0, v => by simp [digs, valN, Nat.mod_one]
  | k + 1, v => by
    rw [digs, valN, digs_val k, Nat.pow_succ, Nat.mul_comm (4294967296 ^ k) 4294967296, Nat.mod_mul]
theorem digs_of : ∀ (l : List Nat), limbs l → digs l.length (valN l) = l
  | [], _ => rfl
  | x :: r, h => by
    have hx : x < 4294967296 := h x (by simp)
    rw [List.length_cons, digs, valN, show (x + 4294967296 * valN r) % 4294967296 = x by omega, show (x + 4294967296 * valN r) / 4294967296 = valN r by omega, digs_of r (fun y hy => h y (by simp [hy]))]
theorem digs_get : ∀ (k v i : Nat), i < k → (digs k v)[i]? = some (v / 4294967296 ^ i % 4294967296)
  | 0, _, _, h => by omega
  | k + 1, v, 0, _ => by simp [digs]
  | k + 1, v, i + 1, h => by
    rw [digs, List.getElem?_cons_succ, digs_get k _ i (by omega), Nat.div_div_eq_div_mul, Nat.pow_succ, Nat.mul_comm]
theorem digs_snoc : ∀ (k v : Nat), digs (k + 1) v = digs k v ++ [v / 4294967296 ^ k % 4294967296]
  | 0, v => by simp [digs]
  | k + 1, v => by
    rw [digs, digs_snoc k, digs, Nat.div_div_eq_div_mul, Nat.pow_succ, Nat.mul_comm]
    rfl
theorem digs_take : ∀ (k v i : Nat), i ≤ k → (digs k v).take i = digs i v
  | _, _, 0, _ => by simp [digs]
  | 0, _, i + 1, h => by omega
  | k + 1, v, i + 1, h => by rw [digs, List.take_succ_cons, digs_take k _ i (by omega), digs]
theorem digs_drop : ∀ (k v i : Nat), i ≤ k → (digs k v).drop i = digs (k - i) (v / 4294967296 ^ i)
  | k, v, 0, _ => by simp
  | 0, _, i + 1, h => by omega
  | k + 1, v, i + 1, h => by
    rw [digs, List.drop_succ_cons, digs_drop k _ i (by omega), Nat.div_div_eq_div_mul, Nat.pow_succ, Nat.mul_comm, Nat.add_sub_add_right]
theorem digs_mod (k v : Nat) : digs k (v % 4294967296 ^ k) = digs k v := by
  have := digs_of (digs k v) (digs_limbs k v)
  rwa [digs_len, digs_val] at this
theorem digs_add (k m v : Nat) : digs (k + m) v = digs k v ++ digs m (v / 4294967296 ^ k) := by
  have h1 := digs_take (k + m) v k (by omega)
  have h2 := digs_drop (k + m) v k (by omega)
  rw [show k + m - k = m by omega] at h2
  rw [← h1, ← h2, List.take_append_drop]
theorem digs_trim {k v : Nat} (h : v < 4294967296 ^ k) : trimL (digs k v) = natL v := by
  rw [trimL_val _ (digs_limbs k v), digs_val, Nat.mod_eq_of_lt h]
theorem digs_cat (k m a b : Nat) (ha : a < 4294967296 ^ k) : digs k a ++ digs m b = digs (k + m) (a + 4294967296 ^ k * b) := by
  have hp : 0 < 4294967296 ^ k := Nat.pow_pos (by decide)
  rw [digs_add, Nat.add_mul_div_left _ _ hp, Nat.div_eq_of_lt ha, Nat.zero_add, ← digs_mod k (a + 4294967296 ^ k * b), Nat.add_mul_mod_self_left, digs_mod]
theorem valN_lt : ∀ (l : List Nat), limbs l → valN l < 4294967296 ^ l.length
  | [], _ => by simp [valN]
  | x :: r, h => by
    have hx : x < 4294967296 := h x (by simp)
    have ih := valN_lt r (fun y hy => h y (by simp [hy]))
    rw [valN, List.length_cons, Nat.pow_succ]
    have : 4294967296 * (valN r + 1) ≤ 4294967296 * 4294967296 ^ r.length := Nat.mul_le_mul_left _ ih
    rw [Nat.mul_comm (4294967296 ^ r.length)]
    omega
theorem valN_append : ∀ (a b : List Nat), valN (a ++ b) = valN a + 4294967296 ^ a.length * valN b
  | [], b => by simp [valN]
  | x :: a, b => by
    simp only [List.cons_append, valN, valN_append a b, List.length_cons, Nat.pow_succ]
    rw [Nat.mul_add, ← Nat.mul_assoc, Nat.mul_comm 4294967296 (4294967296 ^ a.length)]
    omega
/-- The length of a number's limbs. -/
theorem natL_digs (n : Nat) : natL n = digs (natL n).length n := by
  have := digs_of (natL n) (limbs_natL n)
  rw [valN_natL] at this
  exact this.symm
theorem natL_lt (n : Nat) : n < 4294967296 ^ (natL n).length := by
  have := valN_lt (natL n) (limbs_natL n)
  rwa [valN_natL] at this
theorem natL_nil {n : Nat} : natL n = [] ↔ n = 0 := by
  constructor
  · intro h
    have := valN_natL n
    rw [h] at this
    simpa [valN] using this.symm
  · rintro rfl; exact natL_zero
/-- The last limb of a number is not 0. -/
theorem natL_ge : ∀ (k n : Nat), (natL n).length = k + 1 → 4294967296 ^ k ≤ n
  | 0, n, h => by
    rcases Nat.eq_zero_or_pos n with h0 | h0
    · subst h0; rw [natL_zero] at h; simp at h
    · rw [Nat.pow_zero]; exact h0
  | k + 1, n, h => by
    have h0 : n ≠ 0 := by rintro rfl; rw [natL_zero] at h; simp at h
    rw [natL_pos h0, List.length_cons] at h
    have ih := natL_ge k (n / 4294967296) (by omega)
    have h2 := Nat.div_mul_le_self n 4294967296
    exact Nat.le_trans (Nat.mul_le_mul_right 4294967296 ih) h2
end Go.Eng.Limb

set_option maxRecDepth 20000
namespace Go.Eng.Limb

/-- The first digits give a quotient that is not too small. -/
theorem est_ge {u v u' v' W : Nat} (hv' : 0 < v') (hu : u < (u' + 1) * W) (hv : v' * W ≤ v) : u / v ≤ u' / v' := by
  rw [Nat.le_div_iff_mul_le hv']
  have h1 := Nat.div_mul_le_self u v
  have h2 : u / v * (v' * W) ≤ u / v * v := Nat.mul_le_mul_left _ hv
  have h3 : u / v * v' * W < (u' + 1) * W := by rw [Nat.mul_assoc]; omega
  have := Nat.lt_of_mul_lt_mul_right h3
  omega
/-- And at most one too great. -/
theorem est_le {u v u' v' W : Nat} (hW : 0 < W) (hu : u' * W ≤ u) (hv : v < (v' + 1) * W) (hq : u / v < v') (hv0 : 0 < v) : u' / v' ≤ u / v + 1 := by
  have hv' : 0 < v' := Nat.lt_of_le_of_lt (Nat.zero_le _) hq
  rcases Nat.lt_or_ge (u / v + 1) (u' / v') with h | h
  · exfalso
    have h1 : (u / v + 2) * v' ≤ u' := (Nat.le_div_iff_mul_le hv').1 h
    have h2 : u < (u / v + 1) * v := by
      have := Nat.lt_mul_div_succ u hv0
      rwa [Nat.mul_comm] at this
    have h3 : (u / v + 2) * v' * W ≤ u' * W := Nat.mul_le_mul_right _ h1
    have h4 : (u / v + 1) * v ≤ (u / v + 1) * ((v' + 1) * W) := Nat.mul_le_mul_left _ (Nat.le_of_lt hv)
    have h5 : (u / v + 2) * v' * W < (u / v + 1) * (v' + 1) * W := by
      rw [Nat.mul_assoc (u / v + 1)]
      omega
    have h6 := Nat.lt_of_mul_lt_mul_right h5
    generalize u / v = q at h6 hq
    rw [Nat.add_mul, Nat.mul_add, Nat.add_mul] at h6
    omega
  · exact h

/-- The search for a digit, from a first guess d with the rest r: x and y are the second digits. -/
def estF (a x y : Nat) : Nat → Nat → Nat → Nat
  | 0, d, _ => d
  | m + 1, d, r => if 4294967296 ≤ d ∨ r * 4294967296 + y < d * x then (if 4294967296 ≤ r + a then d - 1 else estF a x y m (d - 1) (r + a)) else d
/-- What the search finds. -/
theorem estF_eq {a x y top : Nat} (ha : 2147483648 ≤ a) (ha2 : a < 4294967296) (hx : x < 4294967296) (hy : y < 4294967296) (htop : top < (a + 1) * 4294967296) :
    ∀ (m d r : Nat), d * a + r = top → r < 4294967296 → 4294967296 ≤ r + m * a → min ((top * 4294967296 + y) / (a * 4294967296 + x)) 4294967295 ≤ d → estF a x y m d r = min ((top * 4294967296 + y) / (a * 4294967296 + x)) 4294967295 := by
  have hpos : 0 < a * 4294967296 + x := by omega
  -- a digit that may be taken
  have key : ∀ d r, d * a + r = top → (d ≤ (top * 4294967296 + y) / (a * 4294967296 + x) ↔ d * x ≤ r * 4294967296 + y) := fun d r h => by
    rw [Nat.le_div_iff_mul_le hpos, Nat.mul_add, ← Nat.mul_assoc, ← h, Nat.add_mul]
    omega
  generalize (top * 4294967296 + y) / (a * 4294967296 + x) = q at key ⊢
  intro m
  induction m with
  | zero => intro d r _ hr hm _; omega
  | succ m ih =>
    intro d r hd hr hm hq
    have hk := key d r hd
    rw [estF]
    split
    · rename_i hc
      have hd0 : 0 < d := by
        rcases Nat.eq_zero_or_pos d with h0 | h0
        · subst h0; omega
        · exact h0
      obtain ⟨e, rfl⟩ : ∃ e, d = e + 1 := ⟨d - 1, by omega⟩
      rw [Nat.add_sub_cancel]
      have he : e * a + (r + a) = top := by rw [← hd, Nat.add_mul]; omega
      have hle : min q 4294967295 ≤ e := by
        rcases Nat.lt_or_ge e (min q 4294967295) with h | h
        · exfalso
          have h1 : e + 1 ≤ q := by omega
          have h2 := hk.1 h1
          omega
        · exact h
      split
      · rename_i hbr
        have hek := key e (r + a) he
        have he2 : e < 4294967296 := by
          rcases Nat.lt_or_ge e 4294967296 with h | h
          · exact h
          · exfalso
            have := Nat.mul_le_mul_right a h
            rw [Nat.add_mul] at htop
            omega
        have h3 : e * x ≤ (r + a) * 4294967296 + y := by
          have h4 : e * x ≤ 4294967296 * 4294967296 := Nat.mul_le_mul (by omega) (by omega)
          have h5 : 4294967296 * 4294967296 ≤ (r + a) * 4294967296 := Nat.mul_le_mul_right _ hbr
          omega
        have := hek.2 h3
        omega
      · rename_i hbr
        exact ih e (r + a) he (by omega) (by rw [Nat.add_mul] at hm; omega) hle
    · rename_i hc
      have hc1 : d < 4294967296 := by omega
      have := hk.2 (by omega)
      omega
theorem estF_aux {u' v' : Nat} (b1 : 2147483648 * 4294967296 ≤ v') (b2 : v' < 4294967296 * 4294967296) (b3 : u' < (v' + 1) * 4294967296) :
    estF (v' / 4294967296) (v' % 4294967296) (u' % 4294967296) 3 (u' / 4294967296 / (v' / 4294967296)) (u' / 4294967296 % (v' / 4294967296)) = min (u' / v') 4294967295 := by
  have ha : 2147483648 ≤ v' / 4294967296 := by omega
  have ha2 : v' / 4294967296 < 4294967296 := by omega
  have htop : u' / 4294967296 < (v' / 4294967296 + 1) * 4294967296 := by omega
  have hE := estF_eq (x := v' % 4294967296) (y := u' % 4294967296) ha ha2 (by omega) (by omega) htop 3 (u' / 4294967296 / (v' / 4294967296)) (u' / 4294967296 % (v' / 4294967296)) (by
      have := Nat.div_add_mod (u' / 4294967296) (v' / 4294967296)
      rw [Nat.mul_comm] at this; exact this) (Nat.lt_trans (Nat.mod_lt (u' / 4294967296) (show 0 < v' / 4294967296 by omega)) ha2) (Nat.le_trans (show 4294967296 ≤ 3 * (v' / 4294967296) by omega) (Nat.le_add_left _ _)) (by
      have hd1 : u' / 4294967296 * 4294967296 + u' % 4294967296 = u' := by omega
      have hd2 : v' / 4294967296 * 4294967296 + v' % 4294967296 = v' := Nat.div_add_mod' v' 4294967296
      rw [hd1, hd2]
      refine Nat.le_trans (Nat.min_le_left _ _) ?_
      rw [Nat.le_div_iff_mul_le (show 0 < v' / 4294967296 by omega), Nat.le_div_iff_mul_le (show 0 < 4294967296 by decide)]
      have := Nat.div_mul_le_self u' v'
      have h2 : u' / v' * (v' / 4294967296 * 4294967296) ≤ u' / v' * v' := Nat.mul_le_mul_left _ (Nat.div_mul_le_self _ _)
      rw [← Nat.mul_assoc] at h2
      exact Nat.le_trans h2 this)
  have hd1 : u' / 4294967296 * 4294967296 + u' % 4294967296 = u' := by omega
  have hd2 : v' / 4294967296 * 4294967296 + v' % 4294967296 = v' := Nat.div_add_mod' v' 4294967296
  rw [hd1, hd2] at hE
  exact hE
/-- The digit of a quotient: it is the estimate, or one less. -/
theorem estF_digit {n u v : Nat} (hn : 2 ≤ n) (hv : 4294967296 ^ n ≤ 2 * v) (hv2 : v < 4294967296 ^ n) (hu : u < v * 4294967296) (d : Nat)
    (hd : d = estF (v / 4294967296 ^ (n - 1)) (v / 4294967296 ^ (n - 2) % 4294967296) (u / 4294967296 ^ (n - 2) % 4294967296) 3 (u / 4294967296 ^ (n - 1) / (v / 4294967296 ^ (n - 1))) (u / 4294967296 ^ (n - 1) % (v / 4294967296 ^ (n - 1)))) :
    d < 4294967296 ∧ (d = u / v ∨ d = u / v + 1) := by
  obtain ⟨k, rfl⟩ : ∃ k, n = k + 2 := ⟨n - 2, by omega⟩
  rw [show k + 2 - 1 = k + 1 by omega, show k + 2 - 2 = k by omega] at hd
  have hW : 0 < 4294967296 ^ k := Nat.pow_pos (by decide)
  have e1 : 4294967296 ^ (k + 1) = 4294967296 ^ k * 4294967296 := Nat.pow_succ ..
  have e2 : 4294967296 ^ (k + 2) = 4294967296 ^ k * 4294967296 * 4294967296 := by rw [Nat.pow_succ, Nat.pow_succ]
  rw [e1, ← Nat.div_div_eq_div_mul, ← Nat.div_div_eq_div_mul] at hd
  rw [e2] at hv hv2
  clear e1 e2
  generalize 4294967296 ^ k = W at *
  have hv0 : 0 < v := by
    rcases Nat.eq_zero_or_pos v with h0 | h0
    · subst h0; omega
    · exact h0
  obtain ⟨v', hv'⟩ : ∃ v', v' = v / W := ⟨_, rfl⟩
  obtain ⟨u', hu'⟩ : ∃ u', u' = u / W := ⟨_, rfl⟩
  rw [← hv', ← hu'] at hd
  have a1 : v' * W ≤ v := by rw [hv']; exact Nat.div_mul_le_self v W
  have a2 : v < (v' + 1) * W := by have := Nat.lt_mul_div_succ v hW; rw [← hv', Nat.mul_comm] at this; exact this
  have a3 : u' * W ≤ u := by rw [hu']; exact Nat.div_mul_le_self u W
  have a4 : u < (u' + 1) * W := by have := Nat.lt_mul_div_succ u hW; rw [← hu', Nat.mul_comm] at this; exact this
  have b1 : 2147483648 * 4294967296 ≤ v' := by
    have : W * (2147483648 * 4294967296) < W * (v' + 1) := by
      have h1 : W * 4294967296 * 4294967296 ≤ 2 * v := hv
      have h2 : W * 4294967296 * 4294967296 = 2 * (W * (2147483648 * 4294967296)) := by rw [Nat.mul_assoc W, ← Nat.mul_assoc 2, Nat.mul_comm 2 W, Nat.mul_assoc]
      rw [Nat.mul_comm W (v' + 1)]
      omega
    exact Nat.le_of_lt_succ (Nat.lt_of_mul_lt_mul_left this)
  have b2 : v' < 4294967296 * 4294967296 := by
    have h1 : v' * W < 4294967296 * 4294967296 * W := by rw [Nat.mul_comm (4294967296 * 4294967296) W, ← Nat.mul_assoc]; omega
    exact Nat.lt_of_mul_lt_mul_right h1
  have hq : u / v < 4294967296 := by rw [Nat.div_lt_iff_lt_mul hv0, Nat.mul_comm]; exact hu
  have b3 : u' < (v' + 1) * 4294967296 := by
    have h1 : u' * W < (v' + 1) * 4294967296 * W := by
      have : v * 4294967296 ≤ (v' + 1) * W * 4294967296 := Nat.mul_le_mul_right _ (Nat.le_of_lt a2)
      have e : (v' + 1) * W * 4294967296 = (v' + 1) * 4294967296 * W := by rw [Nat.mul_assoc, Nat.mul_comm W, Nat.mul_assoc]
      omega
    exact Nat.lt_of_mul_lt_mul_right h1
  have c1 := est_ge (by omega) a4 a1
  have c2 := est_le hW a3 a2 (by omega) hv0
  have hE := estF_aux b1 b2 b3
  rw [hd, hE]
  omega
end Go.Eng.Limb

namespace Go.Eng.Limb

theorem mod_next (v P : Nat) : v % (P * 4294967296) = v % P + P * (v / P % 4294967296) := Nat.mod_mul
/-- One limb of u - d * v: x is what is done, c what is carried, b what is borrowed. -/
theorem sub_step {x d v u P c b y b' : Nat} (h : x + d * (v % P) = u % P + P * (c + b)) (hb : y + (d * (v / P % 4294967296) + c) % 4294967296 + b = u / P % 4294967296 + 4294967296 * b') :
    (x + P * y) + d * (v % (P * 4294967296)) = u % (P * 4294967296) + P * 4294967296 * ((d * (v / P % 4294967296) + c) / 4294967296 + b') := by
  rw [mod_next, mod_next]
  generalize v / P % 4294967296 = vk at *
  generalize u / P % 4294967296 = uk at *
  have hp := Nat.div_add_mod (d * vk + c) 4294967296
  generalize (d * vk + c) / 4294967296 = q at *
  generalize (d * vk + c) % 4294967296 = r at *
  have h1 : P * y + P * r + P * b = P * uk + P * (4294967296 * b') := by rw [← Nat.mul_add, ← Nat.mul_add, hb, Nat.mul_add]
  have h2 : P * (4294967296 * q) + P * r = P * (d * vk) + P * c := by rw [← Nat.mul_add, hp, Nat.mul_add]
  have h3 : d * (v % P + P * vk) = d * (v % P) + P * (d * vk) := by rw [Nat.mul_add, Nat.mul_left_comm]
  have h4 : P * (c + b) = P * c + P * b := Nat.mul_add ..
  have h5 : P * 4294967296 * (q + b') = P * (4294967296 * q) + P * (4294967296 * b') := by rw [Nat.mul_assoc, Nat.mul_add, Nat.mul_add]
  rw [h3, h5]
  rw [h4] at h
  omega
/-- One limb of u + v. -/
theorem add_step {x v u P c y c' : Nat} (h : x + P * c = u % P + v % P) (hb : y + 4294967296 * c' = u / P % 4294967296 + v / P % 4294967296 + c) :
    (x + P * y) + P * 4294967296 * c' = u % (P * 4294967296) + v % (P * 4294967296) := by
  rw [mod_next, mod_next]
  generalize v / P % 4294967296 = vk at *
  generalize u / P % 4294967296 = uk at *
  have h1 : P * y + P * (4294967296 * c') = P * uk + P * vk + P * c := by rw [← Nat.mul_add, ← Nat.mul_add, ← Nat.mul_add, hb]
  rw [Nat.mul_assoc]
  omega
/-- One limb of a * s. -/
theorem shl_step {a s P : Nat} (hP : 0 < P) (hs : 0 < s) : (a % P * s) / P < s ∧ a % (P * 4294967296) * s = a % P * s + P * (a / P % 4294967296 * s) := by
  constructor
  · rw [Nat.div_lt_iff_lt_mul hP, Nat.mul_comm s P]
    exact Nat.mul_lt_mul_of_pos_right (Nat.mod_lt _ hP) hs
  · rw [mod_next, Nat.add_mul, Nat.mul_assoc]
theorem digs_set (k v i y : Nat) (h : i < k) : (digs k v).set i y = digs i v ++ y :: digs (k - i - 1) (v / 4294967296 ^ (i + 1)) := by
  have h1 := digs_take k v i (by omega)
  have h2 := digs_drop k v (i + 1) (by omega)
  rw [List.set_eq_take_append_cons_drop, if_pos (by simpa using h), h1, h2, Nat.sub_sub]
end Go.Eng.Limb

set_option maxRecDepth 4000
namespace Go.Eng.Limb

theorem pow_pos' (k : Nat) : 0 < 4294967296 ^ k := Nat.pow_pos (by decide)
/-- A divisor, shifted so that its highest bit is set. -/
theorem norm_div {n b s t : Nat} (ht : t = b / 4294967296 ^ n) (h1 : 2147483648 ≤ t * 2 ^ s) (h2 : t * 2 ^ s < 4294967296) (hs : s ≤ 32) :
    4294967296 ^ (n + 1) ≤ 2 * (b * 2 ^ s) ∧ b * 2 ^ s < 4294967296 ^ (n + 1) := by
  have hP := pow_pos' n
  rw [Nat.pow_succ]
  generalize 4294967296 ^ n = P at *
  have hb1 : t * P ≤ b := by rw [ht]; exact Nat.div_mul_le_self b P
  have hb2 : b < (t + 1) * P := by have := Nat.lt_mul_div_succ b hP; rw [← ht, Nat.mul_comm] at this; exact this
  have hS : 0 < 2 ^ s := Nat.pow_pos (by decide)
  obtain ⟨e, he⟩ : ∃ e, 4294967296 = 2 ^ s * e := ⟨2 ^ (32 - s), by rw [← Nat.pow_add, show s + (32 - s) = 32 by omega]⟩
  have h3 : (t + 1) * 2 ^ s ≤ 4294967296 := by
    rw [he, Nat.mul_comm] at h2 ⊢
    exact Nat.mul_le_mul_left _ (Nat.lt_of_mul_lt_mul_left h2)
  generalize 2 ^ s = S at *
  constructor
  · have h4 : t * P * S ≤ b * S := Nat.mul_le_mul_right _ hb1
    have h5 : P * 2147483648 ≤ P * (t * S) := Nat.mul_le_mul_left _ h1
    have e1 : t * P * S = P * (t * S) := by rw [Nat.mul_comm t P, Nat.mul_assoc]
    rw [e1] at h4
    have h6 : P * 4294967296 = 2 * (P * 2147483648) := by rw [Nat.mul_left_comm]
    rw [h6]
    exact Nat.mul_le_mul_left 2 (Nat.le_trans h5 h4)
  · have h4 : b * S < (t + 1) * P * S := Nat.mul_lt_mul_of_pos_right hb2 hS
    have h5 : P * ((t + 1) * S) ≤ P * 4294967296 := Nat.mul_le_mul_left _ h3
    have e1 : (t + 1) * P * S = P * ((t + 1) * S) := by rw [Nat.mul_comm (t + 1) P, Nat.mul_assoc]
    omega
/-- One digit: what is left. -/
theorem div_step {V R P q u : Nat} (hP : 0 < P) (hV : 0 < V) (hR : R < V * (P * 4294967296)) (hu : u = R / P) (hq : q = u / V) :
    u < V * 4294967296 ∧ q < 4294967296 ∧ q * V ≤ u ∧ R = q * V * P + ((u - q * V) * P + R % P) ∧ (u - q * V) * P + R % P < V * P := by
  have h1 : u < V * 4294967296 := by
    rw [hu, Nat.div_lt_iff_lt_mul hP, Nat.mul_assoc, Nat.mul_comm 4294967296 P]
    exact hR
  have h2 : q * V ≤ u := by rw [hq]; exact Nat.div_mul_le_self u V
  have h3 : u < (q + 1) * V := by have := Nat.lt_mul_div_succ u hV; rw [← hq, Nat.mul_comm] at this; exact this
  have h4 : q < 4294967296 := by
    rw [hq, Nat.div_lt_iff_lt_mul hV, Nat.mul_comm]; exact h1
  have h5 : u * P + R % P = R := by rw [hu]; exact Nat.div_add_mod' R P
  have h6 := Nat.mod_lt R hP
  refine ⟨h1, h4, h2, ?_, ?_⟩
  · rw [Nat.sub_mul]
    have : q * V * P ≤ u * P := Nat.mul_le_mul_right _ h2
    omega
  · have h7 : u - q * V < V := by rw [Nat.add_mul] at h3; omega
    have h8 : (u - q * V + 1) * P ≤ V * P := Nat.mul_le_mul_right _ h7
    rw [Nat.add_mul] at h8
    omega
/-- What is left at the end. -/
theorem div_end {a b S Q R : Nat} (hS : 0 < S) (hb : 0 < b) (h : a * S = Q * (b * S) + R) (hR : R < b * S) : Q = a / b ∧ R / S = a % b := by
  have h1 : a * S = S * (Q * b) + R := by rw [h]; congr 1; rw [Nat.mul_comm b S, Nat.mul_left_comm]
  have h2 : S ∣ R := by
    refine (Nat.dvd_add_right (Nat.dvd_mul_right S (Q * b))).1 ?_
    rw [← h1]; exact Nat.dvd_mul_left S a
  obtain ⟨r, rfl⟩ := h2
  have h3 : a = Q * b + r := by
    rw [← Nat.mul_add, Nat.mul_comm a S] at h1
    exact Nat.eq_of_mul_eq_mul_left hS h1
  have h4 : r < b := by rw [Nat.mul_comm b S] at hR; exact Nat.lt_of_mul_lt_mul_left hR
  constructor
  · rw [h3, Nat.mul_comm Q b, Nat.mul_add_div hb, Nat.div_eq_of_lt h4, Nat.add_zero]
  · rw [Nat.mul_div_cancel_left _ hS, h3, Nat.mul_comm Q b, Nat.mul_add_mod, Nat.mod_eq_of_lt h4]
/-- The row of what is left, behind one digit. -/
theorem digs_put {m n j R w : Nat} (hj : j + n ≤ m) (hw : w < 4294967296 ^ n) (hR : R < 4294967296 ^ (j + n)) :
    digs j R ++ digs n w ++ digs (m - j - n) (R / 4294967296 ^ (j + n)) = digs m (w * 4294967296 ^ j + R % 4294967296 ^ j) := by
  have h1 := digs_cat j n (R % 4294967296 ^ j) w (Nat.mod_lt _ (pow_pos' j))
  rw [digs_mod] at h1
  rw [h1, Nat.div_eq_of_lt hR]
  have h2 : R % 4294967296 ^ j + 4294967296 ^ j * w < 4294967296 ^ (j + n) := by
    have := Nat.mod_lt R (pow_pos' j)
    have h3 : 4294967296 ^ j * (w + 1) ≤ 4294967296 ^ j * 4294967296 ^ n := Nat.mul_le_mul_left _ hw
    rw [Nat.mul_add, ← Nat.pow_add] at h3
    generalize 4294967296 ^ j = J at *
    generalize 4294967296 ^ (j + n) = K at *
    generalize J * w = L at *
    omega
  rw [digs_cat _ _ _ _ h2, Nat.mul_zero, Nat.add_zero, show j + n + (m - j - n) = m by omega, Nat.add_comm, Nat.mul_comm]
end Go.Eng.Limb

namespace Go.Eng.Limb
open Go.Eng

theorem wrap_in {x : Int} (h1 : -9223372036854775808 ≤ x) (h2 : x < 9223372036854775808) : IntKind.i64.wrap x = x := by
  rw [IntKind.wrap_i64]; omega
theorem wrap_succ {k : Nat} (h : (k : Int) < 9223372036854775807) : IntKind.i64.wrap ((k : Int) + 1) = ((k + 1 : Nat) : Int) := by
  rw [wrap_in (by omega) (by omega)]; omega
theorem wrap_u32 (n : Nat) : IntKind.u32.wrap (n : Int) = ((n % 4294967296 : Nat) : Int) := by rw [IntKind.wrap_u32]; omega
theorem wrap_u64 {n : Nat} (h : n < 18446744073709551616) : IntKind.u64.wrap (n : Int) = (n : Int) := by rw [IntKind.wrap_u64]; omega
theorem shr32 (n : Nat) : (n : Int).fdiv (2 ^ min 32 IntKind.u64.bits) = ((n / 4294967296 : Nat) : Int) := by
  show (n : Int).fdiv 4294967296 = _
  rw [Int.fdiv_eq_ediv_of_nonneg _ (by omega)]; omega
abbrev u32V (n : Nat) : V := .int .u32 (n : Int)
abbrev u32s (l : List Nat) : List V := l.map u32V
theorem u32s_pure (l : List Nat) : (u32s l).all V.pureE = true := by
  rw [List.all_eq_true]; intro v hv; obtain ⟨s, _, rfl⟩ := List.mem_map.1 hv; rfl
/-- The limb at a place, 0 behind the end. -/
def limbAt (l : List Nat) (i : Nat) : Nat := match l[i]? with | some x => x | none => 0
theorem nthU (l : List Nat) (k : Nat) (h : k < l.length) : nth (u32s l) k = some (.int .u32 (limbAt l k)) := by
  rw [nth_eq, List.getElem?_map, limbAt, List.getElem?_eq_getElem h]; rfl
theorem limbAt_digs {k v i : Nat} (h : i < k) : limbAt (digs k v) i = v / 4294967296 ^ i % 4294967296 := by
  unfold limbAt
  rw [digs_get k v i h]
theorem nthD {k v i : Nat} (h : i < k) : nth (u32s (digs k v)) i = some (.int .u32 ((v / 4294967296 ^ i % 4294967296 : Nat) : Int)) := by
  rw [nthU _ _ (by simpa using h), limbAt_digs h]
def cmpN (x y : Nat) : Int := if x < y then -1 else if y < x then 1 else 0
/-- Numbers whose higher limbs are alike, compared by a limb. -/
theorem lt_of_limb {a b P : Nat} (hP : 0 < P) (h : a / (P * 4294967296) = b / (P * 4294967296)) (hl : a / P % 4294967296 < b / P % 4294967296) : a < b := by
  rw [← Nat.div_div_eq_div_mul, ← Nat.div_div_eq_div_mul] at h
  have h1 : a / P < b / P := by omega
  rcases Nat.lt_or_ge a b with h2 | h2
  · exact h2
  · have := Nat.div_le_div_right (c := P) h2
    omega
theorem eq_of_limb {a b P : Nat} (h : a / (P * 4294967296) = b / (P * 4294967296)) (hl : a / P % 4294967296 = b / P % 4294967296) : a / P = b / P := by
  rw [← Nat.div_div_eq_div_mul, ← Nat.div_div_eq_div_mul] at h
  omega
theorem bits_or64 (a b : Nat) (h8 : a < 2 ^ 64 ∧ b < 2 ^ 64) : bits .or .u64 a b = ((a ||| b : Nat) : Int) := by
  have ha : BitVec.ofInt 64 (a : Int) = BitVec.ofNat 64 a := by simp
  have hb : BitVec.ofInt 64 (b : Int) = BitVec.ofNat 64 b := by simp
  have h1 : a ||| b < 2 ^ 64 := Nat.or_lt_two_pow h8.1 h8.2
  show IntKind.u64.wrap ((BitVec.ofInt 64 (a : Int) ||| BitVec.ofInt 64 (b : Int)).toNat : Int) = _
  rw [ha, hb, BitVec.toNat_or, BitVec.toNat_ofNat, BitVec.toNat_ofNat, Nat.mod_eq_of_lt h8.1, Nat.mod_eq_of_lt h8.2, IntKind.wrap_u64]
  omega
theorem or_add {x y k : Nat} (h : x < 2 ^ k) : y * 2 ^ k ||| x = y * 2 ^ k + x := by
  have := Nat.two_pow_add_eq_or_of_lt (i := k) (b := x) h y
  rw [Nat.mul_comm] at this
  exact this.symm
theorem digs_inj_len {n m : Nat} (h : n < 4294967296 ^ m) : (natL n).length ≤ m := by
  rw [← digs_trim h]
  have := trimL_len (digs m n)
  rwa [digs_len] at this
end Go.Eng.Limb

namespace Go.Eng.Limb
open Go.Eng
/-- Integers as a list of values. -/
def ints (l : List Int) : List V := l.map (V.int .i64)
@[simp] theorem ints_len (l : List Int) : (ints l).length = l.length := by simp [ints]
theorem ints_nth {l : List Int} {k : Nat} (h : k < l.length) : nth (ints l) k = some (.int .i64 l[k]) := by rw [nth_eq]; simp [ints, h]
theorem ints_pure (l : List Int) : (ints l).all V.pureE = true := by
  rw [List.all_eq_true]; intro x hx; simp only [ints, List.mem_map] at hx; obtain ⟨n, _, rfl⟩ := hx; rfl
/-- The first answer that is not 0. -/
def fstE {α : Type} (f : α → Int) : List α → Int
  | [] => 0
  | x :: r => if f x ≠ 0 then f x else fstE f r
theorem fstE_drop {α : Type} (f : α → Int) {l : List α} {k : Nat} (h : k < l.length) : fstE f (l.drop k) = if f l[k] ≠ 0 then f l[k] else fstE f (l.drop (k + 1)) := by
  rw [List.drop_eq_getElem_cons h, fstE]
theorem any_drop {α : Type} (f : α → Bool) {l : List α} {k : Nat} (h : k < l.length) : (l.drop k).any f = (f l[k] || (l.drop (k + 1)).any f) := by
  rw [List.drop_eq_getElem_cons h, List.any_cons]
theorem all_drop {α : Type} (f : α → Bool) {l : List α} {k : Nat} (h : k < l.length) : (l.drop k).all f = (f l[k] && (l.drop (k + 1)).all f) := by
  rw [List.drop_eq_getElem_cons h, List.all_cons]
theorem fstE_zero {α : Type} {f : α → Int} : ∀ {l : List α}, fstE f l = 0 → ∀ x ∈ l, f x = 0
  | [], _, x, hx => by cases hx
  | y :: r, h, x, hx => by
    rw [fstE] at h
    split at h
    · rename_i h'; exact absurd h h'
    · rename_i h'
      rcases List.mem_cons.1 hx with e | e
      · subst e; exact Classical.not_not.1 h'
      · exact fstE_zero h x e
/-- Whether numbers rise. -/
def rises : List Int → Bool
  | [] => true
  | [_] => true
  | a :: b :: r => decide (a < b) && rises (b :: r)
theorem rises_drop {l : List Int} {k : Nat} (h : k + 1 < l.length) : rises (l.drop k) = (decide (l[k]'(by omega) < l[k + 1]) && rises (l.drop (k + 1))) := by
  rw [List.drop_eq_getElem_cons (by omega : k < l.length), List.drop_eq_getElem_cons h, rises]
theorem rises_end {l : List Int} {k : Nat} (h : l.length ≤ k + 1) : rises (l.drop k) = true := by
  have : (l.drop k).length ≤ 1 := by simp; omega
  match hd : l.drop k, this with
  | [], _ => rfl
  | [_], _ => rfl

/-- A grid of abilities. -/
structure Gr where
  pts : List Int
  pri : List Int
def Gr.v (g : Gr) : V := .agg [.ro 1 (ints g.pts), .ro 1 (ints g.pri)]
def badPt (p w : Int) : Bool := decide (p < -1000) || decide (1000 < p) || decide (w < 1) || decide (1000 < w)
def badPts : List Int → List Int → Bool
  | p :: ps, w :: ws => badPt p w || badPts ps ws
  | _, _ => false
theorem badPts_drop : ∀ {l m : List Int} {k : Nat} (h1 : k < l.length) (h2 : k < m.length), badPts (l.drop k) (m.drop k) = (badPt l[k] m[k] || badPts (l.drop (k + 1)) (m.drop (k + 1))) := by
  intro l m k h1 h2
  rw [List.drop_eq_getElem_cons h1, List.drop_eq_getElem_cons h2, badPts]
def gridE (g : Gr) : Int :=
  if 21 < g.pts.length then 5 else if g.pts.length = 0 then 20 else if g.pri.length ≠ g.pts.length then 1
  else if badPts g.pts g.pri = true then 3 else if rises g.pts = false then 23 else 0
theorem badPts_get : ∀ {l m : List Int}, l.length = m.length → badPts l m = false → (∀ p ∈ l, -1000 ≤ p ∧ p ≤ 1000) ∧ ∀ w ∈ m, 1 ≤ w ∧ w ≤ 1000
  | [], [], _, _ => by simp
  | p :: ps, w :: ws, hl, h => by
    rw [badPts, Bool.or_eq_false_iff] at h
    obtain ⟨h1, h2⟩ := badPts_get (l := ps) (m := ws) (by simpa using hl) h.2
    simp [badPt] at h
    refine ⟨fun x hx => ?_, fun x hx => ?_⟩
    · rcases List.mem_cons.1 hx with e | e
      · subst e; omega
      · exact h1 x e
    · rcases List.mem_cons.1 hx with e | e
      · subst e; omega
      · exact h2 x e
structure Gr.ok (g : Gr) : Prop where
  len : g.pts.length ≤ 21
  pos : 0 < g.pts.length
  same : g.pri.length = g.pts.length
  pts : ∀ p ∈ g.pts, -1000 ≤ p ∧ p ≤ 1000
  pri : ∀ w ∈ g.pri, 1 ≤ w ∧ w ≤ 1000
  ord : rises g.pts = true
theorem grid_ok {g : Gr} (h : gridE g = 0) : g.ok := by
  unfold gridE at h
  (repeat' split at h) <;> try omega
  rename_i h1 h2 h3 h4 h5
  obtain ⟨h6, h7⟩ := badPts_get (l := g.pts) (m := g.pri) (by omega) (by simpa using h4)
  exact ⟨by omega, by omega, by omega, h6, h7, by simpa using h5⟩
end Go.Eng.Limb

namespace Go.Eng.Limb
open Go.Eng
/-- The limbs of natural numbers, as values. -/
def natsV (w : List Nat) : List V := w.map fun n => .ro 1 (u32s (natL n))
@[simp] theorem natsV_len (w : List Nat) : (natsV w).length = w.length := by simp [natsV]
theorem natsV_nth {w : List Nat} {k : Nat} (h : k < w.length) : nth (natsV w) k = some (.ro 1 (u32s (natL w[k]))) := by rw [nth_eq]; simp [natsV, h]
theorem natsV_pure (w : List Nat) : (natsV w).all V.pureE = true := by
  rw [List.all_eq_true]; intro x hx; simp only [natsV, List.mem_map] at hx; obtain ⟨n, _, rfl⟩ := hx
  simpa [V.pureE] using u32s_pure (natL n)
/-- Sums of weights, of weights times points, of weights times squares of points. -/
def sum0 : List Nat → Nat
  | [] => 0
  | w :: r => w + sum0 r
def sum1 : List Int → List Nat → Int
  | p :: ps, w :: r => w * p + sum1 ps r
  | _, _ => 0
def sum2 : List Int → List Nat → Int
  | p :: ps, w :: r => w * p * p + sum2 ps r
  | _, _ => 0
theorem sum0_drop {w : List Nat} {k : Nat} (h : k < w.length) : sum0 (w.drop k) = w[k] + sum0 (w.drop (k + 1)) := by rw [List.drop_eq_getElem_cons h, sum0]
theorem sum1_drop {l : List Int} {w : List Nat} {k : Nat} (h1 : k < l.length) (h2 : k < w.length) : sum1 (l.drop k) (w.drop k) = w[k] * l[k] + sum1 (l.drop (k + 1)) (w.drop (k + 1)) := by
  rw [List.drop_eq_getElem_cons h1, List.drop_eq_getElem_cons h2, sum1]
theorem sum2_drop {l : List Int} {w : List Nat} {k : Nat} (h1 : k < l.length) (h2 : k < w.length) : sum2 (l.drop k) (w.drop k) = w[k] * l[k] * l[k] + sum2 (l.drop (k + 1)) (w.drop (k + 1)) := by
  rw [List.drop_eq_getElem_cons h1, List.drop_eq_getElem_cons h2, sum2]
/-- A model: the weights of the categories at each point. -/
abbrev Mo := List (List Int)
def rowsV (m : Mo) : List V := m.map fun r => .ro 1 (ints r)
@[simp] theorem rowsV_len (m : Mo) : (rowsV m).length = m.length := by simp [rowsV]
theorem rowsV_nth {m : Mo} {k : Nat} (h : k < m.length) : nth (rowsV m) k = some (.ro 1 (ints m[k])) := by rw [nth_eq]; simp [rowsV, h]
theorem rowsV_pure (m : Mo) : (rowsV m).all V.pureE = true := by
  rw [List.all_eq_true]; intro x hx; simp only [rowsV, List.mem_map] at hx; obtain ⟨n, _, rfl⟩ := hx
  simpa [V.pureE] using ints_pure n
def moV (m : Mo) : V := .agg [.ro 1 (rowsV m)]
def sumI : List Int → Int
  | [] => 0
  | x :: r => x + sumI r
def badW (x : Int) : Bool := decide (x < 1) || decide (1000 < x)
def rowE (c : Nat) (r : List Int) : Int := if r.length ≠ c then 1 else if r.any badW = true then 3 else if sumI r ≠ 1000 then 19 else 0
def cats (m : Mo) : Nat := match m with | [] => 0 | r :: _ => r.length
def modelE (m : Mo) (n : Int) : Int :=
  if n < 1 ∨ 21 < n ∨ (m.length : Int) ≠ n then 1
  else if cats m < 2 ∨ 6 < cats m then 3 else fstE (rowE (cats m)) m
theorem sumI_drop {l : List Int} {k : Nat} (h : k < l.length) : sumI (l.drop k) = l[k] + sumI (l.drop (k + 1)) := by rw [List.drop_eq_getElem_cons h, sumI]
structure moOk (m : Mo) (n : Nat) : Prop where
  len : m.length = n
  pos : 0 < n
  le : n ≤ 21
  two : 2 ≤ cats m
  six : cats m ≤ 6
  row : ∀ r ∈ m, r.length = cats m ∧ (∀ x ∈ r, 1 ≤ x ∧ x ≤ 1000) ∧ sumI r = 1000
theorem model_ok {m : Mo} {n : Nat} (h : modelE m n = 0) : moOk m n := by
  unfold modelE at h
  (repeat' split at h) <;> try omega
  rename_i h1 h2
  refine ⟨by omega, by omega, by omega, by omega, by omega, fun r hr => ?_⟩
  have h3 := fstE_zero h r hr
  unfold rowE at h3
  (repeat' split at h3) <;> try omega
  rename_i h4 h5 h6
  refine ⟨by omega, fun x hx => ?_, by omega⟩
  have := List.any_eq_false.1 (by simpa using h5 : r.any badW = false) x hx
  simp [badW] at this
  omega
end Go.Eng.Limb

namespace Go.Proofs.YtnklkkagpkcmfaaGreatDoor
open Go.Eng
@[simp] theorem tyZ2 : tsz Tryz.prog 2 = some 1 := by kernel_rfl
@[simp] theorem tyA2 : tagg Tryz.prog 2 = some false := by kernel_rfl
@[simp] theorem tyU2 : (Tryz.prog.underlying 2).isSome = true := by kernel_rfl
@[simp] theorem tyO2 : tzero Tryz.prog 2 = some (.int .i64 0) := by kernel_rfl
@[simp] theorem tyK2 : tok Tryz.prog 2 = some 1 := by kernel_rfl
@[simp] theorem tyY2 : tbytes Tryz.prog 2 = some 8 := by kernel_rfl
@[simp] theorem tyI2 : tint Tryz.prog 2 = some .i64 := by kernel_rfl
@[simp] theorem tyZ3 : tsz Tryz.prog 3 = some 1 := by kernel_rfl
@[simp] theorem tyA3 : tagg Tryz.prog 3 = some false := by kernel_rfl
@[simp] theorem tyU3 : (Tryz.prog.underlying 3).isSome = true := by kernel_rfl
@[simp] theorem tyO3 : tzero Tryz.prog 3 = some (.int .i64 0) := by kernel_rfl
@[simp] theorem tyK3 : tok Tryz.prog 3 = some 1 := by kernel_rfl
@[simp] theorem tyY3 : tbytes Tryz.prog 3 = some 8 := by kernel_rfl
@[simp] theorem tyI3 : tint Tryz.prog 3 = some .i64 := by kernel_rfl
@[simp] theorem tyZ4 : tsz Tryz.prog 4 = some 1 := by kernel_rfl
@[simp] theorem tyA4 : tagg Tryz.prog 4 = some false := by kernel_rfl
@[simp] theorem tyU4 : (Tryz.prog.underlying 4).isSome = true := by kernel_rfl
@[simp] theorem tyO4 : tzero Tryz.prog 4 = some (.bool false) := by kernel_rfl
@[simp] theorem tyK4 : tok Tryz.prog 4 = some 1 := by kernel_rfl
@[simp] theorem tyY4 : tbytes Tryz.prog 4 = some 1 := by kernel_rfl
@[simp] theorem tyB4 : tbool Tryz.prog 4 = true := by kernel_rfl
@[simp] theorem tyZ5 : tsz Tryz.prog 5 = some 1 := by kernel_rfl
@[simp] theorem tyA5 : tagg Tryz.prog 5 = some false := by kernel_rfl
@[simp] theorem tyU5 : (Tryz.prog.underlying 5).isSome = true := by kernel_rfl
@[simp] theorem tyO5 : tzero Tryz.prog 5 = some (.int .u8 0) := by kernel_rfl
@[simp] theorem tyK5 : tok Tryz.prog 5 = some 1 := by kernel_rfl
@[simp] theorem tyY5 : tbytes Tryz.prog 5 = some 1 := by kernel_rfl
@[simp] theorem tyW5 : tz8 Tryz.prog 5 = true := by kernel_rfl
@[simp] theorem tyI5 : tint Tryz.prog 5 = some .u8 := by kernel_rfl
@[simp] theorem tyZ9 : tsz Tryz.prog 9 = some 1 := by kernel_rfl
@[simp] theorem tyA9 : tagg Tryz.prog 9 = some false := by kernel_rfl
@[simp] theorem tyU9 : (Tryz.prog.underlying 9).isSome = true := by kernel_rfl
@[simp] theorem tyO9 : tzero Tryz.prog 9 = some (.str []) := by kernel_rfl
@[simp] theorem tyK9 : tok Tryz.prog 9 = some 1 := by kernel_rfl
@[simp] theorem tyY9 : tbytes Tryz.prog 9 = some 16 := by kernel_rfl
@[simp] theorem tyS9 : tstr Tryz.prog 9 = true := by kernel_rfl
@[simp] theorem tyI9 : tint Tryz.prog 9 = none := by kernel_rfl
@[simp] theorem tyC9 : tconc Tryz.prog 9 = true := by kernel_rfl
@[simp] theorem tyZ21 : tsz Tryz.prog 21 = some 1 := by kernel_rfl
@[simp] theorem tyA21 : tagg Tryz.prog 21 = some false := by kernel_rfl
@[simp] theorem tyU21 : (Tryz.prog.underlying 21).isSome = true := by kernel_rfl
@[simp] theorem tyO21 : tzero Tryz.prog 21 = some (.int .i32 0) := by kernel_rfl
@[simp] theorem tyK21 : tok Tryz.prog 21 = some 1 := by kernel_rfl
@[simp] theorem tyY21 : tbytes Tryz.prog 21 = some 4 := by kernel_rfl
@[simp] theorem tyI21 : tint Tryz.prog 21 = some .i32 := by kernel_rfl
@[simp] theorem tyZ22 : tsz Tryz.prog 55 = some 1 := by kernel_rfl
@[simp] theorem tyA22 : tagg Tryz.prog 55 = some false := by kernel_rfl
@[simp] theorem tyU22 : (Tryz.prog.underlying 55).isSome = true := by kernel_rfl
@[simp] theorem tyO22 : tzero Tryz.prog 55 = some (.nils) := by kernel_rfl
@[simp] theorem tyK22 : tok Tryz.prog 55 = some 1 := by kernel_rfl
@[simp] theorem tyY22 : tbytes Tryz.prog 55 = some 24 := by kernel_rfl
@[simp] theorem tyE22 : telem Tryz.prog 55 = some 361 := by kernel_rfl
@[simp] theorem tyZ24 : tsz Tryz.prog 57 = some 2 := by kernel_rfl
@[simp] theorem tyA24 : tagg Tryz.prog 57 = some true := by kernel_rfl
@[simp] theorem tyU24 : (Tryz.prog.underlying 57).isSome = true := by kernel_rfl
@[simp] theorem tyO24 : tzero Tryz.prog 57 = some (.agg [.int .i64 0, .nils]) := by kernel_rfl
@[simp] theorem tyK24 : tok Tryz.prog 57 = some 2 := by kernel_rfl
@[simp] theorem tyY24 : tbytes Tryz.prog 57 = some 32 := by kernel_rfl
@[simp] theorem tyF24_0 : tfield Tryz.prog 57 0 = some (0, 1, false) := by kernel_rfl
@[simp] theorem tyF24_1 : tfield Tryz.prog 57 1 = some (1, 1, false) := by kernel_rfl
@[simp] theorem tyD24 : tfields Tryz.prog 57 = true := by kernel_rfl
@[simp] theorem tyZ25 : tsz Tryz.prog 22 = some 1 := by kernel_rfl
@[simp] theorem tyA25 : tagg Tryz.prog 22 = some false := by kernel_rfl
@[simp] theorem tyU25 : (Tryz.prog.underlying 22).isSome = true := by kernel_rfl
@[simp] theorem tyO25 : tzero Tryz.prog 22 = some (.nils) := by kernel_rfl
@[simp] theorem tyK25 : tok Tryz.prog 22 = some 1 := by kernel_rfl
@[simp] theorem tyY25 : tbytes Tryz.prog 22 = some 24 := by kernel_rfl
@[simp] theorem tyE25 : telem Tryz.prog 22 = some 3 := by kernel_rfl
@[simp] theorem tyZ27 : tsz Tryz.prog 24 = some 2 := by kernel_rfl
@[simp] theorem tyA27 : tagg Tryz.prog 24 = some true := by kernel_rfl
@[simp] theorem tyU27 : (Tryz.prog.underlying 24).isSome = true := by kernel_rfl
@[simp] theorem tyO27 : tzero Tryz.prog 24 = some (.agg [.nils, .nils]) := by kernel_rfl
@[simp] theorem tyK27 : tok Tryz.prog 24 = some 2 := by kernel_rfl
@[simp] theorem tyY27 : tbytes Tryz.prog 24 = some 48 := by kernel_rfl
@[simp] theorem tyF27_0 : tfield Tryz.prog 24 0 = some (0, 1, false) := by kernel_rfl
@[simp] theorem tyF27_1 : tfield Tryz.prog 24 1 = some (1, 1, false) := by kernel_rfl
@[simp] theorem tyD27 : tfields Tryz.prog 24 = true := by kernel_rfl
@[simp] theorem tyZ28 : tsz Tryz.prog 58 = some 1 := by kernel_rfl
@[simp] theorem tyA28 : tagg Tryz.prog 58 = some false := by kernel_rfl
@[simp] theorem tyU28 : (Tryz.prog.underlying 58).isSome = true := by kernel_rfl
@[simp] theorem tyO28 : tzero Tryz.prog 58 = some (.nils) := by kernel_rfl
@[simp] theorem tyK28 : tok Tryz.prog 58 = some 1 := by kernel_rfl
@[simp] theorem tyY28 : tbytes Tryz.prog 58 = some 24 := by kernel_rfl
@[simp] theorem tyE28 : telem Tryz.prog 58 = some 378 := by kernel_rfl
@[simp] theorem tyZ30 : tsz Tryz.prog 60 = some 1 := by kernel_rfl
@[simp] theorem tyA30 : tagg Tryz.prog 60 = some false := by kernel_rfl
@[simp] theorem tyU30 : (Tryz.prog.underlying 60).isSome = true := by kernel_rfl
@[simp] theorem tyO30 : tzero Tryz.prog 60 = some (.nils) := by kernel_rfl
@[simp] theorem tyK30 : tok Tryz.prog 60 = some 1 := by kernel_rfl
@[simp] theorem tyY30 : tbytes Tryz.prog 60 = some 24 := by kernel_rfl
@[simp] theorem tyE30 : telem Tryz.prog 60 = some 106 := by kernel_rfl
@[simp] theorem tyZ32 : tsz Tryz.prog 62 = some 2 := by kernel_rfl
@[simp] theorem tyA32 : tagg Tryz.prog 62 = some true := by kernel_rfl
@[simp] theorem tyU32 : (Tryz.prog.underlying 62).isSome = true := by kernel_rfl
@[simp] theorem tyO32 : tzero Tryz.prog 62 = some (.agg [.bool false, .nils]) := by kernel_rfl
@[simp] theorem tyK32 : tok Tryz.prog 62 = some 2 := by kernel_rfl
@[simp] theorem tyY32 : tbytes Tryz.prog 62 = some 32 := by kernel_rfl
@[simp] theorem tyF32_0 : tfield Tryz.prog 62 0 = some (0, 1, false) := by kernel_rfl
@[simp] theorem tyF32_1 : tfield Tryz.prog 62 1 = some (1, 1, false) := by kernel_rfl
@[simp] theorem tyD32 : tfields Tryz.prog 62 = true := by kernel_rfl
@[simp] theorem tyZ34 : tsz Tryz.prog 64 = some 3 := by kernel_rfl
@[simp] theorem tyA34 : tagg Tryz.prog 64 = some true := by kernel_rfl
@[simp] theorem tyU34 : (Tryz.prog.underlying 64).isSome = true := by kernel_rfl
@[simp] theorem tyO34 : tzero Tryz.prog 64 = some (.agg [.bool false, .nils, .nils]) := by kernel_rfl
@[simp] theorem tyK34 : tok Tryz.prog 64 = some 3 := by kernel_rfl
@[simp] theorem tyY34 : tbytes Tryz.prog 64 = some 56 := by kernel_rfl
@[simp] theorem tyF34_0 : tfield Tryz.prog 64 0 = some (0, 2, true) := by kernel_rfl
@[simp] theorem tyF34_1 : tfield Tryz.prog 64 1 = some (2, 1, false) := by kernel_rfl
@[simp] theorem tyD34 : tfields Tryz.prog 64 = true := by kernel_rfl
@[simp] theorem tyZ36 : tsz Tryz.prog 66 = some 18 := by kernel_rfl
@[simp] theorem tyA36 : tagg Tryz.prog 66 = some true := by kernel_rfl
@[simp] theorem tyU36 : (Tryz.prog.underlying 66).isSome = true := by kernel_rfl
@[simp] theorem tyO36 : tzero Tryz.prog 66 = some (.agg [.int .i64 0, .nils, .nils, .nils, .nils, .int .i64 0, .bool false, .nils, .nils, .int .i64 0, .bool false, .nils, .nils, .int .i64 0, .bool false, .nils, .nils, .int .i64 0]) := by kernel_rfl
@[simp] theorem tyK36 : tok Tryz.prog 66 = some 18 := by kernel_rfl
@[simp] theorem tyY36 : tbytes Tryz.prog 66 = some 304 := by kernel_rfl
@[simp] theorem tyF36_0 : tfield Tryz.prog 66 0 = some (0, 2, true) := by kernel_rfl
@[simp] theorem tyF36_1 : tfield Tryz.prog 66 1 = some (2, 2, true) := by kernel_rfl
@[simp] theorem tyF36_2 : tfield Tryz.prog 66 2 = some (4, 1, false) := by kernel_rfl
@[simp] theorem tyF36_3 : tfield Tryz.prog 66 3 = some (5, 1, false) := by kernel_rfl
@[simp] theorem tyF36_4 : tfield Tryz.prog 66 4 = some (6, 3, true) := by kernel_rfl
@[simp] theorem tyF36_5 : tfield Tryz.prog 66 5 = some (9, 1, false) := by kernel_rfl
@[simp] theorem tyF36_6 : tfield Tryz.prog 66 6 = some (10, 3, true) := by kernel_rfl
@[simp] theorem tyF36_7 : tfield Tryz.prog 66 7 = some (13, 1, false) := by kernel_rfl
@[simp] theorem tyF36_8 : tfield Tryz.prog 66 8 = some (14, 3, true) := by kernel_rfl
@[simp] theorem tyF36_9 : tfield Tryz.prog 66 9 = some (17, 1, false) := by kernel_rfl
@[simp] theorem tyD36 : tfields Tryz.prog 66 = true := by kernel_rfl
@[simp] theorem tyZ37 : tsz Tryz.prog 67 = some 1 := by kernel_rfl
@[simp] theorem tyA37 : tagg Tryz.prog 67 = some false := by kernel_rfl
@[simp] theorem tyU37 : (Tryz.prog.underlying 67).isSome = true := by kernel_rfl
@[simp] theorem tyO37 : tzero Tryz.prog 67 = some (.nils) := by kernel_rfl
@[simp] theorem tyK37 : tok Tryz.prog 67 = some 1 := by kernel_rfl
@[simp] theorem tyY37 : tbytes Tryz.prog 67 = some 24 := by kernel_rfl
@[simp] theorem tyE37 : telem Tryz.prog 67 = some 184 := by kernel_rfl
@[simp] theorem tyZ38 : tsz Tryz.prog 68 = some 1 := by kernel_rfl
@[simp] theorem tyA38 : tagg Tryz.prog 68 = some false := by kernel_rfl
@[simp] theorem tyU38 : (Tryz.prog.underlying 68).isSome = true := by kernel_rfl
@[simp] theorem tyO38 : tzero Tryz.prog 68 = some (.nils) := by kernel_rfl
@[simp] theorem tyK38 : tok Tryz.prog 68 = some 1 := by kernel_rfl
@[simp] theorem tyY38 : tbytes Tryz.prog 68 = some 24 := by kernel_rfl
@[simp] theorem tyE38 : telem Tryz.prog 68 = some 39 := by kernel_rfl
@[simp] theorem tyZ39 : tsz Tryz.prog 52 = some 1 := by kernel_rfl
@[simp] theorem tyA39 : tagg Tryz.prog 52 = some false := by kernel_rfl
@[simp] theorem tyU39 : (Tryz.prog.underlying 52).isSome = true := by kernel_rfl
@[simp] theorem tyO39 : tzero Tryz.prog 52 = some (.nils) := by kernel_rfl
@[simp] theorem tyK39 : tok Tryz.prog 52 = some 1 := by kernel_rfl
@[simp] theorem tyY39 : tbytes Tryz.prog 52 = some 24 := by kernel_rfl
@[simp] theorem tyE39 : telem Tryz.prog 52 = some 73 := by kernel_rfl
@[simp] theorem tyZ41 : tsz Tryz.prog 75 = some 3 := by kernel_rfl
@[simp] theorem tyA41 : tagg Tryz.prog 75 = some true := by kernel_rfl
@[simp] theorem tyU41 : (Tryz.prog.underlying 75).isSome = true := by kernel_rfl
@[simp] theorem tyO41 : tzero Tryz.prog 75 = some (.agg [.int .i64 0, .int .i64 0, .int .i64 0]) := by kernel_rfl
@[simp] theorem tyK41 : tok Tryz.prog 75 = some 3 := by kernel_rfl
@[simp] theorem tyY41 : tbytes Tryz.prog 75 = some 24 := by kernel_rfl
@[simp] theorem tyF41_0 : tfield Tryz.prog 75 0 = some (0, 1, false) := by kernel_rfl
@[simp] theorem tyF41_1 : tfield Tryz.prog 75 1 = some (1, 1, false) := by kernel_rfl
@[simp] theorem tyF41_2 : tfield Tryz.prog 75 2 = some (2, 1, false) := by kernel_rfl
@[simp] theorem tyD41 : tfields Tryz.prog 75 = true := by kernel_rfl
@[simp] theorem tyL41 : tflat Tryz.prog 75 = some [0, 0, 0] := by kernel_rfl
@[simp] theorem tyZ42 : tsz Tryz.prog 29 = some 1 := by kernel_rfl
@[simp] theorem tyA42 : tagg Tryz.prog 29 = some false := by kernel_rfl
@[simp] theorem tyU42 : (Tryz.prog.underlying 29).isSome = true := by kernel_rfl
@[simp] theorem tyO42 : tzero Tryz.prog 29 = some (.int .u64 0) := by kernel_rfl
@[simp] theorem tyK42 : tok Tryz.prog 29 = some 1 := by kernel_rfl
@[simp] theorem tyY42 : tbytes Tryz.prog 29 = some 8 := by kernel_rfl
@[simp] theorem tyI42 : tint Tryz.prog 29 = some .u64 := by kernel_rfl
@[simp] theorem tyZ44 : tsz Tryz.prog 77 = some 30 := by kernel_rfl
@[simp] theorem tyA44 : tagg Tryz.prog 77 = some true := by kernel_rfl
@[simp] theorem tyU44 : (Tryz.prog.underlying 77).isSome = true := by kernel_rfl
@[simp] theorem tyO44 : tzero Tryz.prog 77 = some (.agg [.int .i64 0, .int .i64 0, .int .i64 0, .nils, .nils, .nils, .nils, .int .i64 0, .bool false, .nils, .nils, .int .i64 0, .bool false, .nils, .nils, .int .i64 0, .bool false, .nils, .nils, .int .i64 0, .nils, .nils, .nils, .nils, .int .i64 0, .int .i64 0, .int .i64 0, .int .i64 0, .int .i64 0, .int .u64 0]) := by kernel_rfl
@[simp] theorem tyK44 : tok Tryz.prog 77 = some 30 := by kernel_rfl
@[simp] theorem tyY44 : tbytes Tryz.prog 77 = some 464 := by kernel_rfl
@[simp] theorem tyF44_0 : tfield Tryz.prog 77 0 = some (0, 1, false) := by kernel_rfl
@[simp] theorem tyF44_1 : tfield Tryz.prog 77 1 = some (1, 1, false) := by kernel_rfl
@[simp] theorem tyF44_2 : tfield Tryz.prog 77 2 = some (2, 18, true) := by kernel_rfl
@[simp] theorem tyF44_3 : tfield Tryz.prog 77 3 = some (20, 1, false) := by kernel_rfl
@[simp] theorem tyF44_4 : tfield Tryz.prog 77 4 = some (21, 1, false) := by kernel_rfl
@[simp] theorem tyF44_5 : tfield Tryz.prog 77 5 = some (22, 1, false) := by kernel_rfl
@[simp] theorem tyF44_6 : tfield Tryz.prog 77 6 = some (23, 1, false) := by kernel_rfl
@[simp] theorem tyF44_7 : tfield Tryz.prog 77 7 = some (24, 1, false) := by kernel_rfl
@[simp] theorem tyF44_8 : tfield Tryz.prog 77 8 = some (25, 1, false) := by kernel_rfl
@[simp] theorem tyF44_9 : tfield Tryz.prog 77 9 = some (26, 3, true) := by kernel_rfl
@[simp] theorem tyF44_10 : tfield Tryz.prog 77 10 = some (29, 1, false) := by kernel_rfl
@[simp] theorem tyD44 : tfields Tryz.prog 77 = true := by kernel_rfl
@[simp] theorem tyZ45 : tsz Tryz.prog 312 = some 1 := by kernel_rfl
@[simp] theorem tyA45 : tagg Tryz.prog 312 = some false := by kernel_rfl
@[simp] theorem tyU45 : (Tryz.prog.underlying 312).isSome = true := by kernel_rfl
@[simp] theorem tyO45 : tzero Tryz.prog 312 = some (.nils) := by kernel_rfl
@[simp] theorem tyK45 : tok Tryz.prog 312 = some 1 := by kernel_rfl
@[simp] theorem tyY45 : tbytes Tryz.prog 312 = some 24 := by kernel_rfl
@[simp] theorem tyE45 : telem Tryz.prog 312 = some 227 := by kernel_rfl
@[simp] theorem tyZ47 : tsz Tryz.prog 31 = some 1 := by kernel_rfl
@[simp] theorem tyA47 : tagg Tryz.prog 31 = some false := by kernel_rfl
@[simp] theorem tyU47 : (Tryz.prog.underlying 31).isSome = true := by kernel_rfl
@[simp] theorem tyO47 : tzero Tryz.prog 31 = some (.int .i64 0) := by kernel_rfl
@[simp] theorem tyK47 : tok Tryz.prog 31 = some 1 := by kernel_rfl
@[simp] theorem tyY47 : tbytes Tryz.prog 31 = some 8 := by kernel_rfl
@[simp] theorem tyI47 : tint Tryz.prog 31 = some .i64 := by kernel_rfl
@[simp] theorem tyZ50 : tsz Tryz.prog 123 = some 1 := by kernel_rfl
@[simp] theorem tyA50 : tagg Tryz.prog 123 = some false := by kernel_rfl
@[simp] theorem tyU50 : (Tryz.prog.underlying 123).isSome = true := by kernel_rfl
@[simp] theorem tyO50 : tzero Tryz.prog 123 = some (.nils) := by kernel_rfl
@[simp] theorem tyK50 : tok Tryz.prog 123 = some 1 := by kernel_rfl
@[simp] theorem tyY50 : tbytes Tryz.prog 123 = some 24 := by kernel_rfl
@[simp] theorem tyE50 : telem Tryz.prog 123 = some 139 := by kernel_rfl
@[simp] theorem tyZ51 : tsz Tryz.prog 124 = some 1 := by kernel_rfl
@[simp] theorem tyA51 : tagg Tryz.prog 124 = some false := by kernel_rfl
@[simp] theorem tyU51 : (Tryz.prog.underlying 124).isSome = true := by kernel_rfl
@[simp] theorem tyO51 : tzero Tryz.prog 124 = some (.nils) := by kernel_rfl
@[simp] theorem tyK51 : tok Tryz.prog 124 = some 1 := by kernel_rfl
@[simp] theorem tyY51 : tbytes Tryz.prog 124 = some 24 := by kernel_rfl
@[simp] theorem tyE51 : telem Tryz.prog 124 = some 60 := by kernel_rfl
@[simp] theorem tyZ52 : tsz Tryz.prog 30 = some 1 := by kernel_rfl
@[simp] theorem tyA52 : tagg Tryz.prog 30 = some false := by kernel_rfl
@[simp] theorem tyU52 : (Tryz.prog.underlying 30).isSome = true := by kernel_rfl
@[simp] theorem tyO52 : tzero Tryz.prog 30 = some (.int .u64 0) := by kernel_rfl
@[simp] theorem tyK52 : tok Tryz.prog 30 = some 1 := by kernel_rfl
@[simp] theorem tyY52 : tbytes Tryz.prog 30 = some 8 := by kernel_rfl
@[simp] theorem tyI52 : tint Tryz.prog 30 = some .u64 := by kernel_rfl
@[simp] theorem tyZ54 : tsz Tryz.prog 126 = some 6 := by kernel_rfl
@[simp] theorem tyA54 : tagg Tryz.prog 126 = some true := by kernel_rfl
@[simp] theorem tyU54 : (Tryz.prog.underlying 126).isSome = true := by kernel_rfl
@[simp] theorem tyO54 : tzero Tryz.prog 126 = some (.agg [.nils, .nils, .int .i64 0, .nils, .int .u64 0, .int .i64 0]) := by kernel_rfl
@[simp] theorem tyK54 : tok Tryz.prog 126 = some 6 := by kernel_rfl
@[simp] theorem tyY54 : tbytes Tryz.prog 126 = some 96 := by kernel_rfl
@[simp] theorem tyF54_0 : tfield Tryz.prog 126 0 = some (0, 1, false) := by kernel_rfl
@[simp] theorem tyF54_1 : tfield Tryz.prog 126 1 = some (1, 1, false) := by kernel_rfl
@[simp] theorem tyF54_2 : tfield Tryz.prog 126 2 = some (2, 1, false) := by kernel_rfl
@[simp] theorem tyF54_3 : tfield Tryz.prog 126 3 = some (3, 1, false) := by kernel_rfl
@[simp] theorem tyF54_4 : tfield Tryz.prog 126 4 = some (4, 1, false) := by kernel_rfl
@[simp] theorem tyF54_5 : tfield Tryz.prog 126 5 = some (5, 1, false) := by kernel_rfl
@[simp] theorem tyD54 : tfields Tryz.prog 126 = true := by kernel_rfl
@[simp] theorem tyZ55 : tsz Tryz.prog 127 = some 1 := by kernel_rfl
@[simp] theorem tyA55 : tagg Tryz.prog 127 = some false := by kernel_rfl
@[simp] theorem tyU55 : (Tryz.prog.underlying 127).isSome = true := by kernel_rfl
@[simp] theorem tyO55 : tzero Tryz.prog 127 = some (.nils) := by kernel_rfl
@[simp] theorem tyK55 : tok Tryz.prog 127 = some 1 := by kernel_rfl
@[simp] theorem tyY55 : tbytes Tryz.prog 127 = some 24 := by kernel_rfl
@[simp] theorem tyE55 : telem Tryz.prog 127 = some 41 := by kernel_rfl
@[simp] theorem tyZ56 : tsz Tryz.prog 128 = some 1 := by kernel_rfl
@[simp] theorem tyA56 : tagg Tryz.prog 128 = some false := by kernel_rfl
@[simp] theorem tyU56 : (Tryz.prog.underlying 128).isSome = true := by kernel_rfl
@[simp] theorem tyO56 : tzero Tryz.prog 128 = some (.nils) := by kernel_rfl
@[simp] theorem tyK56 : tok Tryz.prog 128 = some 1 := by kernel_rfl
@[simp] theorem tyY56 : tbytes Tryz.prog 128 = some 24 := by kernel_rfl
@[simp] theorem tyE56 : telem Tryz.prog 128 = some 225 := by kernel_rfl
@[simp] theorem tyZ58 : tsz Tryz.prog 130 = some 12 := by kernel_rfl
@[simp] theorem tyA58 : tagg Tryz.prog 130 = some true := by kernel_rfl
@[simp] theorem tyU58 : (Tryz.prog.underlying 130).isSome = true := by kernel_rfl
@[simp] theorem tyO58 : tzero Tryz.prog 130 = some (.agg [.int .i64 0, .int .i64 0, .int .i64 0, .int .i64 0, .nils, .nils, .int .i64 0, .nils, .int .u64 0, .int .i64 0, .nils, .nils]) := by kernel_rfl
@[simp] theorem tyK58 : tok Tryz.prog 130 = some 12 := by kernel_rfl
@[simp] theorem tyY58 : tbytes Tryz.prog 130 = some 176 := by kernel_rfl
@[simp] theorem tyF58_0 : tfield Tryz.prog 130 0 = some (0, 1, false) := by kernel_rfl
@[simp] theorem tyF58_1 : tfield Tryz.prog 130 1 = some (1, 1, false) := by kernel_rfl
@[simp] theorem tyF58_2 : tfield Tryz.prog 130 2 = some (2, 1, false) := by kernel_rfl
@[simp] theorem tyF58_3 : tfield Tryz.prog 130 3 = some (3, 1, false) := by kernel_rfl
@[simp] theorem tyF58_4 : tfield Tryz.prog 130 4 = some (4, 6, true) := by kernel_rfl
@[simp] theorem tyF58_5 : tfield Tryz.prog 130 5 = some (10, 1, false) := by kernel_rfl
@[simp] theorem tyF58_6 : tfield Tryz.prog 130 6 = some (11, 1, false) := by kernel_rfl
@[simp] theorem tyD58 : tfields Tryz.prog 130 = true := by kernel_rfl
@[simp] theorem tyZ62 : tsz Tryz.prog 41 = some 5 := by kernel_rfl
@[simp] theorem tyA62 : tagg Tryz.prog 41 = some true := by kernel_rfl
@[simp] theorem tyU62 : (Tryz.prog.underlying 41).isSome = true := by kernel_rfl
@[simp] theorem tyO62 : tzero Tryz.prog 41 = some (.agg [.int .i64 0, .nils, .int .i64 0, .str [], .bool false]) := by kernel_rfl
@[simp] theorem tyK62 : tok Tryz.prog 41 = some 5 := by kernel_rfl
@[simp] theorem tyY62 : tbytes Tryz.prog 41 = some 64 := by kernel_rfl
@[simp] theorem tyF62_0 : tfield Tryz.prog 41 0 = some (0, 1, false) := by kernel_rfl
@[simp] theorem tyF62_1 : tfield Tryz.prog 41 1 = some (1, 1, false) := by kernel_rfl
@[simp] theorem tyF62_2 : tfield Tryz.prog 41 2 = some (2, 1, false) := by kernel_rfl
@[simp] theorem tyF62_3 : tfield Tryz.prog 41 3 = some (3, 1, false) := by kernel_rfl
@[simp] theorem tyF62_4 : tfield Tryz.prog 41 4 = some (4, 1, false) := by kernel_rfl
@[simp] theorem tyD62 : tfields Tryz.prog 41 = true := by kernel_rfl
@[simp] theorem tyZ64 : tsz Tryz.prog 225 = some 4 := by kernel_rfl
@[simp] theorem tyA64 : tagg Tryz.prog 225 = some true := by kernel_rfl
@[simp] theorem tyU64 : (Tryz.prog.underlying 225).isSome = true := by kernel_rfl
@[simp] theorem tyO64 : tzero Tryz.prog 225 = some (.agg [.int .i64 0, .int .i64 0, .int .i64 0, .int .i64 0]) := by kernel_rfl
@[simp] theorem tyK64 : tok Tryz.prog 225 = some 4 := by kernel_rfl
@[simp] theorem tyY64 : tbytes Tryz.prog 225 = some 32 := by kernel_rfl
@[simp] theorem tyF64_0 : tfield Tryz.prog 225 0 = some (0, 1, false) := by kernel_rfl
@[simp] theorem tyF64_1 : tfield Tryz.prog 225 1 = some (1, 1, false) := by kernel_rfl
@[simp] theorem tyF64_2 : tfield Tryz.prog 225 2 = some (2, 1, false) := by kernel_rfl
@[simp] theorem tyF64_3 : tfield Tryz.prog 225 3 = some (3, 1, false) := by kernel_rfl
@[simp] theorem tyD64 : tfields Tryz.prog 225 = true := by kernel_rfl
@[simp] theorem tyL64 : tflat Tryz.prog 225 = some [0, 0, 0, 0] := by kernel_rfl
@[simp] theorem tyZ66 : tsz Tryz.prog 227 = some 11 := by kernel_rfl
@[simp] theorem tyA66 : tagg Tryz.prog 227 = some true := by kernel_rfl
@[simp] theorem tyU66 : (Tryz.prog.underlying 227).isSome = true := by kernel_rfl
@[simp] theorem tyO66 : tzero Tryz.prog 227 = some (.agg [.int .i64 0, .int .i64 0, .int .i64 0, .nils, .int .i64 0, .str [], .bool false, .int .i64 0, .int .i64 0, .int .i64 0, .int .i64 0]) := by kernel_rfl
@[simp] theorem tyK66 : tok Tryz.prog 227 = some 11 := by kernel_rfl
@[simp] theorem tyY66 : tbytes Tryz.prog 227 = some 112 := by kernel_rfl
@[simp] theorem tyF66_0 : tfield Tryz.prog 227 0 = some (0, 1, false) := by kernel_rfl
@[simp] theorem tyF66_1 : tfield Tryz.prog 227 1 = some (1, 1, false) := by kernel_rfl
@[simp] theorem tyF66_2 : tfield Tryz.prog 227 2 = some (2, 5, true) := by kernel_rfl
@[simp] theorem tyF66_3 : tfield Tryz.prog 227 3 = some (7, 4, true) := by kernel_rfl
@[simp] theorem tyD66 : tfields Tryz.prog 227 = true := by kernel_rfl
@[simp] theorem tyZ71 : tsz Tryz.prog 28 = some 2 := by kernel_rfl
@[simp] theorem tyA71 : tagg Tryz.prog 28 = some true := by kernel_rfl
@[simp] theorem tyU71 : (Tryz.prog.underlying 28).isSome = true := by kernel_rfl
@[simp] theorem tyO71 : tzero Tryz.prog 28 = some (.agg [.int .i64 0, .int .i64 0]) := by kernel_rfl
@[simp] theorem tyK71 : tok Tryz.prog 28 = some 2 := by kernel_rfl
@[simp] theorem tyY71 : tbytes Tryz.prog 28 = some 16 := by kernel_rfl
@[simp] theorem tyN71 : tarr Tryz.prog 28 = some (2, 1) := by kernel_rfl
@[simp] theorem tyE71 : telem Tryz.prog 28 = none := by kernel_rfl
@[simp] theorem tyZ86 : tsz Tryz.prog 361 = some 5 := by kernel_rfl
@[simp] theorem tyA86 : tagg Tryz.prog 361 = some true := by kernel_rfl
@[simp] theorem tyU86 : (Tryz.prog.underlying 361).isSome = true := by kernel_rfl
@[simp] theorem tyO86 : tzero Tryz.prog 361 = some (.agg [.int .i64 0, .int .i64 0, .int .i64 0, .int .i64 0, .str []]) := by kernel_rfl
@[simp] theorem tyK86 : tok Tryz.prog 361 = some 5 := by kernel_rfl
@[simp] theorem tyY86 : tbytes Tryz.prog 361 = some 48 := by kernel_rfl
@[simp] theorem tyF86_0 : tfield Tryz.prog 361 0 = some (0, 1, false) := by kernel_rfl
@[simp] theorem tyF86_1 : tfield Tryz.prog 361 1 = some (1, 1, false) := by kernel_rfl
@[simp] theorem tyF86_2 : tfield Tryz.prog 361 2 = some (2, 1, false) := by kernel_rfl
@[simp] theorem tyF86_3 : tfield Tryz.prog 361 3 = some (3, 1, false) := by kernel_rfl
@[simp] theorem tyF86_4 : tfield Tryz.prog 361 4 = some (4, 1, false) := by kernel_rfl
@[simp] theorem tyD86 : tfields Tryz.prog 361 = true := by kernel_rfl
@[simp] theorem tyL86 : tflat Tryz.prog 361 = some [0, 0, 0, 0, 2] := by kernel_rfl
@[simp] theorem tyZ91 : tsz Tryz.prog 37 = some 1 := by kernel_rfl
@[simp] theorem tyA91 : tagg Tryz.prog 37 = some false := by kernel_rfl
@[simp] theorem tyU91 : (Tryz.prog.underlying 37).isSome = true := by kernel_rfl
@[simp] theorem tyO91 : tzero Tryz.prog 37 = some (.nils) := by kernel_rfl
@[simp] theorem tyK91 : tok Tryz.prog 37 = some 1 := by kernel_rfl
@[simp] theorem tyY91 : tbytes Tryz.prog 37 = some 24 := by kernel_rfl
@[simp] theorem tyE91 : telem Tryz.prog 37 = some 9 := by kernel_rfl
@[simp] theorem tyZ93 : tsz Tryz.prog 39 = some 17 := by kernel_rfl
@[simp] theorem tyA93 : tagg Tryz.prog 39 = some true := by kernel_rfl
@[simp] theorem tyU93 : (Tryz.prog.underlying 39).isSome = true := by kernel_rfl
@[simp] theorem tyO93 : tzero Tryz.prog 39 = some (.agg [.int .i64 0, .int .i64 0, .int .i64 0, .str [], .nils, .nils, .int .i64 0, .int .i64 0, .nils, .int .i64 0, .str [], .int .i64 0, .int .i64 0, .int .i64 0, .int .i64 0, .nils, .int .i64 0]) := by kernel_rfl
@[simp] theorem tyK93 : tok Tryz.prog 39 = some 17 := by kernel_rfl
@[simp] theorem tyY93 : tbytes Tryz.prog 39 = some 216 := by kernel_rfl
@[simp] theorem tyF93_0 : tfield Tryz.prog 39 0 = some (0, 1, false) := by kernel_rfl
@[simp] theorem tyF93_1 : tfield Tryz.prog 39 1 = some (1, 1, false) := by kernel_rfl
@[simp] theorem tyF93_2 : tfield Tryz.prog 39 2 = some (2, 1, false) := by kernel_rfl
@[simp] theorem tyF93_3 : tfield Tryz.prog 39 3 = some (3, 1, false) := by kernel_rfl
@[simp] theorem tyF93_4 : tfield Tryz.prog 39 4 = some (4, 1, false) := by kernel_rfl
@[simp] theorem tyF93_5 : tfield Tryz.prog 39 5 = some (5, 1, false) := by kernel_rfl
@[simp] theorem tyF93_6 : tfield Tryz.prog 39 6 = some (6, 1, false) := by kernel_rfl
@[simp] theorem tyF93_7 : tfield Tryz.prog 39 7 = some (7, 1, false) := by kernel_rfl
@[simp] theorem tyF93_8 : tfield Tryz.prog 39 8 = some (8, 1, false) := by kernel_rfl
@[simp] theorem tyF93_9 : tfield Tryz.prog 39 9 = some (9, 1, false) := by kernel_rfl
@[simp] theorem tyF93_10 : tfield Tryz.prog 39 10 = some (10, 1, false) := by kernel_rfl
@[simp] theorem tyF93_11 : tfield Tryz.prog 39 11 = some (11, 1, false) := by kernel_rfl
@[simp] theorem tyF93_12 : tfield Tryz.prog 39 12 = some (12, 1, false) := by kernel_rfl
@[simp] theorem tyF93_13 : tfield Tryz.prog 39 13 = some (13, 1, false) := by kernel_rfl
@[simp] theorem tyF93_14 : tfield Tryz.prog 39 14 = some (14, 1, false) := by kernel_rfl
@[simp] theorem tyF93_15 : tfield Tryz.prog 39 15 = some (15, 1, false) := by kernel_rfl
@[simp] theorem tyF93_16 : tfield Tryz.prog 39 16 = some (16, 1, false) := by kernel_rfl
@[simp] theorem tyD93 : tfields Tryz.prog 39 = true := by kernel_rfl
@[simp] theorem tyZ98 : tsz Tryz.prog 139 = some 2 := by kernel_rfl
@[simp] theorem tyA98 : tagg Tryz.prog 139 = some true := by kernel_rfl
@[simp] theorem tyU98 : (Tryz.prog.underlying 139).isSome = true := by kernel_rfl
@[simp] theorem tyO98 : tzero Tryz.prog 139 = some (.agg [.int .i64 0, .int .i64 0]) := by kernel_rfl
@[simp] theorem tyK98 : tok Tryz.prog 139 = some 2 := by kernel_rfl
@[simp] theorem tyY98 : tbytes Tryz.prog 139 = some 16 := by kernel_rfl
@[simp] theorem tyF98_0 : tfield Tryz.prog 139 0 = some (0, 1, false) := by kernel_rfl
@[simp] theorem tyF98_1 : tfield Tryz.prog 139 1 = some (1, 1, false) := by kernel_rfl
@[simp] theorem tyD98 : tfields Tryz.prog 139 = true := by kernel_rfl
@[simp] theorem tyL98 : tflat Tryz.prog 139 = some [0, 0] := by kernel_rfl
@[simp] theorem tyZ104 : tsz Tryz.prog 181 = some 1 := by kernel_rfl
@[simp] theorem tyA104 : tagg Tryz.prog 181 = some false := by kernel_rfl
@[simp] theorem tyU104 : (Tryz.prog.underlying 181).isSome = true := by kernel_rfl
@[simp] theorem tyO104 : tzero Tryz.prog 181 = some (.nilf) := by kernel_rfl
@[simp] theorem tyK104 : tok Tryz.prog 181 = some 1 := by kernel_rfl
@[simp] theorem tyY104 : tbytes Tryz.prog 181 = some 8 := by kernel_rfl
@[simp] theorem tyZ107 : tsz Tryz.prog 110 = some 1 := by kernel_rfl
@[simp] theorem tyA107 : tagg Tryz.prog 110 = some false := by kernel_rfl
@[simp] theorem tyU107 : (Tryz.prog.underlying 110).isSome = true := by kernel_rfl
@[simp] theorem tyO107 : tzero Tryz.prog 110 = some (.nilf) := by kernel_rfl
@[simp] theorem tyK107 : tok Tryz.prog 110 = some 1 := by kernel_rfl
@[simp] theorem tyY107 : tbytes Tryz.prog 110 = some 8 := by kernel_rfl
@[simp] theorem tyZ111 : tsz Tryz.prog 25 = some 1 := by kernel_rfl
@[simp] theorem tyA111 : tagg Tryz.prog 25 = some false := by kernel_rfl
@[simp] theorem tyU111 : (Tryz.prog.underlying 25).isSome = true := by kernel_rfl
@[simp] theorem tyO111 : tzero Tryz.prog 25 = some (.nils) := by kernel_rfl
@[simp] theorem tyK111 : tok Tryz.prog 25 = some 1 := by kernel_rfl
@[simp] theorem tyY111 : tbytes Tryz.prog 25 = some 24 := by kernel_rfl
@[simp] theorem tyE111 : telem Tryz.prog 25 = some 22 := by kernel_rfl
@[simp] theorem tyZ113 : tsz Tryz.prog 27 = some 1 := by kernel_rfl
@[simp] theorem tyA113 : tagg Tryz.prog 27 = some true := by kernel_rfl
@[simp] theorem tyU113 : (Tryz.prog.underlying 27).isSome = true := by kernel_rfl
@[simp] theorem tyO113 : tzero Tryz.prog 27 = some (.agg [.nils]) := by kernel_rfl
@[simp] theorem tyK113 : tok Tryz.prog 27 = some 1 := by kernel_rfl
@[simp] theorem tyY113 : tbytes Tryz.prog 27 = some 24 := by kernel_rfl
@[simp] theorem tyF113_0 : tfield Tryz.prog 27 0 = some (0, 1, false) := by kernel_rfl
@[simp] theorem tyD113 : tfields Tryz.prog 27 = true := by kernel_rfl
@[simp] theorem tyZ115 : tsz Tryz.prog 184 = some 9 := by kernel_rfl
@[simp] theorem tyA115 : tagg Tryz.prog 184 = some true := by kernel_rfl
@[simp] theorem tyU115 : (Tryz.prog.underlying 184).isSome = true := by kernel_rfl
@[simp] theorem tyO115 : tzero Tryz.prog 184 = some (.agg [.int .i64 0, .str [], .int .i64 0, .int .i64 0, .int .i64 0, .int .i64 0, .int .i64 0, .int .i64 0, .nils]) := by kernel_rfl
@[simp] theorem tyK115 : tok Tryz.prog 184 = some 9 := by kernel_rfl
@[simp] theorem tyY115 : tbytes Tryz.prog 184 = some 96 := by kernel_rfl
@[simp] theorem tyF115_0 : tfield Tryz.prog 184 0 = some (0, 1, false) := by kernel_rfl
@[simp] theorem tyF115_1 : tfield Tryz.prog 184 1 = some (1, 1, false) := by kernel_rfl
@[simp] theorem tyF115_2 : tfield Tryz.prog 184 2 = some (2, 1, false) := by kernel_rfl
@[simp] theorem tyF115_3 : tfield Tryz.prog 184 3 = some (3, 1, false) := by kernel_rfl
@[simp] theorem tyF115_4 : tfield Tryz.prog 184 4 = some (4, 1, false) := by kernel_rfl
@[simp] theorem tyF115_5 : tfield Tryz.prog 184 5 = some (5, 1, false) := by kernel_rfl
@[simp] theorem tyF115_6 : tfield Tryz.prog 184 6 = some (6, 1, false) := by kernel_rfl
@[simp] theorem tyF115_7 : tfield Tryz.prog 184 7 = some (7, 1, false) := by kernel_rfl
@[simp] theorem tyF115_8 : tfield Tryz.prog 184 8 = some (8, 1, true) := by kernel_rfl
@[simp] theorem tyD115 : tfields Tryz.prog 184 = true := by kernel_rfl
@[simp] theorem tyZ120 : tsz Tryz.prog 143 = some 22 := by kernel_rfl
@[simp] theorem tyA120 : tagg Tryz.prog 143 = some true := by kernel_rfl
@[simp] theorem tyU120 : (Tryz.prog.underlying 143).isSome = true := by kernel_rfl
@[simp] theorem tyO120 : tzero Tryz.prog 143 = some (.agg [.int .i64 0, .nils, .nils, .nils, .nils, .int .i64 0, .bool false, .nils, .nils, .int .i64 0, .bool false, .nils, .nils, .int .i64 0, .bool false, .nils, .nils, .int .i64 0, .nils, .nils, .int .i64 0, .int .u64 0]) := by kernel_rfl
@[simp] theorem tyK120 : tok Tryz.prog 143 = some 22 := by kernel_rfl
@[simp] theorem tyY120 : tbytes Tryz.prog 143 = some 368 := by kernel_rfl
@[simp] theorem tyF120_0 : tfield Tryz.prog 143 0 = some (0, 18, true) := by kernel_rfl
@[simp] theorem tyF120_1 : tfield Tryz.prog 143 1 = some (18, 1, false) := by kernel_rfl
@[simp] theorem tyF120_2 : tfield Tryz.prog 143 2 = some (19, 1, false) := by kernel_rfl
@[simp] theorem tyF120_3 : tfield Tryz.prog 143 3 = some (20, 1, false) := by kernel_rfl
@[simp] theorem tyF120_4 : tfield Tryz.prog 143 4 = some (21, 1, false) := by kernel_rfl
@[simp] theorem tyD120 : tfields Tryz.prog 143 = true := by kernel_rfl
@[simp] theorem tyZ124 : tsz Tryz.prog 386 = some 1 := by kernel_rfl
@[simp] theorem tyA124 : tagg Tryz.prog 386 = some false := by kernel_rfl
@[simp] theorem tyU124 : (Tryz.prog.underlying 386).isSome = true := by kernel_rfl
@[simp] theorem tyO124 : tzero Tryz.prog 386 = some (.nilp) := by kernel_rfl
@[simp] theorem tyK124 : tok Tryz.prog 386 = some 1 := by kernel_rfl
@[simp] theorem tyY124 : tbytes Tryz.prog 386 = some 8 := by kernel_rfl
@[simp] theorem tyZ149 : tsz Tryz.prog 106 = some 1 := by kernel_rfl
@[simp] theorem tyA149 : tagg Tryz.prog 106 = some false := by kernel_rfl
@[simp] theorem tyU149 : (Tryz.prog.underlying 106).isSome = true := by kernel_rfl
@[simp] theorem tyO149 : tzero Tryz.prog 106 = some (.int .u32 0) := by kernel_rfl
@[simp] theorem tyK149 : tok Tryz.prog 106 = some 1 := by kernel_rfl
@[simp] theorem tyY149 : tbytes Tryz.prog 106 = some 4 := by kernel_rfl
@[simp] theorem tyI149 : tint Tryz.prog 106 = some .u32 := by kernel_rfl
@[simp] theorem tyZ162 : tsz Tryz.prog 78 = some 1 := by kernel_rfl
@[simp] theorem tyA162 : tagg Tryz.prog 78 = some false := by kernel_rfl
@[simp] theorem tyU162 : (Tryz.prog.underlying 78).isSome = true := by kernel_rfl
@[simp] theorem tyO162 : tzero Tryz.prog 78 = some (.nils) := by kernel_rfl
@[simp] theorem tyK162 : tok Tryz.prog 78 = some 1 := by kernel_rfl
@[simp] theorem tyY162 : tbytes Tryz.prog 78 = some 24 := by kernel_rfl
@[simp] theorem tyE162 : telem Tryz.prog 78 = some 5 := by kernel_rfl
@[simp] theorem tyBS162 : tbyteS Tryz.prog 78 = true := by kernel_rfl
@[simp] theorem tyZ165 : tsz Tryz.prog 363 = some 1 := by kernel_rfl
@[simp] theorem tyA165 : tagg Tryz.prog 363 = some false := by kernel_rfl
@[simp] theorem tyU165 : (Tryz.prog.underlying 363).isSome = true := by kernel_rfl
@[simp] theorem tyO165 : tzero Tryz.prog 363 = some (.nili) := by kernel_rfl
@[simp] theorem tyK165 : tok Tryz.prog 363 = some 1 := by kernel_rfl
@[simp] theorem tyY165 : tbytes Tryz.prog 363 = some 16 := by kernel_rfl
@[simp] theorem tyZ180 : tsz Tryz.prog 177 = some 1 := by kernel_rfl
@[simp] theorem tyA180 : tagg Tryz.prog 177 = some false := by kernel_rfl
@[simp] theorem tyU180 : (Tryz.prog.underlying 177).isSome = true := by kernel_rfl
@[simp] theorem tyY180 : tbytes Tryz.prog 177 = some 8 := by kernel_rfl
@[simp] theorem tyZ200 : tsz Tryz.prog 408 = some 1 := by kernel_rfl
@[simp] theorem tyA200 : tagg Tryz.prog 408 = some false := by kernel_rfl
@[simp] theorem tyU200 : (Tryz.prog.underlying 408).isSome = true := by kernel_rfl
@[simp] theorem tyO200 : tzero Tryz.prog 408 = some (.nilf) := by kernel_rfl
@[simp] theorem tyK200 : tok Tryz.prog 408 = some 1 := by kernel_rfl
@[simp] theorem tyY200 : tbytes Tryz.prog 408 = some 8 := by kernel_rfl
@[simp] theorem tyZ203 : tsz Tryz.prog 432 = some 2 := by kernel_rfl
@[simp] theorem tyA203 : tagg Tryz.prog 432 = some true := by kernel_rfl
@[simp] theorem tyU203 : (Tryz.prog.underlying 432).isSome = true := by kernel_rfl
@[simp] theorem tyO203 : tzero Tryz.prog 432 = some (.agg [.int .i64 0, .int .i64 0]) := by kernel_rfl
@[simp] theorem tyK203 : tok Tryz.prog 432 = some 2 := by kernel_rfl
@[simp] theorem tyY203 : tbytes Tryz.prog 432 = some 16 := by kernel_rfl
@[simp] theorem tyF203_0 : tfield Tryz.prog 432 0 = some (0, 1, false) := by kernel_rfl
@[simp] theorem tyF203_1 : tfield Tryz.prog 432 1 = some (1, 1, false) := by kernel_rfl
@[simp] theorem tyD203 : tfields Tryz.prog 432 = true := by kernel_rfl
@[simp] theorem tyL203 : tflat Tryz.prog 432 = some [0, 0] := by kernel_rfl
@[simp] theorem tyZ206 : tsz Tryz.prog 434 = some 1 := by kernel_rfl
@[simp] theorem tyA206 : tagg Tryz.prog 434 = some false := by kernel_rfl
@[simp] theorem tyU206 : (Tryz.prog.underlying 434).isSome = true := by kernel_rfl
@[simp] theorem tyO206 : tzero Tryz.prog 434 = some (.nilf) := by kernel_rfl
@[simp] theorem tyK206 : tok Tryz.prog 434 = some 1 := by kernel_rfl
@[simp] theorem tyY206 : tbytes Tryz.prog 434 = some 8 := by kernel_rfl
@[simp] theorem tyZ208 : tsz Tryz.prog 436 = some 3 := by kernel_rfl
@[simp] theorem tyA208 : tagg Tryz.prog 436 = some true := by kernel_rfl
@[simp] theorem tyU208 : (Tryz.prog.underlying 436).isSome = true := by kernel_rfl
@[simp] theorem tyO208 : tzero Tryz.prog 436 = some (.agg [.int .i64 0, .int .i64 0, .nilf]) := by kernel_rfl
@[simp] theorem tyK208 : tok Tryz.prog 436 = some 3 := by kernel_rfl
@[simp] theorem tyY208 : tbytes Tryz.prog 436 = some 24 := by kernel_rfl
@[simp] theorem tyF208_0 : tfield Tryz.prog 436 0 = some (0, 2, true) := by kernel_rfl
@[simp] theorem tyF208_1 : tfield Tryz.prog 436 1 = some (2, 1, false) := by kernel_rfl
@[simp] theorem tyD208 : tfields Tryz.prog 436 = true := by kernel_rfl
@[simp] theorem tyZ210 : tsz Tryz.prog 438 = some 4 := by kernel_rfl
@[simp] theorem tyA210 : tagg Tryz.prog 438 = some true := by kernel_rfl
@[simp] theorem tyU210 : (Tryz.prog.underlying 438).isSome = true := by kernel_rfl
@[simp] theorem tyO210 : tzero Tryz.prog 438 = some (.agg [.int .i64 0, .int .i64 0, .nilf, .str []]) := by kernel_rfl
@[simp] theorem tyK210 : tok Tryz.prog 438 = some 4 := by kernel_rfl
@[simp] theorem tyY210 : tbytes Tryz.prog 438 = some 40 := by kernel_rfl
@[simp] theorem tyC210 : tconc Tryz.prog 438 = true := by kernel_rfl
@[simp] theorem tyF210_0 : tfield Tryz.prog 438 0 = some (0, 3, true) := by kernel_rfl
@[simp] theorem tyF210_1 : tfield Tryz.prog 438 1 = some (3, 1, false) := by kernel_rfl
@[simp] theorem tyD210 : tfields Tryz.prog 438 = true := by kernel_rfl
@[simp] theorem tyZ212 : tsz Tryz.prog 440 = some 3 := by kernel_rfl
@[simp] theorem tyA212 : tagg Tryz.prog 440 = some true := by kernel_rfl
@[simp] theorem tyU212 : (Tryz.prog.underlying 440).isSome = true := by kernel_rfl
@[simp] theorem tyO212 : tzero Tryz.prog 440 = some (.agg [.int .i64 0, .int .i64 0, .nilf]) := by kernel_rfl
@[simp] theorem tyK212 : tok Tryz.prog 440 = some 3 := by kernel_rfl
@[simp] theorem tyY212 : tbytes Tryz.prog 440 = some 24 := by kernel_rfl
@[simp] theorem tyC212 : tconc Tryz.prog 440 = true := by kernel_rfl
@[simp] theorem tyF212_0 : tfield Tryz.prog 440 0 = some (0, 3, true) := by kernel_rfl
@[simp] theorem tyD212 : tfields Tryz.prog 440 = true := by kernel_rfl
@[simp] theorem tyZ213 : tsz Tryz.prog 441 = some 3 := by kernel_rfl
@[simp] theorem tyA213 : tagg Tryz.prog 441 = some true := by kernel_rfl
@[simp] theorem tyU213 : (Tryz.prog.underlying 441).isSome = true := by kernel_rfl
@[simp] theorem tyO213 : tzero Tryz.prog 441 = some (.agg [.int .i64 0, .int .i64 0, .nilf]) := by kernel_rfl
@[simp] theorem tyK213 : tok Tryz.prog 441 = some 3 := by kernel_rfl
@[simp] theorem tyY213 : tbytes Tryz.prog 441 = some 24 := by kernel_rfl
@[simp] theorem tyC213 : tconc Tryz.prog 441 = true := by kernel_rfl
@[simp] theorem tyF213_0 : tfield Tryz.prog 441 0 = some (0, 3, true) := by kernel_rfl
@[simp] theorem tyD213 : tfields Tryz.prog 441 = true := by kernel_rfl
@[simp] theorem tyZ214 : tsz Tryz.prog 442 = some 3 := by kernel_rfl
@[simp] theorem tyA214 : tagg Tryz.prog 442 = some true := by kernel_rfl
@[simp] theorem tyU214 : (Tryz.prog.underlying 442).isSome = true := by kernel_rfl
@[simp] theorem tyO214 : tzero Tryz.prog 442 = some (.agg [.int .i64 0, .int .i64 0, .nilf]) := by kernel_rfl
@[simp] theorem tyK214 : tok Tryz.prog 442 = some 3 := by kernel_rfl
@[simp] theorem tyY214 : tbytes Tryz.prog 442 = some 24 := by kernel_rfl
@[simp] theorem tyC214 : tconc Tryz.prog 442 = true := by kernel_rfl
@[simp] theorem tyF214_0 : tfield Tryz.prog 442 0 = some (0, 3, true) := by kernel_rfl
@[simp] theorem tyD214 : tfields Tryz.prog 442 = true := by kernel_rfl
@[simp] theorem tyZ216 : tsz Tryz.prog 444 = some 4 := by kernel_rfl
@[simp] theorem tyA216 : tagg Tryz.prog 444 = some true := by kernel_rfl
@[simp] theorem tyU216 : (Tryz.prog.underlying 444).isSome = true := by kernel_rfl
@[simp] theorem tyO216 : tzero Tryz.prog 444 = some (.agg [.int .i64 0, .int .i64 0, .nilf, .int .i64 0]) := by kernel_rfl
@[simp] theorem tyK216 : tok Tryz.prog 444 = some 4 := by kernel_rfl
@[simp] theorem tyY216 : tbytes Tryz.prog 444 = some 32 := by kernel_rfl
@[simp] theorem tyC216 : tconc Tryz.prog 444 = true := by kernel_rfl
@[simp] theorem tyF216_0 : tfield Tryz.prog 444 0 = some (0, 3, true) := by kernel_rfl
@[simp] theorem tyF216_1 : tfield Tryz.prog 444 1 = some (3, 1, false) := by kernel_rfl
@[simp] theorem tyD216 : tfields Tryz.prog 444 = true := by kernel_rfl
@[simp] theorem tyZ218 : tsz Tryz.prog 446 = some 3 := by kernel_rfl
@[simp] theorem tyA218 : tagg Tryz.prog 446 = some true := by kernel_rfl
@[simp] theorem tyU218 : (Tryz.prog.underlying 446).isSome = true := by kernel_rfl
@[simp] theorem tyO218 : tzero Tryz.prog 446 = some (.agg [.int .i64 0, .int .i64 0, .int .i64 0]) := by kernel_rfl
@[simp] theorem tyK218 : tok Tryz.prog 446 = some 3 := by kernel_rfl
@[simp] theorem tyY218 : tbytes Tryz.prog 446 = some 24 := by kernel_rfl
@[simp] theorem tyC218 : tconc Tryz.prog 446 = true := by kernel_rfl
@[simp] theorem tyF218_0 : tfield Tryz.prog 446 0 = some (0, 2, true) := by kernel_rfl
@[simp] theorem tyF218_1 : tfield Tryz.prog 446 1 = some (2, 1, false) := by kernel_rfl
@[simp] theorem tyD218 : tfields Tryz.prog 446 = true := by kernel_rfl
@[simp] theorem tyZ220 : tsz Tryz.prog 448 = some 1 := by kernel_rfl
@[simp] theorem tyA220 : tagg Tryz.prog 448 = some true := by kernel_rfl
@[simp] theorem tyU220 : (Tryz.prog.underlying 448).isSome = true := by kernel_rfl
@[simp] theorem tyO220 : tzero Tryz.prog 448 = some (.agg [.int .i64 0]) := by kernel_rfl
@[simp] theorem tyK220 : tok Tryz.prog 448 = some 1 := by kernel_rfl
@[simp] theorem tyY220 : tbytes Tryz.prog 448 = some 8 := by kernel_rfl
@[simp] theorem tyC220 : tconc Tryz.prog 448 = true := by kernel_rfl
@[simp] theorem tyF220_0 : tfield Tryz.prog 448 0 = some (0, 1, false) := by kernel_rfl
@[simp] theorem tyD220 : tfields Tryz.prog 448 = true := by kernel_rfl
@[simp] theorem tyL220 : tflat Tryz.prog 448 = some [0] := by kernel_rfl
@[simp] theorem tyZ221 : tsz Tryz.prog 449 = some 1 := by kernel_rfl
@[simp] theorem tyA221 : tagg Tryz.prog 449 = some true := by kernel_rfl
@[simp] theorem tyU221 : (Tryz.prog.underlying 449).isSome = true := by kernel_rfl
@[simp] theorem tyO221 : tzero Tryz.prog 449 = some (.agg [.int .i64 0]) := by kernel_rfl
@[simp] theorem tyK221 : tok Tryz.prog 449 = some 1 := by kernel_rfl
@[simp] theorem tyY221 : tbytes Tryz.prog 449 = some 8 := by kernel_rfl
@[simp] theorem tyC221 : tconc Tryz.prog 449 = true := by kernel_rfl
@[simp] theorem tyF221_0 : tfield Tryz.prog 449 0 = some (0, 1, false) := by kernel_rfl
@[simp] theorem tyD221 : tfields Tryz.prog 449 = true := by kernel_rfl
@[simp] theorem tyL221 : tflat Tryz.prog 449 = some [0] := by kernel_rfl
@[simp] theorem tyZ223 : tsz Tryz.prog 451 = some 0 := by kernel_rfl
@[simp] theorem tyA223 : tagg Tryz.prog 451 = some true := by kernel_rfl
@[simp] theorem tyU223 : (Tryz.prog.underlying 451).isSome = true := by kernel_rfl
@[simp] theorem tyY223 : tbytes Tryz.prog 451 = some 0 := by kernel_rfl
@[simp] theorem tyC223 : tconc Tryz.prog 451 = true := by kernel_rfl
@[simp] theorem tyD223 : tfields Tryz.prog 451 = true := by kernel_rfl
@[simp] theorem tyL223 : tflat Tryz.prog 451 = some [] := by kernel_rfl
@[simp] theorem tyZ230 : tsz Tryz.prog 186 = some 5 := by kernel_rfl
@[simp] theorem tyA230 : tagg Tryz.prog 186 = some true := by kernel_rfl
@[simp] theorem tyU230 : (Tryz.prog.underlying 186).isSome = true := by kernel_rfl
@[simp] theorem tyO230 : tzero Tryz.prog 186 = some (.agg [.str [], .str [], .str [], .str [], .str []]) := by kernel_rfl
@[simp] theorem tyK230 : tok Tryz.prog 186 = some 5 := by kernel_rfl
@[simp] theorem tyY230 : tbytes Tryz.prog 186 = some 80 := by kernel_rfl
@[simp] theorem tyN230 : tarr Tryz.prog 186 = some (5, 1) := by kernel_rfl
@[simp] theorem tyE230 : telem Tryz.prog 186 = none := by kernel_rfl
@[simp] theorem tyZ237 : tsz Tryz.prog 150 = some 1 := by kernel_rfl
@[simp] theorem tyA237 : tagg Tryz.prog 150 = some false := by kernel_rfl
@[simp] theorem tyU237 : (Tryz.prog.underlying 150).isSome = true := by kernel_rfl
@[simp] theorem tyO237 : tzero Tryz.prog 150 = some (.nilf) := by kernel_rfl
@[simp] theorem tyK237 : tok Tryz.prog 150 = some 1 := by kernel_rfl
@[simp] theorem tyY237 : tbytes Tryz.prog 150 = some 8 := by kernel_rfl
@[simp] theorem tyZ240 : tsz Tryz.prog 73 = some 2 := by kernel_rfl
@[simp] theorem tyA240 : tagg Tryz.prog 73 = some true := by kernel_rfl
@[simp] theorem tyU240 : (Tryz.prog.underlying 73).isSome = true := by kernel_rfl
@[simp] theorem tyO240 : tzero Tryz.prog 73 = some (.agg [.int .i64 0, .int .i64 0]) := by kernel_rfl
@[simp] theorem tyK240 : tok Tryz.prog 73 = some 2 := by kernel_rfl
@[simp] theorem tyY240 : tbytes Tryz.prog 73 = some 16 := by kernel_rfl
@[simp] theorem tyF240_0 : tfield Tryz.prog 73 0 = some (0, 1, false) := by kernel_rfl
@[simp] theorem tyF240_1 : tfield Tryz.prog 73 1 = some (1, 1, false) := by kernel_rfl
@[simp] theorem tyD240 : tfields Tryz.prog 73 = true := by kernel_rfl
@[simp] theorem tyL240 : tflat Tryz.prog 73 = some [0, 0] := by kernel_rfl
@[simp] theorem tyZ246 : tsz Tryz.prog 117 = some 1 := by kernel_rfl
@[simp] theorem tyA246 : tagg Tryz.prog 117 = some false := by kernel_rfl
@[simp] theorem tyU246 : (Tryz.prog.underlying 117).isSome = true := by kernel_rfl
@[simp] theorem tyO246 : tzero Tryz.prog 117 = some (.int .u64 0) := by kernel_rfl
@[simp] theorem tyK246 : tok Tryz.prog 117 = some 1 := by kernel_rfl
@[simp] theorem tyY246 : tbytes Tryz.prog 117 = some 8 := by kernel_rfl
@[simp] theorem tyI246 : tint Tryz.prog 117 = some .u64 := by kernel_rfl
@[simp] theorem tyZ255 : tsz Tryz.prog 458 = some 1 := by kernel_rfl
@[simp] theorem tyA255 : tagg Tryz.prog 458 = some false := by kernel_rfl
@[simp] theorem tyU255 : (Tryz.prog.underlying 458).isSome = true := by kernel_rfl
@[simp] theorem tyO255 : tzero Tryz.prog 458 = some (.nils) := by kernel_rfl
@[simp] theorem tyK255 : tok Tryz.prog 458 = some 1 := by kernel_rfl
@[simp] theorem tyY255 : tbytes Tryz.prog 458 = some 24 := by kernel_rfl
@[simp] theorem tyE255 : telem Tryz.prog 458 = some 565 := by kernel_rfl
@[simp] theorem tyZ257 : tsz Tryz.prog 460 = some 3 := by kernel_rfl
@[simp] theorem tyA257 : tagg Tryz.prog 460 = some true := by kernel_rfl
@[simp] theorem tyU257 : (Tryz.prog.underlying 460).isSome = true := by kernel_rfl
@[simp] theorem tyO257 : tzero Tryz.prog 460 = some (.agg [.nils, .nils, .nils]) := by kernel_rfl
@[simp] theorem tyK257 : tok Tryz.prog 460 = some 3 := by kernel_rfl
@[simp] theorem tyY257 : tbytes Tryz.prog 460 = some 72 := by kernel_rfl
@[simp] theorem tyF257_0 : tfield Tryz.prog 460 0 = some (0, 1, false) := by kernel_rfl
@[simp] theorem tyF257_1 : tfield Tryz.prog 460 1 = some (1, 1, false) := by kernel_rfl
@[simp] theorem tyF257_2 : tfield Tryz.prog 460 2 = some (2, 1, false) := by kernel_rfl
@[simp] theorem tyD257 : tfields Tryz.prog 460 = true := by kernel_rfl
@[simp] theorem tyZ262 : tsz Tryz.prog 176 = some 1 := by kernel_rfl
@[simp] theorem tyA262 : tagg Tryz.prog 176 = some false := by kernel_rfl
@[simp] theorem tyU262 : (Tryz.prog.underlying 176).isSome = true := by kernel_rfl
@[simp] theorem tyY262 : tbytes Tryz.prog 176 = some 8 := by kernel_rfl
@[simp] theorem tyZ281 : tsz Tryz.prog 274 = some 1 := by kernel_rfl
@[simp] theorem tyA281 : tagg Tryz.prog 274 = some false := by kernel_rfl
@[simp] theorem tyU281 : (Tryz.prog.underlying 274).isSome = true := by kernel_rfl
@[simp] theorem tyO281 : tzero Tryz.prog 274 = some (.int .i64 0) := by kernel_rfl
@[simp] theorem tyK281 : tok Tryz.prog 274 = some 1 := by kernel_rfl
@[simp] theorem tyY281 : tbytes Tryz.prog 274 = some 8 := by kernel_rfl
@[simp] theorem tyI281 : tint Tryz.prog 274 = some .i64 := by kernel_rfl
@[simp] theorem tyZ303 : tsz Tryz.prog 621 = some 1 := by kernel_rfl
@[simp] theorem tyA303 : tagg Tryz.prog 621 = some false := by kernel_rfl
@[simp] theorem tyU303 : (Tryz.prog.underlying 621).isSome = true := by kernel_rfl
@[simp] theorem tyO303 : tzero Tryz.prog 621 = some (.nilf) := by kernel_rfl
@[simp] theorem tyK303 : tok Tryz.prog 621 = some 1 := by kernel_rfl
@[simp] theorem tyY303 : tbytes Tryz.prog 621 = some 8 := by kernel_rfl
@[simp] theorem tyZ308 : tsz Tryz.prog 259 = some 1 := by kernel_rfl
@[simp] theorem tyA308 : tagg Tryz.prog 259 = some false := by kernel_rfl
@[simp] theorem tyU308 : (Tryz.prog.underlying 259).isSome = true := by kernel_rfl
@[simp] theorem tyO308 : tzero Tryz.prog 259 = some (.nilp) := by kernel_rfl
@[simp] theorem tyK308 : tok Tryz.prog 259 = some 1 := by kernel_rfl
@[simp] theorem tyY308 : tbytes Tryz.prog 259 = some 8 := by kernel_rfl
@[simp] theorem tyZ310 : tsz Tryz.prog 261 = some 2 := by kernel_rfl
@[simp] theorem tyA310 : tagg Tryz.prog 261 = some true := by kernel_rfl
@[simp] theorem tyU310 : (Tryz.prog.underlying 261).isSome = true := by kernel_rfl
@[simp] theorem tyO310 : tzero Tryz.prog 261 = some (.agg [.nilp, .nils]) := by kernel_rfl
@[simp] theorem tyK310 : tok Tryz.prog 261 = some 2 := by kernel_rfl
@[simp] theorem tyY310 : tbytes Tryz.prog 261 = some 32 := by kernel_rfl
@[simp] theorem tyF310_0 : tfield Tryz.prog 261 0 = some (0, 1, false) := by kernel_rfl
@[simp] theorem tyF310_1 : tfield Tryz.prog 261 1 = some (1, 1, false) := by kernel_rfl
@[simp] theorem tyD310 : tfields Tryz.prog 261 = true := by kernel_rfl
@[simp] theorem tyZ320 : tsz Tryz.prog 354 = some 1 := by kernel_rfl
@[simp] theorem tyA320 : tagg Tryz.prog 354 = some false := by kernel_rfl
@[simp] theorem tyU320 : (Tryz.prog.underlying 354).isSome = true := by kernel_rfl
@[simp] theorem tyO320 : tzero Tryz.prog 354 = some (.int .u64 0) := by kernel_rfl
@[simp] theorem tyK320 : tok Tryz.prog 354 = some 1 := by kernel_rfl
@[simp] theorem tyY320 : tbytes Tryz.prog 354 = some 8 := by kernel_rfl
@[simp] theorem tyI320 : tint Tryz.prog 354 = some .u64 := by kernel_rfl
@[simp] theorem tyZ324 : tsz Tryz.prog 358 = some 1 := by kernel_rfl
@[simp] theorem tyA324 : tagg Tryz.prog 358 = some false := by kernel_rfl
@[simp] theorem tyU324 : (Tryz.prog.underlying 358).isSome = true := by kernel_rfl
@[simp] theorem tyO324 : tzero Tryz.prog 358 = some (.nilp) := by kernel_rfl
@[simp] theorem tyK324 : tok Tryz.prog 358 = some 1 := by kernel_rfl
@[simp] theorem tyY324 : tbytes Tryz.prog 358 = some 8 := by kernel_rfl
@[simp] theorem tyZ333 : tsz Tryz.prog 561 = some 5 := by kernel_rfl
@[simp] theorem tyA333 : tagg Tryz.prog 561 = some true := by kernel_rfl
@[simp] theorem tyU333 : (Tryz.prog.underlying 561).isSome = true := by kernel_rfl
@[simp] theorem tyO333 : tzero Tryz.prog 561 = some (.agg [.int .i64 0, .nils, .nils, .int .i64 0, .int .i64 0]) := by kernel_rfl
@[simp] theorem tyK333 : tok Tryz.prog 561 = some 5 := by kernel_rfl
@[simp] theorem tyY333 : tbytes Tryz.prog 561 = some 72 := by kernel_rfl
@[simp] theorem tyF333_0 : tfield Tryz.prog 561 0 = some (0, 2, true) := by kernel_rfl
@[simp] theorem tyF333_1 : tfield Tryz.prog 561 1 = some (2, 1, false) := by kernel_rfl
@[simp] theorem tyF333_2 : tfield Tryz.prog 561 2 = some (3, 1, false) := by kernel_rfl
@[simp] theorem tyF333_3 : tfield Tryz.prog 561 3 = some (4, 1, false) := by kernel_rfl
@[simp] theorem tyD333 : tfields Tryz.prog 561 = true := by kernel_rfl
@[simp] theorem tyZ336 : tsz Tryz.prog 248 = some 1 := by kernel_rfl
@[simp] theorem tyA336 : tagg Tryz.prog 248 = some false := by kernel_rfl
@[simp] theorem tyU336 : (Tryz.prog.underlying 248).isSome = true := by kernel_rfl
@[simp] theorem tyO336 : tzero Tryz.prog 248 = some (.nilf) := by kernel_rfl
@[simp] theorem tyK336 : tok Tryz.prog 248 = some 1 := by kernel_rfl
@[simp] theorem tyY336 : tbytes Tryz.prog 248 = some 8 := by kernel_rfl
@[simp] theorem tyZ339 : tsz Tryz.prog 565 = some 3 := by kernel_rfl
@[simp] theorem tyA339 : tagg Tryz.prog 565 = some true := by kernel_rfl
@[simp] theorem tyU339 : (Tryz.prog.underlying 565).isSome = true := by kernel_rfl
@[simp] theorem tyO339 : tzero Tryz.prog 565 = some (.agg [.nils, .int .i64 0, .int .i64 0]) := by kernel_rfl
@[simp] theorem tyK339 : tok Tryz.prog 565 = some 3 := by kernel_rfl
@[simp] theorem tyY339 : tbytes Tryz.prog 565 = some 40 := by kernel_rfl
@[simp] theorem tyF339_0 : tfield Tryz.prog 565 0 = some (0, 1, false) := by kernel_rfl
@[simp] theorem tyF339_1 : tfield Tryz.prog 565 1 = some (1, 1, false) := by kernel_rfl
@[simp] theorem tyF339_2 : tfield Tryz.prog 565 2 = some (2, 1, false) := by kernel_rfl
@[simp] theorem tyD339 : tfields Tryz.prog 565 = true := by kernel_rfl
@[simp] theorem tyZ351 : tsz Tryz.prog 353 = some 1 := by kernel_rfl
@[simp] theorem tyA351 : tagg Tryz.prog 353 = some false := by kernel_rfl
@[simp] theorem tyU351 : (Tryz.prog.underlying 353).isSome = true := by kernel_rfl
@[simp] theorem tyO351 : tzero Tryz.prog 353 = some (.nilp) := by kernel_rfl
@[simp] theorem tyK351 : tok Tryz.prog 353 = some 1 := by kernel_rfl
@[simp] theorem tyY351 : tbytes Tryz.prog 353 = some 8 := by kernel_rfl
@[simp] theorem tyZ363 : tsz Tryz.prog 605 = some 1 := by kernel_rfl
@[simp] theorem tyA363 : tagg Tryz.prog 605 = some false := by kernel_rfl
@[simp] theorem tyU363 : (Tryz.prog.underlying 605).isSome = true := by kernel_rfl
@[simp] theorem tyO363 : tzero Tryz.prog 605 = some (.nils) := by kernel_rfl
@[simp] theorem tyK363 : tok Tryz.prog 605 = some 1 := by kernel_rfl
@[simp] theorem tyY363 : tbytes Tryz.prog 605 = some 24 := by kernel_rfl
@[simp] theorem tyE363 : telem Tryz.prog 605 = some 363 := by kernel_rfl
@[simp] theorem tyZ368 : tsz Tryz.prog 378 = some 2 := by kernel_rfl
@[simp] theorem tyA368 : tagg Tryz.prog 378 = some true := by kernel_rfl
@[simp] theorem tyU368 : (Tryz.prog.underlying 378).isSome = true := by kernel_rfl
@[simp] theorem tyO368 : tzero Tryz.prog 378 = some (.agg [.int .i64 0, .int .i64 0]) := by kernel_rfl
@[simp] theorem tyK368 : tok Tryz.prog 378 = some 2 := by kernel_rfl
@[simp] theorem tyY368 : tbytes Tryz.prog 378 = some 16 := by kernel_rfl
@[simp] theorem tyF368_0 : tfield Tryz.prog 378 0 = some (0, 1, false) := by kernel_rfl
@[simp] theorem tyF368_1 : tfield Tryz.prog 378 1 = some (1, 1, false) := by kernel_rfl
@[simp] theorem tyD368 : tfields Tryz.prog 378 = true := by kernel_rfl
@[simp] theorem tyL368 : tflat Tryz.prog 378 = some [0, 0] := by kernel_rfl
@[simp] theorem tyZ370 : tsz Tryz.prog 610 = some 1 := by kernel_rfl
@[simp] theorem tyA370 : tagg Tryz.prog 610 = some false := by kernel_rfl
@[simp] theorem tyU370 : (Tryz.prog.underlying 610).isSome = true := by kernel_rfl
@[simp] theorem tyO370 : tzero Tryz.prog 610 = some (.nilf) := by kernel_rfl
@[simp] theorem tyK370 : tok Tryz.prog 610 = some 1 := by kernel_rfl
@[simp] theorem tyY370 : tbytes Tryz.prog 610 = some 8 := by kernel_rfl
@[simp] theorem tyZ373 : tsz Tryz.prog 613 = some 1 := by kernel_rfl
@[simp] theorem tyA373 : tagg Tryz.prog 613 = some false := by kernel_rfl
@[simp] theorem tyU373 : (Tryz.prog.underlying 613).isSome = true := by kernel_rfl
@[simp] theorem tyO373 : tzero Tryz.prog 613 = some (.nilp) := by kernel_rfl
@[simp] theorem tyK373 : tok Tryz.prog 613 = some 1 := by kernel_rfl
@[simp] theorem tyY373 : tbytes Tryz.prog 613 = some 8 := by kernel_rfl
@[simp] theorem tyZ376 : tsz Tryz.prog 616 = some 17 := by kernel_rfl
@[simp] theorem tyA376 : tagg Tryz.prog 616 = some true := by kernel_rfl
@[simp] theorem tyU376 : (Tryz.prog.underlying 616).isSome = true := by kernel_rfl
@[simp] theorem tyO376 : tzero Tryz.prog 616 = some (.agg [.nils, .nils, .nils, .nils, .bool false, .bool false, .nils, .int .i64 0, .nils, .nils, .nils, .int .i64 0, .nils, .int .i64 0, .nils, .int .i64 0, .bool false]) := by kernel_rfl
@[simp] theorem tyK376 : tok Tryz.prog 616 = some 17 := by kernel_rfl
@[simp] theorem tyY376 : tbytes Tryz.prog 616 = some 288 := by kernel_rfl
@[simp] theorem tyF376_0 : tfield Tryz.prog 616 0 = some (0, 3, true) := by kernel_rfl
@[simp] theorem tyF376_1 : tfield Tryz.prog 616 1 = some (3, 1, false) := by kernel_rfl
@[simp] theorem tyF376_2 : tfield Tryz.prog 616 2 = some (4, 1, false) := by kernel_rfl
@[simp] theorem tyF376_3 : tfield Tryz.prog 616 3 = some (5, 1, false) := by kernel_rfl
@[simp] theorem tyF376_4 : tfield Tryz.prog 616 4 = some (6, 1, false) := by kernel_rfl
@[simp] theorem tyF376_5 : tfield Tryz.prog 616 5 = some (7, 1, false) := by kernel_rfl
@[simp] theorem tyF376_6 : tfield Tryz.prog 616 6 = some (8, 1, false) := by kernel_rfl
@[simp] theorem tyF376_7 : tfield Tryz.prog 616 7 = some (9, 1, false) := by kernel_rfl
@[simp] theorem tyF376_8 : tfield Tryz.prog 616 8 = some (10, 1, false) := by kernel_rfl
@[simp] theorem tyF376_9 : tfield Tryz.prog 616 9 = some (11, 1, false) := by kernel_rfl
@[simp] theorem tyF376_10 : tfield Tryz.prog 616 10 = some (12, 1, false) := by kernel_rfl
@[simp] theorem tyF376_11 : tfield Tryz.prog 616 11 = some (13, 1, false) := by kernel_rfl
@[simp] theorem tyF376_12 : tfield Tryz.prog 616 12 = some (14, 1, false) := by kernel_rfl
@[simp] theorem tyF376_13 : tfield Tryz.prog 616 13 = some (15, 1, false) := by kernel_rfl
@[simp] theorem tyF376_14 : tfield Tryz.prog 616 14 = some (16, 1, false) := by kernel_rfl
@[simp] theorem tyD376 : tfields Tryz.prog 616 = true := by kernel_rfl
@[simp] theorem tyZ382 : tsz Tryz.prog 421 = some 1 := by kernel_rfl
@[simp] theorem tyA382 : tagg Tryz.prog 421 = some false := by kernel_rfl
@[simp] theorem tyU382 : (Tryz.prog.underlying 421).isSome = true := by kernel_rfl
@[simp] theorem tyO382 : tzero Tryz.prog 421 = some (.nilp) := by kernel_rfl
@[simp] theorem tyK382 : tok Tryz.prog 421 = some 1 := by kernel_rfl
@[simp] theorem tyY382 : tbytes Tryz.prog 421 = some 8 := by kernel_rfl
@[simp] theorem tyZ385 : tsz Tryz.prog 424 = some 256 := by kernel_rfl
@[simp] theorem tyA385 : tagg Tryz.prog 424 = some true := by kernel_rfl
@[simp] theorem tyU385 : (Tryz.prog.underlying 424).isSome = true := by kernel_rfl
@[simp] theorem tyO385 : tzero Tryz.prog 424 = some (.agg [.int .u8 0, .int .u8 0, .int .u8 0, .int .u8 0, .int .u8 0, .int .u8 0, .int .u8 0, .int .u8 0, .int .u8 0, .int .u8 0, .int .u8 0, .int .u8 0, .int .u8 0, .int .u8 0, .int .u8 0, .int .u8 0, .int .u8 0, .int .u8 0, .int .u8 0, .int .u8 0, .int .u8 0, .int .u8 0, .int .u8 0, .int .u8 0, .int .u8 0, .int .u8 0, .int .u8 0, .int .u8 0, .int .u8 0, .int .u8 0, .int .u8 0, .int .u8 0, .int .u8 0, .int .u8 0, .int .u8 0, .int .u8 0, .int .u8 0, .int .u8 0, .int .u8 0, .int .u8 0, .int .u8 0, .int .u8 0, .int .u8 0, .int .u8 0, .int .u8 0, .int .u8 0, .int .u8 0, .int .u8 0, .int .u8 0, .int .u8 0, .int .u8 0, .int .u8 0, .int .u8 0, .int .u8 0, .int .u8 0, .int .u8 0, .int .u8 0, .int .u8 0, .int .u8 0, .int .u8 0, .int .u8 0, .int .u8 0, .int .u8 0, .int .u8 0, .int .u8 0, .int .u8 0, .int .u8 0, .int .u8 0, .int .u8 0, .int .u8 0, .int .u8 0, .int .u8 0, .int .u8 0, .int .u8 0, .int .u8 0, .int .u8 0, .int .u8 0, .int .u8 0, .int .u8 0, .int .u8 0, .int .u8 0, .int .u8 0, .int .u8 0, .int .u8 0, .int .u8 0, .int .u8 0, .int .u8 0, .int .u8 0, .int .u8 0, .int .u8 0, .int .u8 0, .int .u8 0, .int .u8 0, .int .u8 0, .int .u8 0, .int .u8 0, .int .u8 0, .int .u8 0, .int .u8 0, .int .u8 0, .int .u8 0, .int .u8 0, .int .u8 0, .int .u8 0, .int .u8 0, .int .u8 0, .int .u8 0, .int .u8 0, .int .u8 0, .int .u8 0, .int .u8 0, .int .u8 0, .int .u8 0, .int .u8 0, .int .u8 0, .int .u8 0, .int .u8 0, .int .u8 0, .int .u8 0, .int .u8 0, .int .u8 0, .int .u8 0, .int .u8 0, .int .u8 0, .int .u8 0, .int .u8 0, .int .u8 0, .int .u8 0, .int .u8 0, .int .u8 0, .int .u8 0, .int .u8 0, .int .u8 0, .int .u8 0, .int .u8 0, .int .u8 0, .int .u8 0, .int .u8 0, .int .u8 0, .int .u8 0, .int .u8 0, .int .u8 0, .int .u8 0, .int .u8 0, .int .u8 0, .int .u8 0, .int .u8 0, .int .u8 0, .int .u8 0, .int .u8 0, .int .u8 0, .int .u8 0, .int .u8 0, .int .u8 0, .int .u8 0, .int .u8 0, .int .u8 0, .int .u8 0, .int .u8 0, .int .u8 0, .int .u8 0, .int .u8 0, .int .u8 0, .int .u8 0, .int .u8 0, .int .u8 0, .int .u8 0, .int .u8 0, .int .u8 0, .int .u8 0, .int .u8 0, .int .u8 0, .int .u8 0, .int .u8 0, .int .u8 0, .int .u8 0, .int .u8 0, .int .u8 0, .int .u8 0, .int .u8 0, .int .u8 0, .int .u8 0, .int .u8 0, .int .u8 0, .int .u8 0, .int .u8 0, .int .u8 0, .int .u8 0, .int .u8 0, .int .u8 0, .int .u8 0, .int .u8 0, .int .u8 0, .int .u8 0, .int .u8 0, .int .u8 0, .int .u8 0, .int .u8 0, .int .u8 0, .int .u8 0, .int .u8 0, .int .u8 0, .int .u8 0, .int .u8 0, .int .u8 0, .int .u8 0, .int .u8 0, .int .u8 0, .int .u8 0, .int .u8 0, .int .u8 0, .int .u8 0, .int .u8 0, .int .u8 0, .int .u8 0, .int .u8 0, .int .u8 0, .int .u8 0, .int .u8 0, .int .u8 0, .int .u8 0, .int .u8 0, .int .u8 0, .int .u8 0, .int .u8 0, .int .u8 0, .int .u8 0, .int .u8 0, .int .u8 0, .int .u8 0, .int .u8 0, .int .u8 0, .int .u8 0, .int .u8 0, .int .u8 0, .int .u8 0, .int .u8 0, .int .u8 0, .int .u8 0, .int .u8 0, .int .u8 0, .int .u8 0, .int .u8 0, .int .u8 0, .int .u8 0, .int .u8 0, .int .u8 0, .int .u8 0, .int .u8 0, .int .u8 0, .int .u8 0, .int .u8 0, .int .u8 0, .int .u8 0, .int .u8 0, .int .u8 0]) := by kernel_rfl
@[simp] theorem tyK385 : tok Tryz.prog 424 = some 256 := by kernel_rfl
@[simp] theorem tyY385 : tbytes Tryz.prog 424 = some 256 := by kernel_rfl
@[simp] theorem tyN385 : tarr Tryz.prog 424 = some (256, 1) := by kernel_rfl
@[simp] theorem tyE385 : telem Tryz.prog 424 = none := by kernel_rfl
@[simp] theorem tyZ387 : tsz Tryz.prog 426 = some 2 := by kernel_rfl
@[simp] theorem tyA387 : tagg Tryz.prog 426 = some true := by kernel_rfl
@[simp] theorem tyU387 : (Tryz.prog.underlying 426).isSome = true := by kernel_rfl
@[simp] theorem tyO387 : tzero Tryz.prog 426 = some (.agg [.int .u8 0, .int .u8 0]) := by kernel_rfl
@[simp] theorem tyK387 : tok Tryz.prog 426 = some 2 := by kernel_rfl
@[simp] theorem tyY387 : tbytes Tryz.prog 426 = some 2 := by kernel_rfl
@[simp] theorem tyF387_0 : tfield Tryz.prog 426 0 = some (0, 1, false) := by kernel_rfl
@[simp] theorem tyF387_1 : tfield Tryz.prog 426 1 = some (1, 1, false) := by kernel_rfl
@[simp] theorem tyD387 : tfields Tryz.prog 426 = true := by kernel_rfl
@[simp] theorem tyL387 : tflat Tryz.prog 426 = some [0, 0] := by kernel_rfl
@[simp] theorem tyZ388 : tsz Tryz.prog 427 = some 32 := by kernel_rfl
@[simp] theorem tyA388 : tagg Tryz.prog 427 = some true := by kernel_rfl
@[simp] theorem tyU388 : (Tryz.prog.underlying 427).isSome = true := by kernel_rfl
@[simp] theorem tyO388 : tzero Tryz.prog 427 = some (.agg [.int .u8 0, .int .u8 0, .int .u8 0, .int .u8 0, .int .u8 0, .int .u8 0, .int .u8 0, .int .u8 0, .int .u8 0, .int .u8 0, .int .u8 0, .int .u8 0, .int .u8 0, .int .u8 0, .int .u8 0, .int .u8 0, .int .u8 0, .int .u8 0, .int .u8 0, .int .u8 0, .int .u8 0, .int .u8 0, .int .u8 0, .int .u8 0, .int .u8 0, .int .u8 0, .int .u8 0, .int .u8 0, .int .u8 0, .int .u8 0, .int .u8 0, .int .u8 0]) := by kernel_rfl
@[simp] theorem tyK388 : tok Tryz.prog 427 = some 32 := by kernel_rfl
@[simp] theorem tyY388 : tbytes Tryz.prog 427 = some 32 := by kernel_rfl
@[simp] theorem tyN388 : tarr Tryz.prog 427 = some (16, 2) := by kernel_rfl
@[simp] theorem tyE388 : telem Tryz.prog 427 = none := by kernel_rfl
@[simp] theorem tyZ403 : tsz Tryz.prog 637 = some 1 := by kernel_rfl
@[simp] theorem tyA403 : tagg Tryz.prog 637 = some false := by kernel_rfl
@[simp] theorem tyU403 : (Tryz.prog.underlying 637).isSome = true := by kernel_rfl
@[simp] theorem tyO403 : tzero Tryz.prog 637 = some (.nilf) := by kernel_rfl
@[simp] theorem tyK403 : tok Tryz.prog 637 = some 1 := by kernel_rfl
@[simp] theorem tyY403 : tbytes Tryz.prog 637 = some 8 := by kernel_rfl
end Go.Proofs.YtnklkkagpkcmfaaGreatDoor
