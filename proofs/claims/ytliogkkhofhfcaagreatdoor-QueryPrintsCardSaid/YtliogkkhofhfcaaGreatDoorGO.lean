import Derived.Test.YtliogkkhofhfcaaGreatDoorGJ
/- Query: what a reading depends on, plain. No condition. -/
set_option linter.unusedSimpArgs false
set_option maxRecDepth 4000
namespace Go.Proofs.YtliogkkhofhfcaaGreatDoor
open Go.Eng

/-- Two tokens that differ at most in their places. -/
def Alk (t u : Tok) : Prop := t.1 = u.1 ∧ t.2.2 = u.2.2
theorem Alk.isW {t u : Tok} (h : Alk t u) (w : List UInt8) : isW t w = isW u w := by simp [Go.Proofs.YtliogkkhofhfcaaGreatDoor.isW, h.1, h.2]
theorem Alk.nameB {t u : Tok} (h : Alk t u) (k : Int) : nameB k t = nameB k u := by simp [Go.Proofs.YtliogkkhofhfcaaGreatDoor.nameB, h.1, h.2]
theorem Alk.numR {t u : Tok} (h : Alk t u) : numR t = numR u := by simp [Go.Proofs.YtliogkkhofhfcaaGreatDoor.numR, h.1, h.2]

/- Where the tokens are alike at all places, the readings are the same. -/
theorem condP_al {ts us : List Tok} (h : ∀ i, Alk (tkAt ts i) (tkAt us i)) (i : Nat) : condP ts i = condP us i := by
  have e1 := fun i w => (h i).isW w
  have e2 := fun i k => (h i).nameB k
  have e3 := fun i => (h i).numR
  have e4 := fun i => (h i).1
  have e5 := fun i => (h i).2
  unfold condP
  simp only [e1, e2, e3, e4, e5]
theorem primP_al {ts us : List Tok} (h : ∀ i, Alk (tkAt ts i) (tkAt us i)) (orf : Nat → PR) (i : Nat) : primP orf ts i = primP orf us i := by
  have e4 := fun i => (h i).1
  unfold primP
  rw [e4, condP_al h]
  simp only [e4]
theorem unP_al {ts us : List Tok} (h : ∀ i, Alk (tkAt ts i) (tkAt us i)) (orf : Nat → PR) (i : Nat) : unP orf ts i = unP orf us i := by
  have e1 := fun i w => (h i).isW w
  unfold unP
  rw [e1, primP_al h, primP_al h]
theorem chainL_al {ts us : List Tok} (h : ∀ i, Alk (tkAt ts i) (tkAt us i)) (mem : Nat → PR) (w : List UInt8) : ∀ (n j : Nat) (acc : List Qy), chainL mem ts w n j acc = chainL mem us w n j acc
  | 0, _, _ => rfl
  | n + 1, j, acc => by
    rw [chainL, chainL, (h j).isW]
    simp only [chainL_al h mem w n]
theorem orP_al {ts us : List Tok} (hl : ts.length = us.length) (h : ∀ i, Alk (tkAt ts i) (tkAt us i)) : ∀ (n i : Nat), orP n ts i = orP n us i
  | 0, _ => rfl
  | n + 1, i => by
    have e : orP n ts = orP n us := funext (orP_al hl h n)
    have e2 : unP (orP n us) ts = unP (orP n us) us := funext (unP_al h _)
    have e3 : ∀ (mem : Nat → PR) w k i, chainP mem ts w k i = chainP mem us w k i := fun mem w k i => by
      unfold chainP
      simp only [chainL_al h, hl]
    have e4 : andP (orP n ts) ts = andP (orP n us) us := funext (fun i => by rw [andP, andP, e3, e, e2])
    rw [orP, orP, e3, e4]

/- Every place that a reading names is a place of a token; an error is none of the kind 'none'. -/
def InR (ts : List Tok) (r : PR) : Prop := match r with
  | .ok (_, j) => j < ts.length
  | .error (j, e) => j < ts.length ∧ e ≠ 0
theorem numR_err {t : Tok} {e : Int} (h : numR t = .error e) : e ≠ 0 := by
  unfold numR at h
  repeat' split at h
  all_goals first | (injection h with h; omega) | cases h
theorem condP_in {ts : List Tok} (hg : Gd ts) {i : Nat} (hi : i < ts.length) : InR ts (condP ts i) := by
  have m0 : (tkAt ts i).1 = 6 → i + 1 < ts.length := fun h => hg.more i hi (by omega) (by omega)
  have m1 : ∀ j, j < ts.length → (tkAt ts j).1 = 6 ∨ (tkAt ts j).1 = 5 ∨ (tkAt ts j).1 = 4 → j + 1 < ts.length := fun j hj h => hg.more j hj (by omega) (by omega)
  unfold condP
  split
  · rename_i h0
    have a := m1 i hi (.inl (isW_kind h0))
    split
    · rename_i h1
      have b := m1 _ a (.inl (isW_kind h1))
      split
      · rename_i h2
        exact m1 _ b (.inl (nameB_kind h2))
      · exact ⟨b, by decide⟩
    · exact ⟨a, by decide⟩
  split
  · rename_i h0
    have a := m1 i hi (.inl (isW_kind h0))
    split
    · rename_i h2
      exact m1 _ a (.inl (nameB_kind h2))
    · exact ⟨a, by decide⟩
  split
  · rename_i h0
    have a := m1 i hi (.inl (isW_kind h0))
    split
    · rename_i h2
      exact m1 _ a (.inl (nameB_kind h2))
    · exact ⟨a, by decide⟩
  split
  · rename_i h0
    have a := m1 i hi (.inl (isW_kind h0))
    split
    · rename_i h1
      have b := m1 _ a (.inl (isW_kind h1))
      split
      · rename_i h2
        exact m1 _ b (.inl (numR_kind h2))
      · rename_i h2; exact ⟨b, numR_err h2⟩
    · exact ⟨a, by decide⟩
  split
  · rename_i h0
    have a := m1 i hi (.inl (isW_kind h0))
    split
    · rename_i h1
      have b := m1 _ a (.inl (isW_kind h1))
      split
      · rename_i h2
        exact m1 _ b (.inr (.inl h2))
      · exact ⟨b, by decide⟩
    · exact ⟨a, by decide⟩
  split
  · rename_i h0
    have h6 : (tkAt ts i).1 = 6 := by simp at h0; exact h0.1
    have a := m1 i hi (.inl h6)
    split
    · rename_i h1
      have b := m1 _ a (.inr (.inr h1))
      split
      · rename_i h2
        exact m1 _ b (.inl (numR_kind h2))
      · rename_i h2; exact ⟨b, numR_err h2⟩
    · exact ⟨a, by decide⟩
  · exact ⟨hi, by decide⟩
theorem primP_in {ts : List Tok} (hg : Gd ts) {orf : Nat → PR} (ho : ∀ i, i < ts.length → InR ts (orf i)) {i : Nat} (hi : i < ts.length) : InR ts (primP orf ts i) := by
  unfold primP
  split
  · exact condP_in hg hi
  · rename_i h2
    have h2' : (tkAt ts i).1 = 2 := by omega
    have a := ho (i + 1) (hg.more i hi (by omega) (by omega))
    split
    · rename_i e he; rw [he] at a; exact a
    · rename_i x j he
      rw [he] at a
      split
      · exact ⟨a, by decide⟩
      · rename_i h3
        have h3' : (tkAt ts j).1 = 3 := by omega
        exact hg.more j a (by omega) (by omega)
theorem unP_in {ts : List Tok} (hg : Gd ts) {orf : Nat → PR} (ho : ∀ i, i < ts.length → InR ts (orf i)) {i : Nat} (hi : i < ts.length) : InR ts (unP orf ts i) := by
  unfold unP
  split
  · exact primP_in hg ho hi
  · rename_i hw
    have h6 := isW_kind (t := tkAt ts i) (w := [110, 111, 116]) (by simpa using hw)
    have a := primP_in hg ho (hg.more i hi (by omega) (by omega))
    split
    · rename_i e he; rw [he] at a; exact a
    · rename_i x j he; rw [he] at a; exact a
def InL (ts : List Tok) (r : Except (Nat × Int) (List Qy × Nat)) : Prop := match r with
  | .ok (_, j) => j < ts.length
  | .error (j, e) => j < ts.length ∧ e ≠ 0
theorem chainL_in {ts : List Tok} (hg : Gd ts) {mem : Nat → PR} (ho : ∀ i, i < ts.length → InR ts (mem i)) (w : List UInt8) : ∀ (n j : Nat) (acc : List Qy), j < ts.length → InL ts (chainL mem ts w n j acc)
  | 0, j, acc, hj => hj
  | n + 1, j, acc, hj => by
    rw [chainL]
    split
    · rename_i hw
      have h6 := isW_kind hw
      have a := ho (j + 1) (hg.more j hj (by omega) (by omega))
      split
      · rename_i e he; rw [he] at a; exact a
      · rename_i x j' he; rw [he] at a; exact chainL_in hg ho w n j' _ a
    · exact hj
theorem chainP_in {ts : List Tok} (hg : Gd ts) {mem : Nat → PR} (ho : ∀ i, i < ts.length → InR ts (mem i)) (w : List UInt8) (k : Int) {i : Nat} (hi : i < ts.length) : InR ts (chainP mem ts w k i) := by
  unfold chainP
  have a := ho i hi
  split
  · rename_i e he; rw [he] at a; exact a
  · rename_i x j he
    rw [he] at a
    have b := chainL_in hg ho w ts.length j [x] a
    split
    · rename_i e he; rw [he] at b; exact b
    · rename_i l j' he; rw [he] at b; exact b
theorem orP_in {ts : List Tok} (hg : Gd ts) : ∀ (n i : Nat), i < ts.length → InR ts (orP n ts i)
  | 0, i, hi => ⟨hi, by decide⟩
  | n + 1, i, hi => by
    rw [orP]
    exact chainP_in hg (fun i hi => chainP_in hg (fun i hi => unP_in hg (orP_in hg n) hi) _ _ hi) _ _ hi
end Go.Proofs.YtliogkkhofhfcaaGreatDoor

/- Query: a reading that goes well goes well wherever the tokens that it looks at stand, plain. No condition. -/
set_option linter.unusedSimpArgs false
set_option maxRecDepth 4000
namespace Go.Proofs.YtliogkkhofhfcaaGreatDoor
open Go.Eng

/-- The tokens of one list stand in another, so many places behind; where the first ends, the other has no word. -/
def Sim (ts us : List Tok) (d : Nat) : Prop := ∀ i, Alk (tkAt ts i) (tkAt us (i + d)) ∨ ((tkAt ts i).1 = 0 ∧ (tkAt us (i + d)).1 ≠ 6)
theorem isW_no {t : Tok} (h : t.1 ≠ 6) (w : List UInt8) : isW t w = false := by simp [isW, h]
theorem Sim.isW {ts us : List Tok} {d : Nat} (h : Sim ts us d) (i : Nat) (w : List UInt8) : isW (tkAt us (i + d)) w = isW (tkAt ts i) w := by
  rcases h i with h | ⟨h1, h2⟩
  · exact (h.isW w).symm
  · rw [isW_no h2, isW_no (by omega)]
theorem Sim.al {ts us : List Tok} {d : Nat} (h : Sim ts us d) {i : Nat} (h0 : (tkAt ts i).1 ≠ 0) : Alk (tkAt ts i) (tkAt us (i + d)) := by
  rcases h i with h | ⟨h1, h2⟩
  · exact h
  · exact absurd h1 h0
theorem add3 (i d k : Nat) : i + d + k = i + k + d := by omega
theorem condP_sim {ts us : List Tok} {d : Nat} (h : Sim ts us d) {i : Nat} {x : Qy} {j : Nat} (hc : condP ts i = .ok (x, j)) : condP us (i + d) = .ok (x, j + d) ∧ (tkAt ts i).1 = 6 := by
  have e1 := h.isW
  have e2 : ∀ {i : Nat} {k : Int}, nameB k (tkAt ts i) = true → nameB k (tkAt us (i + d)) = true ∧ (tkAt us (i + d)).2.2 = (tkAt ts i).2.2 := fun {i k} hn => by
    have a := h.al (i := i) (by have := nameB_kind hn; omega)
    exact ⟨by rw [← a.nameB]; exact hn, a.2.symm⟩
  have e3 : ∀ {i m : Nat}, numR (tkAt ts i) = .ok m → numR (tkAt us (i + d)) = .ok m := fun {i m} hn => by
    have a := h.al (i := i) (by have := numR_kind hn; omega)
    rw [← a.numR]; exact hn
  unfold condP at hc ⊢
  simp only [add3 i d, e1]
  split at hc
  · rename_i h0
    rw [if_pos h0]
    split at hc
    · rename_i h1
      rw [if_pos h1]
      split at hc
      · rename_i h2
        obtain ⟨a, b⟩ := e2 h2
        rw [if_pos a, b]
        injection hc with hc; injection hc with q1 q2
        subst q1; subst q2
        exact ⟨by simp [add3], isW_kind h0⟩
      · cases hc
    · cases hc
  rename_i h0
  rw [if_neg h0]
  split at hc
  · rename_i h0
    rw [if_pos h0]
    split at hc
    · rename_i h2
      obtain ⟨a, b⟩ := e2 h2
      rw [if_pos a, b]
      injection hc with hc; injection hc with q1 q2
      subst q1; subst q2
      exact ⟨by simp [add3], isW_kind h0⟩
    · cases hc
  rename_i h0
  rw [if_neg h0]
  split at hc
  · rename_i h0
    rw [if_pos h0]
    split at hc
    · rename_i h2
      obtain ⟨a, b⟩ := e2 h2
      rw [if_pos a, b]
      injection hc with hc; injection hc with q1 q2
      subst q1; subst q2
      exact ⟨by simp [add3], isW_kind h0⟩
    · cases hc
  rename_i h0
  rw [if_neg h0]
  split at hc
  · rename_i h0
    rw [if_pos h0]
    split at hc
    · rename_i h1
      rw [if_pos h1]
      split at hc
      · rename_i m h2
        rw [e3 h2]
        injection hc with hc; injection hc with q1 q2
        subst q1; subst q2
        exact ⟨by simp [add3], isW_kind h0⟩
      · cases hc
    · cases hc
  rename_i h0
  rw [if_neg h0]
  split at hc
  · rename_i h0
    rw [if_pos h0]
    split at hc
    · rename_i h1
      rw [if_pos h1]
      split at hc
      · rename_i h2
        have a := h.al (i := i + 2) (by omega)
        rw [if_pos (by rw [← a.1]; exact h2), ← a.2]
        injection hc with hc; injection hc with q1 q2
        subst q1; subst q2
        exact ⟨by simp [add3], isW_kind h0⟩
      · cases hc
    · cases hc
  rename_i h0
  rw [if_neg h0]
  split at hc
  · rename_i h0
    have h6 : (tkAt ts i).1 = 6 := by simp at h0; exact h0.1
    have a0 := h.al (i := i) (by omega)
    rw [if_pos (by rw [← a0.1, ← a0.2]; exact h0)]
    split at hc
    · rename_i h1
      have a1 := h.al (i := i + 1) (by omega)
      rw [if_pos (by rw [← a1.1]; exact h1), ← a1.2, ← a0.2]
      split at hc
      · rename_i m h2
        rw [e3 h2]
        injection hc with hc; injection hc with q1 q2
        subst q1; subst q2
        exact ⟨by simp [add3], h6⟩
      · cases hc
    · cases hc
  · cases hc
/-- One reading goes well where another does, so many places behind. -/
def SimR (f g : Nat → PR) (d : Nat) : Prop := ∀ i x j, f i = .ok (x, j) → g (i + d) = .ok (x, j + d)
theorem primP_sim {ts us : List Tok} {d : Nat} (h : Sim ts us d) {f g : Nat → PR} (ho : SimR f g d) : SimR (primP f ts) (primP g us) d := by
  intro i x j hc
  unfold primP at hc ⊢
  split at hc
  · obtain ⟨a, b⟩ := condP_sim h hc
    have c := (h.al (i := i) (by omega)).1
    rw [if_pos (by omega)]
    exact a
  · rename_i h2
    have c := (h.al (i := i) (by omega)).1
    rw [if_neg (by omega)]
    split at hc
    · cases hc
    · rename_i y k hk
      rw [add3, ho _ _ _ hk]
      simp only
      split at hc
      · cases hc
      · rename_i h3
        have c := (h.al (i := k) (by omega)).1
        rw [if_neg (by omega)]
        injection hc with hc; injection hc with q1 q2
        subst q1; subst q2
        simp [add3]
theorem unP_sim {ts us : List Tok} {d : Nat} (h : Sim ts us d) {f g : Nat → PR} (ho : SimR f g d) : SimR (unP f ts) (unP g us) d := by
  intro i x j hc
  unfold unP at hc ⊢
  rw [h.isW]
  split at hc
  · rename_i h1
    rw [if_pos h1]
    exact primP_sim h ho _ _ _ hc
  · rename_i h1
    rw [if_neg h1]
    split at hc
    · cases hc
    · rename_i y k hk
      rw [add3, primP_sim h ho _ _ _ hk]
      simp only
      injection hc with hc; injection hc with q1 q2
      subst q1; subst q2
      rfl
theorem tkAt_out {ts : List Tok} {i : Nat} (h : ts.length ≤ i) : tkAt ts i = (0, 0, []) := by
  rw [tkAt, List.getElem?_eq_none h]; rfl
theorem chainL_stop {mem : Nat → PR} {ts : List Tok} {w : List UInt8} (n : Nat) {j : Nat} (acc : List Qy) (h : isW (tkAt ts j) w = false) : chainL mem ts w n j acc = .ok (acc, j) := by
  cases n with
  | zero => rfl
  | succ n => rw [chainL, if_neg (by rw [h]; simp)]
theorem chainL_sim {ts us : List Tok} {d : Nat} (h : Sim ts us d) {f g : Nat → PR} (ho : SimR f g d) (hlt : ∀ i x j, f i = .ok (x, j) → i < j) (w : List UInt8) : ∀ (n m j : Nat) (acc l : List Qy) (j' : Nat), n ≤ m → ts.length ≤ n + j →
    chainL f ts w n j acc = .ok (l, j') → chainL g us w m (j + d) acc = .ok (l, j' + d)
  | 0, m, j, acc, l, j', hm, hn, hc => by
    rw [chainL] at hc
    injection hc with hc; injection hc with q1 q2
    subst q1; subst q2
    refine chainL_stop m acc ?_
    rw [h.isW, tkAt_out (by omega)]; rfl
  | n + 1, m, j, acc, l, j', hm, hn, hc => by
    obtain ⟨m, rfl⟩ : ∃ m', m = m' + 1 := ⟨m - 1, by omega⟩
    rw [chainL] at hc ⊢
    rw [h.isW]
    split at hc
    · rename_i h1
      rw [if_pos h1]
      split at hc
      · cases hc
      · rename_i y k hk
        rw [add3, ho _ _ _ hk]
        simp only
        have := hlt _ _ _ hk
        exact chainL_sim h ho hlt w n m k _ l j' (by omega) (by omega) hc
    · rename_i h1
      rw [if_neg h1]
      injection hc with hc; injection hc with q1 q2
      subst q1; subst q2
      rfl
theorem chainP_sim {ts us : List Tok} {d : Nat} (h : Sim ts us d) (hl : ts.length ≤ us.length) {f g : Nat → PR} (ho : SimR f g d) (hlt : ∀ i x j, f i = .ok (x, j) → i < j) (w : List UInt8) (k : Int) : SimR (chainP f ts w k) (chainP g us w k) d := by
  intro i x j hc
  unfold chainP at hc ⊢
  split at hc
  · cases hc
  · rename_i y a ha
    rw [ho _ _ _ ha]
    simp only
    split at hc
    · cases hc
    · rename_i l b hb
      rw [chainL_sim h ho hlt w _ us.length _ _ _ _ hl (by omega) hb]
      simp only
      injection hc with hc; injection hc with q1 q2
      subst q1; subst q2
      rfl
theorem orP_sim {ts us : List Tok} {d : Nat} (h : Sim ts us d) (hl : ts.length ≤ us.length) : ∀ (n m : Nat), n ≤ m → SimR (orP n ts) (orP m us) d
  | 0, m, _ => fun i x j hc => by simp [orP] at hc
  | n + 1, m, hm => by
    obtain ⟨m, rfl⟩ : ∃ m', m = m' + 1 := ⟨m - 1, by omega⟩
    intro i x j hc
    rw [orP] at hc ⊢
    exact chainP_sim h hl (chainP_sim h hl (unP_sim h (orP_sim h hl n m (by omega))) (fun _ _ _ q => unP_lt (orP_lt ts n) q) _ _) (andP_lt (orP_lt ts n)) _ _ _ _ _ hc
/-- A chain of one member. -/
theorem chainP_one {mem : Nat → PR} {ts : List Tok} {w : List UInt8} {k : Int} {i j : Nat} {x : Qy} (h : mem i = .ok (x, j)) (hw : isW (tkAt ts j) w = false) : chainP mem ts w k i = .ok (x, j) := by
  unfold chainP
  rw [h]
  simp only [chainL_stop _ _ hw]
  rfl
/-- A query in brackets. -/
theorem orP_brack {ts : List Tok} {n i j : Nat} {x : Qy} (h2 : (tkAt ts i).1 = 2) (h : orP n ts (i + 1) = .ok (x, j)) (h3 : (tkAt ts j).1 = 3) (h6 : (tkAt ts (j + 1)).1 ≠ 6) : orP (n + 1) ts i = .ok (x, j + 1) := by
  have a : primP (orP n ts) ts i = .ok (x, j + 1) := by
    unfold primP
    rw [if_neg (by omega), h]
    simp only
    rw [if_neg (by omega)]
  have b : unP (orP n ts) ts i = .ok (x, j + 1) := by
    unfold unP
    rw [if_pos (isW_no (by omega) _)]
    exact a
  rw [orP]
  exact chainP_one (chainP_one b (isW_no h6 _)) (isW_no h6 _)
end Go.Proofs.YtliogkkhofhfcaaGreatDoor

/- Query: the tokens of a string with blanks or brackets around it, plain. No condition. -/
set_option linter.unusedSimpArgs false
set_option maxRecDepth 4000
namespace Go.Proofs.YtliogkkhofhfcaaGreatDoor
open Go.Eng

/-- A string that may stand behind any other: it does not go on with a word or a comparison, and has no quotation mark. -/
def TailOk (t : List UInt8) : Prop := (∀ c r, t = c :: r → inWB c = false ∧ c ≠ 61) ∧ ∀ c ∈ t, c ≠ 34
theorem tw_app {t : List UInt8} (h : ∀ c r, t = c :: r → inWB c = false) : ∀ s : List UInt8, (s ++ t).takeWhile inWB = s.takeWhile inWB ∧ (s ++ t).dropWhile inWB = s.dropWhile inWB ++ t
  | [] => by
    cases t with
    | nil => simp
    | cons c r => simp [List.takeWhile_cons, List.dropWhile_cons, h c r rfl]
  | c :: s => by
    obtain ⟨a, b⟩ := tw_app h s
    by_cases hc : inWB c = true
    · simp [List.takeWhile_cons, List.dropWhile_cons, hc, a, b]
    · simp [List.takeWhile_cons, List.dropWhile_cons, hc]
theorem ib_none {t : List UInt8} (h : ∀ c ∈ t, c ≠ 34) : Lib.indexByte t 34 = -1 := by
  induction t with
  | nil => rfl
  | cons c r ih =>
    have := ih (fun c hc => h c (List.mem_cons_of_mem _ hc))
    have hb : (c == 34) = false := by simpa using h c List.mem_cons_self
    rw [Lib.indexByte, hb, this]
    rfl
theorem ib_app {t : List UInt8} (h : ∀ c ∈ t, c ≠ 34) : ∀ s : List UInt8, (Lib.indexByte s 34 = -1 ∧ Lib.indexByte (s ++ t) 34 = -1) ∨ (Lib.indexByte (s ++ t) 34 = Lib.indexByte s 34 ∧ 0 ≤ Lib.indexByte s 34)
  | [] => .inl ⟨rfl, by simpa using ib_none h⟩
  | c :: s => by
    have ih := ib_app h s
    simp only [List.cons_append]
    rw [Lib.indexByte, Lib.indexByte]
    cases hb : (c == 34) with
    | true => right; simp
    | false =>
      simp only [Bool.false_eq_true, if_false]
      rcases ih with ⟨a, b⟩ | ⟨a, b⟩
      · rw [a, b]; exact .inl ⟨rfl, rfl⟩
      · have e : (Lib.indexByte s 34 == -1) = false := by simp only [beq_eq_false_iff_ne, ne_eq]; omega
        rw [a, e]
        simp only [Bool.false_eq_true, if_false]
        exact .inr ⟨by trivial, by omega⟩
theorem symb_app {t : List UInt8} (ht : TailOk t) (c : UInt8) (r : List UInt8) : symb c (r ++ t) = symb c r := by
  have hib := ib_app ht.2 r
  have hbd := indexByte_le 34 r
  have h61 : (r ++ t).head? = some 61 ↔ r.head? = some 61 := by
    cases r with
    | nil =>
      simp only [List.nil_append]
      cases t with
      | nil => simp
      | cons d q => have := (ht.1 d q rfl).2; simp [this]
    | cons a r => simp
  unfold symb
  simp only [h61]
  rcases hib with ⟨a, b⟩ | ⟨a, b⟩
  · simp only [a, b, show ((-1 : Int) < 0) by decide, if_true]
  · rw [a]
    have : (r ++ t).take (Lib.indexByte r 34).toNat = r.take (Lib.indexByte r 34).toNat := List.take_append_of_le_length (by omega)
    rw [this]
theorem symb_len (c : UInt8) (r : List UInt8) : (symb c r).1 = 1 ∨ (symb c r).2.2 ≤ r.length + 1 := by
  by_cases h : (symb c r).1 = 1
  · exact .inl h
  · exact .inr (symb_ascii h).1
theorem symb_not0 (c : UInt8) (r : List UInt8) : (symb c r).1 ≠ 0 ∧ (symb c r).1 ≠ 6 := by
  unfold symb
  repeat' split
  all_goals simp
/-- The tokens of a string before a tail. -/
theorem toks_app {t : List UInt8} (ht : TailOk t) : ∀ (n : Nat) (s : List UInt8) (i : Nat), s.length ≤ n → ∃ pre : List Tok, (∀ x ∈ pre, x.1 ≠ 0) ∧
    ((toks s i = pre ++ [(0, i + s.length, [])] ∧ toks (s ++ t) i = pre ++ toks t (i + s.length)) ∨ (toks s i = pre ∧ toks (s ++ t) i = pre)) := by
  intro n
  induction n with
  | zero =>
    intro s i hs
    have : s = [] := List.eq_nil_of_length_eq_zero (by omega)
    subst this
    exact ⟨[], by simp, .inl ⟨rfl, by simp⟩⟩
  | succ n ih =>
    intro s i hs
    cases s with
    | nil => exact ⟨[], by simp, .inl ⟨rfl, by simp⟩⟩
    | cons c r =>
      simp only [List.length_cons, List.cons_append] at hs ⊢
      by_cases h32 : c.toNat = 32
      · obtain ⟨pre, hp, h⟩ := ih r (i + 1) (by omega)
        rw [toks_blank h32, toks_blank h32]
        rw [show i + 1 + r.length = i + (r.length + 1) by omega] at h
        exact ⟨pre, hp, h⟩
      · by_cases hw : inWB c = true
        · rw [toks_word h32 hw, toks_word h32 hw]
          have htw := tw_app (fun c r e => (ht.1 c r e).1) (c :: r)
          simp only [List.cons_append] at htw
          rw [htw.1, htw.2]
          have hd : ((c :: r).dropWhile inWB).length ≤ r.length := by
            rw [List.dropWhile_cons, if_pos hw]
            exact (List.dropWhile_suffix _).length_le
          have hsum : ((c :: r).takeWhile inWB).length + ((c :: r).dropWhile inWB).length = r.length + 1 := by
            have := congrArg List.length (List.takeWhile_append_dropWhile (p := inWB) (l := c :: r))
            rw [List.length_append, List.length_cons] at this
            exact this
          obtain ⟨pre, hp, h⟩ := ih ((c :: r).dropWhile inWB) (i + ((c :: r).takeWhile inWB).length) (by omega)
          rw [show i + ((c :: r).takeWhile inWB).length + ((c :: r).dropWhile inWB).length = i + (r.length + 1) by omega] at h
          generalize (c :: r).takeWhile inWB = w at *
          generalize (c :: r).dropWhile inWB = q at *
          refine ⟨(6, i, w) :: pre, fun x hx => ?_, ?_⟩
          · rcases List.mem_cons.1 hx with rfl | hx
            · simp
            · exact hp x hx
          · rcases h with ⟨a, b⟩ | ⟨a, b⟩
            · left; rw [a, b]; exact ⟨rfl, rfl⟩
            · right; rw [a, b]; exact ⟨rfl, rfl⟩
        · have hw : inWB c = false := by simpa using hw
          rw [toks_symb h32 hw, toks_symb h32 hw, symb_app ht]
          have hsz := symb_size c r
          have hn0 := (symb_not0 c r).1
          have hle := symb_len c r
          generalize symb c r = sy at *
          obtain ⟨tk, tx, sz⟩ := sy
          simp only at *
          by_cases h1 : tk = 1
          · rw [if_pos h1, if_pos h1]
            exact ⟨[(tk, i, tx)], by simp [h1], .inr ⟨rfl, rfl⟩⟩
          · rw [if_neg h1, if_neg h1]
            have hle : sz ≤ r.length + 1 := hle.resolve_left h1
            rw [List.drop_append_of_le_length (by omega)]
            obtain ⟨pre, hp, h⟩ := ih (r.drop (sz - 1)) (i + sz) (by simp; omega)
            rw [List.length_drop, show i + sz + (r.length - (sz - 1)) = i + (r.length + 1) by omega] at h
            refine ⟨(tk, i, tx) :: pre, fun x hx => ?_, ?_⟩
            · rcases List.mem_cons.1 hx with rfl | hx
              · exact hn0
              · exact hp x hx
            · rcases h with ⟨a, b⟩ | ⟨a, b⟩
              · left; rw [a, b]; exact ⟨rfl, rfl⟩
              · right; rw [a, b]; exact ⟨rfl, rfl⟩
/-- A token, so many places behind. -/
def shT (d : Nat) (t : Tok) : Tok := (t.1, t.2.1 + d, t.2.2)
theorem toks_shift (d : Nat) : ∀ (n : Nat) (s : List UInt8) (i : Nat), s.length ≤ n → toks s (i + d) = (toks s i).map (shT d) := by
  intro n
  induction n with
  | zero =>
    intro s i hs
    have : s = [] := List.eq_nil_of_length_eq_zero (by omega)
    subst this
    rfl
  | succ n ih =>
    intro s i hs
    cases s with
    | nil => rfl
    | cons c r =>
      simp only [List.length_cons] at hs
      by_cases h32 : c.toNat = 32
      · rw [toks_blank h32, toks_blank h32, show i + d + 1 = i + 1 + d by omega]
        exact ih r (i + 1) (by omega)
      · by_cases hw : inWB c = true
        · rw [toks_word h32 hw, toks_word h32 hw]
          have hd : ((c :: r).dropWhile inWB).length ≤ r.length := by
            rw [List.dropWhile_cons, if_pos hw]
            exact (List.dropWhile_suffix _).length_le
          rw [show i + d + ((c :: r).takeWhile inWB).length = i + ((c :: r).takeWhile inWB).length + d by omega, ih _ _ (by omega)]
          rfl
        · have hw : inWB c = false := by simpa using hw
          rw [toks_symb h32 hw, toks_symb h32 hw]
          by_cases h1 : (symb c r).1 = 1
          · rw [if_pos h1, if_pos h1]; rfl
          · rw [if_neg h1, if_neg h1, show i + d + (symb c r).2.2 = i + (symb c r).2.2 + d by omega, ih _ _ (by simp; omega)]
            rfl
theorem toks_blanks (n : Nat) (s : List UInt8) : ∀ i, toks (List.replicate n 32 ++ s) i = toks s (i + n) := by
  induction n with
  | zero => intro i; rfl
  | succ n ih =>
    intro i
    rw [List.replicate_succ, List.cons_append, toks_blank rfl, ih, show i + 1 + n = i + (n + 1) by omega]
theorem parse_err {s : List UInt8} {a : Nat} {e : Int} (h : parseP s = .error (a, e)) : e ≠ 0 := by
  unfold parseP at h
  split at h
  · injection h with h; injection h with _ h; omega
  rename_i hs
  have hin := orP_in (gd_toks s (by omega)) (toks s 0).length 0 (toks_pos s)
  split at h
  · rename_i hC
    rw [hC] at hin
    injection h with h; injection h with _ h; rw [← h]; exact hin.2
  split at h
  · injection h with h; injection h with _ h; omega
  split at h
  · cases h
  · injection h with h; injection h with _ h; omega
theorem tkAt_left {pre r : List Tok} {i : Nat} (h : i < pre.length) : tkAt (pre ++ r) i = tkAt pre i := by
  rw [tkAt, tkAt, List.getElem?_append_left h]
theorem tkAt_mem {ts : List Tok} {i : Nat} (h : i < ts.length) : tkAt ts i ∈ ts := by
  rw [tkAt, List.getElem?_eq_getElem h]; exact List.getElem_mem h
theorem tkAt_map {f : Tok → Tok} {ts : List Tok} {i : Nat} (h : i < ts.length) : tkAt (ts.map f) i = f (tkAt ts i) := by
  rw [tkAt, tkAt, List.getElem?_map, List.getElem?_eq_getElem h]; rfl

/-- Blanks before and behind. -/
theorem parse_blanks (s : List UInt8) (n : Nat) (hs : s.length + n + 1 ≤ 1000) :
    match parseP s with
    | .ok x => parseP (List.replicate n 32 ++ s ++ [32]) = .ok x
    | .error (a, e) => (∃ b, parseP (List.replicate n 32 ++ s ++ [32]) = .error (b, e) ∧ (e = 5 ∨ b = a + n ∨ (a = s.length ∧ b = s.length + n + 1))) ∧ e ≠ 0 := by
  have htail : TailOk [32] := ⟨fun c r e => by injection e with e _; subst e; decide, by decide⟩
  obtain ⟨pre, hp, h⟩ := toks_app htail s.length s n (Nat.le_refl _)
  have hsh := toks_shift n s.length s 0 (Nat.le_refl _)
  rw [Nat.zero_add] at hsh
  have hgd := gd_toks s (by omega)
  have hpos := toks_pos s
  have hal : toks (List.replicate n 32 ++ s ++ [32]) 0 = (toks s 0).map (fun t => (t.1, t.2.1 + n + (if t.1 = 0 then 1 else 0), t.2.2)) ∧ ∀ t ∈ toks s 0, t.1 = 0 → t.2.1 = s.length := by
    rw [List.append_assoc, toks_blanks, Nat.zero_add]
    have hmap : ∀ l : List Tok, (∀ x ∈ l.map (shT n), x.1 ≠ 0) → l.map (shT n) = l.map (fun t => (t.1, t.2.1 + n + (if t.1 = 0 then 1 else 0), t.2.2)) := fun l hl => by
      apply List.map_congr_left
      intro t ht
      have := hl _ (List.mem_map_of_mem ht)
      have h0 : t.1 ≠ 0 := this
      rw [if_neg h0]; rfl
    rcases h with ⟨a, b⟩ | ⟨a, b⟩
    · rw [b, show toks [32] (n + s.length) = [(0, n + s.length + 1, [])] from rfl]
      rw [hsh] at a
      have hlast : toks s 0 ≠ [] := fun e => by rw [e] at hpos; simp at hpos
      obtain ⟨l, z, hlz⟩ : ∃ l z, toks s 0 = l ++ [z] := ⟨_, _, (List.dropLast_concat_getLast hlast).symm⟩
      rw [hlz, List.map_append, List.map_cons, List.map_nil] at a
      obtain ⟨a1, a2⟩ := List.append_inj' a rfl
      injection a2 with a2 _
      have z0 : z.1 = 0 := congrArg Prod.fst a2
      have z1 : z.2.1 + n = n + s.length := congrArg (fun t : Tok => t.2.1) a2
      have z2 : z.2.2 = [] := congrArg (fun t : Tok => t.2.2) a2
      constructor
      · rw [hlz, List.map_append, ← a1, hmap l (by rw [a1]; exact hp)]
        simp [z0, z1, z2]
      · intro t ht h0
        rw [hlz] at ht
        rcases List.mem_append.1 ht with ht | ht
        · have := hp (shT n t) (by rw [← a1]; exact List.mem_map_of_mem ht)
          exact absurd h0 this
        · simp at ht; subst ht; omega
    · rw [b, ← a, hsh]
      rw [hsh] at a
      constructor
      · exact hmap _ (by rw [a]; exact hp)
      · intro t ht h0
        have := hp (shT n t) (by rw [← a]; exact List.mem_map_of_mem ht)
        exact absurd h0 this
  obtain ⟨hal, hend⟩ := hal
  unfold parseP
  rw [if_neg (by omega), if_neg (by simp; omega), hal]
  generalize toks s 0 = ts at *
  obtain ⟨f, hf⟩ : ∃ f : Tok → Tok, f = fun t => (t.1, t.2.1 + n + (if t.1 = 0 then 1 else 0), t.2.2) := ⟨_, rfl⟩
  rw [← hf]
  have hA : ∀ i, Alk (tkAt ts i) (tkAt (ts.map f) i) := fun i => by
    by_cases hi : i < ts.length
    · rw [tkAt_map hi, hf]; exact ⟨rfl, rfl⟩
    · rw [tkAt_out (by omega), tkAt_out (by simp; omega)]; exact ⟨rfl, rfl⟩
  rw [List.length_map, ← orP_al (by simp) hA]
  have hin := orP_in hgd ts.length 0 hpos
  have hfin : ∀ j, j < ts.length → (tkAt (ts.map f) j).2.1 = (tkAt ts j).2.1 + n ∨ ((tkAt ts j).2.1 = s.length ∧ (tkAt (ts.map f) j).2.1 = s.length + n + 1) := fun j hj => by
    rw [tkAt_map hj, hf]
    simp only
    by_cases h0 : (tkAt ts j).1 = 0
    · have := hend _ (tkAt_mem hj) h0
      rw [if_pos h0]; right; omega
    · rw [if_neg h0]; left; omega
  cases hC : orP ts.length ts 0 with
  | error y =>
    obtain ⟨j, e⟩ := y
    rw [hC] at hin
    exact ⟨⟨_, rfl, .inr (hfin j hin.1)⟩, hin.2⟩
  | ok y =>
    obtain ⟨x, j⟩ := y
    rw [hC] at hin
    simp only
    rw [← (hA j).1]
    by_cases h0 : (tkAt ts j).1 ≠ 0
    · rw [if_pos h0, if_pos h0]
      exact ⟨⟨_, rfl, .inr (hfin j hin)⟩, by decide⟩
    · rw [if_neg h0, if_neg h0]
      by_cases hv : canonB x = true
      · rw [if_pos hv]
      · rw [if_neg hv]
        exact ⟨⟨0, rfl, .inl rfl⟩, by decide⟩
/-- Brackets around. -/
theorem parse_bracks (s : List UInt8) (hs : s.length + 4 ≤ 1000) {x : Qy} (h : parseP s = .ok x) : parseP ([40, 40] ++ s ++ [41, 41]) = .ok x := by
  have htail : TailOk [41, 41] := ⟨fun c r e => by injection e with e _; subst e; decide, by decide⟩
  obtain ⟨pre, hp, hT⟩ := toks_app htail s.length s 2 (Nat.le_refl _)
  have hsh := toks_shift 2 s.length s 0 (Nat.le_refl _)
  have hgd := gd_toks s (by omega)
  have hpos := toks_pos s
  have hin := orP_in hgd (toks s 0).length 0 hpos
  unfold parseP at h ⊢
  rw [if_neg (by omega)] at h
  rw [if_neg (by simp; omega)]
  cases hC : orP (toks s 0).length (toks s 0) 0 with
  | error y => rw [hC] at h; cases h
  | ok y =>
    obtain ⟨x', j⟩ := y
    rw [hC] at h hin
    simp only at h
    have hj : j < (toks s 0).length := hin
    split at h
    · cases h
    rename_i h0
    have h0 : (tkAt (toks s 0) j).1 = 0 := by omega
    split at h
    rotate_left
    · cases h
    rename_i hv
    injection h with h
    subst h
    have hmem := tkAt_mem hj
    have hend : toks s 2 = pre ++ [(0, 2 + s.length, [])] ∧ toks (s ++ [41, 41]) 2 = pre ++ toks [41, 41] (2 + s.length) := by
      rcases hT with hT | ⟨a, b⟩
      · exact hT
      · rw [← Nat.zero_add 2, hsh] at a
        have := hp (shT 2 (tkAt (toks s 0) j)) (by rw [← a]; exact List.mem_map_of_mem hmem)
        exact absurd h0 this
    obtain ⟨hA, hB⟩ := hend
    rw [← Nat.zero_add 2, hsh] at hA
    have hus : toks ([40, 40] ++ s ++ [41, 41]) 0 = (2, 0, []) :: (2, 1, []) :: (pre ++ [(3, 2 + s.length, []), (3, 3 + s.length, []), (0, 4 + s.length, [])]) := by
      have e1 : [40, 40] ++ s ++ [41, 41] = 40 :: 40 :: (s ++ [41, 41]) := by simp
      have e2 : toks [41, 41] (2 + s.length) = [(3, 2 + s.length, []), (3, 3 + s.length, []), (0, 4 + s.length, [])] := by
        rw [show 3 + s.length = 2 + s.length + 1 by omega, show 4 + s.length = 2 + s.length + 1 + 1 by omega]
        rfl
      have so : ∀ (r : List UInt8) i, toks (40 :: r) i = (2, i, []) :: toks r (i + 1) := fun r i => toks_symb (c := 40) (by decide) (by decide) r i
      rw [e1, so, so, Nat.zero_add]
      show (2, 0, []) :: (2, 1, []) :: toks (s ++ [41, 41]) 2 = _
      rw [hB, e2]
    have hlen : (toks s 0).length = pre.length + 1 := by
      have := congrArg List.length hA
      simpa using this
    have hpre : ∀ i, i < pre.length → tkAt pre i = shT 2 (tkAt (toks s 0) i) := fun i hi => by
      rw [← tkAt_map (f := shT 2) (by omega), hA, tkAt_left hi]
    have hjp : j = pre.length := by
      rcases Nat.lt_or_ge j pre.length with hlt | hge
      · have := hp _ (tkAt_mem hlt)
        rw [hpre j hlt] at this
        exact absurd h0 this
      · omega
    have hz : (tkAt (toks s 0) pre.length).1 = 0 := by rw [← hjp]; exact h0
    generalize toks s 0 = ts at *
    rw [hus]
    obtain ⟨us, hue⟩ : ∃ us : List Tok, us = (2, 0, []) :: (2, 1, []) :: (pre ++ [(3, 2 + s.length, []), (3, 3 + s.length, []), (0, 4 + s.length, [])]) := ⟨_, rfl⟩
    rw [← hue]
    have hul : us.length = ts.length + 4 := by rw [hue, hlen]; simp
    have hu : ∀ i, tkAt us (i + 2) = tkAt (pre ++ [(3, 2 + s.length, []), (3, 3 + s.length, []), (0, 4 + s.length, [])]) i := fun i => by rw [hue]; rfl
    have hr : ∀ k, tkAt us (pre.length + k + 2) = tkAt [(3, 2 + s.length, []), (3, 3 + s.length, []), (0, 4 + s.length, [])] k := fun k => by
      rw [hu, tkAt, List.getElem?_append_right (by omega), show pre.length + k - pre.length = k by omega]; rfl
    have hsim : Sim ts us 2 := fun i => by
      rcases Nat.lt_or_ge i pre.length with hlt | hge
      · left
        rw [hu, tkAt_left hlt, hpre i hlt]
        exact ⟨rfl, rfl⟩
      · right
        obtain ⟨k, rfl⟩ : ∃ k, i = pre.length + k := ⟨i - pre.length, by omega⟩
        rw [hr]
        refine ⟨?_, ?_⟩
        · cases k with
          | zero => exact hz
          | succ k => rw [tkAt_out (by omega)]
        · match k with
          | 0 => simp [tkAt]
          | 1 => simp [tkAt]
          | 2 => simp [tkAt]
          | k + 3 => rw [tkAt_out (by simp)]; decide
    have r0 := orP_sim hsim (by omega) ts.length (ts.length + 2) (by omega) 0 x' j hC
    rw [Nat.zero_add, hjp] at r0
    have t2 : (tkAt us (pre.length + 2)).1 = 3 := by have := hr 0; rw [Nat.add_zero] at this; rw [this]; rfl
    have t3 : (tkAt us (pre.length + 3)).1 = 3 := by have := hr 1; rw [show pre.length + 1 + 2 = pre.length + 3 by omega] at this; rw [this]; rfl
    have t4 : (tkAt us (pre.length + 4)).1 = 0 := by have := hr 2; rw [show pre.length + 2 + 2 = pre.length + 4 by omega] at this; rw [this]; rfl
    have u0 : (tkAt us 0).1 = 2 := by rw [hue]; rfl
    have u1 : (tkAt us 1).1 = 2 := by rw [hue]; rfl
    have r1 := orP_brack (i := 1) u1 r0 t2 (by rw [show pre.length + 2 + 1 = pre.length + 3 by omega]; omega)
    have r2 := orP_brack (i := 0) u0 r1 t3 (by rw [show pre.length + 2 + 1 + 1 = pre.length + 4 by omega]; omega)
    rw [hul, r2]
    simp only
    rw [show pre.length + 2 + 1 + 1 = pre.length + 4 by omega, if_neg (by omega), if_pos hv]
end Go.Proofs.YtliogkkhofhfcaaGreatDoor
