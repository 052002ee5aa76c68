/- Hold: the bit set of the reasons that stand, and what a deed does to it. No condition. -/
import Derived.Test.YtjgngffbmfbdkaaHoldH
set_option linter.unusedSimpArgs false
namespace Go.Proofs.Ytjgngffbmfbdkaa
open Go.Eng

/-- A hold stands for the reason. -/
def opn (hs : List H3) (r : Int) : Bool := hs.any (hit r)
def bit (b : Bool) (n : Int) : Int := if b = true then n else 0
def stI (a b c d e : Bool) : Int := bit a 2 + bit b 4 + bit c 8 + bit d 16 + bit e 32
def stB (hs : List H3) : Int := stI (opn hs 1) (opn hs 2) (opn hs 3) (opn hs 4) (opn hs 5)
/-- 1 << uint(r & 63). -/
def shB (r : Int) : Int := IntKind.i64.wrap (2 ^ min (IntKind.u64.wrap (bits .and .i64 r 63)).toNat 64)

theorem sh_or (a b c d e : Bool) : bits .or .i64 (stI a b c d e) (shB 1) = stI true b c d e ∧ bits .or .i64 (stI a b c d e) (shB 2) = stI a true c d e ∧ bits .or .i64 (stI a b c d e) (shB 3) = stI a b true d e ∧ bits .or .i64 (stI a b c d e) (shB 4) = stI a b c true e ∧ bits .or .i64 (stI a b c d e) (shB 5) = stI a b c d true := by
  revert a b c d e
  decide +kernel
theorem sh_not (a b c d e : Bool) : bits .andNot .i64 (stI a b c d e) (shB 1) = stI false b c d e ∧ bits .andNot .i64 (stI a b c d e) (shB 2) = stI a false c d e ∧ bits .andNot .i64 (stI a b c d e) (shB 3) = stI a b false d e ∧ bits .andNot .i64 (stI a b c d e) (shB 4) = stI a b c false e ∧ bits .andNot .i64 (stI a b c d e) (shB 5) = stI a b c d false := by
  revert a b c d e
  decide +kernel
theorem stI_zero (a b c d e : Bool) : stI a b c d e = 0 ↔ (a = false ∧ b = false ∧ c = false ∧ d = false ∧ e = false) := by
  revert a b c d e
  decide

theorem opn_add (hs : List H3) (r t r' : Int) : opn (hs ++ [⟨r, t, 0⟩]) r' = (opn hs r' || decide (r = r')) := by
  simp [opn, hit]
theorem opn_lift (hs : List H3) (r t r' : Int) (ht : 0 < t) : opn (hs.map (lift1 r t)) r' = (opn hs r' && !decide (r = r')) := by
  unfold opn
  induction hs with
  | nil => simp
  | cons h hs ih =>
    simp only [List.map_cons, List.any_cons, ih]
    have : hit r' (lift1 r t h) = (hit r' h && !decide (r = r')) := by
      unfold hit lift1
      by_cases h1 : h.r = r <;> by_cases h2 : h.u = 0 <;> by_cases h3 : h.r = r' <;> simp_all <;> omega
    rw [this]
    cases hit r' h <;> cases decide (r = r') <;> simp

theorem stB_add (hs : List H3) (r t : Int) (hr : rsn r = true) : bits .or .i64 (stB hs) (shB r) = stB (hs ++ [⟨r, t, 0⟩]) := by
  simp only [stB, opn_add]
  simp [rsn] at hr
  obtain ⟨h1, h2, h3, h4, h5⟩ := sh_or (opn hs 1) (opn hs 2) (opn hs 3) (opn hs 4) (opn hs 5)
  have : r = 1 ∨ r = 2 ∨ r = 3 ∨ r = 4 ∨ r = 5 := by omega
  rcases this with rfl | rfl | rfl | rfl | rfl <;> simp [*]
theorem stB_lift (hs : List H3) (r t : Int) (hr : rsn r = true) (ht : 0 < t) : bits .andNot .i64 (stB hs) (shB r) = stB (hs.map (lift1 r t)) := by
  simp only [stB, opn_lift _ _ _ _ ht]
  simp [rsn] at hr
  obtain ⟨h1, h2, h3, h4, h5⟩ := sh_not (opn hs 1) (opn hs 2) (opn hs 3) (opn hs 4) (opn hs 5)
  have : r = 1 ∨ r = 2 ∨ r = 3 ∨ r = 4 ∨ r = 5 := by omega
  rcases this with rfl | rfl | rfl | rfl | rfl <;> simp [*]

theorem opn_false {hs : List H3} {r : Int} : opn hs r = false ↔ ¬ ∃ h ∈ hs, h.u = 0 ∧ h.r = r := by
  simp only [opn, List.any_eq_false, hit, not_exists, not_and]
  constructor
  · intro h g hg hu hr
    exact h g hg (by simp [hu, hr])
  · intro h g hg hh
    simp at hh
    exact h g hg hh.2 hh.1
theorem stB_zero {hs : List H3} {l : Int} (hv : ∀ h ∈ hs, hErr l h = 0) : stB hs = 0 ↔ openF hs = [] := by
  rw [stB, stI_zero]
  simp only [opn_false]
  have hm := (openF_rises hs).2
  constructor
  · rintro ⟨h1, h2, h3, h4, h5⟩
    apply List.eq_nil_iff_forall_not_mem.2
    intro x hx
    obtain ⟨h, hh, hu, hr⟩ := (hm x).1 hx
    have := hErr_zero.1 (hv h hh)
    have : x = 1 ∨ x = 2 ∨ x = 3 ∨ x = 4 ∨ x = 5 := by omega
    rcases this with rfl | rfl | rfl | rfl | rfl
    · exact h1 ⟨h, hh, hu, hr⟩
    · exact h2 ⟨h, hh, hu, hr⟩
    · exact h3 ⟨h, hh, hu, hr⟩
    · exact h4 ⟨h, hh, hu, hr⟩
    · exact h5 ⟨h, hh, hu, hr⟩
  · intro h0
    have : ∀ x, ¬ ∃ h ∈ hs, h.u = 0 ∧ h.r = x := fun x hx => by
      have := (hm x).2 hx
      rw [h0] at this
      cases this
    exact ⟨this 1, this 2, this 3, this 4, this 5⟩

/-- The bit set after a deed. -/
def bitsK (k r b : Int) : Int := if k = 0 then bits .or .i64 b (shB r) else if k = 1 then bits .andNot .i64 b (shB r) else b
def verK (k v : Int) : Int := if k = 2 then v + 1 else v

theorem do_bits {R : Rec} {k r t : Int} (he : doE R k r t = 0) (hV : validF R.s R.v R.l R.hs = 0) : bitsK k r (stB R.hs) = stB (doR R k r t).hs ∧ (doR R k r t).v = verK k R.v ∧ (k = 2 → stB R.hs = 0 ∧ R.s ≠ 4) := by
  have hh := (valid_iff.1 hV).2.2.2.2.2.2.2.1
  unfold doE at he
  unfold doR bitsK verK
  split at he
  · rename_i h1
    rw [if_pos h1]
    have h1 : k = 0 := by simpa using h1
    obtain ⟨_, h2, h3⟩ := place_keep he
    obtain ⟨_, hrs, _⟩ := check_zero h3
    rw [h2]
    subst h1
    exact ⟨by rw [if_pos rfl]; exact stB_add _ _ _ hrs, by simp, fun h => by cases h⟩
  rename_i h1
  rw [if_neg h1]
  have h1 : ¬ k = 0 := by simpa using h1
  rw [if_neg h1]
  split at he
  · rename_i h2
    rw [if_pos h2]
    have h2 : k = 1 := by simpa using h2
    obtain ⟨g1, _, g3⟩ := lift_zero he
    obtain ⟨_, hrs, hrd⟩ := check_zero g1
    obtain ⟨t1, _⟩ := ready_zero hrd
    have : ¬ k = 2 := by omega
    rw [if_pos h2, g3, if_neg this]
    exact ⟨stB_lift _ _ _ hrs t1, rfl, fun h => absurd h this⟩
  rename_i h2
  rw [if_neg h2]
  have h2 : ¬ k = 1 := by simpa using h2
  rw [if_neg h2]
  split at he
  · rename_i h3
    rw [if_pos h3]
    have h3 : k = 2 := by simpa using h3
    obtain ⟨_, g2⟩ := pub_keep he
    obtain ⟨g3, g4, _⟩ := pub_zero he
    obtain ⟨_, g5⟩ := pre_zero g3
    obtain ⟨_, _, _, g6⟩ := ready_zero g5
    rw [g2, if_pos h3]
    exact ⟨rfl, rfl, fun _ => ⟨(stB_zero hh).2 g4, g6⟩⟩
  rename_i h3
  rw [if_neg h3]
  have h3 : ¬ k = 2 := by simpa using h3
  have hR : voidR R.s R.v R.l t R.hs = ⟨4, R.v, t, R.hs⟩ := by rw [voidR, if_neg (by rw [he]; simp)]
  rw [hR, if_neg h3]
  exact ⟨rfl, rfl, fun h => absurd h h3⟩
/-- Where the deed fails the record is empty. -/
theorem do_zero {R : Rec} {k r t : Int} (he : doE R k r t ≠ 0) : doR R k r t = zeroR := by
  unfold doE at he
  unfold doR
  split at he
  · rename_i h1; rw [if_pos h1, placeR, if_pos he]
  rename_i h1
  rw [if_neg h1]
  split at he
  · rename_i h2; rw [if_pos h2, liftR, if_pos he]
  rename_i h2
  rw [if_neg h2]
  split at he
  · rename_i h3; rw [if_pos h3, pubR, if_pos he]
  rename_i h3
  rw [if_neg h3, voidR, if_pos he]
end Go.Proofs.Ytjgngffbmfbdkaa
