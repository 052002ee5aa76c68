import Derived.Test.YtmkbhognijicjaaGreatDoorGH
import Derived.Test.YtmkbhognijicjaaGreatDoorGE
import Derived.Test.YtmkbhognijicjaaGreatDoorGI
/- Joins: what is encoded can be read (plain law). No condition. -/
set_option linter.unusedSimpArgs false
namespace Go.Proofs.YtmkbhognijicjaaGreatDoor
open Go.Eng

theorem at_drop {bs l : List UInt8} {at_ : Nat} {c : UInt8} (h : bs.drop at_ = c :: l) : bs[at_]? = some c ∧ bs.drop (at_ + 1) = l := by
  constructor
  · have : (bs.drop at_)[0]? = some c := by rw [h]; rfl
    simpa using this
  · rw [← List.drop_drop, h]; rfl
theorem drop_app {bs l r : List UInt8} {at_ : Nat} (h : bs.drop at_ = l ++ r) : bs.drop (at_ + l.length) = r := by
  rw [← List.drop_drop, h]; simp
theorem rdV_enc {bs : List UInt8} {e : Int} : ∀ (k i x at_ y : Nat) (rest : List UInt8), i + k = 10 → y * 128 ^ i < 2 ^ 64 → (0 < i → y ≠ 0) → bs.drop at_ = vEnc y ++ rest →
    rdV bs e k i x at_ = .ok (x + y * 128 ^ i, at_ + (vEnc y).length)
  | 0, i, x, at_, y, rest, hk, hy, hn, hd => by
    have hi : i = 10 := by omega
    subst hi
    have := hn (by omega)
    have : 1 ≤ y := by omega
    have : 1 * 128 ^ 10 ≤ y * 128 ^ 10 := Nat.mul_le_mul_right _ this
    omega
  | k + 1, i, x, at_, y, rest, hk, hy, hn, hd => by
    have h9 : i = 9 → y ≤ 1 := by
      rintro rfl
      rcases Nat.lt_or_ge y 2 with h | h
      · omega
      · have : 2 * 128 ^ 9 ≤ y * 128 ^ 9 := Nat.mul_le_mul_right _ h
        omega
    rw [rdV]
    by_cases h : y < 128
    · rw [vEnc_lt h] at hd ⊢
      obtain ⟨h1, h2⟩ := at_drop hd
      have hc : (UInt8.ofNat y).toNat = y := by simp; omega
      rw [h1]
      simp only [hc]
      rw [if_neg (by rintro (⟨h3, h4⟩ | ⟨h3, h4⟩); have := h9 h3; omega; exact hn h3 h4), if_pos h]
      rfl
    · rw [vEnc_ge (by omega)] at hd ⊢
      obtain ⟨h1, h2⟩ := at_drop hd
      have hc : (UInt8.ofNat (y % 128 + 128)).toNat = y % 128 + 128 := by simp; omega
      rw [h1]
      simp only [hc]
      rw [if_neg (by rintro (⟨h3, h4⟩ | ⟨h3, h4⟩); have := h9 h3; omega; omega), if_neg (by omega)]
      have hsplit : y * 128 ^ i = y % 128 * 128 ^ i + y / 128 * 128 ^ (i + 1) := by
        rw [Nat.pow_succ, ← Nat.mul_assoc, Nat.mul_right_comm, ← Nat.add_mul]
        congr 1
        omega
      rw [rdV_enc k (i + 1) _ (at_ + 1) (y / 128) rest (by omega) (by omega) (by omega) h2]
      simp only [List.length_cons]
      congr 2
      · rw [show (y % 128 + 128) % 128 = y % 128 by omega]
        omega
      · omega
theorem rdV_enc0 {bs : List UInt8} {e : Int} {at_ y : Nat} {rest : List UInt8} (hy : y < 2 ^ 64) (h : bs.drop at_ = vEnc y ++ rest) : rdV bs e 10 0 0 at_ = .ok (y, at_ + (vEnc y).length) := by
  have := rdV_enc (e := e) 10 0 0 at_ y rest rfl (by simpa using hy) (by omega) h
  simpa using this

/-- A tree of at most so many levels. -/
def Lv : Nat → Nd → Prop
  | 0, _ => False
  | n + 1, .mk _ _ _ _ ks => ∀ x ∈ ks, Lv n x
theorem rdL_enc {bs : List UInt8} {f : Nat → Except Int (Nd × Nat)} : ∀ (ks : List Nd) (at_ : Nat) (rest : List UInt8), (∀ x ∈ ks, ∀ at_ rest, bs.drop at_ = byN x ++ rest → ∃ x', f at_ = .ok (x', at_ + (byN x).length)) →
    bs.drop at_ = (ks.map byN).flatten ++ rest → ∃ l, rdL f ks.length at_ = .ok (l, at_ + ((ks.map byN).flatten).length)
  | [], at_, rest, _, _ => ⟨[], by simp [rdL]⟩
  | x :: ks, at_, rest, hf, h => by
    simp only [List.map_cons, List.flatten_cons, List.append_assoc] at h
    obtain ⟨x', hx⟩ := hf x (by simp) at_ _ h
    obtain ⟨l, hl⟩ := rdL_enc ks (at_ + (byN x).length) rest (fun y hy => hf y (by simp [hy])) (drop_app h)
    refine ⟨x' :: l, ?_⟩
    simp only [List.length_cons, rdL, hx, hl]
    simp [Nat.add_assoc]
theorem rdN_enc {bs : List UInt8} {e : Int} : ∀ (lv : Nat) (x : Nd) (at_ : Nat) (rest : List UInt8), Wf x → Lv lv x → bs.drop at_ = byN x ++ rest → ∃ x', rdN bs e lv at_ = .ok (x', at_ + (byN x).length)
  | 0, x, at_, rest, _, hl, _ => by simp [Lv] at hl
  | lv + 1, .mk t k n s ks, at_, rest, hw, hl, h => by
    rw [Wf] at hw
    obtain ⟨h1, h2, h3, h4, h5, h6, h7⟩ := hw
    rw [Lv] at hl
    rw [byN] at h ⊢
    simp only [List.append_assoc, List.cons_append] at h
    have hv := rdV_enc0 (e := e) (by omega) h
    have hd1 := drop_app h
    obtain ⟨hk1, hd2⟩ := at_drop hd1
    have hkn : (UInt8.ofNat k.toNat).toNat = k.toNat := by simp; omega
    rw [rdN, hv]
    simp only
    rw [if_neg (by omega), hk1]
    simp only [hkn, List.length_append, List.length_cons]
    by_cases k1 : k = 1
    · subst k1
      simp only [if_true] at hd2 ⊢
      have hv2 := rdV_enc0 (e := e) (foldN_lt n) hd2
      simp only [show (1 : Int).toNat = 1 from rfl, if_true, hv2]
      exact ⟨_, by congr 2; omega⟩
    · rw [if_neg k1] at hd2 ⊢
      by_cases k2 : k = 2
      · subst k2
        simp only [if_true, List.append_assoc] at hd2 ⊢
        have hv2 := rdV_enc0 (e := e) (by omega) hd2
        have hd3 := drop_app hd2
        have hle : at_ + (vEnc t.toNat).length + 1 + (vEnc s.length).length + s.length ≤ bs.length := by
          have := congrArg List.length hd3
          simp only [List.length_drop, List.length_append] at this
          have h0 := congrArg List.length hd2
          simp only [List.length_drop, List.length_append] at h0
          have hp : 0 < (vEnc s.length).length := by rw [vEnc]; split <;> simp
          omega
        have hc : rdC bs e 2000 (at_ + (vEnc t.toNat).length + 1) = .ok (s.length, at_ + (vEnc t.toNat).length + 1 + (vEnc s.length).length) := by
          unfold rdC
          rw [hv2]
          simp only
          rw [if_neg (by omega)]
        simp only [show (2 : Int).toNat = 2 from rfl, show ¬ (2 = 1) by omega, if_false, if_true, hc]
        rw [if_pos hle]
        exact ⟨_, by congr 2; simp only [List.length_append]; omega⟩
      · have k3 : k = 3 := by omega
        subst k3
        rw [if_neg k2] at hd2 ⊢
        simp only [List.append_assoc] at hd2
        have hv2 := rdV_enc0 (e := e) (by omega) hd2
        have hd3 := drop_app hd2
        have hc : rdC bs e 1024 (at_ + (vEnc t.toNat).length + 1) = .ok (ks.length, at_ + (vEnc t.toNat).length + 1 + (vEnc ks.length).length) := by
          unfold rdC
          rw [hv2]
          simp only
          rw [if_neg (by omega)]
        obtain ⟨l, hl2⟩ := rdL_enc (f := rdN bs e lv) ks _ rest (fun x hx at_ rest hh => rdN_enc lv x at_ rest (h7 x hx) (hl x hx) hh) hd3
        simp only [show (3 : Int).toNat = 3 from rfl, show ¬ (3 = 1) by omega, show ¬ (3 = 2) by omega, if_false, if_true, hc, hl2]
        exact ⟨_, by congr 2; simp only [List.length_append]; omega⟩

theorem getB_putB_from (x : Nat) : ∀ (n v : Nat), (putB x n).foldl (fun v c => (v * 256 + c.toNat) % 2 ^ 64) v % 2 ^ 64 = (v * 256 ^ n + x % 256 ^ n) % 2 ^ 64
  | 0, v => by simp [putB, Nat.mod_one]
  | n + 1, v => by
    simp only [putB, List.foldl_cons]
    rw [getB_putB_from x n]
    have hc : (UInt8.ofNat (x / 256 ^ n % 256)).toNat = x / 256 ^ n % 256 := by simp
    have hmm : ∀ M m p q : Nat, (m % M * p + q) % M = (m * p + q) % M := by intro M m p q; simp [Nat.add_mod, Nat.mul_mod]
    rw [hc, hmm, Nat.mod_pow_succ (b := 256)]
    congr 1
    rw [Nat.pow_succ, Nat.add_mul]
    have : v * 256 * 256 ^ n = v * (256 ^ n * 256) := by rw [Nat.mul_assoc, Nat.mul_comm 256]
    have : 256 ^ n * (x / 256 ^ n % 256) = x / 256 ^ n % 256 * 256 ^ n := Nat.mul_comm _ _
    omega
theorem getB_putB (x n : Nat) (hx : x < 256 ^ n) (h : x < 2 ^ 64) : getB (putB x n) = x := by
  have h1 := getB_putB_from x n 0
  have h2 := getB_lt (putB x n)
  unfold getB at h2 ⊢
  rw [Nat.mod_eq_of_lt h2, Nat.mod_eq_of_lt hx, Nat.zero_mul, Nat.zero_add, Nat.mod_eq_of_lt h] at h1
  exact h1

theorem lv_num (t n : Int) (k : Nat) : Lv (k + 1) (num t n) := by unfold num; rw [Lv]; simp
theorem encK_lv (e : Ev) : Lv 8 (.mk 50 3 0 [] (encK e)) := by
  rw [Lv]
  intro x hx
  unfold encK at hx
  rcases List.mem_append.1 hx with h | h
  · simp at h
    rcases h with rfl | rfl <;> exact lv_num _ _ 6
  · split at h
    · unfold ansK at h
      simp at h
      rcases h with rfl | rfl | rfl | rfl | rfl
      · exact lv_num _ _ 6
      · rw [Lv]
        intro x hx
        simp only [chN, List.mem_map] at hx
        obtain ⟨n, _, rfl⟩ := hx
        exact lv_num _ _ 5
      · exact lv_num _ _ 6
      · rw [Lv]; simp
      · exact lv_num _ _ 6
    · split at h
      · simp at h
        rcases h with rfl | rfl | rfl <;> exact lv_num _ _ 6
      · simp at h
theorem rdN_event {e : Ev} (h10 : e.ch.length ≤ 10) (ht : e.text.length ≤ 1000) : ∃ x, rdN (byN (.mk 50 3 0 [] (encK e))) 4 8 0 = .ok (x, (byN (.mk 50 3 0 [] (encK e))).length) := by
  obtain ⟨x, hx⟩ := rdN_enc (bs := byN (.mk 50 3 0 [] (encK e))) (e := 4) 8 (.mk 50 3 0 [] (encK e)) 0 [] (encK_wf h10 ht) (encK_lv e) (by simp)
  exact ⟨x, by simpa using hx⟩
end Go.Proofs.YtmkbhognijicjaaGreatDoor

/- Joins: a written journal reads whole; joining (plain law). No condition. -/
set_option linter.unusedSimpArgs false
namespace Go.Proofs.YtmkbhognijicjaaGreatDoor
open Go.Eng

theorem entD_err {l : List UInt8} {s : Nat} {n : Int} {e : Int} (h : entD l s n = .error e) : e ≠ 0 := by
  unfold entD at h
  repeat' split at h
  all_goals first | (injection h with h; omega) | cases h
/-- What an entry that was read is. -/
theorem entD_parts {l : List UInt8} {s : Nat} {n : Int} {x : Nd} {k s' : Nat} (h : entD l s n = .ok (x, k, s')) :
    n < 300 ∧ 4 ≤ l.length ∧ getB (l.take 4) ≤ 2000 ∧ k = 4 + getB (l.take 4) + 8 ∧ k ≤ l.length ∧ s' = getB ((l.drop (4 + getB (l.take 4))).take 8) ∧ (s' : Int) = chn s (l.take (4 + getB (l.take 4))) ∧
      rdN ((l.drop 4).take (getB (l.take 4))) 4 8 0 = .ok (x, getB (l.take 4)) := by
  unfold entD at h
  split at h
  · cases h
  split at h
  · cases h
  split at h
  · cases h
  split at h
  · cases h
  split at h
  · cases h
  split at h
  · rename_i x' a hx
    split at h
    · rename_i ha
      injection h with h
      injection h with h1 h2
      injection h2 with h2 h3
      subst h1; subst ha
      rename_i h4 h5 h6 h7 h8
      have := chn_range s (l.take (4 + getB (l.take 4)))
      refine ⟨by omega, by omega, by omega, by omega, by omega, by omega, by omega, hx⟩
    · cases h
  · cases h
theorem entD_intro {l : List UInt8} {s : Nat} {n : Int} {x : Nd} {sz : Nat} (h1 : n < 300) (h2 : getB (l.take 4) = sz) (h3 : sz ≤ 2000) (h4 : 4 + sz + 8 ≤ l.length) (h5 : (getB ((l.drop (4 + sz)).take 8) : Int) = chn s (l.take (4 + sz)))
    (h6 : rdN ((l.drop 4).take sz) 4 8 0 = .ok (x, sz)) : entD l s n = .ok (x, 4 + sz + 8, (chn s (l.take (4 + sz))).toNat) := by
  unfold entD
  rw [if_neg (by omega), if_neg (by omega), h2, if_neg (by omega), if_neg (by omega), if_neg (by simpa using h5), h6]
  simp only [if_true]
/-- More bytes behind an entry do not change it. -/
theorem entD_more {l m : List UInt8} {s : Nat} {n : Int} {x : Nd} {k s' : Nat} (h : entD l s n = .ok (x, k, s')) : entD (l ++ m) s n = .ok (x, k, s') := by
  obtain ⟨h1, h2, h3, h4, h5, h6, h7, h8⟩ := entD_parts h
  have e1 : (l ++ m).take 4 = l.take 4 := List.take_append_of_le_length (by omega)
  have e2 : (l ++ m).take (4 + getB (l.take 4)) = l.take (4 + getB (l.take 4)) := List.take_append_of_le_length (by omega)
  have e3 : ((l ++ m).drop (4 + getB (l.take 4))).take 8 = (l.drop (4 + getB (l.take 4))).take 8 := by
    rw [List.drop_append_of_le_length (by omega), List.take_append_of_le_length (by simp; omega)]
  have e4 : ((l ++ m).drop 4).take (getB (l.take 4)) = (l.drop 4).take (getB (l.take 4)) := by
    rw [List.drop_append_of_le_length (by omega), List.take_append_of_le_length (by simp; omega)]
  have := entD_intro (l := l ++ m) (s := s) (n := n) (x := x) (sz := getB (l.take 4)) h1 (by rw [e1]) h3 (by simp; omega) (by rw [e2, e3, ← h7, h6]) (by rw [e4]; exact h8)
  rw [this, e2, ← h7, h4]
  simp

/-- How far a reading of l may come: place, digest, trees. -/
inductive Run (l : List UInt8) : Nat → Nat → List Nd → Prop
  | start : Run l 0 14695981039346656037 []
  | step {at_ s : Nat} {ns : List Nd} {x : Nd} {k s' : Nat} (h : Run l at_ s ns) (hx : entD (l.drop at_) s ns.length = .ok (x, k, s')) : Run l (at_ + k) s' (ns ++ [x])
theorem Run.le {l : List UInt8} {at_ s : Nat} {ns : List Nd} (h : Run l at_ s ns) : at_ ≤ l.length ∧ ns.length ≤ 300 := by
  induction h with
  | start => simp
  | step h hx ih =>
    have := entD_ok hx
    simp only [List.length_drop] at this
    simp only [List.length_append, List.length_cons, List.length_nil]
    omega
theorem Run.more {l : List UInt8} (m : List UInt8) {at_ s : Nat} {ns : List Nd} (h : Run l at_ s ns) : Run (l ++ m) at_ s ns := by
  induction h with
  | start => exact .start
  | step h hx ih => exact .step ih (by rw [List.drop_append_of_le_length h.le.1]; exact entD_more hx)
theorem Run.dig {l : List UInt8} {at_ s : Nat} {ns : List Nd} (h : Run l at_ s ns) : (s : Int) = endD (l.take at_) := by
  cases h with
  | start => simp [endD, dig0]
  | @step at0 s0 ns0 x k s' h hx =>
    obtain ⟨h1, h2, h3, h4, h5, h6, h7, h8⟩ := entD_parts hx
    have hle := h.le.1
    simp only [List.length_drop] at h5 h2
    unfold endD
    have hlen : (l.take (at0 + k)).length = at0 + k := by simp; omega
    rw [hlen, if_neg (by omega), h6]
    congr 2
    rw [List.drop_take, List.drop_drop]
    congr 1
    · omega
    · congr 1; omega
theorem Run.rdJ {l : List UInt8} {at_ s : Nat} {ns : List Nd} (h : Run l at_ s ns) : rdJ0 l = rdJ l (301 - ns.length) at_ s ns := by
  induction h with
  | start => rfl
  | @step at0 s0 ns0 x k s' h hx ih =>
    rw [ih]
    have h3 := entD_ok hx
    simp only [List.length_drop] at h3
    rw [show 301 - ns0.length = (301 - (ns0 ++ [x]).length) + 1 by simp only [List.length_append, List.length_cons, List.length_nil]; omega]
    rw [YtmkbhognijicjaaGreatDoor.rdJ, if_neg (by omega), hx]
theorem rdJ_run {l : List UInt8} : ∀ (f at_ s : Nat) (ns : List Nd), Run l at_ s ns → (rdJ l f at_ s ns).2.2 = 0 → ∃ s', Run l l.length s' (rdJ l f at_ s ns).1
  | 0, at_, s, ns, h, hc => by simp [rdJ] at hc
  | f + 1, at_, s, ns, h, hc => by
    rw [rdJ] at hc ⊢
    split at hc
    · rename_i h1
      rw [if_pos h1]
      have : at_ = l.length := by have := h.le.1; omega
      subst this
      exact ⟨s, h⟩
    · rename_i h1
      rw [if_neg h1]
      split at hc
      · rename_i e hx; exact absurd hc (entD_err hx)
      · rename_i x k s' hx
        exact rdJ_run f _ _ _ (.step h hx) hc
/-- A journal that reads whole. -/
def Jok (a : List UInt8) : Prop := ∃ s ns, Run a a.length s ns
theorem Jok.read {a : List UInt8} (h : Jok a) : ∃ ns, rdJ0 a = (ns, a.length, 0) := by
  obtain ⟨s, ns, hr⟩ := h
  refine ⟨ns, ?_⟩
  have := hr.le.2
  rw [hr.rdJ, show 301 - ns.length = (300 - ns.length) + 1 by omega, rdJ, if_pos (Nat.le_refl _)]
theorem jok_nil : Jok [] := ⟨_, _, .start⟩
theorem Jok.trim {a : List UInt8} (h : Jok a) : trimB a = a := by
  obtain ⟨ns, hr⟩ := h.read
  simp [trimB, hr]
theorem appB_len (a enc : List UInt8) : (appB a enc).length = a.length + (12 + enc.length) := by
  simp only [appB, recB, List.length_append, putB_len]; omega
theorem appR_jok {a enc : List UInt8} {x : Nd} (he : rdN enc 4 8 0 = .ok (x, enc.length)) (hc : (appR a enc).2 = 0) : Jok (appR a enc).1 ∧ (appR a enc).1.length = a.length + (12 + enc.length) ∧ enc.length ≤ 2000 := by
  unfold appR at hc ⊢
  split at hc
  · rename_i h; simp only at hc; exact absurd hc h
  rename_i h1
  rw [if_neg h1]
  split at hc
  · simp at hc
  rename_i h2
  rw [if_neg h2]
  have h1' : (rdJ0 a).2.2 = 0 := by simpa using h1
  refine ⟨?_, appB_len a enc, by omega⟩
  obtain ⟨s, hr⟩ := rdJ_run 301 0 14695981039346656037 [] .start h1'
  change Run a a.length s (rdJ0 a).1 at hr
  have hs := hr.dig
  rw [List.take_length] at hs
  have hsn : (endD a).toNat = s := by omega
  have hdr : (appB a enc).drop a.length = recB enc ++ putB (sumB a enc) 8 := by simp [appB, List.append_assoc]
  have hr2 : Run (appB a enc) a.length s (rdJ0 a).1 := by
    have := hr.more (recB enc ++ putB (sumB a enc) 8)
    simpa [appB, List.append_assoc] using this
  have hrl : (recB enc).length = 4 + enc.length := by simp [recB, putB_len]
  have g1 : getB ((recB enc ++ putB (sumB a enc) 8).take 4) = enc.length := by
    rw [List.take_append_of_le_length (by omega), recB, List.take_append_of_le_length (by rw [putB_len]; omega), List.take_of_length_le (by rw [putB_len]; omega)]
    exact getB_putB _ _ (by omega) (by omega)
  have hsum : sumB a enc < 2 ^ 64 := by unfold sumB; have := chn_range (endD a).toNat (recB enc); omega
  have g2 : (recB enc ++ putB (sumB a enc) 8).take (4 + enc.length) = recB enc := by rw [← hrl]; simp
  have g3 : ((recB enc ++ putB (sumB a enc) 8).drop (4 + enc.length)).take 8 = putB (sumB a enc) 8 := by
    rw [← hrl, List.drop_left]
    exact List.take_of_length_le (by rw [putB_len]; omega)
  have g4 : ((recB enc ++ putB (sumB a enc) 8).drop 4).take enc.length = enc := by
    rw [recB, List.append_assoc, List.drop_append_of_le_length (by rw [putB_len]; omega), List.drop_of_length_le (by rw [putB_len]; omega), List.nil_append]
    simp
  have hent := entD_intro (l := recB enc ++ putB (sumB a enc) 8) (s := s) (n := (rdJ0 a).1.length) (x := x) (sz := enc.length) (by omega) g1 (by omega) (by simp only [List.length_append, hrl, putB_len]; omega)
    (by rw [g2, g3, getB_putB _ _ (by omega) hsum]; unfold sumB; rw [hsn]; have := chn_range s (recB enc); omega) (by rw [g4]; exact he)
  have := Run.step hr2 (by rw [hdr]; exact hent)
  have hL : (appB a enc).length = a.length + (4 + enc.length + 8) := by rw [appB_len]; omega
  rw [← hL] at this
  exact ⟨_, _, this⟩
theorem encE_len {e : Ev} (h : encE e = 0) : e.ch.length ≤ 10 ∧ e.text.length ≤ 1000 := by
  unfold encE at h
  split at h
  · omega
  split at h
  · omega
  split at h
  · omega
  · rename_i h3; simp at h3; omega
theorem wrR_jok {a : List UInt8} {e : Ev} (hc : (wrR a e).2 = 0) : Jok (wrR a e).1 ∧ a.length < (wrR a e).1.length ∧ (wrR a e).1.length ≤ a.length + 2012 := by
  unfold wrR at hc ⊢
  split at hc
  · rename_i h; simp only at hc; exact absurd hc h
  rename_i h
  rw [if_neg h]
  have hE : encE e = 0 := by simpa using h
  obtain ⟨h1, h2⟩ := encE_len hE
  obtain ⟨x, hx⟩ := rdN_event h1 h2
  obtain ⟨h3, h4, h5⟩ := appR_jok hx hc
  exact ⟨h3, by omega, by omega⟩

theorem begB_self (a : List UInt8) : begB a a = true := by simp [begB]
theorem begB_take (a : List UInt8) (k : Nat) : begB a (a.take k) = true := by
  simp only [begB, Bool.and_eq_true, decide_eq_true_eq, List.length_take]
  exact ⟨by omega, by rw [← List.take_take, List.take_length]⟩
theorem begB_nil (a : List UInt8) : begB a [] = true := by simp [begB]
theorem begB_anti {a b : List UInt8} (h : begB a b = true) (k : begB b a = true) : a = b := by
  simp only [begB, Bool.and_eq_true, decide_eq_true_eq] at h k
  rw [← h.2, List.take_of_length_le (by omega)]
theorem joinR_comm (x y : List UInt8) : joinR x y = joinR y x := by
  unfold joinR
  by_cases h1 : begB (trimB x) (trimB y) = true
  · by_cases h2 : begB (trimB y) (trimB x) = true
    · rw [if_pos h1, if_pos h2, begB_anti h1 h2]
    · rw [if_pos h1, if_neg h2, if_pos h1]
  · rw [if_neg h1]
    by_cases h2 : begB (trimB y) (trimB x) = true
    · rw [if_pos h2, if_pos h2]
    · rw [if_neg h2, if_neg h2, if_neg h1]
theorem joinR_one {x y : List UInt8} (hx : Jok x) (hy : Jok y) (h : (joinR x y).2 = 0) : (joinR x y).1 = x ∨ (joinR x y).1 = y := by
  unfold joinR at h ⊢
  rw [hx.trim, hy.trim] at h ⊢
  split
  · exact .inl rfl
  split
  · exact .inr rfl
  · rename_i h1 h2; rw [if_neg h1, if_neg h2] at h; simp at h
theorem joinR_pre {a : List UInt8} (ha : Jok a) (k : Nat) : joinR (a.take k) a = (a, 0) := by
  unfold joinR
  rw [ha.trim]
  have hp : trimB (a.take k) = a.take (min (rdJ0 (a.take k)).2.1 k) := by unfold trimB; rw [List.take_take]
  have hb : begB a (trimB (a.take k)) = true := by rw [hp]; exact begB_take a _
  by_cases h1 : begB (trimB (a.take k)) a = true
  · rw [if_pos h1, begB_anti h1 hb]
  · rw [if_neg h1, if_pos hb]
theorem joinR_nil {a : List UInt8} (ha : Jok a) : joinR a [] = (a, 0) := by
  unfold joinR
  rw [ha.trim, jok_nil.trim, if_pos (begB_nil a)]
end Go.Proofs.YtmkbhognijicjaaGreatDoor
