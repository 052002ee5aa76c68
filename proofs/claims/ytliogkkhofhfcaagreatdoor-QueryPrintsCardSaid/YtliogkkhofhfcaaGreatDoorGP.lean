import Derived.Test.YtliogkkhofhfcaaGreatDoorGO
/- Query: which queries are valid, and their texts, plain. No condition. -/
set_option linter.unusedSimpArgs false
set_option maxRecDepth 4000
namespace Go.Proofs.YtliogkkhofhfcaaGreatDoor
open Go.Eng

def txtL (f : Qy → List UInt8) (k : Int) (w : List UInt8) : Bool → List Qy → List UInt8
  | _, [] => []
  | b, q :: r => sepT b w ++ opT (encl k q.kind) ++ f q ++ clT (encl k q.kind) ++ txtL f k w false r
/-- The text of a query of so many levels. -/
def txt : Nat → Qy → List UInt8
  | 0, _ => []
  | m + 1, .mk k c n f s ks => if k = 1 ∨ k = 2 ∨ k = 3 then (if k = 3 then notW else []) ++ txtL (txt m) k (if k = 2 then orW else andW) true ks else (condT k c n f s ks.length).getD []
/-- Whether a query is formed; its kids are not looked at. -/
def frm : Qy → Bool
  | .mk k c n f s ks => if k = 1 ∨ k = 2 then !badK c n f s && decide (2 ≤ ks.length) else if k = 3 then !badK c n f s && decide (ks.length = 1) else (condT k c n f s ks.length).isSome
/-- Whether a query of so many levels is sound. -/
def sndQ : Nat → Qy → Bool
  | 0, _ => false
  | m + 1, q => frm q && q.kids.all (sndQ m)
theorem wrL_txt (m : Nat) (ih : ∀ q t, (wr m q t).2 = true → sndQ m q = true ∧ (wr m q t).1 = t ++ txt m q) (kind : Int) (word : List UInt8) :
    ∀ (ks : List Qy) (first : Bool) (t : List UInt8), (wrL (wr m) kind word first ks t).2 = true → ks.all (sndQ m) = true ∧ (wrL (wr m) kind word first ks t).1 = t ++ txtL (txt m) kind word first ks
  | [], first, t, _ => by simp [wrL, txtL]
  | q :: r, first, t, h => by
    rw [wrL] at h ⊢
    split at h
    · cases h
    · rename_i hf
      rw [if_neg hf]
      obtain ⟨a1, a2⟩ := ih q (t ++ sepT first word ++ opT (encl kind q.kind)) (by rw [Bool.not_eq_false] at hf; exact hf)
      obtain ⟨b1, b2⟩ := wrL_txt m ih kind word r false _ h
      refine ⟨by rw [List.all_cons, a1, b1]; rfl, ?_⟩
      rw [b2, a2, txtL]
      simp only [List.append_assoc]
theorem cond_kids {k c n : Int} {f s x : List UInt8} {nk : Nat} (h : condT k c n f s nk = some x) : nk = 0 := by
  unfold condT at h
  split at h
  · cases h
  · rename_i hA
    simp only [badA, Bool.or_eq_true, decide_eq_true_eq, not_or] at hA
    omega
theorem wr_mk (m : Nat) (k c n : Int) (f s : List UInt8) (ks : List Qy) (t : List UInt8) : wr (m + 1) (.mk k c n f s ks) t = if 1000 < t.length then (t, false) else if k = 1 ∨ k = 2 ∨ k = 3 then wrK (wr m) (.mk k c n f s ks) t else (wrT t (condT k c n f s ks.length), (condT k c n f s ks.length).isSome) := rfl
theorem sndQ_mk (m : Nat) (k c n : Int) (f s : List UInt8) (ks : List Qy) : sndQ (m + 1) (.mk k c n f s ks) = ((if k = 1 ∨ k = 2 then !badK c n f s && decide (2 ≤ ks.length) else if k = 3 then !badK c n f s && decide (ks.length = 1) else (condT k c n f s ks.length).isSome) && ks.all (sndQ m)) := rfl
theorem wr_txt : ∀ (m : Nat) (q : Qy) (t : List UInt8), (wr m q t).2 = true → sndQ m q = true ∧ (wr m q t).1 = t ++ txt m q
  | 0, q, t, h => by simp [wr] at h
  | m + 1, .mk k c n f s ks, t, h => by
    have hL := wrL_txt m (wr_txt m) k
    rw [wr_mk] at h ⊢
    rw [sndQ_mk, txt]
    split at h
    · cases h
    rename_i h1
    rw [if_neg h1]
    split at h
    · rename_i h2
      rw [if_pos h2, if_pos h2]
      rw [wrK] at h ⊢
      split at h
      · cases h
      rename_i h3
      have hb : badK c n f s = false := by simpa using h3
      rw [if_neg h3]
      split at h
      · rename_i h4
        rw [if_pos h4]
        obtain ⟨a1, a2⟩ := hL andW ks true _ h
        refine ⟨?_, ?_⟩
        · rw [if_neg (by omega), if_pos h4.1, hb, a1]; simp [h4.2]
        · rw [a2, if_pos h4.1, if_neg (by omega)]
          simp only [List.append_assoc]
      rename_i h4
      rw [if_neg h4]
      split at h
      · cases h
      rename_i h5
      rw [if_neg h5]
      obtain ⟨a1, a2⟩ := hL _ ks true _ h
      refine ⟨?_, ?_⟩
      · rw [if_pos (by omega), hb, a1]
        have : 2 ≤ ks.length := by omega
        simp [this]
      · rw [a2, if_neg (show ¬ k = 3 by omega)]
        rfl
    · rename_i h2
      rw [if_neg h2, if_neg h2, if_neg (by omega), if_neg (by omega)]
      cases hc : condT k c n f s ks.length with
      | none => rw [hc] at h; cases h
      | some x =>
        have hk0 := cond_kids hc
        have : ks = [] := List.eq_nil_of_length_eq_zero hk0
        subst this
        exact ⟨rfl, rfl⟩
theorem wrL_of (m : Nat) (ih : ∀ q t, sndQ m q = true → (t ++ txt m q).length ≤ 1000 → wr m q t = (t ++ txt m q, true)) (kind : Int) (word : List UInt8) :
    ∀ (ks : List Qy) (first : Bool) (t : List UInt8), ks.all (sndQ m) = true → (t ++ txtL (txt m) kind word first ks).length ≤ 1000 → wrL (wr m) kind word first ks t = (t ++ txtL (txt m) kind word first ks, true)
  | [], first, t, _, _ => by simp [wrL, txtL]
  | q :: r, first, t, h, hl => by
    rw [List.all_cons, Bool.and_eq_true] at h
    rw [txtL] at hl
    have a := ih q (t ++ sepT first word ++ opT (encl kind q.kind)) h.1 (by simp only [List.length_append] at hl ⊢; omega)
    rw [wrL, a]
    simp only [Bool.true_eq_false, if_false]
    have b := wrL_of m ih kind word r false (t ++ sepT first word ++ opT (encl kind q.kind) ++ txt m q ++ clT (encl kind q.kind)) h.2 (by simp only [List.length_append] at hl ⊢; omega)
    rw [b, txtL]
    simp only [List.append_assoc]
theorem wr_of : ∀ (m : Nat) (q : Qy) (t : List UInt8), sndQ m q = true → (t ++ txt m q).length ≤ 1000 → wr m q t = (t ++ txt m q, true)
  | 0, q, t, h, _ => by simp [sndQ] at h
  | m + 1, .mk k c n f s ks, t, h, hl => by
    have hL := wrL_of m (wr_of m) k
    rw [sndQ_mk, Bool.and_eq_true] at h
    obtain ⟨h1, h2⟩ := h
    rw [wr_mk, if_neg (by simp only [List.length_append] at hl; omega)]
    rw [txt] at hl ⊢
    by_cases hk : k = 1 ∨ k = 2 ∨ k = 3
    · rw [if_pos hk] at hl ⊢
      rw [if_pos hk, wrK]
      by_cases h3 : k = 3
      · subst h3
        rw [if_neg (by omega), if_pos rfl, Bool.and_eq_true] at h1
        have hb : badK c n f s = false := by simpa using h1.1
        have hn : ks.length = 1 := by simpa using h1.2
        rw [if_neg (by rw [hb]; simp), if_pos ⟨rfl, hn⟩]
        rw [if_pos rfl, if_neg (by omega)] at hl ⊢
        rw [hL _ _ _ _ h2 (by simpa only [List.append_assoc] using hl)]
        simp only [List.append_assoc]
      · rw [if_pos (by omega), Bool.and_eq_true] at h1
        have hb : badK c n f s = false := by simpa using h1.1
        have hn : 2 ≤ ks.length := by simpa using h1.2
        rw [if_neg (by rw [hb]; simp), if_neg (by omega), if_neg (by omega)]
        rw [if_neg h3] at hl ⊢
        rw [hL _ _ _ _ h2 (by simpa using hl)]
        rfl
    · rw [if_neg hk] at hl ⊢
      rw [if_neg hk]
      rw [if_neg (by omega), if_neg (by omega)] at h1
      cases hc : condT k c n f s ks.length with
      | none => rw [hc] at h1; cases h1
      | some x => rfl
theorem canon_iff (q : Qy) : canonB q = true ↔ sndQ 8 q = true ∧ (txt 8 q).length ≤ 1000 := by
  unfold canonB
  constructor
  · intro h
    rw [Bool.and_eq_true, decide_eq_true_eq] at h
    obtain ⟨a, b⟩ := wr_txt 8 q [] h.1
    rw [b] at h
    exact ⟨a, by simpa using h.2⟩
  · rintro ⟨a, b⟩
    rw [wr_of 8 q [] a (by simpa using b)]
    simpa using b
theorem canonT_eq {q : Qy} (h : canonB q = true) : canonT q = txt 8 q := by
  unfold canonT
  rw [if_pos h]
  have h' := h
  unfold canonB at h'
  rw [Bool.and_eq_true] at h'
  have := (wr_txt 8 q [] h'.1).2
  simpa using this
end Go.Proofs.YtliogkkhofhfcaaGreatDoor

/- Query: the tokens of a query's text, plain. No condition. -/
set_option linter.unusedSimpArgs false
set_option maxRecDepth 4000
namespace Go.Proofs.YtliogkkhofhfcaaGreatDoor
open Go.Eng

/-- A token without its place. -/
abbrev Tk := Int × List UInt8
def st (x : Tok) : Tk := (x.1, x.2.2)
/-- A text has such tokens, whatever stands behind it. -/
def TkS (s : List UInt8) (l : List Tk) : Prop := ∀ t i, ∃ L : List Tok, toks (s ++ t) i = L ++ toks t (i + s.length) ∧ L.map st = l
def HdOk (t : List UInt8) : Prop := ∀ c r, t = c :: r → inWB c = false
/-- A text has such tokens, if what stands behind it goes on with no word. -/
def TkW (s : List UInt8) (l : List Tk) : Prop := ∀ t i, HdOk t → ∃ L : List Tok, toks (s ++ t) i = L ++ toks t (i + s.length) ∧ L.map st = l
def Stp (s : List UInt8) : Prop := ∃ c r, s = c :: r ∧ inWB c = false
theorem TkS.w {s : List UInt8} {l : List Tk} (h : TkS s l) : TkW s l := fun t i _ => h t i
theorem Stp.app {s : List UInt8} (h : Stp s) (t : List UInt8) : HdOk (s ++ t) := by
  obtain ⟨c, r, rfl, h⟩ := h
  intro d q e
  injection e with e _
  subst e; exact h
theorem tk_join {a b t : List UInt8} {i : Nat} {la lb : List Tk} {L M : List Tok} (h : toks (a ++ (b ++ t)) i = L ++ toks (b ++ t) (i + a.length)) (h' : toks (b ++ t) (i + a.length) = M ++ toks t (i + a.length + b.length)) (hL : L.map st = la) (hM : M.map st = lb) :
    ∃ L : List Tok, toks (a ++ b ++ t) i = L ++ toks t (i + (a ++ b).length) ∧ L.map st = la ++ lb :=
  ⟨L ++ M, by rw [List.append_assoc, h, h', List.length_append, List.append_assoc, Nat.add_assoc], by rw [List.map_append, hL, hM]⟩
theorem TkS.app {a b : List UInt8} {la lb : List Tk} (ha : TkS a la) (hb : TkS b lb) : TkS (a ++ b) (la ++ lb) := fun t i => by
  obtain ⟨L, e, hL⟩ := ha (b ++ t) i
  obtain ⟨M, f, hM⟩ := hb t (i + a.length)
  exact tk_join e f hL hM
theorem TkS.appW {a b : List UInt8} {la lb : List Tk} (ha : TkS a la) (hb : TkW b lb) : TkW (a ++ b) (la ++ lb) := fun t i ht => by
  obtain ⟨L, e, hL⟩ := ha (b ++ t) i
  obtain ⟨M, f, hM⟩ := hb t (i + a.length) ht
  exact tk_join e f hL hM
theorem TkW.appS {a b : List UInt8} {la lb : List Tk} (ha : TkW a la) (hb : TkS b lb) (hs : Stp b) : TkS (a ++ b) (la ++ lb) := fun t i => by
  obtain ⟨L, e, hL⟩ := ha (b ++ t) i (hs.app t)
  obtain ⟨M, f, hM⟩ := hb t (i + a.length)
  exact tk_join e f hL hM
theorem TkW.appW {a b : List UInt8} {la lb : List Tk} (ha : TkW a la) (hb : TkW b lb) (hs : Stp b) : TkW (a ++ b) (la ++ lb) := fun t i ht => by
  obtain ⟨L, e, hL⟩ := ha (b ++ t) i (hs.app t)
  obtain ⟨M, f, hM⟩ := hb t (i + a.length) ht
  exact tk_join e f hL hM
theorem TkW.appN {a b : List UInt8} {la lb : List Tk} (ha : TkW a la) (hb : TkW b lb) (hs : (b = [] ∧ lb = []) ∨ Stp b) : TkW (a ++ b) (la ++ lb) := by
  rcases hs with ⟨rfl, rfl⟩ | hs
  · simpa using ha
  · exact ha.appW hb hs
theorem tkS_nil : TkS [] [] := fun t i => ⟨[], by simp, rfl⟩
theorem tkS_blank : TkS [32] [] := fun t i => ⟨[], by simp only [List.cons_append, List.nil_append, List.length_cons, List.length_nil]; exact toks_blank rfl t i, rfl⟩
theorem tkS_open : TkS [40] [(2, [])] := fun t i => ⟨[(2, i, [])], by simp only [List.cons_append, List.nil_append, List.length_cons, List.length_nil]; exact toks_symb (by decide) (by decide) t i, rfl⟩
theorem tkS_close : TkS [41] [(3, [])] := fun t i => ⟨[(3, i, [])], by simp only [List.cons_append, List.nil_append, List.length_cons, List.length_nil]; exact toks_symb (by decide) (by decide) t i, rfl⟩
theorem tkW_word {w : List UInt8} (h0 : w ≠ []) (h : w.all inWB = true) : TkW w [(6, w)] := fun t i ht => by
  obtain ⟨c, r, rfl⟩ : ∃ c r, w = c :: r := by cases w with
    | nil => exact absurd rfl h0
    | cons c r => exact ⟨c, r, rfl⟩
  have hc : inWB c = true := by rw [List.all_cons, Bool.and_eq_true] at h; exact h.1
  obtain ⟨a, b⟩ := tw_app ht (c :: r)
  have tw : ∀ l : List UInt8, l.all inWB = true → l.takeWhile inWB = l ∧ l.dropWhile inWB = [] := by
    intro l
    induction l with
    | nil => intro _; exact ⟨rfl, rfl⟩
    | cons x l ih =>
      intro h
      rw [List.all_cons, Bool.and_eq_true] at h
      obtain ⟨a, b⟩ := ih h.2
      exact ⟨by rw [List.takeWhile_cons, if_pos h.1, a], by rw [List.dropWhile_cons, if_pos h.1, b]⟩
  obtain ⟨a', b'⟩ := tw (c :: r) h
  rw [a'] at a
  rw [b', List.nil_append] at b
  refine ⟨[(6, i, c :: r)], ?_, rfl⟩
  rw [List.cons_append] at a b ⊢
  rw [toks_word (inWB_32 hc) hc, a, b]; rfl
theorem stp_blank (r : List UInt8) : Stp (32 :: r) := ⟨32, r, rfl, by decide⟩
theorem tkS_wordb {w : List UInt8} (h0 : w ≠ []) (h : w.all inWB = true) : TkS (w ++ [32]) [(6, w)] := by
  have := (tkW_word h0 h).appS tkS_blank (stp_blank [])
  simpa using this
theorem ib_at {s t : List UInt8} (h : ∀ c ∈ s, c ≠ 34) : Lib.indexByte (s ++ 34 :: t) 34 = s.length := by
  induction s with
  | nil => rfl
  | cons c r ih =>
    have := ih (fun c hc => h c (List.mem_cons_of_mem _ hc))
    have hb : (c == 34) = false := by simpa using h c List.mem_cons_self
    rw [List.cons_append, Lib.indexByte, hb]
    simp only [Bool.false_eq_true, if_false]
    rw [this, show ((r.length : Int) == -1) = false by simp only [beq_eq_false_iff_ne, ne_eq]; omega]
    simp
theorem tkS_quot {s : List UInt8} (h : quot s = true) : TkS ([34] ++ s ++ [34]) [(5, s)] := fun t i => by
  have hq : ∀ c ∈ s, c ≠ 34 := by
    have h' := h
    simp only [quot, Bool.and_eq_true] at h'
    intro c hc e
    have := List.all_eq_true.1 h'.2 c hc
    subst e
    simp [okC] at this
  have hix := ib_at (t := t) hq
  have hsy : symb 34 (s ++ 34 :: t) = (5, s, s.length + 2) := by
    unfold symb
    rw [if_neg (by decide), if_neg (by decide), if_pos (by decide), hix, if_neg (by omega)]
    simp only [Int.toNat_natCast, List.take_left']
    rw [if_neg (by rw [h]; simp)]
  refine ⟨[(5, i, s)], ?_, rfl⟩
  have e : [34] ++ s ++ [34] ++ t = 34 :: (s ++ 34 :: t) := by simp
  rw [e, toks_symb (by decide) (by decide), hsy]
  simp only
  rw [if_neg (by decide)]
  have e2 : (s ++ 34 :: t).drop (s.length + 2 - 1) = t := by
    rw [show s.length + 2 - 1 = (s ++ [34]).length by simp, show s ++ 34 :: t = (s ++ [34]) ++ t by simp, List.drop_left]
  rw [e2]
  simp only [List.length_append, List.length_cons, List.length_nil]
  rw [show i + (s.length + 2) = i + (0 + 1 + s.length + (0 + 1)) by omega]; rfl
theorem signs_in : ∀ x ∈ signsL, x = [60] ∨ x = [60, 61] ∨ x = [61] ∨ x = [33, 61] ∨ x = [62, 61] ∨ x = [62] := by decide
theorem tkS_sign {x : List UInt8} (h : x ∈ signsL) : TkS (x ++ [32]) [(4, x)] := fun t i => by
  rcases signs_in x h with rfl | rfl | rfl | rfl | rfl | rfl
  all_goals
    refine ⟨[(4, i, _)], ?_, rfl⟩
    simp only [List.cons_append, List.nil_append, List.length_cons, List.length_nil]
    rw [toks_symb (by decide) (by decide)]
    simp [symb, show hasS signsL [60] = true by decide, show hasS signsL [60, 61] = true by decide, show hasS signsL [61] = true by decide, show hasS signsL [33, 61] = true by decide, show hasS signsL [62, 61] = true by decide, show hasS signsL [62] = true by decide]
    rw [toks_blank (by decide)]

/- Numbers. -/
theorem digits_ok (u : Nat) : (Lib.decDigits u).all isDig = true ∧ decF (Lib.decDigits u) 0 = u ∧ Lib.decDigits u ≠ [] ∧ (0 < u → (Lib.decDigits u).head? ≠ some 48) ∧ (u = 0 → Lib.decDigits u = [48]) := by
  induction u using Nat.strongRecOn with
  | _ u ih =>
    have hdig : ∀ d, d < 10 → (UInt8.ofNat (48 + d)).toNat = 48 + d := fun d hd => by
      rw [UInt8.toNat_ofNat']; exact Nat.mod_eq_of_lt (by omega)
    rw [Lib.decDigits]
    split
    · rename_i h
      have e := hdig u h
      refine ⟨by simp [isDig, e]; omega, by simp only [decF, List.foldl_cons, List.foldl_nil, e]; omega, by simp, fun hu => ?_, fun hu => by subst hu; rfl⟩
      simp only [List.head?_cons, ne_eq, Option.some.injEq]
      intro h48
      have := congrArg UInt8.toNat h48
      rw [e] at this
      simp at this
      omega
    · rename_i h
      obtain ⟨a, b, c, d, _⟩ := ih (u / 10) (by omega)
      have e := hdig (u % 10) (by omega)
      refine ⟨by rw [List.all_append, a]; simp [isDig, e]; omega, ?_, by simp, fun _ => ?_, fun hu => by omega⟩
      · rw [decF, List.foldl_append]
        have : List.foldl (fun n (c : UInt8) => n * 10 + (c.toNat - 48)) 0 (Lib.decDigits (u / 10)) = u / 10 := b
        rw [this]
        simp only [List.foldl_cons, List.foldl_nil, e]
        omega
      · have hd := d (by omega)
        cases hq : Lib.decDigits (u / 10) with
        | nil => exact absurd hq c
        | cons x r => rw [hq] at hd; simpa using hd
theorem itoa_ok {n : Int} (h0 : 0 ≤ n) (h1 : n ≤ 999999999) (a : Nat) : numR (6, a, Lib.itoa n) = .ok n.toNat ∧ Lib.itoa n ≠ [] ∧ (Lib.itoa n).all inWB = true := by
  obtain ⟨u, rfl⟩ : ∃ u : Nat, n = u := ⟨n.toNat, by omega⟩
  have hl := itoa_len h0 h1
  rw [Lib.itoa_nonneg] at hl ⊢
  obtain ⟨a1, a2, a3, a4, a5⟩ := digits_ok u
  have hok : decOk (Lib.decDigits u) = true := by
    rcases Nat.eq_zero_or_pos u with h | h
    · rw [a5 h]; decide
    · have := a4 h
      cases hq : Lib.decDigits u with
      | nil => exact absurd hq a3
      | cons x r =>
        rw [hq] at this a1
        rw [decOk, a1]
        have hx : x.toNat ≠ 48 := fun e => this (by
          simp only [List.head?_cons, Option.some.injEq]
          apply UInt8.toNat_inj.1
          rw [e]; rfl)
        simp [hx]
  refine ⟨?_, a3, ?_⟩
  · unfold numR
    rw [if_neg (by simp), hok, if_neg (by simp), if_neg (by simp only; omega), a2, if_neg (by omega)]
    simp
  · rw [List.all_eq_true]
    intro x hx
    have := List.all_eq_true.1 a1 x hx
    simp only [isDig, Bool.and_eq_true, decide_eq_true_eq] at this
    unfold inWB inW
    have e : ∀ k : Int, k < 48 ∨ 57 < k → decide ((x.toNat : Int) = k) = false := fun k hk => by simp; omega
    rw [e 32 (by omega), e 40 (by omega), e 41 (by omega), e 34 (by omega), e 60 (by omega), e 62 (by omega), e 61 (by omega), e 33 (by omega)]
    rfl

/- Content codes. -/
theorem okB_in {c : UInt8} (h : okB c = true ∨ c = 46) : inWB c = true := by
  unfold inWB inW
  have hb : (65 ≤ c.toNat ∧ c.toNat ≤ 90) ∨ (48 ≤ c.toNat ∧ c.toNat ≤ 57) ∨ c.toNat = 46 := by
    rcases h with h | h
    · simp [okB] at h; omega
    · subst h; right; right; rfl
  have e : ∀ k : Int, k < 46 ∨ (57 < k ∧ k < 65) → decide ((c.toNat : Int) = k) = false := fun k hk => by simp; omega
  rw [e 32 (by omega), e 40 (by omega), e 41 (by omega), e 34 (by omega), e 60 (by omega), e 62 (by omega), e 61 (by omega), e 33 (by omega)]
  rfl
theorem cut_join (s : List UInt8) : ((Lib.cut s [46]).2.2 = false → (Lib.cut s [46]).1 = s) ∧ ((Lib.cut s [46]).2.2 = true → ∀ c ∈ s, c ∈ (Lib.cut s [46]).1 ∨ c = 46 ∨ c ∈ (Lib.cut s [46]).2.1) := by
  unfold Lib.cut
  rcases Lib.index_spec s [46] with ⟨h, _⟩ | ⟨i, h, hi, ho, _⟩
  · rw [h, if_neg (by omega)]
    exact ⟨fun _ => rfl, fun h => by cases h⟩
  · rw [h, if_pos (by omega)]
    refine ⟨fun h => (by cases h), fun _ c hc => ?_⟩
    simp only [Int.toNat_natCast, List.length_cons, List.length_nil]
    unfold Lib.occAt at ho
    cases hd : s.drop i with
    | nil => rw [hd] at ho; simp at ho
    | cons x r =>
      rw [hd] at ho
      have hx : x = 46 := by have : (46 : UInt8) = x := by simpa using ho
                             exact this.symm
      have hs : s = s.take i ++ x :: r := by rw [← hd, List.take_append_drop]
      have hr : s.drop (i + (0 + 1)) = r := by
        rw [Nat.zero_add, ← List.drop_drop, hd]; rfl
      rw [hr]
      rw [hs] at hc
      rcases List.mem_append.1 hc with hc | hc
      · exact .inl hc
      · rcases List.mem_cons.1 hc with hc | hc
        · exact .inr (.inl (hc.trans hx))
        · exact .inr (.inr hc)
theorem okSeg_in {x : List UInt8} (h : okSeg x = true) : (∀ c ∈ x, okB c = true) ∧ x ≠ [] := by
  simp only [okSeg, Bool.and_eq_true, decide_eq_true_eq] at h
  refine ⟨fun c hc => List.all_eq_true.1 h.1 c hc, fun e => ?_⟩
  subst e
  simp at h
theorem segA_ok : ∀ (n : Nat) (done : List (List UInt8)) (code : List UInt8), (segA n done code).2.2 = true → ((segA n done code).1.take (segA n done code).2.1).all okSeg = true →
    done.all okSeg = true ∧ (∀ c ∈ code, okB c = true ∨ c = 46) ∧ code ≠ []
  | 0, done, code, h, _ => by simp [segA] at h
  | n + 1, done, code, h, h2 => by
    have hcj := cut_join code
    have hnil : code = [] → Lib.cut code [46] = ([], [], false) := fun e => by subst e; decide
    rw [segA] at h h2
    by_cases hc : (Lib.cut code [46]).2.2 = false
    · rw [if_pos hc] at h2
      simp only at h2
      rw [hcj.1 hc] at h2
      have e : (done ++ [code] ++ List.replicate n []).take (done.length + 1) = done ++ [code] := by
        rw [show done.length + 1 = (done ++ [code]).length by simp, List.take_left]
      rw [e, List.all_append, Bool.and_eq_true] at h2
      have hk : okSeg code = true := by simpa using h2.2
      obtain ⟨a, b⟩ := okSeg_in hk
      exact ⟨h2.1, fun c hc => .inl (a c hc), b⟩
    · rw [if_neg hc] at h h2
      obtain ⟨a, b, c⟩ := segA_ok n _ _ h h2
      rw [List.all_append, Bool.and_eq_true] at a
      have hk : okSeg (Lib.cut code [46]).1 = true := by simpa using a.2
      obtain ⟨k1, k2⟩ := okSeg_in hk
      refine ⟨a.1, fun x hx => ?_, fun e => hc (by rw [hnil e])⟩
      rcases hcj.2 (by simpa using hc) x hx with q | q | q
      · exact .inl (k1 x q)
      · exact .inr q
      · exact b x q
theorem cValid_in {s : List UInt8} (h : cValid s = true) : s ≠ [] ∧ s.all inWB = true := by
  simp only [cValid, Bool.and_eq_true] at h
  obtain ⟨_, a, b⟩ := segA_ok 5 [] s h.2.1 h.2.2
  exact ⟨b, List.all_eq_true.2 (fun c hc => okB_in (a c hc))⟩
theorem names_in : ∀ x ∈ fieldsL ++ (statesL ++ kindsL), x ≠ [] ∧ x.all inWB = true := by decide

/- The tokens of a condition. -/
def tkC (k c n : Int) (f s : List UInt8) : List Tk :=
  if k = 4 then [(6, f), (4, signOf c), (6, Lib.itoa n)] else if k = 5 then [(6, [99, 111, 110, 116, 101, 110, 116]), (6, [117, 110, 100, 101, 114]), (6, s)]
  else if k = 6 then [(6, [115, 116, 97, 116, 101]), (6, s)] else if k = 7 then [(6, [107, 105, 110, 100]), (6, s)]
  else if k = 8 then [(6, [101, 110, 101, 109, 121]), (6, [111, 102]), (6, Lib.itoa n)] else [(6, [115, 116, 101, 109]), (6, [104, 97, 115]), (5, s)]
theorem signOf_in {c : Int} (h0 : 1 ≤ c) (h1 : c ≤ 6) : signOf c ∈ signsL ∧ idxS signsL (signOf c) = c - 1 := by
  have : c = 1 ∨ c = 2 ∨ c = 3 ∨ c = 4 ∨ c = 5 ∨ c = 6 := by omega
  rcases this with rfl | rfl | rfl | rfl | rfl | rfl <;> exact ⟨by decide, by decide⟩
/-- What a condition that is formed is made of. -/
theorem cond_cases {k c n : Int} {f s x : List UInt8} {nk : Nat} (h : condT k c n f s nk = some x) : nk = 0 ∧ 0 ≤ n ∧ n ≤ 999999999 ∧
    ((k = 4 ∧ f ∈ fieldsL ∧ hasS fieldsL f = true ∧ 1 ≤ c ∧ c ≤ 6 ∧ s = [] ∧ x = f ++ [32] ++ signOf c ++ [32] ++ Lib.itoa n) ∨
     (k = 5 ∧ n = 0 ∧ c = 0 ∧ f = [] ∧ cValid s = true ∧ x = [99, 111, 110, 116, 101, 110, 116, 32, 117, 110, 100, 101, 114, 32] ++ s) ∨
     (k = 6 ∧ n = 0 ∧ c = 0 ∧ f = [] ∧ hasS statesL s = true ∧ x = [115, 116, 97, 116, 101, 32] ++ s) ∨
     (k = 7 ∧ n = 0 ∧ c = 0 ∧ f = [] ∧ hasS kindsL s = true ∧ x = [107, 105, 110, 100, 32] ++ s) ∨
     (k = 8 ∧ c = 0 ∧ f = [] ∧ s = [] ∧ x = [101, 110, 101, 109, 121, 32, 111, 102, 32] ++ Lib.itoa n) ∨
     (k = 9 ∧ n = 0 ∧ c = 0 ∧ f = [] ∧ quot s = true ∧ x = [115, 116, 101, 109, 32, 104, 97, 115, 32, 34] ++ s ++ [34])) := by
  have hk0 := cond_kids h
  unfold condT at h
  split at h
  · cases h
  rename_i hA
  split at h
  · cases h
  rename_i hB
  simp only [badA, usesN, Bool.or_eq_true, Bool.and_eq_true, Bool.not_eq_true', decide_eq_true_eq, decide_eq_false_iff_not, not_or, not_and, Bool.or_eq_false_iff] at hA
  simp only [badB, Bool.or_eq_true, Bool.and_eq_true, Bool.not_eq_true', decide_eq_true_eq, decide_eq_false_iff_not, not_or, not_and] at hB
  obtain ⟨⟨⟨⟨hA1, hA2⟩, hA3⟩, hA4⟩, hA5⟩ := hA
  refine ⟨hk0, by omega, by omega, ?_⟩
  have hn : ¬ (k = 4) → ¬ (k = 8) → n = 0 := fun a b => by
    by_cases hn : n = 0
    · exact hn
    · exact (hA4 hn |> fun q => absurd q (by omega))
  have hs : k = 4 ∨ k = 8 → s = [] := fun a => by
    by_cases hs : s = []
    · exact hs
    · have := hA5 hs; omega
  have hcf : ¬ k = 4 → c = 0 ∧ f = [] := fun a => by
    have := hB a
    exact ⟨Classical.not_not.1 this.1, Classical.not_not.1 this.2⟩
  split at h
  · rename_i hk
    split at h
    · cases h
    · rename_i hf
      injection h with h
      simp only [Bool.or_eq_true, Bool.not_eq_true', decide_eq_true_eq, not_or, Bool.not_eq_false] at hf
      exact .inl ⟨hk, hasS_mem hf.1.1, hf.1.1, by omega, by omega, hs (.inl hk), h.symm⟩
  rename_i h4
  obtain ⟨c0, f0⟩ := hcf h4
  split at h
  · rename_i hk
    split at h
    · rename_i hv
      injection h with h
      exact .inr (.inl ⟨hk, hn h4 (by omega), c0, f0, hv, h.symm⟩)
    · cases h
  split at h
  · rename_i hk
    split at h
    · rename_i hv
      injection h with h
      exact .inr (.inr (.inl ⟨hk, hn h4 (by omega), c0, f0, hv, h.symm⟩))
    · cases h
  split at h
  · rename_i hk
    split at h
    · rename_i hv
      injection h with h
      exact .inr (.inr (.inr (.inl ⟨hk, hn h4 (by omega), c0, f0, hv, h.symm⟩)))
    · cases h
  split at h
  · rename_i hk
    injection h with h
    exact .inr (.inr (.inr (.inr (.inl ⟨hk, c0, f0, hs (.inr hk), h.symm⟩))))
  split at h
  · rename_i hk
    split at h
    · rename_i hv
      injection h with h
      exact .inr (.inr (.inr (.inr (.inr ⟨hk, hn h4 (by omega), c0, f0, hv, h.symm⟩))))
    · cases h
  · cases h
theorem cond_tk {k c n : Int} {f s x : List UInt8} {nk : Nat} (h : condT k c n f s nk = some x) : TkW x (tkC k c n f s) := by
  obtain ⟨_, h0, h1, h⟩ := cond_cases h
  obtain ⟨_, i1, i2⟩ := itoa_ok h0 h1 0
  rcases h with ⟨rfl, hm, _, hc0, hc1, _, rfl⟩ | ⟨rfl, _, _, _, hv, rfl⟩ | ⟨rfl, _, _, _, hv, rfl⟩ | ⟨rfl, _, _, _, hv, rfl⟩ | ⟨rfl, _, _, _, rfl⟩ | ⟨rfl, _, _, _, hv, rfl⟩
  · obtain ⟨a, b⟩ := names_in f (by simp [hm])
    have := ((tkS_wordb a b).app (tkS_sign (signOf_in hc0 hc1).1)).appW (tkW_word i1 i2)
    simpa [tkC] using this
  · obtain ⟨a, b⟩ := cValid_in hv
    have := ((tkS_wordb (w := [99, 111, 110, 116, 101, 110, 116]) (by decide) (by decide)).app (tkS_wordb (w := [117, 110, 100, 101, 114]) (by decide) (by decide))).appW (tkW_word a b)
    simpa [tkC] using this
  · obtain ⟨a, b⟩ := names_in s (by simp [hasS_mem hv])
    have := (tkS_wordb (w := [115, 116, 97, 116, 101]) (by decide) (by decide)).appW (tkW_word a b)
    simpa [tkC] using this
  · obtain ⟨a, b⟩ := names_in s (by simp [hasS_mem hv])
    have := (tkS_wordb (w := [107, 105, 110, 100]) (by decide) (by decide)).appW (tkW_word a b)
    simpa [tkC] using this
  · have := ((tkS_wordb (w := [101, 110, 101, 109, 121]) (by decide) (by decide)).app (tkS_wordb (w := [111, 102]) (by decide) (by decide))).appW (tkW_word i1 i2)
    simpa [tkC] using this
  · have := (((tkS_wordb (w := [115, 116, 101, 109]) (by decide) (by decide)).app (tkS_wordb (w := [104, 97, 115]) (by decide) (by decide))).app (tkS_quot hv)).w
    simpa [tkC] using this

/- The tokens of a query. -/
def opK (e : Bool) : List Tk := if e = true then [(2, [])] else []
def clK (e : Bool) : List Tk := if e = true then [(3, [])] else []
abbrev orB : List UInt8 := [111, 114]
abbrev andB : List UInt8 := [97, 110, 100]
abbrev notB : List UInt8 := [110, 111, 116]
/-- The tokens of a kid. -/
def kk (f : Qy → List Tk) (k : Int) (q : Qy) : List Tk := opK (encl k q.kind) ++ f q ++ clK (encl k q.kind)
def tkR (f : Qy → List Tk) (k : Int) (w : List UInt8) (r : List Qy) : List Tk := r.flatMap fun q => (6, w) :: kk f k q
def tkL (f : Qy → List Tk) (k : Int) (w : List UInt8) : List Qy → List Tk
  | [] => []
  | q :: r => kk f k q ++ tkR f k w r
def tkQ : Nat → Qy → List Tk
  | 0, _ => []
  | m + 1, .mk k c n f s ks => if k = 1 ∨ k = 2 ∨ k = 3 then (if k = 3 then [(6, notB)] else []) ++ tkL (tkQ m) k (if k = 2 then orB else andB) ks else tkC k c n f s
theorem tk_op (e : Bool) : TkS (opT e) (opK e) := by
  cases e
  · exact tkS_nil
  · exact tkS_open
theorem tk_cl (e : Bool) : TkW (clT e) (clK e) ∧ ((clT e = [] ∧ clK e = []) ∨ Stp (clT e)) := by
  cases e
  · exact ⟨tkS_nil.w, .inl ⟨rfl, rfl⟩⟩
  · exact ⟨tkS_close.w, .inr ⟨41, [], rfl, by decide⟩⟩
theorem tk_kid {m : Nat} {q : Qy} (h : TkW (txt m q) (tkQ m q)) (k : Int) : TkW (opT (encl k q.kind) ++ txt m q ++ clT (encl k q.kind)) (kk (tkQ m) k q) :=
  ((tk_op _).appW h).appN (tk_cl _).1 (tk_cl _).2
theorem tk_rest (m : Nat) (k : Int) {W w : List UInt8} (hW : TkS W [(6, w)]) (hs : Stp W) : ∀ r : List Qy, (∀ q ∈ r, TkW (txt m q) (tkQ m q)) →
    TkW (txtL (txt m) k W false r) (tkR (tkQ m) k w r) ∧ ((txtL (txt m) k W false r = [] ∧ tkR (tkQ m) k w r = []) ∨ Stp (txtL (txt m) k W false r))
  | [], _ => ⟨tkS_nil.w, .inl ⟨rfl, rfl⟩⟩
  | q :: r, h => by
    obtain ⟨a, b⟩ := tk_rest m k hW hs r (fun x hx => h x (List.mem_cons_of_mem _ hx))
    have hk := tk_kid (h q List.mem_cons_self) k
    have e : txtL (txt m) k W false (q :: r) = W ++ ((opT (encl k q.kind) ++ txt m q ++ clT (encl k q.kind)) ++ txtL (txt m) k W false r) := by
      rw [txtL]
      simp only [sepT, Bool.false_eq_true, if_false, List.append_assoc]
    have e2 : tkR (tkQ m) k w (q :: r) = [(6, w)] ++ (kk (tkQ m) k q ++ tkR (tkQ m) k w r) := by simp [tkR]
    rw [e, e2]
    refine ⟨hW.appW (hk.appN a b), .inr ?_⟩
    obtain ⟨c, x, rfl, hc⟩ := hs
    exact ⟨c, _, rfl, hc⟩
theorem tk_list (m : Nat) (k : Int) {W w : List UInt8} (hW : TkS W [(6, w)]) (hs : Stp W) : ∀ ks : List Qy, (∀ q ∈ ks, TkW (txt m q) (tkQ m q)) → TkW (txtL (txt m) k W true ks) (tkL (tkQ m) k w ks)
  | [], _ => tkS_nil.w
  | q :: r, h => by
    obtain ⟨a, b⟩ := tk_rest m k hW hs r (fun x hx => h x (List.mem_cons_of_mem _ hx))
    have hk := tk_kid (h q List.mem_cons_self) k
    have e : txtL (txt m) k W true (q :: r) = (opT (encl k q.kind) ++ txt m q ++ clT (encl k q.kind)) ++ txtL (txt m) k W false r := by
      rw [txtL]
      simp only [sepT, if_true, List.append_assoc, List.nil_append]
    rw [e, tkL]
    exact hk.appN a b
theorem tk_and : TkS andW [(6, andB)] := by
  have := tkS_blank.app (tkS_wordb (w := andB) (by decide) (by decide))
  simpa using this
theorem tk_or : TkS orW [(6, orB)] := by
  have := tkS_blank.app (tkS_wordb (w := orB) (by decide) (by decide))
  simpa using this
theorem tk_not : TkS notW [(6, notB)] := by
  have := tkS_wordb (w := notB) (by decide) (by decide)
  simpa using this
theorem txt_tk : ∀ (m : Nat) (q : Qy), sndQ m q = true → TkW (txt m q) (tkQ m q)
  | 0, q, h => by simp [sndQ] at h
  | m + 1, .mk k c n f s ks, h => by
    rw [sndQ_mk, Bool.and_eq_true] at h
    obtain ⟨h1, h2⟩ := h
    have ih : ∀ q ∈ ks, TkW (txt m q) (tkQ m q) := fun q hq => txt_tk m q (List.all_eq_true.1 h2 q hq)
    rw [txt, tkQ]
    by_cases hk : k = 1 ∨ k = 2 ∨ k = 3
    · rw [if_pos hk, if_pos hk]
      refine TkS.appW (?_ : TkS (if k = 3 then notW else []) _) ?_
      · split
        · exact tk_not
        · exact tkS_nil
      · split
        · exact tk_list m k tk_or (stp_blank _) ks ih
        · exact tk_list m k tk_and (stp_blank _) ks ih
    · rw [if_neg hk, if_neg hk]
      rw [if_neg (by omega), if_neg (by omega)] at h1
      cases hc : condT k c n f s ks.length with
      | none => rw [hc] at h1; cases h1
      | some x => exact cond_tk hc
end Go.Proofs.YtliogkkhofhfcaaGreatDoor

/- Query: reading the tokens of a sound query gives it back, plain. No condition. -/
set_option linter.unusedSimpArgs false
set_option maxRecDepth 4000
namespace Go.Proofs.YtliogkkhofhfcaaGreatDoor
open Go.Eng

/-- Such tokens stand at a place. -/
def At (ts : List Tok) (i : Nat) (l : List Tk) : Prop := ∀ k x, l[k]? = some x → st (tkAt ts (i + k)) = x
theorem At.head {ts : List Tok} {i : Nat} {x : Tk} {l : List Tk} (h : At ts i (x :: l)) : st (tkAt ts i) = x := h 0 x rfl
theorem At.tail {ts : List Tok} {i : Nat} {x : Tk} {l : List Tk} (h : At ts i (x :: l)) : At ts (i + 1) l := fun k y hy => by
  have := h (k + 1) y (by simpa using hy)
  rwa [show i + (k + 1) = i + 1 + k by omega] at this
theorem At.left {ts : List Tok} {i : Nat} {l r : List Tk} (h : At ts i (l ++ r)) : At ts i l := fun k x hx => by
  have hk : k < l.length := by
    rcases Nat.lt_or_ge k l.length with a | a
    · exact a
    · rw [List.getElem?_eq_none a] at hx; cases hx
  exact h k x (by rw [List.getElem?_append_left hk]; exact hx)
theorem At.right {ts : List Tok} {i : Nat} {l r : List Tk} (h : At ts i (l ++ r)) : At ts (i + l.length) r := fun k x hx => by
  have := h (l.length + k) x (by rw [List.getElem?_append_right (by omega), Nat.add_sub_cancel_left]; exact hx)
  rwa [show i + (l.length + k) = i + l.length + k by omega] at this
theorem st_isW {t : Tok} {k : Int} {x : List UInt8} (h : st t = (k, x)) (w : List UInt8) : isW t w = (decide (k = 6) && decide (x = w)) := by
  have h1 : t.1 = k := congrArg Prod.fst h
  have h2 : t.2.2 = x := congrArg Prod.snd h
  rw [isW, h1, h2]
theorem st_nameB {t : Tok} {x : List UInt8} (h : st t = (6, x)) (k : Int) : nameB k t = if k = 5 then cValid x else hasS (namesL k) x := by
  have h1 : t.1 = 6 := congrArg Prod.fst h
  have h2 : t.2.2 = x := congrArg Prod.snd h
  simp [nameB, h1, h2]
theorem st_numR {t : Tok} {n : Int} (h : st t = (6, Lib.itoa n)) (h0 : 0 ≤ n) (h1 : n ≤ 999999999) : numR t = .ok n.toNat := by
  have h1' : t.1 = 6 := congrArg Prod.fst h
  have h2 : t.2.2 = Lib.itoa n := congrArg Prod.snd h
  have := (itoa_ok h0 h1 0).1
  unfold numR at this ⊢
  rw [h1', h2]
  exact this
theorem fields_no : ∀ f ∈ fieldsL, f ≠ [99, 111, 110, 116, 101, 110, 116] ∧ f ≠ [115, 116, 97, 116, 101] ∧ f ≠ [107, 105, 110, 100] ∧ f ≠ [101, 110, 101, 109, 121] ∧ f ≠ [115, 116, 101, 109] ∧ f ≠ notB := by decide
theorem cond_parse {k c n : Int} {f s x : List UInt8} {nk : Nat} (h : condT k c n f s nk = some x) {ts : List Tok} {i : Nat} (hA : At ts i (tkC k c n f s)) :
    condP ts i = .ok (.mk k c n f s [], i + (tkC k c n f s).length) := by
  obtain ⟨_, h0, h1, h⟩ := cond_cases h
  have hnn : ((n.toNat : Nat) : Int) = n := by omega
  rcases h with ⟨rfl, hm, hf, hc0, hc1, rfl, _⟩ | ⟨rfl, rfl, rfl, rfl, hv, _⟩ | ⟨rfl, rfl, rfl, rfl, hv, _⟩ | ⟨rfl, rfl, rfl, rfl, hv, _⟩ | ⟨rfl, rfl, rfl, rfl, _⟩ | ⟨rfl, rfl, rfl, rfl, hv, _⟩
  · simp only [tkC, if_true] at hA ⊢
    have t0 := hA.head
    have t1 := hA.tail.head
    have t2 := hA.tail.tail.head
    obtain ⟨n1, n2, n3, n4, n5, _⟩ := fields_no f hm
    have k0 : (tkAt ts i).1 = 6 := congrArg Prod.fst t0
    have x0 : (tkAt ts i).2.2 = f := congrArg Prod.snd t0
    have k1 : (tkAt ts (i + 1)).1 = 4 := congrArg Prod.fst t1
    have x1 : (tkAt ts (i + 1)).2.2 = signOf c := congrArg Prod.snd t1
    unfold condP
    simp only [st_isW t0, n1, n2, n3, n4, n5, decide_false, Bool.and_false, Bool.false_eq_true, if_false]
    rw [k0, x0, hf, k1, x1, (signOf_in hc0 hc1).2, st_numR t2 h0 h1]
    simp only [decide_true, Bool.and_self, if_true, hnn]
    rw [show 1 + (c - 1) = c by omega]
    rfl
  · simp only [tkC] at hA ⊢
    have t0 := hA.head
    have t1 := hA.tail.head
    have t2 := hA.tail.tail.head
    have x2 : (tkAt ts (i + 1 + 1)).2.2 = s := congrArg Prod.snd t2
    unfold condP
    simp only [st_isW t0, st_isW t1, decide_true, Bool.and_self, if_true]
    rw [show i + 2 = i + 1 + 1 by omega, st_nameB t2, if_pos rfl, hv, x2]
    rfl
  · simp only [tkC] at hA ⊢
    have t0 := hA.head
    have t1 := hA.tail.head
    have x1 : (tkAt ts (i + 1)).2.2 = s := congrArg Prod.snd t1
    unfold condP
    have hn : nameB 6 (tkAt ts (i + 1)) = true := by rw [st_nameB t1, if_neg (by decide), show namesL 6 = statesL from rfl]; exact hv
    rw [st_isW t0, if_neg (by decide), st_isW t0, if_pos (by decide), if_pos hn, x1]
    rfl
  · simp only [tkC] at hA ⊢
    have t0 := hA.head
    have t1 := hA.tail.head
    have x1 : (tkAt ts (i + 1)).2.2 = s := congrArg Prod.snd t1
    unfold condP
    have hn : nameB 7 (tkAt ts (i + 1)) = true := by rw [st_nameB t1, if_neg (by decide), show namesL 7 = kindsL from rfl]; exact hv
    rw [st_isW t0, if_neg (by decide), st_isW t0, if_neg (by decide), st_isW t0, if_pos (by decide), if_pos hn, x1]
    rfl
  · simp only [tkC] at hA ⊢
    have t0 := hA.head
    have t1 := hA.tail.head
    have t2 := hA.tail.tail.head
    unfold condP
    rw [st_isW t0, if_neg (by decide), st_isW t0, if_neg (by decide), st_isW t0, if_neg (by decide), st_isW t0, if_pos (by decide), st_isW t1, if_pos (by decide), show i + 2 = i + 1 + 1 by omega, st_numR t2 h0 h1]
    simp only [hnn]
    rfl
  · simp only [tkC] at hA ⊢
    have t0 := hA.head
    have t1 := hA.tail.head
    have t2 := hA.tail.tail.head
    have k2 : (tkAt ts (i + 1 + 1)).1 = 5 := congrArg Prod.fst t2
    have x2 : (tkAt ts (i + 1 + 1)).2.2 = s := congrArg Prod.snd t2
    unfold condP
    rw [st_isW t0, if_neg (by decide), st_isW t0, if_neg (by decide), st_isW t0, if_neg (by decide), st_isW t0, if_neg (by decide), st_isW t0, if_pos (by decide), st_isW t1, if_pos (by decide), show i + 2 = i + 1 + 1 by omega, if_pos k2, x2]
    rfl
/-- What stands at the head of a condition. -/
theorem cond_head {k c n : Int} {f s x : List UInt8} {nk : Nat} (h : condT k c n f s nk = some x) : ∃ w r, tkC k c n f s = (6, w) :: r ∧ w ≠ notB := by
  obtain ⟨_, h0, h1, h⟩ := cond_cases h
  rcases h with ⟨rfl, hm, hf, hc0, hc1, rfl, _⟩ | ⟨rfl, rfl, rfl, rfl, hv, _⟩ | ⟨rfl, rfl, rfl, rfl, hv, _⟩ | ⟨rfl, rfl, rfl, rfl, hv, _⟩ | ⟨rfl, rfl, rfl, rfl, _⟩ | ⟨rfl, rfl, rfl, rfl, hv, _⟩
  · exact ⟨_, _, rfl, (fields_no f hm).2.2.2.2.2⟩
  all_goals exact ⟨_, _, rfl, by decide⟩
theorem tkQ_pos : ∀ (m : Nat) (q : Qy), sndQ m q = true → 0 < (tkQ m q).length
  | 0, q, h => by simp [sndQ] at h
  | m + 1, .mk k c n f s ks, h => by
    rw [sndQ_mk, Bool.and_eq_true] at h
    obtain ⟨h1, h2⟩ := h
    rw [tkQ]
    by_cases hk : k = 1 ∨ k = 2 ∨ k = 3
    · rw [if_pos hk]
      cases ks with
      | nil =>
        split at h1
        · simp at h1
        · rw [if_pos (by omega)] at h1
          simp at h1
      | cons q r =>
        have := tkQ_pos m q (List.all_eq_true.1 h2 q List.mem_cons_self)
        rw [tkL, kk]
        simp only [List.length_append]
        omega
    · rw [if_neg hk]
      rw [if_neg (by omega), if_neg (by omega)] at h1
      cases hc : condT k c n f s ks.length with
      | none => rw [hc] at h1; cases h1
      | some x =>
        obtain ⟨w, r, e, _⟩ := cond_head hc
        rw [e]; simp
theorem chainL_kids {mem : Nat → PR} {ts : List Tok} {w : List UInt8} (K : Qy → List Tk) (Q : Nat → Prop) (e : Nat) (hw : ∀ i, isW (tkAt ts i) w = true → Q i) (hQ : Q e) (he : isW (tkAt ts e) w = false) : ∀ (r : List Qy) (n j : Nat) (acc : List Qy),
    (∀ q ∈ r, ∀ i, At ts i (K q) → Q (i + (K q).length) → mem i = .ok (q, i + (K q).length)) → At ts j (r.flatMap fun q => (6, w) :: K q) → e = j + (r.flatMap fun q => (6, w) :: K q).length → ts.length ≤ n + j →
    chainL mem ts w n j acc = .ok (acc ++ r, e)
  | [], n, j, acc, _, _, hj, _ => by
    have : e = j := by simpa using hj
    subst this
    rw [chainL_stop n acc he, List.append_nil]
  | q :: r, n, j, acc, hm, hA, hj, hn => by
    rw [List.flatMap_cons] at hA hj
    have t0 := hA.head
    have hjl : j < ts.length := by
      rcases Nat.lt_or_ge j ts.length with a | a
      · exact a
      · rw [tkAt_out a] at t0; cases t0
    obtain ⟨n, rfl⟩ : ∃ n', n = n' + 1 := ⟨n - 1, by omega⟩
    have a1 : At ts (j + 1) (K q) := hA.tail.left
    have a2 : At ts (j + 1 + (K q).length) (r.flatMap fun q => (6, w) :: K q) := hA.tail.right
    have hnext : Q (j + 1 + (K q).length) := by
      cases r with
      | nil =>
        simp only [List.flatMap_nil, List.append_nil, List.length_cons] at hj
        rw [show j + 1 + (K q).length = e by omega]; exact hQ
      | cons q' r' =>
        rw [List.flatMap_cons] at a2
        exact hw _ (by rw [st_isW a2.head]; simp)
    rw [chainL, if_pos (by rw [st_isW t0]; simp), hm q List.mem_cons_self _ a1 hnext]
    simp only
    rw [chainL_kids K Q e hw hQ he r n _ _ (fun x hx => hm x (List.mem_cons_of_mem _ hx)) a2 (by simp only [List.length_append, List.length_cons] at hj; omega) (by omega), List.append_assoc]
    rfl
theorem chainP_kids {mem : Nat → PR} {ts : List Tok} {w : List UInt8} (k : Int) (f : Qy → List Tk) (Q : Nat → Prop) (hw : ∀ i, isW (tkAt ts i) w = true → Q i) (ks : List Qy) (i : Nat) (h2 : 2 ≤ ks.length)
    (hA : At ts i (tkL f k w ks)) (hQ : Q (i + (tkL f k w ks).length)) (he : isW (tkAt ts (i + (tkL f k w ks).length)) w = false)
    (hm : ∀ q ∈ ks, ∀ i, At ts i (kk f k q) → Q (i + (kk f k q).length) → mem i = .ok (q, i + (kk f k q).length)) :
    chainP mem ts w k i = .ok (.mk k 0 0 [] [] ks, i + (tkL f k w ks).length) := by
  cases ks with
  | nil => simp at h2
  | cons q r =>
    rw [tkL] at *
    have a1 := hA.left
    have a2 : At ts (i + (kk f k q).length) (r.flatMap fun q => (6, w) :: kk f k q) := hA.right
    have hnext : Q (i + (kk f k q).length) := by
      cases r with
      | nil => simp at h2
      | cons q' r' =>
        rw [List.flatMap_cons] at a2
        exact hw _ (by rw [st_isW a2.head]; simp)
    unfold chainP
    rw [hm q List.mem_cons_self i a1 hnext]
    simp only
    rw [chainL_kids (kk f k) Q _ hw hQ he r ts.length _ [q] (fun x hx => hm x (List.mem_cons_of_mem _ hx)) a2 (by rw [List.length_append, Nat.add_assoc]; rfl) (by omega)]
    simp only
    rw [if_neg (by simp at h2 ⊢; intro e; subst e; simp at h2)]
    rfl
theorem kk_len (f : Qy → List Tk) (k : Int) (w : List UInt8) {ks : List Qy} {q : Qy} (hq : q ∈ ks) (h2 : 2 ≤ ks.length) (hp : ∀ x ∈ ks, 0 < (f x).length) : (kk f k q).length + 2 ≤ (tkL f k w ks).length := by
  have kp : ∀ x ∈ ks, 0 < (kk f k x).length := fun x hx => by
    have := hp x hx
    simp only [kk, List.length_append]; omega
  have hR : ∀ r : List Qy, q ∈ r → (kk f k q).length + 1 ≤ (tkR f k w r).length := by
    intro r
    induction r with
    | nil => intro h; cases h
    | cons x r ih =>
      intro h
      rw [tkR, List.flatMap_cons]
      simp only [List.length_append, List.length_cons]
      rcases List.mem_cons.1 h with rfl | h
      · omega
      · have := ih h
        rw [tkR] at this
        omega
  cases ks with
  | nil => cases hq
  | cons x r =>
    rw [tkL, List.length_append]
    rcases List.mem_cons.1 hq with rfl | hq
    · cases r with
      | nil => simp at h2
      | cons y r =>
        have := kp y (by simp)
        rw [tkR, List.flatMap_cons]
        simp only [List.length_append, List.length_cons]
        omega
    · have := hR r hq
      have := kp x List.mem_cons_self
      omega
/-- A query in brackets, read as a primary. -/
theorem prim_brack {ts : List Tok} {n i L : Nat} {q : Qy} {l : List Tk} (hA : At ts i ([(2, [])] ++ l ++ [(3, [])])) (hL : l.length = L) (ho : orP n ts (i + 1) = .ok (q, i + 1 + L)) : primP (orP n ts) ts i = .ok (q, i + 1 + L + 1) := by
  have t0 : (tkAt ts i).1 = 2 := congrArg Prod.fst hA.left.left.head
  have t1 : (tkAt ts (i + 1 + L)).1 = 3 := by
    have := congrArg Prod.fst hA.right.head
    simp only [List.length_append, List.length_cons, List.length_nil] at this
    rw [show i + (0 + 1 + l.length) = i + 1 + L by omega] at this
    exact this
  unfold primP
  rw [if_neg (by omega), ho]
  simp only
  rw [if_neg (by omega)]
def Goal (m : Nat) (q : Qy) (ts : List Tok) (i n : Nat) : Prop :=
  ((tkQ m q).length ≤ n → isW (tkAt ts (i + (tkQ m q).length)) orB = false → isW (tkAt ts (i + (tkQ m q).length)) andB = false → orP n ts i = .ok (q, i + (tkQ m q).length)) ∧
  (q.kind ≠ 2 → (tkQ m q).length ≤ n + 1 → isW (tkAt ts (i + (tkQ m q).length)) andB = false → andP (orP n ts) ts i = .ok (q, i + (tkQ m q).length)) ∧
  (q.kind ≠ 1 → q.kind ≠ 2 → (tkQ m q).length ≤ n + 1 → unP (orP n ts) ts i = .ok (q, i + (tkQ m q).length)) ∧
  (q.kind ≠ 1 → q.kind ≠ 2 → q.kind ≠ 3 → primP (orP n ts) ts i = .ok (q, i + (tkQ m q).length))
theorem isW_or_and {t : Tok} (h : isW t orB = true) : isW t andB = false := by
  simp only [isW, Bool.and_eq_true, decide_eq_true_eq] at h ⊢
  rw [h.2]; simp
theorem parse_tk : ∀ (m : Nat) (q : Qy) (ts : List Tok) (i : Nat), sndQ m q = true → At ts i (tkQ m q) → ∀ n, Goal m q ts i n
  | 0, q, ts, i, h, _, n => by simp [sndQ] at h
  | m + 1, .mk k c n0 f s ks, ts, i, h, hA, n => by
    have hpos := tkQ_pos (m + 1) _ h
    -- a conjunction, then a disjunction, from the smaller readings
    have finO : (∀ n, (tkQ (m + 1) (.mk k c n0 f s ks)).length ≤ n + 1 → isW (tkAt ts (i + (tkQ (m + 1) (.mk k c n0 f s ks)).length)) andB = false → andP (orP n ts) ts i = .ok (.mk k c n0 f s ks, i + (tkQ (m + 1) (.mk k c n0 f s ks)).length)) →
        ∀ n, (tkQ (m + 1) (.mk k c n0 f s ks)).length ≤ n → isW (tkAt ts (i + (tkQ (m + 1) (.mk k c n0 f s ks)).length)) orB = false → isW (tkAt ts (i + (tkQ (m + 1) (.mk k c n0 f s ks)).length)) andB = false → orP n ts i = .ok (.mk k c n0 f s ks, i + (tkQ (m + 1) (.mk k c n0 f s ks)).length) := fun hA n hn h1 h2 => by
      obtain ⟨n, rfl⟩ : ∃ n', n = n' + 1 := ⟨n - 1, by omega⟩
      rw [orP]
      exact chainP_one (hA n hn h2) h1
    rw [sndQ_mk, Bool.and_eq_true] at h
    obtain ⟨h1, h2⟩ := h
    have hS : ∀ x ∈ ks, sndQ m x = true := fun x hx => List.all_eq_true.1 h2 x hx
    have hP : ∀ x ∈ ks, 0 < (tkQ m x).length := fun x hx => tkQ_pos m x (hS x hx)
    have ih : ∀ x ∈ ks, ∀ j, At ts j (tkQ m x) → ∀ n, Goal m x ts j n := fun x hx j hj n => parse_tk m x ts j (hS x hx) hj n
    -- a kid in brackets
    have enc : ∀ x ∈ ks, ∀ j n, encl k x.kind = true → At ts j (kk (tkQ m) k x) → (tkQ m x).length ≤ n → primP (orP n ts) ts j = .ok (x, j + (kk (tkQ m) k x).length) ∧ (tkAt ts j).1 = 2 := fun x hx j n he hj hn => by
      rw [kk, he] at hj ⊢
      simp only [opK, clK, if_true] at hj ⊢
      have a := hj.left.right
      simp only [List.length_cons, List.length_nil, Nat.zero_add] at a
      have b := hj.right.head
      simp only [List.length_append, List.length_cons, List.length_nil] at b
      rw [show j + (0 + 1 + (tkQ m x).length) = j + 1 + (tkQ m x).length by omega] at b
      have g := (ih x hx (j + 1) a n).1 hn (by rw [st_isW b]; rfl) (by rw [st_isW b]; rfl)
      have r := prim_brack hj rfl g
      refine ⟨?_, congrArg Prod.fst hj.left.left.head⟩
      rw [r]
      simp only [List.length_append, List.length_cons, List.length_nil]
      rw [show j + 1 + (tkQ m x).length + 1 = j + (0 + 1 + (tkQ m x).length + (0 + 1)) by omega]
    have plain : ∀ x : Qy, encl k x.kind = false → kk (tkQ m) k x = tkQ m x := fun x he => by
      rw [kk, he]; simp [opK, clK]
    by_cases hk2 : k = 2
    · subst hk2
      rw [if_pos (by omega), Bool.and_eq_true] at h1
      have hb : c = 0 ∧ n0 = 0 ∧ f = [] ∧ s = [] := by simpa [badK, and_assoc] using h1.1
      obtain ⟨rfl, rfl, rfl, rfl⟩ := hb
      have hlen : 2 ≤ ks.length := by simpa using h1.2
      have e : tkQ (m + 1) (.mk 2 0 0 [] [] ks) = tkL (tkQ m) 2 orB ks := by rw [tkQ]; rfl
      rw [e] at hpos hA finO
      rw [Goal, e]
      refine ⟨fun hn w1 w2 => ?_, fun h => absurd rfl h, fun _ h => absurd rfl h, fun _ h => absurd rfl h⟩
      obtain ⟨n, rfl⟩ : ∃ n', n = n' + 1 := ⟨n - 1, by omega⟩
      rw [orP]
      refine chainP_kids 2 (tkQ m) (fun j => isW (tkAt ts j) andB = false) (fun j hj => isW_or_and hj) ks i hlen hA w2 w1 (fun x hx j hj hq => ?_)
      have hl := kk_len (tkQ m) 2 orB hx hlen hP
      cases he : encl 2 x.kind with
      | true =>
        have hkl : (kk (tkQ m) 2 x).length = (tkQ m x).length + 2 := by
          rw [kk, he]; simp only [opK, clK, if_true, List.length_append, List.length_cons, List.length_nil]; omega
        obtain ⟨a, b⟩ := enc x hx j n he hj (by omega)
        refine chainP_one ?_ hq
        unfold unP
        rw [if_pos (isW_no (by omega) _)]
        exact a
      | false =>
        have hx2 : x.kind ≠ 2 := fun e2 => by rw [e2] at he; simp [encl] at he
        rw [plain x he] at hj hq hl ⊢
        exact (ih x hx j hj n).2.1 hx2 (by omega) hq
    · by_cases hk1 : k = 1
      · subst hk1
        rw [if_pos (by omega), Bool.and_eq_true] at h1
        have hb : c = 0 ∧ n0 = 0 ∧ f = [] ∧ s = [] := by simpa [badK, and_assoc] using h1.1
        obtain ⟨rfl, rfl, rfl, rfl⟩ := hb
        have hlen : 2 ≤ ks.length := by simpa using h1.2
        have e : tkQ (m + 1) (.mk 1 0 0 [] [] ks) = tkL (tkQ m) 1 andB ks := by rw [tkQ]; rfl
        rw [e] at hpos hA finO
        rw [Goal, e]
        have hAnd : ∀ n, (tkL (tkQ m) 1 andB ks).length ≤ n + 1 → isW (tkAt ts (i + (tkL (tkQ m) 1 andB ks).length)) andB = false → andP (orP n ts) ts i = .ok (.mk 1 0 0 [] [] ks, i + (tkL (tkQ m) 1 andB ks).length) := fun n hn w2 => by
          rw [andP]
          refine chainP_kids 1 (tkQ m) (fun _ => True) (fun _ _ => trivial) ks i hlen hA trivial w2 (fun x hx j hj _ => ?_)
          have hl := kk_len (tkQ m) 1 andB hx hlen hP
          cases he : encl 1 x.kind with
          | true =>
            have hkl : (kk (tkQ m) 1 x).length = (tkQ m x).length + 2 := by
              rw [kk, he]; simp only [opK, clK, if_true, List.length_append, List.length_cons, List.length_nil]; omega
            obtain ⟨a, b⟩ := enc x hx j n he hj (by omega)
            unfold unP
            rw [if_pos (isW_no (by omega) _)]
            exact a
          | false =>
            have hx1 : x.kind ≠ 1 := fun e2 => by rw [e2] at he; simp [encl] at he
            have hx2 : x.kind ≠ 2 := fun e2 => by rw [e2] at he; simp [encl] at he
            rw [plain x he] at hj hl ⊢
            exact (ih x hx j hj n).2.2.1 hx1 hx2 (by omega)
        exact ⟨finO hAnd n, fun _ => hAnd n, fun h => absurd rfl h, fun h => absurd rfl h⟩
      · have hUn : (k = 3 → ∀ n, (tkQ (m + 1) (.mk k c n0 f s ks)).length ≤ n + 1 → unP (orP n ts) ts i = .ok (.mk k c n0 f s ks, i + (tkQ (m + 1) (.mk k c n0 f s ks)).length)) := fun hk3 n hn => by
          subst hk3
          rw [if_neg (by omega), if_pos rfl, Bool.and_eq_true] at h1
          have hb : c = 0 ∧ n0 = 0 ∧ f = [] ∧ s = [] := by simpa [badK, and_assoc] using h1.1
          obtain ⟨rfl, rfl, rfl, rfl⟩ := hb
          have hlen : ks.length = 1 := by simpa using h1.2
          obtain ⟨x, rfl⟩ : ∃ x, ks = [x] := by
            match ks, hlen with
            | [x], _ => exact ⟨x, rfl⟩
          have e : tkQ (m + 1) (.mk 3 0 0 [] [] [x]) = (6, notB) :: kk (tkQ m) 3 x := by
            rw [tkQ]
            simp [tkL, tkR]
          rw [e] at hA hn ⊢
          have t0 := hA.head
          have a1 := hA.tail
          have hx : x ∈ [x] := by simp
          have hp : primP (orP n ts) ts (i + 1) = .ok (x, i + 1 + (kk (tkQ m) 3 x).length) := by
            cases he : encl 3 x.kind with
            | true =>
              have hkl : (kk (tkQ m) 3 x).length = (tkQ m x).length + 2 := by
                rw [kk, he]; simp only [opK, clK, if_true, List.length_append, List.length_cons, List.length_nil]; omega
              exact (enc x hx (i + 1) n he a1 (by simp only [List.length_cons] at hn; omega)).1
            | false =>
              have hx1 : x.kind ≠ 1 := fun e2 => by rw [e2] at he; simp [encl] at he
              have hx2 : x.kind ≠ 2 := fun e2 => by rw [e2] at he; simp [encl] at he
              have hx3 : x.kind ≠ 3 := fun e2 => by rw [e2] at he; simp [encl] at he
              rw [plain x he] at a1 ⊢
              exact (ih x hx (i + 1) a1 n).2.2.2 hx1 hx2 hx3
          unfold unP
          rw [if_neg (by rw [st_isW t0]; simp), hp]
          simp only [List.length_cons]
          rw [show i + 1 + (kk (tkQ m) 3 x).length = i + ((kk (tkQ m) 3 x).length + 1) by omega]
        have hPr : k ≠ 3 → ∀ n, primP (orP n ts) ts i = .ok (.mk k c n0 f s ks, i + (tkQ (m + 1) (.mk k c n0 f s ks)).length) ∧ isW (tkAt ts i) notB = false := fun hk3 n => by
          rw [if_neg (by omega), if_neg hk3] at h1
          have e : tkQ (m + 1) (.mk k c n0 f s ks) = tkC k c n0 f s := by rw [tkQ, if_neg (by omega)]
          rw [e] at hA ⊢
          cases hc : condT k c n0 f s ks.length with
          | none => rw [hc] at h1; cases h1
          | some x =>
            have hk0 : ks = [] := List.eq_nil_of_length_eq_zero (cond_kids hc)
            subst hk0
            obtain ⟨w, r, e2, hw⟩ := cond_head hc
            have hcp := cond_parse hc hA
            rw [e2] at hA
            have t0 := hA.head
            refine ⟨?_, by rw [st_isW t0]; simpa using hw⟩
            have k0 : (tkAt ts i).1 = 6 := congrArg Prod.fst t0
            unfold primP
            rw [if_pos (by omega)]
            exact hcp
        have hU : ∀ n, (tkQ (m + 1) (.mk k c n0 f s ks)).length ≤ n + 1 → unP (orP n ts) ts i = .ok (.mk k c n0 f s ks, i + (tkQ (m + 1) (.mk k c n0 f s ks)).length) := fun n hn => by
          by_cases hk3 : k = 3
          · exact hUn hk3 n hn
          · obtain ⟨a, b⟩ := hPr hk3 n
            unfold unP
            rw [if_pos b]
            exact a
        have hAnd : ∀ n, (tkQ (m + 1) (.mk k c n0 f s ks)).length ≤ n + 1 → isW (tkAt ts (i + (tkQ (m + 1) (.mk k c n0 f s ks)).length)) andB = false → andP (orP n ts) ts i = .ok (.mk k c n0 f s ks, i + (tkQ (m + 1) (.mk k c n0 f s ks)).length) := fun n hn hw => by
          rw [andP]
          exact chainP_one (hU n hn) hw
        exact ⟨finO hAnd n, fun _ => hAnd n, fun _ _ => hU n, fun _ _ hk3 => (hPr hk3 n).1⟩
/-- Reading the text of a valid query gives it back. -/
theorem parse_canon {q : Qy} (h : canonB q = true) : parseP (canonT q) = .ok q := by
  rw [canonT_eq h]
  obtain ⟨hs, hl⟩ := (canon_iff q).1 h
  obtain ⟨L, hL, hM⟩ := txt_tk 8 q hs [] 0 (fun c r e => by cases e)
  rw [List.append_nil, Nat.zero_add, toks_nil] at hL
  have hlen : (tkQ 8 q).length = L.length := by rw [← hM]; simp
  have hAt : At (L ++ [(0, (txt 8 q).length, [])]) 0 (tkQ 8 q) := fun k x hx => by
    rw [← hM, List.getElem?_map] at hx
    rw [Nat.zero_add]
    cases hk : L[k]? with
    | none => rw [hk] at hx; cases hx
    | some y =>
      rw [hk] at hx
      have hk' : k < L.length := by
        rcases Nat.lt_or_ge k L.length with a | a
        · exact a
        · rw [List.getElem?_eq_none a] at hk; cases hk
      rw [tkAt_left hk', tkAt, hk]
      simpa using hx
  have hend : tkAt (L ++ [(0, (txt 8 q).length, [])]) (0 + (tkQ 8 q).length) = (0, (txt 8 q).length, []) := by
    rw [Nat.zero_add, hlen, tkAt, List.getElem?_append_right (by omega), Nat.sub_self]; rfl
  have g := (parse_tk 8 q _ 0 hs hAt (L ++ [(0, (txt 8 q).length, [])]).length).1 (by simp; omega) (by rw [hend]; rfl) (by rw [hend]; rfl)
  unfold parseP
  rw [if_neg (by omega), hL, g]
  simp only
  rw [hend]
  rw [if_neg (by simp), if_pos h]
/-- The place of an error is a place of the string. -/
theorem toks_place : ∀ (n : Nat) (s : List UInt8) (i : Nat), s.length ≤ n → ∀ t ∈ toks s i, t.2.1 ≤ i + s.length := by
  intro n
  induction n with
  | zero =>
    intro s i hs t ht
    have : s = [] := List.eq_nil_of_length_eq_zero (by omega)
    subst this
    rw [toks_nil] at ht
    simp at ht
    subst ht
    simp
  | succ n ih =>
    intro s i hs t ht
    cases s with
    | nil => rw [toks_nil] at ht; simp at ht; subst ht; simp
    | cons c r =>
      simp only [List.length_cons] at hs ⊢
      by_cases h32 : c.toNat = 32
      · rw [toks_blank h32] at ht
        have := ih r (i + 1) (by omega) t ht
        omega
      · by_cases hw : inWB c = true
        · rw [toks_word h32 hw] at ht
          have hd : ((c :: r).dropWhile inWB).length ≤ r.length := by
            rw [List.dropWhile_cons, if_pos hw]
            exact (List.dropWhile_suffix _).length_le
          have hsum : ((c :: r).takeWhile inWB).length + ((c :: r).dropWhile inWB).length = r.length + 1 := by
            have := congrArg List.length (List.takeWhile_append_dropWhile (p := inWB) (l := c :: r))
            rw [List.length_append, List.length_cons] at this
            exact this
          rcases List.mem_cons.1 ht with rfl | ht
          · simp only; omega
          · have := ih _ _ (by omega) t ht
            omega
        · have hw : inWB c = false := by simpa using hw
          rw [toks_symb h32 hw] at ht
          rcases List.mem_cons.1 ht with rfl | ht
          · simp only; omega
          · have hle := symb_len c r
            by_cases h1 : (symb c r).1 = 1
            · rw [if_pos h1] at ht; cases ht
            · rw [if_neg h1] at ht
              have hle := hle.resolve_left h1
              have hsz := symb_size c r
              have := ih _ _ (by simp; omega) t ht
              rw [List.length_drop] at this
              omega
theorem parse_place {s : List UInt8} {a : Nat} {e : Int} (h : parseP s = .error (a, e)) : a ≤ s.length := by
  have hA : ∀ j, (tkAt (toks s 0) j).2.1 ≤ s.length := fun j => by
    rcases Nat.lt_or_ge j (toks s 0).length with hj | hj
    · have := toks_place s.length s 0 (Nat.le_refl _) _ (tkAt_mem hj)
      omega
    · rw [tkAt_out hj]; exact Nat.zero_le _
  unfold parseP at h
  split at h
  · injection h with h; injection h with h _; omega
  split at h
  · injection h with h; injection h with h _; rw [← h]; exact hA _
  split at h
  · injection h with h; injection h with h _; rw [← h]; exact hA _
  split at h
  · cases h
  · injection h with h; injection h with h _; omega
theorem parse_valid {s : List UInt8} {x : Qy} (h : parseP s = .ok x) : canonB x = true := by
  unfold parseP at h
  split at h
  · cases h
  split at h
  · cases h
  split at h
  · cases h
  split at h
  · rename_i hv; injection h with h; subst h; exact hv
  · cases h
end Go.Proofs.YtliogkkhofhfcaaGreatDoor
