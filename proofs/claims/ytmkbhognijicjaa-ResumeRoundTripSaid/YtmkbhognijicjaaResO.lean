/- Resume: the tree of an event can be encoded; decoding gives the event back; the law ResumeRoundTrip. No condition. -/
import Derived.Test.YtmkbhognijicjaaResN
set_option linter.unusedSimpArgs false
namespace Go.Proofs.Ytmkbhognijicjaa
open Go.Eng

def c1 (x : Nd) : Int := 21 + x.ss.length + 21 * x.kids.length
theorem sumC_const (l : List Int) (c : Nd → Int) (h : ∀ n, c (num 0 n) = 21) : sumC c (chN l) = 21 * l.length := by
  induction l with
  | nil => simp [chN, sumC]
  | cons n l ih =>
    simp only [chN, List.map_cons, sumC, List.length_cons] at ih ⊢
    rw [h]
    push_cast
    omega
theorem numM_ac (t n lv r : Int) (ht : 0 ≤ t ∧ t ≤ 9999999) (hlv : 1 ≤ lv ∧ lv ≤ 8) (h1 : 21 ≤ r) (h2 : r ≤ 1048576) :
    AC Try.prog 20 [(num t n).v, .int .i64 lv, .int .i64 r] (fun q => ∃ k : Int, q = .tup [.int .i64 k, .bool true] ∧ 0 ≤ k ∧ k ≤ 21) := by
  have := measure_ac t 1 n [] [] lv r c1 ht hlv h2 (.inl ⟨rfl, rfl, rfl⟩) (by simp) (by simp) (by simpa [sumC] using h1)
  simpa [sumC, num] using this
theorem strM_ac (t : Int) (s : List UInt8) (lv r : Int) (ht : 0 ≤ t ∧ t ≤ 9999999) (hlv : 1 ≤ lv ∧ lv ≤ 8) (hs : s.length ≤ 2000) (h1 : 21 + s.length ≤ r) (h2 : r ≤ 1048576) :
    AC Try.prog 20 [(Nd.mk t 2 0 s []).v, .int .i64 lv, .int .i64 r] (fun q => ∃ k : Int, q = .tup [.int .i64 k, .bool true] ∧ 0 ≤ k ∧ k ≤ 21 + s.length) := by
  have := measure_ac t 2 0 s [] lv r c1 ht hlv h2 (.inr (.inl ⟨rfl, rfl, rfl, hs⟩)) (by simp) (by simp) (by simpa [sumC] using h1)
  simpa [sumC] using this
theorem chM_ac (t : Int) (l : List Int) (lv r : Int) (ht : 0 ≤ t ∧ t ≤ 9999999) (hlv : 1 ≤ lv ∧ lv ≤ 7) (hl : l.length ≤ 1024) (h1 : 21 + 21 * l.length ≤ r) (h2 : r ≤ 1048576) :
    AC Try.prog 20 [(Nd.mk t 3 0 [] (chN l)).v, .int .i64 lv, .int .i64 r] (fun q => ∃ k : Int, q = .tup [.int .i64 k, .bool true] ∧ 0 ≤ k ∧ k ≤ 21 + 21 * l.length) := by
  have hcc : ∀ n, c1 (num 0 n) = 21 := fun n => by simp [c1, num, Nd.ss, Nd.kids]
  have hsum := sumC_const l c1 hcc
  have hmem : ∀ x ∈ chN l, ∃ n, x = num 0 n := by
    intro x hx
    simp only [chN, List.mem_map] at hx
    obtain ⟨n, _, rfl⟩ := hx
    exact ⟨n, rfl⟩
  have := measure_ac t 3 0 [] (chN l) lv r c1 ht ⟨hlv.1, by omega⟩ h2 (.inr (.inr ⟨rfl, rfl, rfl, by simpa [chN] using hl⟩))
    (fun x hx => by obtain ⟨n, rfl⟩ := hmem x hx; rw [hcc]; omega)
    (fun x hx q hq hq2 => by
      obtain ⟨n, rfl⟩ := hmem x hx
      rw [hcc] at hq ⊢
      exact numM_ac 0 n (lv + 1) q (by omega) (by omega) hq hq2) (by rw [hsum]; simpa using h1)
  rw [hsum] at this
  simpa using this

theorem encK_mem {e : Ev} (h10 : e.ch.length ≤ 10) (ht : e.text.length ≤ 1000) : ∀ x ∈ encK e, 0 ≤ c1 x ∧ ∀ r, c1 x ≤ r → r ≤ 1048576 → AC Try.prog 20 [x.v, .int .i64 (1 + 1), .int .i64 r] (fun q => ∃ k : Int, q = .tup [.int .i64 k, .bool true] ∧ 0 ≤ k ∧ k ≤ c1 x) := by
  have hn : ∀ t n, 0 ≤ t → t ≤ 9999999 → 0 ≤ c1 (num t n) ∧ ∀ r, c1 (num t n) ≤ r → r ≤ 1048576 → AC Try.prog 20 [(num t n).v, .int .i64 (1 + 1), .int .i64 r] (fun q => ∃ k : Int, q = .tup [.int .i64 k, .bool true] ∧ 0 ≤ k ∧ k ≤ c1 (num t n)) := by
    intro t n h0 h1
    have hcc : c1 (num t n) = 21 := by simp [c1, num, Nd.ss, Nd.kids]
    rw [hcc]
    exact ⟨by omega, fun r a b => numM_ac t n (1 + 1) r ⟨h0, h1⟩ (by omega) a b⟩
  intro x hx
  unfold encK at hx
  rcases List.mem_append.1 hx with hx | hx
  · simp only [List.mem_cons, List.not_mem_nil, or_false] at hx
    rcases hx with rfl | rfl
    · exact hn _ _ (by omega) (by omega)
    · exact hn _ _ (by omega) (by omega)
  · split at hx
    · simp only [ansK, List.mem_cons, List.not_mem_nil, or_false] at hx
      rcases hx with rfl | rfl | rfl | rfl | rfl
      · exact hn _ _ (by omega) (by omega)
      · have hcc : c1 (.mk 4 3 0 [] (chN e.ch)) = 21 + 21 * e.ch.length := by simp [c1, Nd.ss, Nd.kids, chN]
        rw [hcc]
        exact ⟨by omega, fun r a b => chM_ac 4 e.ch (1 + 1) r (by omega) (by omega) (by omega) a b⟩
      · exact hn _ _ (by omega) (by omega)
      · have hcc : c1 (.mk 6 2 0 e.text []) = 21 + e.text.length := by simp [c1, Nd.ss, Nd.kids]
        rw [hcc]
        exact ⟨by omega, fun r a b => strM_ac 6 e.text (1 + 1) r (by omega) (by omega) (by omega) a b⟩
      · exact hn _ _ (by omega) (by omega)
    · split at hx
      · simp only [List.mem_cons, List.not_mem_nil, or_false] at hx
        rcases hx with rfl | rfl | rfl
        · exact hn _ _ (by omega) (by omega)
        · exact hn _ _ (by omega) (by omega)
        · exact hn _ _ (by omega) (by omega)
      · cases hx
theorem encK_sum {e : Ev} (h10 : e.ch.length ≤ 10) (ht : e.text.length ≤ 1000) : sumC c1 (encK e) ≤ 5000 ∧ (encK e).length ≤ 1024 := by
  unfold encK
  split
  · simp [ansK, sumC, c1, num, Nd.ss, Nd.kids, chN]; omega
  · split
    · simp [sumC, c1, num, Nd.ss, Nd.kids]
    · simp [sumC, c1, num, Nd.ss, Nd.kids]

theorem valid_ac (e : Ev) (hE : encE e = 0) : AC Try.prog 10 [(Nd.mk 50 3 0 [] (encK e)).v] (fun r => r = .bool true) := by
  obtain ⟨_, _, _, h4, h5⟩ := encE_zero hE
  have hm := encK_mem h4 h5
  have hs := encK_sum h4 h5
  have hc := measure_ac 50 3 0 [] (encK e) 1 1048576 c1 (by omega) (by omega) (by omega) (.inr (.inr ⟨rfl, rfl, rfl, hs.2⟩)) (fun x hx => (hm x hx).1) (fun x hx => (hm x hx).2) (by simp; omega)
  rw [Nd.v] at hc ⊢
  generalize (encK e).map Nd.v = kv at hc
  refine ac_intro Try.func10 rfl (by show (1 : Nat) ≤ 11; omega) (fun w0 N0 => ?_)
  refine aw_step [1] [1] (by simp [Try.ntmps10] <;> rfl) ?_   -- codec.go:87
  refine aw_seq (aw_region ?_)   -- codec.go:88
  refine awl_go 1 (by simp <;> rfl) ?_
  refine awl_call rfl rfl rfl Try.func20 rfl (by kernel_rfl) rfl (by simp) hc ?_
  rintro r ⟨k, rfl, _, _⟩
  refine ⟨_, rfl, ?_⟩
  refine awl_end [4] [] (by simp <;> rfl) ?_
  refine aw_step [2] [] (by simp <;> rfl) ?_   -- codec.go:89
  exact aw_ret (ends_ret (by simp [Try.results10] <;> rfl) rfl)

/-- The tree of an event gives the event back. -/
theorem gP_enc (e : Ev) (hE : encE e = 0) : gP (.mk 50 3 0 [] (encK e)) = e := by
  obtain ⟨hf, _, _, h4, _⟩ := encE_zero hE
  rw [fmd_eq] at hf
  simp only [Bool.and_eq_true, Bool.or_eq_true, decide_eq_true_eq, Bool.not_eq_true', decide_eq_false_iff_not] at hf
  obtain ⟨⟨⟨⟨_, _⟩, hb⟩, hi⟩, ht⟩ := hf
  have hnn : ∀ l : List Int, (chN l).map Nd.nn = l := by
    intro l
    induction l with
    | nil => rfl
    | cons n l ih => simp only [chN, List.map_cons] at ih ⊢; rw [ih]; rfl
  by_cases h2 : e.kind = 2
  · have hi := hi.resolve_left (by omega)
    simp only [inc0, Bool.and_eq_true, decide_eq_true_eq] at hi
    have hl : (chN e.ch).length ≤ 10 := by simpa [chN] using h4
    have hom : decide ((if e.om = true then (1 : Int) else 0) = 1) = e.om := by cases e.om <;> simp
    simp only [gP, kids_mk, encK, h2, if_true, ansK, List.cons_append, List.nil_append, num, Nd.nn, Nd.ss, hl, evA, hnn, hom]
    cases e
    simp_all
  · have hb := hb.resolve_left h2
    simp only [blank, Bool.and_eq_true, decide_eq_true_eq, Bool.not_eq_true'] at hb
    by_cases h5 : e.kind = 5
    · have ht := ht.resolve_left (by simpa using h5)
      simp only [gP, kids_mk, encK, h5, if_true, List.cons_append, List.nil_append, num, Nd.nn, Nd.ss, evI, show ¬ (5 : Int) = 2 by omega, if_false]
      cases e
      simp_all
    · have hi := hi.resolve_left h5
      simp only [inc0, Bool.and_eq_true, decide_eq_true_eq] at hi
      simp only [gP, kids_mk, encK, h2, h5, if_false, List.cons_append, List.nil_append, num, Nd.nn, evT]
      cases e
      simp_all
theorem dec_enc (e : Ev) (hE : encE e = 0) : decV (gP (encN e)) (encN e) = .tup [e.v, .int .i64 0] := by
  have hN : encN e = .mk 50 3 0 [] (encK e) := by rw [encN, if_pos hE]
  rw [hN, gP_enc e hE]
  rw [← decV_ok]
  simp [decB, hE, hN, eqN]
theorem dec_zero (e : Ev) (hE : encE e ≠ 0) : decV (gP (encN e)) (encN e) = .tup [zE.v, .int .i64 2] := by
  have hN : encN e = zNd := by rw [encN, if_neg hE]
  rw [hN]
  have : gP zNd = zE := rfl
  rw [this, decV, if_pos]
  simp [decB, encE, fmd, zE]
theorem enc_inj {e o : Ev} (hE : encE e = 0) (hO : encE o = 0) : eqN (encN e) (encN o) = decide (e = o) := by
  have hN : encN e = .mk 50 3 0 [] (encK e) := by rw [encN, if_pos hE]
  have hM : encN o = .mk 50 3 0 [] (encK o) := by rw [encN, if_pos hO]
  rw [Bool.eq_iff_iff, eqN_iff, decide_eq_true_eq]
  constructor
  · intro h
    rw [hN, hM] at h
    rw [← gP_enc e hE, ← gP_enc o hO, h]
  · rintro rfl; rfl

theorem relax_zEv : Relax (.agg [.int .i64 0, .int .i64 0, .int .i64 0, .nils, .int .i64 0, .str [], .bool false, .int .i64 0, .int .i64 0, .int .i64 0, .int .i64 0]) zE.v := relax_evT 0 0 0 0 0 0 0 0 [] false

set_option maxRecDepth 100000 in
set_option maxHeartbeats 2000000 in
theorem resumeRoundTrip_ac (e o : Ev) : AC Try.prog 4 [e.v, o.v] (fun r => r = .bool true) := by
  have hen := encode_ac e
  have hde := decode_ac (encN e)
  have hoe := encode_ac o
  by_cases hE : encE e = 0
  · rw [dec_enc e hE] at hde
    have hN : encN e = .mk 50 3 0 [] (encK e) := by rw [encN, if_pos hE]
    have hsa := same_ac e e
    rw [decide_eq_true (rfl : e = e)] at hsa
    have hva := valid_ac e hE
    have heq := equal_ac (encN o) (encN e)
    have hso := same_ac e o
    have hfin : (!decide (encE o = 0) || (eqN (encN e) (encN o) == decide (e = o))) = true := by
      by_cases hO : encE o = 0
      · rw [enc_inj hE hO]; simp
      · simp [hO]
    rw [← hN] at hva
    rw [encV, hE] at hen
    rw [encV] at hoe
    generalize eqN (encN e) (encN o) = q at heq hfin
    generalize decide (e = o) = q2 at hso hfin
    generalize encE o = oc at hoe hfin
    rcases hm : encN e with ⟨mt, mk, mn, ms, ml⟩
    rcases hk : encN o with ⟨ot, ok, on, os, ol⟩
    rw [hm] at hen hde hva heq
    rw [hk] at hoe heq
    simp only [Nd.v, Ev.v] at hen hde hoe hsa hva heq hso ⊢
    generalize ml.map Nd.v = mv at hen hde hva heq
    generalize ol.map Nd.v = ov at hoe heq
    generalize nums e.ch = ev at hen hde hsa hso
    generalize nums o.ch = ov2 at hoe hso
    refine ac_intro Try.func4 rfl (by show (2 : Nat) ≤ 65; omega) (fun w0 N0 => ?_)
    refine aw_step [2, 3] [2, 3] (by simp [Try.ntmps4] <;> rfl) ?_   -- law.go:114
    refine aw_seq (aw_region ?_)   -- law.go:115
    refine awl_go 1 (by simp <;> rfl) ?_
    refine awl_call1 hen Try.func9 rfl (by kernel_rfl) rfl rfl rfl rfl rfl (by simp <;> rfl) ?_
    refine awl_end [2, 3, 5, 6] [2, 3, 5] (by simp <;> rfl) ?_
    refine aw_seq ?_
    refine aw_step [2, 3, 5, 18] [2, 3, 5] (by simp <;> rfl) ?_   -- law.go:116
    refine aw_cond rfl (fun h1 => by simp at h1) (fun h1 => aw_skip ?_)   -- if t18
    refine aw_seq (aw_region ?_)   -- law.go:120
    refine awl_go 1 (by simp <;> rfl) ?_
    refine awl_call1 hde Try.func6 rfl (by kernel_rfl) rfl rfl rfl rfl rfl (by simp <;> rfl) ?_
    refine awl_end [2, 3, 5, 9, 10] [2, 3, 5, 9] (by simp <;> rfl) ?_
    refine aw_seq ?_
    refine aw_seq (aw_region ?_)   -- law.go:121
    refine awl_go 5 (by simp <;> rfl) ?_
    refine awl_gcall (c := true) (fun hg => hsa) Try.func8 rfl (by kernel_rfl) (by simp) rfl rfl (by simp <;> rfl) (by simp) (by simp <;> rfl) ?_
    refine awl_go 4 (by simp <;> rfl) ?_
    refine awl_gcall (c := true) (fun hg => hva) Try.func10 rfl (by kernel_rfl) (by simp) rfl rfl (by simp <;> rfl) (by simp) (by simp <;> rfl) ?_
    refine awl_end [2, 3, 5, 48] [2, 3, 5] (by simp <;> rfl) ?_
    refine aw_cond rfl (fun h2 => by simp at h2) (fun h2 => aw_skip ?_)   -- if t48
    refine aw_seq (aw_region ?_)   -- law.go:124
    refine awl_go 1 (by simp <;> rfl) ?_
    refine awl_call1 hoe Try.func9 rfl (by kernel_rfl) rfl rfl rfl rfl rfl (by simp <;> rfl) ?_
    refine awl_end [2, 3, 5, 10, 11] [2, 3, 5, 11] (by simp <;> rfl) ?_
    refine aw_seq (aw_draw [(0, []), (1, []), (2, []), (3, []), (4, []), (5, []), (6, []), (7, []), (8, []), (9, []), (10, []), (11, [])] hmix (by kernel_rfl) ?_)   -- law.go:125
    refine awo_go 5 (by simp <;> rfl) ?_
    refine awo_call (c := decide (oc = 0)) (fun hg => heq) Try.func11 rfl (by kernel_rfl) rfl rfl (by simp) rfl rfl (by simp <;> rfl) (by simp) (by simp <;> rfl) ?_
    refine awo_go 2 (by simp <;> rfl) ?_
    refine awo_call (c := decide (oc = 0)) (fun hg => hso) Try.func8 rfl (by kernel_rfl) rfl rfl (by simp) rfl rfl (by simp <;> rfl) (by simp) (by simp <;> rfl) ?_
    refine awo_end [4] [] (by simp <;> rfl) ?_
    exact aw_ret (ends_ret (by simp [Try.results4] <;> rfl) (by rw [hfin]))
  · rw [dec_zero e hE] at hde
    have hsa := same_ac zE zE
    rw [decide_eq_true (rfl : zE = zE)] at hsa
    have hsa := hsa.argsR (.cons (Relax.refl _) (.cons relax_zEv .nil))
    rw [encV] at hen
    rcases hm : encN e with ⟨mt, mk, mn, ms, ml⟩
    rw [hm] at hen hde
    rw [zE_v] at hsa hde
    generalize encE e = ec at hen hE
    simp only [Nd.v, Ev.v] at hen hde ⊢
    generalize ml.map Nd.v = mv at hen hde
    generalize nums e.ch = ev at hen
    generalize nums o.ch = ov
    refine ac_intro Try.func4 rfl (by show (2 : Nat) ≤ 65; omega) (fun w0 N0 => ?_)
    refine aw_step [2, 3] [2, 3] (by simp [Try.ntmps4] <;> rfl) ?_   -- law.go:114
    refine aw_seq (aw_region ?_)   -- law.go:115
    refine awl_go 1 (by simp <;> rfl) ?_
    refine awl_call1 hen Try.func9 rfl (by kernel_rfl) rfl rfl rfl rfl rfl (by simp <;> rfl) ?_
    refine awl_end [2, 3, 5, 6] [2, 3, 5] (by simp <;> rfl) ?_
    refine aw_seq ?_
    refine aw_step [2, 3, 5, 18] [2, 3, 5] (by simp <;> rfl) ?_   -- law.go:116
    refine aw_cond rfl (fun h1 => ?_) (fun h1 => by simp [hE] at h1)   -- if t18
    refine aw_seq (aw_region ?_)   -- law.go:117
    refine awl_go 1 (by simp <;> rfl) ?_
    refine awl_call1 hde Try.func6 rfl (by kernel_rfl) rfl rfl rfl rfl rfl (by simp <;> rfl) ?_
    refine awl_end [7, 8] [7] (by simp <;> rfl) ?_
    refine aw_seq (aw_region ?_)   -- law.go:118
    refine awl_go 5 (by simp <;> rfl) ?_
    refine awl_gcall (c := true) (fun hg => hsa) Try.func8 rfl (by kernel_rfl) (by simp) rfl rfl (by simp <;> rfl) (by simp) (by simp <;> rfl) ?_
    refine awl_end [4] [] (by simp <;> rfl) ?_
    exact aw_ret (ends_ret (by simp [Try.results4] <;> rfl) rfl)
end Go.Proofs.Ytmkbhognijicjaa
