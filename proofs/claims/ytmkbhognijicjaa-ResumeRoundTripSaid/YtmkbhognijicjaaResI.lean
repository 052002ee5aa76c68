/- Resume: guess and Decode. No condition. -/
import Derived.Test.YtmkbhognijicjaaResH
set_option linter.unusedSimpArgs false
namespace Go.Proofs.Ytmkbhognijicjaa
open Go.Eng

def Nd.nn : Nd → Int
  | .mk _ _ n _ _ => n
def Nd.ss : Nd → List UInt8
  | .mk _ _ _ s _ => s
/-- The event of an answer, and of an incident. -/
def evA (t : Int) (c0 c1 c2 c3 c4 : Nd) : Ev := ⟨2, t, c0.nn, c1.kids.map Nd.nn, c2.nn, c3.ss, decide (c4.nn = 1), 0, 0, 0, 0⟩
def evI (t : Int) (c0 c1 c2 : Nd) : Ev := ⟨5, t, 0, [], 0, [], false, c0.nn, t, c1.nn, c2.nn⟩
def evT (k t : Int) : Ev := ⟨k, t, 0, [], 0, [], false, 0, 0, 0, 0⟩
def gP (x : Nd) : Ev := match x.kids with
  | a :: b :: l =>
    if a.nn = 2 then (match l with
      | [c0, c1, c2, c3, c4] => if c1.kids.length ≤ 10 then evA b.nn c0 c1 c2 c3 c4 else evT a.nn b.nn
      | _ => evT a.nn b.nn)
    else if a.nn = 5 then (match l with
      | [c0, c1, c2] => evI b.nn c0 c1 c2
      | _ => evT a.nn b.nn)
    else evT a.nn b.nn
  | _ => zE
def gR (x : Nd) : Ev := match x.kids with
  | a :: b :: l =>
    if a.nn = 2 then (match l with
      | [c0, c1, c2, c3, c4] => evA b.nn c0 c1 c2 c3 c4
      | _ => evT a.nn b.nn)
    else if a.nn = 5 then (match l with
      | [c0, c1, c2] => evI b.nn c0 c1 c2
      | _ => evT a.nn b.nn)
    else evT a.nn b.nn
  | _ => zE
theorem five_of {l : List Nd} (h : l.length = 5) : ∃ a b c d e, l = [a, b, c, d, e] := by
  match l, h with
  | [a, b, c, d, e], _ => exact ⟨a, b, c, d, e, rfl⟩
theorem three_of {l : List Nd} (h : l.length = 3) : ∃ a b c, l = [a, b, c] := by
  match l, h with
  | [a, b, c], _ => exact ⟨a, b, c, rfl⟩
theorem gP_five {x a b : Nd} {l : List Nd} (hx : x.kids = a :: b :: l) (h2 : a.nn = 2) (hl : l.length ≠ 5) : gP x = evT a.nn b.nn ∧ gR x = evT a.nn b.nn := by
  unfold gP gR
  rw [hx]
  simp only [h2, if_true]
  constructor
  · split
    · exact absurd rfl hl
    · rfl
  · split
    · exact absurd rfl hl
    · rfl
theorem gP_three {x a b : Nd} {l : List Nd} (hx : x.kids = a :: b :: l) (h2 : a.nn ≠ 2) (hl : a.nn = 5 → l.length ≠ 3) : gP x = evT a.nn b.nn ∧ gR x = evT a.nn b.nn := by
  unfold gP gR
  rw [hx]
  simp only [h2, if_false]
  by_cases h5 : a.nn = 5
  · have hl := hl h5
    simp only [h5, if_true]
    constructor
    · split
      · exact absurd rfl hl
      · rfl
    · split
      · exact absurd rfl hl
      · rfl
  · simp only [h5, if_false, and_self]
theorem relax_evT (k t a b c : Int) (d : Int) (e f : Int) (s : List UInt8) (o : Bool) : Relax (.agg [.int .i64 k, .int .i64 t, .int .i64 a, .nils, .int .i64 b, .str s, .bool o, .int .i64 c, .int .i64 d, .int .i64 e, .int .i64 f]) (Ev.v ⟨k, t, a, [], b, s, o, c, d, e, f⟩) :=
  Relax.agg (.cons (Relax.refl _) (.cons (Relax.refl _) (.cons (Relax.refl _) (.cons (Relax.nils 1) (RelaxL.refl _)))))


set_option maxRecDepth 100000 in
set_option maxHeartbeats 4000000 in
theorem guessT_ac (t k n : Int) (s : List UInt8) (ta ka na : Int) (sa : List UInt8) (av : List V) (tb kb nb : Int) (sb : List UInt8) (bv : List V) (lv : List V)
    (hf : ¬ na = 2 ∨ lv.length ≠ 5) (hg : na = 5 → lv.length ≠ 3) : AC Try.prog 12 [.agg [.int .i64 t, .int .i64 k, .int .i64 n, .str s, .ro 5 (.agg [.int .i64 ta, .int .i64 ka, .int .i64 na, .str sa, .ro 5 av] :: .agg [.int .i64 tb, .int .i64 kb, .int .i64 nb, .str sb, .ro 5 bv] :: lv)]] (fun r => r = (evT na nb).v) := by
  refine AC.relax ?_ (relax_evT na nb 0 0 0 0 0 0 [] false)
  have hc : decide (na = 2) = false ∨ (decide ((lv.length : Int) = 5)) = false := by
    rcases hf with hf | hf
    · exact .inl (by simpa using hf)
    · exact .inr (by simp; omega)
  have hc2 : (decide (na = 5) && decide ((lv.length : Int) = 3)) = false := by
    by_cases h5 : na = 5
    · have := hg h5; simp [h5]; omega
    · simp [h5]
  rcases hc with hc | hc
  · refine ac_intro Try.func12 rfl (by show (1 : Nat) ≤ 108; omega) (fun w0 N0 => ?_)
    refine aw_step [1, 2] [1, 2] (by simp [Try.ntmps12] <;> rfl) ?_   -- resume.go:89
    refine aw_step [1, 2, 3] [1, 2, 3] (by simp <;> rfl) ?_   -- resume.go:90
    refine aw_seq ?_
    refine aw_step [1, 2, 3, 10] [1, 2, 3] (by simp <;> rfl) ?_   -- resume.go:91
    refine aw_cond rfl (fun h1 => by simp at h1; omega) (fun h1 => aw_skip ?_)   -- if t10
    have hA : (0 : Int) < (lv.length : Int) + 1 + 1 := by omega
    have hB : (1 : Int) < (lv.length : Int) + 1 + 1 := by omega
    have hC : (2 : Int) ≤ (lv.length : Int) + 1 + 1 := by omega
    refine aw_step [1, 2, 3] [1, 2, 3] (by simp [hA] <;> rfl) ?_   -- resume.go:94
    refine aw_step [1, 2, 3] [1, 2, 3] (by simp [hB] <;> rfl) ?_   -- resume.go:95
    refine aw_step [2, 3, 4] [2, 3] (by simp [hC] <;> rfl) ?_   -- resume.go:96
    refine aw_seq ?_
    refine aw_block ?_
    refine aw_seq (aw_region ?_)   -- resume.go:98
    refine awl_go 9 (by simp [hc] <;> rfl) ?_
    refine awl_skips 6 (by simp <;> rfl) ?_
    refine awl_end [2, 3, 4, 27] [2, 3] (by simp <;> rfl) ?_
    refine aw_cond rfl (fun h2 => by simp [hc] at h2) (fun h2 => ?_)   -- if t27
    refine aw_step [2, 3, 4, 82] [2, 3] (by simp [hc2] <;> rfl) ?_   -- resume.go:103
    refine aw_cond rfl (fun h4 => by simp [hc2] at h4) (fun h4 => aw_skip ?_)   -- if t82
    refine aw_step [2] [2] (by simp <;> rfl) ?_   -- resume.go:106
    exact aw_ret (ends_ret (by simp [Try.results12] <;> rfl) rfl)
  · refine ac_intro Try.func12 rfl (by show (1 : Nat) ≤ 108; omega) (fun w0 N0 => ?_)
    refine aw_step [1, 2] [1, 2] (by simp [Try.ntmps12] <;> rfl) ?_   -- resume.go:89
    refine aw_step [1, 2, 3] [1, 2, 3] (by simp <;> rfl) ?_   -- resume.go:90
    refine aw_seq ?_
    refine aw_step [1, 2, 3, 10] [1, 2, 3] (by simp <;> rfl) ?_   -- resume.go:91
    refine aw_cond rfl (fun h1 => by simp at h1; omega) (fun h1 => aw_skip ?_)   -- if t10
    have hA : (0 : Int) < (lv.length : Int) + 1 + 1 := by omega
    have hB : (1 : Int) < (lv.length : Int) + 1 + 1 := by omega
    have hC : (2 : Int) ≤ (lv.length : Int) + 1 + 1 := by omega
    refine aw_step [1, 2, 3] [1, 2, 3] (by simp [hA] <;> rfl) ?_   -- resume.go:94
    refine aw_step [1, 2, 3] [1, 2, 3] (by simp [hB] <;> rfl) ?_   -- resume.go:95
    refine aw_step [2, 3, 4] [2, 3] (by simp [hC] <;> rfl) ?_   -- resume.go:96
    refine aw_seq ?_
    refine aw_block ?_
    refine aw_seq (aw_region ?_)   -- resume.go:98
    refine awl_go 9 (by simp [hc] <;> rfl) ?_
    refine awl_skips 6 (by simp <;> rfl) ?_
    refine awl_end [2, 3, 4, 27] [2, 3] (by simp <;> rfl) ?_
    refine aw_cond rfl (fun h2 => by simp [hc] at h2) (fun h2 => ?_)   -- if t27
    refine aw_step [2, 3, 4, 82] [2, 3] (by simp [hc2] <;> rfl) ?_   -- resume.go:103
    refine aw_cond rfl (fun h4 => by simp [hc2] at h4) (fun h4 => aw_skip ?_)   -- if t82
    refine aw_step [2] [2] (by simp <;> rfl) ?_   -- resume.go:106
    exact aw_ret (ends_ret (by simp [Try.results12] <;> rfl) rfl)

theorem guessS_ac (t k n : Int) (s : List UInt8) (lv : List V) (h : lv.length < 2) : AC Try.prog 12 [.agg [.int .i64 t, .int .i64 k, .int .i64 n, .str s, .ro 5 lv]] (fun r => r = zE.v) := by
    refine AC.relax ?_ (relax_evT 0 0 0 0 0 0 0 0 [] false)
    have h2 : (lv.length : Int) < 2 := by omega
    refine ac_intro Try.func12 rfl (by show (1 : Nat) ≤ 108; omega) (fun w0 N0 => ?_)
    refine aw_step [1, 2] [1, 2] (by simp [Try.ntmps12] <;> rfl) ?_   -- resume.go:89
    refine aw_step [1, 2, 3] [1, 2, 3] (by simp <;> rfl) ?_   -- resume.go:90
    refine aw_seq ?_
    refine aw_step [1, 2, 3, 10] [1, 2, 3] (by simp <;> rfl) ?_   -- resume.go:91
    refine aw_cond rfl (fun h1 => ?_) (fun h1 => by simp at h1; omega)   -- if t10
    refine aw_step [2] [2] (by simp <;> rfl) ?_   -- resume.go:92
    exact aw_ret (ends_ret (by simp [Try.results12] <;> rfl) rfl)

set_option maxRecDepth 100000 in
set_option maxHeartbeats 4000000 in
theorem guessX_ac (t k n : Int) (s : List UInt8) (t0 k0 n0 : Int) (s0 : List UInt8) (v0 : List V) (t1 k1 n1 : Int) (s1 : List UInt8) (v1 : List V) (t2 k2 n2 : Int) (s2 : List UInt8) (v2 : List V) (t3 k3 n3 : Int) (s3 : List UInt8) (v3 : List V) (t4 k4 n4 : Int) (s4 : List UInt8) (v4 : List V) (t5 k5 n5 : Int) (s5 : List UInt8) (v5 : List V) (t6 k6 n6 : Int) (s6 : List UInt8) (v6 : List V) (h2 : n0 = 2) (hv : 10 < v3.length) : AC Try.prog 12 [.agg [.int .i64 t, .int .i64 k, .int .i64 n, .str s, .ro 5 [.agg [.int .i64 t0, .int .i64 k0, .int .i64 n0, .str s0, .ro 5 v0], .agg [.int .i64 t1, .int .i64 k1, .int .i64 n1, .str s1, .ro 5 v1], .agg [.int .i64 t2, .int .i64 k2, .int .i64 n2, .str s2, .ro 5 v2], .agg [.int .i64 t3, .int .i64 k3, .int .i64 n3, .str s3, .ro 5 v3], .agg [.int .i64 t4, .int .i64 k4, .int .i64 n4, .str s4, .ro 5 v4], .agg [.int .i64 t5, .int .i64 k5, .int .i64 n5, .str s5, .ro 5 v5], .agg [.int .i64 t6, .int .i64 k6, .int .i64 n6, .str s6, .ro 5 v6]]]] (fun r => r = (evT n0 n1).v) := by
    refine AC.relax ?_ (relax_evT n0 n1 0 0 0 0 0 0 [] false)
    subst h2
    have hv' : ¬ (v3.length : Int) ≤ 10 := by omega
    refine ac_intro Try.func12 rfl (by show (1 : Nat) ≤ 108; omega) (fun w0 N0 => ?_)
    refine aw_step [1, 2] [1, 2] (by simp [Try.ntmps12] <;> rfl) ?_   -- resume.go:89
    refine aw_step [1, 2, 3] [1, 2, 3] (by simp <;> rfl) ?_   -- resume.go:90
    refine aw_seq ?_
    refine aw_step [1, 2, 3, 10] [1, 2, 3] (by simp <;> rfl) ?_   -- resume.go:91
    refine aw_cond rfl (fun h1 => by simp at h1) (fun h1 => aw_skip ?_)   -- if t10
    refine aw_step [1, 2, 3] [1, 2, 3] (by simp <;> rfl) ?_   -- resume.go:94
    refine aw_step [1, 2, 3] [1, 2, 3] (by simp <;> rfl) ?_   -- resume.go:95
    refine aw_step [2, 3, 4] [2, 3] (by simp <;> rfl) ?_   -- resume.go:96
    refine aw_seq ?_
    refine aw_block ?_
    refine aw_step [2, 3, 4, 27] [2, 3] (by simp [hv'] <;> rfl) ?_   -- resume.go:98
    refine aw_cond rfl (fun h2 => by simp at h2) (fun h2 => ?_)   -- if t27
    refine aw_step [2, 3, 4, 82] [2, 3] (by simp <;> rfl) ?_   -- resume.go:103
    refine aw_cond rfl (fun h4 => by simp at h4) (fun h4 => aw_skip ?_)   -- if t82
    refine aw_step [2] [2] (by simp <;> rfl) ?_   -- resume.go:106
    exact aw_ret (ends_ret (by simp [Try.results12] <;> rfl) rfl)

set_option maxRecDepth 100000 in
set_option maxHeartbeats 4000000 in
theorem guessI_ac (t k n : Int) (s : List UInt8) (t0 k0 n0 : Int) (s0 : List UInt8) (v0 : List V) (t1 k1 n1 : Int) (s1 : List UInt8) (v1 : List V) (t2 k2 n2 : Int) (s2 : List UInt8) (v2 : List V) (t3 k3 n3 : Int) (s3 : List UInt8) (v3 : List V) (t4 k4 n4 : Int) (s4 : List UInt8) (v4 : List V) (h5 : n0 = 5) : AC Try.prog 12 [.agg [.int .i64 t, .int .i64 k, .int .i64 n, .str s, .ro 5 [.agg [.int .i64 t0, .int .i64 k0, .int .i64 n0, .str s0, .ro 5 v0], .agg [.int .i64 t1, .int .i64 k1, .int .i64 n1, .str s1, .ro 5 v1], .agg [.int .i64 t2, .int .i64 k2, .int .i64 n2, .str s2, .ro 5 v2], .agg [.int .i64 t3, .int .i64 k3, .int .i64 n3, .str s3, .ro 5 v3], .agg [.int .i64 t4, .int .i64 k4, .int .i64 n4, .str s4, .ro 5 v4]]]] (fun r => r = Ev.v ⟨5, n1, 0, [], 0, [], false, n2, n1, n3, n4⟩) := by
    refine AC.relax ?_ (relax_evT 5 n1 0 0 n2 n1 n3 n4 [] false)
    subst h5
    refine ac_intro Try.func12 rfl (by show (1 : Nat) ≤ 108; omega) (fun w0 N0 => ?_)
    refine aw_step [1, 2] [1, 2] (by simp [Try.ntmps12] <;> rfl) ?_   -- resume.go:89
    refine aw_step [1, 2, 3] [1, 2, 3] (by simp <;> rfl) ?_   -- resume.go:90
    refine aw_seq ?_
    refine aw_step [1, 2, 3, 10] [1, 2, 3] (by simp <;> rfl) ?_   -- resume.go:91
    refine aw_cond rfl (fun h1 => by simp at h1) (fun h1 => aw_skip ?_)   -- if t10
    refine aw_step [1, 2, 3] [1, 2, 3] (by simp <;> rfl) ?_   -- resume.go:94
    refine aw_step [1, 2, 3] [1, 2, 3] (by simp <;> rfl) ?_   -- resume.go:95
    refine aw_step [2, 3, 4] [2, 3] (by simp <;> rfl) ?_   -- resume.go:96
    refine aw_seq ?_
    refine aw_block ?_
    refine aw_seq (aw_region ?_)   -- resume.go:98
    refine awl_go 9 (by simp <;> rfl) ?_
    refine awl_skips 6 (by simp <;> rfl) ?_
    refine awl_end [2, 3, 4, 27] [2, 3] (by simp <;> rfl) ?_
    refine aw_cond rfl (fun h2 => by simp at h2) (fun h2 => ?_)   -- if t27
    refine aw_step [2, 3, 4, 82] [2, 3] (by simp <;> rfl) ?_   -- resume.go:103
    refine aw_cond rfl (fun h4 => ?_) (fun h4 => by simp at h4)   -- if t82
    refine aw_done [(0, []), (1, []), (2, []), (4, []), (6, []), (7, []), (8, []), (10, []), (11, []), (12, []), (3, []), (5, []), (9, []), (13, []), (14, []), (15, []), (16, [])] [2, 3] [2, 3] hmix (by kernel_rfl) (by simp <;> rfl) ?_   -- resume.go:104
    refine aw_step [2] [2] (by simp <;> rfl) ?_   -- resume.go:106
    exact aw_ret (ends_ret (by simp [Try.results12] <;> rfl) rfl)

set_option maxRecDepth 100000 in
set_option maxHeartbeats 4000000 in
theorem guessA_ac (t k n : Int) (s : List UInt8) (t0 k0 n0 : Int) (s0 : List UInt8) (v0 : List V) (t1 k1 n1 : Int) (s1 : List UInt8) (v1 : List V) (t2 k2 n2 : Int) (s2 : List UInt8) (v2 : List V) (t3 k3 n3 : Int) (s3 : List UInt8) (v3 : List V) (t4 k4 n4 : Int) (s4 : List UInt8) (v4 : List V) (t5 k5 n5 : Int) (s5 : List UInt8) (v5 : List V) (t6 k6 n6 : Int) (s6 : List UInt8) (v6 : List V) (ks : List Nd) (hks : v3 = ks.map Nd.v) (h2 : n0 = 2) (hv : v3.length ≤ 10) : AC Try.prog 12 [.agg [.int .i64 t, .int .i64 k, .int .i64 n, .str s, .ro 5 [.agg [.int .i64 t0, .int .i64 k0, .int .i64 n0, .str s0, .ro 5 v0], .agg [.int .i64 t1, .int .i64 k1, .int .i64 n1, .str s1, .ro 5 v1], .agg [.int .i64 t2, .int .i64 k2, .int .i64 n2, .str s2, .ro 5 v2], .agg [.int .i64 t3, .int .i64 k3, .int .i64 n3, .str s3, .ro 5 v3], .agg [.int .i64 t4, .int .i64 k4, .int .i64 n4, .str s4, .ro 5 v4], .agg [.int .i64 t5, .int .i64 k5, .int .i64 n5, .str s5, .ro 5 v5], .agg [.int .i64 t6, .int .i64 k6, .int .i64 n6, .str s6, .ro 5 v6]]]] (fun r => r = Ev.v ⟨2, n1, n2, ks.map Nd.nn, n4, s5, decide (n6 = 1), 0, 0, 0, 0⟩) := by
    subst h2
    have hv' : (v3.length : Int) ≤ 10 := by omega
    have hlen : v3.length = ks.length := by rw [hks]; simp
    have hga : ∀ (j : Nat) (h : j < ks.length), nth v3 j = some ks[j].v := fun j h => by rw [hks]; exact nthN h
    have hnl : (nums (ks.map Nd.nn)).length = ks.length := by simp [nums]
    have hng : ∀ (j : Nat) (h : j < ks.length), (nums (ks.map Nd.nn))[j]? = some (.int .i64 ks[j].nn) := fun j h => by simp [nums, h]
    have hnp := pureI (ks.map Nd.nn)
    clear hks
    simp only [Ev.v]
    generalize nums (ks.map Nd.nn) = cv at hnl hng hnp ⊢
    refine ac_intro Try.func12 rfl (by show (1 : Nat) ≤ 108; omega) (fun w0 N0 => ?_)
    refine aw_step [1, 2] [1, 2] (by simp [Try.ntmps12] <;> rfl) ?_   -- resume.go:89
    refine aw_step [1, 2, 3] [1, 2, 3] (by simp <;> rfl) ?_   -- resume.go:90
    refine aw_seq ?_
    refine aw_step [1, 2, 3, 10] [1, 2, 3] (by simp <;> rfl) ?_   -- resume.go:91
    refine aw_cond rfl (fun h1 => by simp at h1) (fun h1 => aw_skip ?_)   -- if t10
    refine aw_step [1, 2, 3] [1, 2, 3] (by simp <;> rfl) ?_   -- resume.go:94
    refine aw_step [1, 2, 3] [1, 2, 3] (by simp <;> rfl) ?_   -- resume.go:95
    refine aw_step [2, 3, 4] [2, 3] (by simp <;> rfl) ?_   -- resume.go:96
    refine aw_seq ?_
    refine aw_block ?_
    refine aw_step [2, 3, 4, 27] [2, 3] (by simp [hv'] <;> rfl) ?_   -- resume.go:98
    refine aw_cond rfl (fun h2 => ?_) (fun h2 => by simp at h2)   -- if t27
    refine aw_dstep [(0, []), (1, []), (2, []), (4, []), (5, []), (6, []), (8, []), (9, []), (10, []), (12, []), (13, []), (14, []), (3, []), (7, []), (11, []), (15, []), (16, []), (17, []), (18, []), (19, [])] [2, 3, 4] [2, 3] hmix (by kernel_rfl) (by simp <;> rfl) ?_   -- resume.go:99
    refine aw_step [2, 3, 66, 67, 68] [2, 3] (by simp <;> rfl) ?_   -- resume.go:100
    refine aw_adoptC 3 3 100 1 3 [2, 3, 66, 67, 68] [2, 3, 100] (by simp <;> rfl) ?_
    refine aw_block ?_
    refine aw_loop (fun x : Nat × Nat × Nat => ⟨[(2, .bp 2 1 11 0 0), (3, .bp 3 2 11 0 0), (66, .ro 5 v3), (67, .int .i64 v3.length), (68, .int .i64 x.1)],
        [(2, ⟨1, 11, 32, [.agg [.int .i64 0, .int .i64 0, .int .i64 0, .nils, .int .i64 0, .str [], .bool false, .int .i64 0, .int .i64 0, .int .i64 0, .int .i64 0]]⟩), (3, ⟨2, 11, 32, [.agg [.int .i64 2, .int .i64 n1, .int .i64 n2, .sl 100 x.2.1 1 x.1, .int .i64 n4, .str s5, .bool (decide (n6 = 1)), .int .i64 0, .int .i64 0, .int .i64 0, .int .i64 0]]⟩), (100, ⟨x.2.1, 1, 3, cv.take x.1⟩)], x.2.2, 108⟩)
        (fun x => x.1 ≤ ks.length) (fun x => ks.length - x.1) (0, 68, _) (Nat.zero_le _) (AS.le_refl _) ?_
    rintro ⟨j, q, nx⟩ hj
    simp only at hj
    have htl : (cv.take j).length = j := by rw [List.length_take]; omega
    generalize hrow : cv.take j = row at htl ⊢
    refine aw_step [2, 3, 66, 67, 68, 69] [2, 3, 100] (by simp <;> rfl) ?_   -- resume.go:100
    refine aw_seq ?_
    refine aw_cond rfl (fun h3 => aw_skip ?_) (fun h3 => ?_)   -- if t69
    · have hlt : j < ks.length := by simp at h3; omega
      have hlt' : j < v3.length := by omega
      have hltn : j < cv.length := by omega
      have ga := hga j hlt
      have hw := wrap_succ (k := j) (by omega)
      have htk : cv.take (j + 1) = row ++ [.int .i64 ks[j].nn] := by
        rw [List.take_succ_eq_append_getElem hltn, hrow]
        congr 2
        have := hng j hlt
        rw [List.getElem?_eq_getElem hltn] at this
        injection this
      have hb1 : j + 1 ≤ maxLen := by unfold maxLen; omega
      have hb2 : (j + 1) * 8 ≤ 140737488355328 := by omega
      rcases hkj : ks[j] with ⟨tj, kj, nj, sj, kks⟩
      rw [hkj] at ga htk
      simp only [Nd.nn] at htk
      rw [Nd.v] at ga
      generalize kks.map Nd.v = kjv at ga
      refine aw_seq ?_
      refine aw_block ?_
      refine aw_step [2, 3, 6, 66, 67, 68] [2, 3, 6, 100] (by simp [ga, hlt'] <;> rfl) ?_   -- resume.go:100
      refine aw_one [2, 3, 66, 67, 68] [2, 3, 100] (by simp [htl, hb1, hb2] <;> rfl) ?_   -- resume.go:101
      refine aw_one [2, 3, 66, 67, 68] [2, 3, 100] (by simp [hw] <;> rfl) ?_   -- resume.go:100
      exact ⟨(j + 1, _, _), hlt, by simp only; omega, by simp only [htk]; exact AS.le_refl _⟩
    · refine aw_exit ?_
      have hkl : j = cv.length := by simp at h3; omega
      have hrow' : row = cv := by rw [← hrow, hkl, List.take_length]
      subst hrow'
      subst hkl
      refine aw_step [2] [2, 100] (by simp <;> rfl) ?_   -- resume.go:106
      exact aw_ret (ends_ret (by simp [Try.results12, hnp] <;> rfl) rfl)

end Go.Proofs.Ytmkbhognijicjaa
