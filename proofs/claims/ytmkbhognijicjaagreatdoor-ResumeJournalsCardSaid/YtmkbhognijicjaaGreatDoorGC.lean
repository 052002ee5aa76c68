import Derived.Test.YtmkbhognijicjaaGreatDoorGB
import Derived.Test.YtmkbhognijicjaaGreatDoorGA
/- Resume: guess and Decode. No condition. -/
set_option linter.unusedSimpArgs false
set_option maxRecDepth 4000
namespace Go.Proofs.YtmkbhognijicjaaGreatDoor
open Go.Eng

def Nd.nn : Nd → Int
  | .mk _ _ n _ _ => n
def Nd.ss : Nd → List UInt8
  | .mk _ _ _ s _ => s
/-- The event of an answer, and of an incident. -/
def evA (t : Int) (c0 c1 c2 c3 c4 : Nd) : Ev := ⟨2, t, c0.nn, c1.kids.map Nd.nn, c2.nn, c3.ss, decide (c4.nn = 1), 0, 0, 0, 0⟩
def evI (t : Int) (c0 c1 c2 : Nd) : Ev := ⟨5, t, 0, [], 0, [], false, c0.nn, t, c1.nn, c2.nn⟩
def evT (k t : Int) : Ev := ⟨k, t, 0, [], 0, [], false, 0, 0, 0, 0⟩
def gP (x : Nd) : Ev := match x.kids with
  | a :: b :: l =>
    if a.nn = 2 then (match l with
      | [c0, c1, c2, c3, c4] => if c1.kids.length ≤ 10 then evA b.nn c0 c1 c2 c3 c4 else evT a.nn b.nn
      | _ => evT a.nn b.nn)
    else if a.nn = 5 then (match l with
      | [c0, c1, c2] => evI b.nn c0 c1 c2
      | _ => evT a.nn b.nn)
    else evT a.nn b.nn
  | _ => zE
def gR (x : Nd) : Ev := match x.kids with
  | a :: b :: l =>
    if a.nn = 2 then (match l with
      | [c0, c1, c2, c3, c4] => evA b.nn c0 c1 c2 c3 c4
      | _ => evT a.nn b.nn)
    else if a.nn = 5 then (match l with
      | [c0, c1, c2] => evI b.nn c0 c1 c2
      | _ => evT a.nn b.nn)
    else evT a.nn b.nn
  | _ => zE
theorem five_of {l : List Nd} (h : l.length = 5) : ∃ a b c d e, l = [a, b, c, d, e] := by
  match l, h with
  | [a, b, c, d, e], _ => exact ⟨a, b, c, d, e, rfl⟩
theorem three_of {l : List Nd} (h : l.length = 3) : ∃ a b c, l = [a, b, c] := by
  match l, h with
  | [a, b, c], _ => exact ⟨a, b, c, rfl⟩
theorem gP_five {x a b : Nd} {l : List Nd} (hx : x.kids = a :: b :: l) (h2 : a.nn = 2) (hl : l.length ≠ 5) : gP x = evT a.nn b.nn ∧ gR x = evT a.nn b.nn := by
  unfold gP gR
  rw [hx]
  simp only [h2, if_true]
  constructor
  · split
    · exact absurd rfl hl
    · rfl
  · split
    · exact absurd rfl hl
    · rfl
theorem gP_three {x a b : Nd} {l : List Nd} (hx : x.kids = a :: b :: l) (h2 : a.nn ≠ 2) (hl : a.nn = 5 → l.length ≠ 3) : gP x = evT a.nn b.nn ∧ gR x = evT a.nn b.nn := by
  unfold gP gR
  rw [hx]
  simp only [h2, if_false]
  by_cases h5 : a.nn = 5
  · have hl := hl h5
    simp only [h5, if_true]
    constructor
    · split
      · exact absurd rfl hl
      · rfl
    · split
      · exact absurd rfl hl
      · rfl
  · simp only [h5, if_false, and_self]
theorem relax_evT (k t a b c : Int) (d : Int) (e f : Int) (s : List UInt8) (o : Bool) : Relax (.agg [.int .i64 k, .int .i64 t, .int .i64 a, .nils, .int .i64 b, .str s, .bool o, .int .i64 c, .int .i64 d, .int .i64 e, .int .i64 f]) (Ev.v ⟨k, t, a, [], b, s, o, c, d, e, f⟩) :=
  Relax.agg (.cons (Relax.refl _) (.cons (Relax.refl _) (.cons (Relax.refl _) (.cons (Relax.nils 1) (RelaxL.refl _)))))


set_option maxRecDepth 100000 in
set_option maxHeartbeats 4000000 in
theorem guessT_ac (t k n : Int) (s : List UInt8) (ta ka na : Int) (sa : List UInt8) (av : List V) (tb kb nb : Int) (sb : List UInt8) (bv : List V) (lv : List V)
    (hf : ¬ na = 2 ∨ lv.length ≠ 5) (hg : na = 5 → lv.length ≠ 3) : AC Tryz.prog 49 [.agg [.int .i64 t, .int .i64 k, .int .i64 n, .str s, .ro 5 (.agg [.int .i64 ta, .int .i64 ka, .int .i64 na, .str sa, .ro 5 av] :: .agg [.int .i64 tb, .int .i64 kb, .int .i64 nb, .str sb, .ro 5 bv] :: lv)]] (fun r => r = (evT na nb).v) := by
  refine AC.relax ?_ (relax_evT na nb 0 0 0 0 0 0 [] false)
  have hc : decide (na = 2) = false ∨ (decide ((lv.length : Int) = 5)) = false := by
    rcases hf with hf | hf
    · exact .inl (by simpa using hf)
    · exact .inr (by simp; omega)
  have hc2 : (decide (na = 5) && decide ((lv.length : Int) = 3)) = false := by
    by_cases h5 : na = 5
    · have := hg h5; simp [h5]; omega
    · simp [h5]
  rcases hc with hc | hc
  · refine ac_intro Tryz.func49 rfl (by show (1 : Nat) ≤ 108; omega) (fun w0 N0 => ?_)
    refine aw_step [1, 2] [1, 2] (by simp [Tryz.ntmps49] <;> rfl) ?_   -- resume.go:89
    refine aw_step [1, 2, 3] [1, 2, 3] (by simp <;> rfl) ?_   -- resume.go:90
    refine aw_seq ?_
    refine aw_step [1, 2, 3, 10] [1, 2, 3] (by simp <;> rfl) ?_   -- resume.go:91
    refine aw_cond rfl (fun h1 => by simp at h1; omega) (fun h1 => aw_skip ?_)   -- if t10
    have hA : (0 : Int) < (lv.length : Int) + 1 + 1 := by omega
    have hB : (1 : Int) < (lv.length : Int) + 1 + 1 := by omega
    have hC : (2 : Int) ≤ (lv.length : Int) + 1 + 1 := by omega
    refine aw_step [1, 2, 3] [1, 2, 3] (by simp [hA] <;> rfl) ?_   -- resume.go:94
    refine aw_step [1, 2, 3] [1, 2, 3] (by simp [hB] <;> rfl) ?_   -- resume.go:95
    refine aw_step [2, 3, 4] [2, 3] (by simp [hC] <;> rfl) ?_   -- resume.go:96
    refine aw_seq ?_
    refine aw_block ?_
    refine aw_seq (aw_region ?_)   -- resume.go:98
    refine awl_go 9 (by simp [hc] <;> rfl) ?_
    refine awl_skips 6 (by simp <;> rfl) ?_
    refine awl_end [2, 3, 4, 27] [2, 3] (by simp <;> rfl) ?_
    refine aw_cond rfl (fun h2 => by simp [hc] at h2) (fun h2 => ?_)   -- if t27
    refine aw_step [2, 3, 4, 82] [2, 3] (by simp [hc2] <;> rfl) ?_   -- resume.go:103
    refine aw_cond rfl (fun h4 => by simp [hc2] at h4) (fun h4 => aw_skip ?_)   -- if t82
    refine aw_step [2] [2] (by simp <;> rfl) ?_   -- resume.go:106
    exact aw_ret (ends_ret (by simp [Tryz.results49] <;> rfl) rfl)
  · refine ac_intro Tryz.func49 rfl (by show (1 : Nat) ≤ 108; omega) (fun w0 N0 => ?_)
    refine aw_step [1, 2] [1, 2] (by simp [Tryz.ntmps49] <;> rfl) ?_   -- resume.go:89
    refine aw_step [1, 2, 3] [1, 2, 3] (by simp <;> rfl) ?_   -- resume.go:90
    refine aw_seq ?_
    refine aw_step [1, 2, 3, 10] [1, 2, 3] (by simp <;> rfl) ?_   -- resume.go:91
    refine aw_cond rfl (fun h1 => by simp at h1; omega) (fun h1 => aw_skip ?_)   -- if t10
    have hA : (0 : Int) < (lv.length : Int) + 1 + 1 := by omega
    have hB : (1 : Int) < (lv.length : Int) + 1 + 1 := by omega
    have hC : (2 : Int) ≤ (lv.length : Int) + 1 + 1 := by omega
    refine aw_step [1, 2, 3] [1, 2, 3] (by simp [hA] <;> rfl) ?_   -- resume.go:94
    refine aw_step [1, 2, 3] [1, 2, 3] (by simp [hB] <;> rfl) ?_   -- resume.go:95
    refine aw_step [2, 3, 4] [2, 3] (by simp [hC] <;> rfl) ?_   -- resume.go:96
    refine aw_seq ?_
    refine aw_block ?_
    refine aw_seq (aw_region ?_)   -- resume.go:98
    refine awl_go 9 (by simp [hc] <;> rfl) ?_
    refine awl_skips 6 (by simp <;> rfl) ?_
    refine awl_end [2, 3, 4, 27] [2, 3] (by simp <;> rfl) ?_
    refine aw_cond rfl (fun h2 => by simp [hc] at h2) (fun h2 => ?_)   -- if t27
    refine aw_step [2, 3, 4, 82] [2, 3] (by simp [hc2] <;> rfl) ?_   -- resume.go:103
    refine aw_cond rfl (fun h4 => by simp [hc2] at h4) (fun h4 => aw_skip ?_)   -- if t82
    refine aw_step [2] [2] (by simp <;> rfl) ?_   -- resume.go:106
    exact aw_ret (ends_ret (by simp [Tryz.results49] <;> rfl) rfl)

theorem guessS_ac (t k n : Int) (s : List UInt8) (lv : List V) (h : lv.length < 2) : AC Tryz.prog 49 [.agg [.int .i64 t, .int .i64 k, .int .i64 n, .str s, .ro 5 lv]] (fun r => r = zE.v) := by
    refine AC.relax ?_ (relax_evT 0 0 0 0 0 0 0 0 [] false)
    have h2 : (lv.length : Int) < 2 := by omega
    refine ac_intro Tryz.func49 rfl (by show (1 : Nat) ≤ 108; omega) (fun w0 N0 => ?_)
    refine aw_step [1, 2] [1, 2] (by simp [Tryz.ntmps49] <;> rfl) ?_   -- resume.go:89
    refine aw_step [1, 2, 3] [1, 2, 3] (by simp <;> rfl) ?_   -- resume.go:90
    refine aw_seq ?_
    refine aw_step [1, 2, 3, 10] [1, 2, 3] (by simp <;> rfl) ?_   -- resume.go:91
    refine aw_cond rfl (fun h1 => ?_) (fun h1 => by simp at h1; omega)   -- if t10
    refine aw_step [2] [2] (by simp <;> rfl) ?_   -- resume.go:92
    exact aw_ret (ends_ret (by simp [Tryz.results49] <;> rfl) rfl)

set_option maxRecDepth 100000 in
set_option maxHeartbeats 4000000 in
theorem guessX_ac (t k n : Int) (s : List UInt8) (t0 k0 n0 : Int) (s0 : List UInt8) (v0 : List V) (t1 k1 n1 : Int) (s1 : List UInt8) (v1 : List V) (t2 k2 n2 : Int) (s2 : List UInt8) (v2 : List V) (t3 k3 n3 : Int) (s3 : List UInt8) (v3 : List V) (t4 k4 n4 : Int) (s4 : List UInt8) (v4 : List V) (t5 k5 n5 : Int) (s5 : List UInt8) (v5 : List V) (t6 k6 n6 : Int) (s6 : List UInt8) (v6 : List V) (h2 : n0 = 2) (hv : 10 < v3.length) : AC Tryz.prog 49 [.agg [.int .i64 t, .int .i64 k, .int .i64 n, .str s, .ro 5 [.agg [.int .i64 t0, .int .i64 k0, .int .i64 n0, .str s0, .ro 5 v0], .agg [.int .i64 t1, .int .i64 k1, .int .i64 n1, .str s1, .ro 5 v1], .agg [.int .i64 t2, .int .i64 k2, .int .i64 n2, .str s2, .ro 5 v2], .agg [.int .i64 t3, .int .i64 k3, .int .i64 n3, .str s3, .ro 5 v3], .agg [.int .i64 t4, .int .i64 k4, .int .i64 n4, .str s4, .ro 5 v4], .agg [.int .i64 t5, .int .i64 k5, .int .i64 n5, .str s5, .ro 5 v5], .agg [.int .i64 t6, .int .i64 k6, .int .i64 n6, .str s6, .ro 5 v6]]]] (fun r => r = (evT n0 n1).v) := by
    refine AC.relax ?_ (relax_evT n0 n1 0 0 0 0 0 0 [] false)
    subst h2
    have hv' : ¬ (v3.length : Int) ≤ 10 := by omega
    refine ac_intro Tryz.func49 rfl (by show (1 : Nat) ≤ 108; omega) (fun w0 N0 => ?_)
    refine aw_step [1, 2] [1, 2] (by simp [Tryz.ntmps49] <;> rfl) ?_   -- resume.go:89
    refine aw_step [1, 2, 3] [1, 2, 3] (by simp <;> rfl) ?_   -- resume.go:90
    refine aw_seq ?_
    refine aw_step [1, 2, 3, 10] [1, 2, 3] (by simp <;> rfl) ?_   -- resume.go:91
    refine aw_cond rfl (fun h1 => by simp at h1) (fun h1 => aw_skip ?_)   -- if t10
    refine aw_step [1, 2, 3] [1, 2, 3] (by simp <;> rfl) ?_   -- resume.go:94
    refine aw_step [1, 2, 3] [1, 2, 3] (by simp <;> rfl) ?_   -- resume.go:95
    refine aw_step [2, 3, 4] [2, 3] (by simp <;> rfl) ?_   -- resume.go:96
    refine aw_seq ?_
    refine aw_block ?_
    refine aw_step [2, 3, 4, 27] [2, 3] (by simp [hv'] <;> rfl) ?_   -- resume.go:98
    refine aw_cond rfl (fun h2 => by simp at h2) (fun h2 => ?_)   -- if t27
    refine aw_step [2, 3, 4, 82] [2, 3] (by simp <;> rfl) ?_   -- resume.go:103
    refine aw_cond rfl (fun h4 => by simp at h4) (fun h4 => aw_skip ?_)   -- if t82
    refine aw_step [2] [2] (by simp <;> rfl) ?_   -- resume.go:106
    exact aw_ret (ends_ret (by simp [Tryz.results49] <;> rfl) rfl)

set_option maxRecDepth 100000 in
set_option maxHeartbeats 4000000 in
theorem guessI_ac (t k n : Int) (s : List UInt8) (t0 k0 n0 : Int) (s0 : List UInt8) (v0 : List V) (t1 k1 n1 : Int) (s1 : List UInt8) (v1 : List V) (t2 k2 n2 : Int) (s2 : List UInt8) (v2 : List V) (t3 k3 n3 : Int) (s3 : List UInt8) (v3 : List V) (t4 k4 n4 : Int) (s4 : List UInt8) (v4 : List V) (h5 : n0 = 5) : AC Tryz.prog 49 [.agg [.int .i64 t, .int .i64 k, .int .i64 n, .str s, .ro 5 [.agg [.int .i64 t0, .int .i64 k0, .int .i64 n0, .str s0, .ro 5 v0], .agg [.int .i64 t1, .int .i64 k1, .int .i64 n1, .str s1, .ro 5 v1], .agg [.int .i64 t2, .int .i64 k2, .int .i64 n2, .str s2, .ro 5 v2], .agg [.int .i64 t3, .int .i64 k3, .int .i64 n3, .str s3, .ro 5 v3], .agg [.int .i64 t4, .int .i64 k4, .int .i64 n4, .str s4, .ro 5 v4]]]] (fun r => r = Ev.v ⟨5, n1, 0, [], 0, [], false, n2, n1, n3, n4⟩) := by
    refine AC.relax ?_ (relax_evT 5 n1 0 0 n2 n1 n3 n4 [] false)
    subst h5
    refine ac_intro Tryz.func49 rfl (by show (1 : Nat) ≤ 108; omega) (fun w0 N0 => ?_)
    refine aw_step [1, 2] [1, 2] (by simp [Tryz.ntmps49] <;> rfl) ?_   -- resume.go:89
    refine aw_step [1, 2, 3] [1, 2, 3] (by simp <;> rfl) ?_   -- resume.go:90
    refine aw_seq ?_
    refine aw_step [1, 2, 3, 10] [1, 2, 3] (by simp <;> rfl) ?_   -- resume.go:91
    refine aw_cond rfl (fun h1 => by simp at h1) (fun h1 => aw_skip ?_)   -- if t10
    refine aw_step [1, 2, 3] [1, 2, 3] (by simp <;> rfl) ?_   -- resume.go:94
    refine aw_step [1, 2, 3] [1, 2, 3] (by simp <;> rfl) ?_   -- resume.go:95
    refine aw_step [2, 3, 4] [2, 3] (by simp <;> rfl) ?_   -- resume.go:96
    refine aw_seq ?_
    refine aw_block ?_
    refine aw_seq (aw_region ?_)   -- resume.go:98
    refine awl_go 9 (by simp <;> rfl) ?_
    refine awl_skips 6 (by simp <;> rfl) ?_
    refine awl_end [2, 3, 4, 27] [2, 3] (by simp <;> rfl) ?_
    refine aw_cond rfl (fun h2 => by simp at h2) (fun h2 => ?_)   -- if t27
    refine aw_step [2, 3, 4, 82] [2, 3] (by simp <;> rfl) ?_   -- resume.go:103
    refine aw_cond rfl (fun h4 => ?_) (fun h4 => by simp at h4)   -- if t82
    refine aw_done [(0, []), (1, []), (2, []), (4, []), (6, []), (7, []), (8, []), (10, []), (11, []), (12, []), (3, []), (5, []), (9, []), (13, []), (14, []), (15, []), (16, [])] [2, 3] [2, 3] hmix (by kernel_rfl) (by simp <;> rfl) ?_   -- resume.go:104
    refine aw_step [2] [2] (by simp <;> rfl) ?_   -- resume.go:106
    exact aw_ret (ends_ret (by simp [Tryz.results49] <;> rfl) rfl)

set_option maxRecDepth 100000 in
set_option maxHeartbeats 4000000 in
theorem guessA_ac (t k n : Int) (s : List UInt8) (t0 k0 n0 : Int) (s0 : List UInt8) (v0 : List V) (t1 k1 n1 : Int) (s1 : List UInt8) (v1 : List V) (t2 k2 n2 : Int) (s2 : List UInt8) (v2 : List V) (t3 k3 n3 : Int) (s3 : List UInt8) (v3 : List V) (t4 k4 n4 : Int) (s4 : List UInt8) (v4 : List V) (t5 k5 n5 : Int) (s5 : List UInt8) (v5 : List V) (t6 k6 n6 : Int) (s6 : List UInt8) (v6 : List V) (ks : List Nd) (hks : v3 = ks.map Nd.v) (h2 : n0 = 2) (hv : v3.length ≤ 10) : AC Tryz.prog 49 [.agg [.int .i64 t, .int .i64 k, .int .i64 n, .str s, .ro 5 [.agg [.int .i64 t0, .int .i64 k0, .int .i64 n0, .str s0, .ro 5 v0], .agg [.int .i64 t1, .int .i64 k1, .int .i64 n1, .str s1, .ro 5 v1], .agg [.int .i64 t2, .int .i64 k2, .int .i64 n2, .str s2, .ro 5 v2], .agg [.int .i64 t3, .int .i64 k3, .int .i64 n3, .str s3, .ro 5 v3], .agg [.int .i64 t4, .int .i64 k4, .int .i64 n4, .str s4, .ro 5 v4], .agg [.int .i64 t5, .int .i64 k5, .int .i64 n5, .str s5, .ro 5 v5], .agg [.int .i64 t6, .int .i64 k6, .int .i64 n6, .str s6, .ro 5 v6]]]] (fun r => r = Ev.v ⟨2, n1, n2, ks.map Nd.nn, n4, s5, decide (n6 = 1), 0, 0, 0, 0⟩) := by
    subst h2
    have hv' : (v3.length : Int) ≤ 10 := by omega
    have hlen : v3.length = ks.length := by rw [hks]; simp
    have hga : ∀ (j : Nat) (h : j < ks.length), nth v3 j = some ks[j].v := fun j h => by rw [hks]; exact nthN h
    have hnl : (nums (ks.map Nd.nn)).length = ks.length := by simp [nums]
    have hng : ∀ (j : Nat) (h : j < ks.length), (nums (ks.map Nd.nn))[j]? = some (.int .i64 ks[j].nn) := fun j h => by simp [nums, h]
    have hnp := pureI (ks.map Nd.nn)
    clear hks
    simp only [Ev.v]
    generalize nums (ks.map Nd.nn) = cv at hnl hng hnp ⊢
    refine ac_intro Tryz.func49 rfl (by show (1 : Nat) ≤ 108; omega) (fun w0 N0 => ?_)
    refine aw_step [1, 2] [1, 2] (by simp [Tryz.ntmps49] <;> rfl) ?_   -- resume.go:89
    refine aw_step [1, 2, 3] [1, 2, 3] (by simp <;> rfl) ?_   -- resume.go:90
    refine aw_seq ?_
    refine aw_step [1, 2, 3, 10] [1, 2, 3] (by simp <;> rfl) ?_   -- resume.go:91
    refine aw_cond rfl (fun h1 => by simp at h1) (fun h1 => aw_skip ?_)   -- if t10
    refine aw_step [1, 2, 3] [1, 2, 3] (by simp <;> rfl) ?_   -- resume.go:94
    refine aw_step [1, 2, 3] [1, 2, 3] (by simp <;> rfl) ?_   -- resume.go:95
    refine aw_step [2, 3, 4] [2, 3] (by simp <;> rfl) ?_   -- resume.go:96
    refine aw_seq ?_
    refine aw_block ?_
    refine aw_step [2, 3, 4, 27] [2, 3] (by simp [hv'] <;> rfl) ?_   -- resume.go:98
    refine aw_cond rfl (fun h2 => ?_) (fun h2 => by simp at h2)   -- if t27
    refine aw_dstep [(0, []), (1, []), (2, []), (4, []), (5, []), (6, []), (8, []), (9, []), (10, []), (12, []), (13, []), (14, []), (3, []), (7, []), (11, []), (15, []), (16, []), (17, []), (18, []), (19, [])] [2, 3, 4] [2, 3] hmix (by kernel_rfl) (by simp <;> rfl) ?_   -- resume.go:99
    refine aw_step [2, 3, 66, 67, 68] [2, 3] (by simp <;> rfl) ?_   -- resume.go:100
    refine aw_adoptC 3 3 100 1 3 [2, 3, 66, 67, 68] [2, 3, 100] (by simp <;> rfl) ?_
    refine aw_block ?_
    refine aw_loop (fun x : Nat × Nat × Nat => ⟨[(2, .bp 2 1 11 0 0), (3, .bp 3 2 11 0 0), (66, .ro 5 v3), (67, .int .i64 v3.length), (68, .int .i64 x.1)],
        [(2, ⟨1, 11, 29, [.agg [.int .i64 0, .int .i64 0, .int .i64 0, .nils, .int .i64 0, .str [], .bool false, .int .i64 0, .int .i64 0, .int .i64 0, .int .i64 0]]⟩), (3, ⟨2, 11, 29, [.agg [.int .i64 2, .int .i64 n1, .int .i64 n2, .sl 100 x.2.1 1 x.1, .int .i64 n4, .str s5, .bool (decide (n6 = 1)), .int .i64 0, .int .i64 0, .int .i64 0, .int .i64 0]]⟩), (100, ⟨x.2.1, 1, 3, cv.take x.1⟩)], x.2.2, 108⟩)
        (fun x => x.1 ≤ ks.length) (fun x => ks.length - x.1) (0, 68, _) (Nat.zero_le _) (AS.le_refl _) ?_
    rintro ⟨j, q, nx⟩ hj
    simp only at hj
    have htl : (cv.take j).length = j := by rw [List.length_take]; omega
    generalize hrow : cv.take j = row at htl ⊢
    refine aw_step [2, 3, 66, 67, 68, 69] [2, 3, 100] (by simp <;> rfl) ?_   -- resume.go:100
    refine aw_seq ?_
    refine aw_cond rfl (fun h3 => aw_skip ?_) (fun h3 => ?_)   -- if t69
    · have hlt : j < ks.length := by simp at h3; omega
      have hlt' : j < v3.length := by omega
      have hltn : j < cv.length := by omega
      have ga := hga j hlt
      have hw := wrap_succ (k := j) (by omega)
      have htk : cv.take (j + 1) = row ++ [.int .i64 ks[j].nn] := by
        rw [List.take_succ_eq_append_getElem hltn, hrow]
        congr 2
        have := hng j hlt
        rw [List.getElem?_eq_getElem hltn] at this
        injection this
      have hb1 : j + 1 ≤ maxLen := by unfold maxLen; omega
      have hb2 : (j + 1) * 8 ≤ 140737488355328 := by omega
      rcases hkj : ks[j] with ⟨tj, kj, nj, sj, kks⟩
      rw [hkj] at ga htk
      simp only [Nd.nn] at htk
      rw [Nd.v] at ga
      generalize kks.map Nd.v = kjv at ga
      refine aw_seq ?_
      refine aw_block ?_
      refine aw_step [2, 3, 6, 66, 67, 68] [2, 3, 6, 100] (by simp [ga, hlt'] <;> rfl) ?_   -- resume.go:100
      refine aw_one [2, 3, 66, 67, 68] [2, 3, 100] (by simp [htl, hb1, hb2] <;> rfl) ?_   -- resume.go:101
      refine aw_one [2, 3, 66, 67, 68] [2, 3, 100] (by simp [hw] <;> rfl) ?_   -- resume.go:100
      exact ⟨(j + 1, _, _), hlt, by simp only; omega, by simp only [htk]; exact AS.le_refl _⟩
    · refine aw_exit ?_
      have hkl : j = cv.length := by simp at h3; omega
      have hrow' : row = cv := by rw [← hrow, hkl, List.take_length]
      subst hrow'
      subst hkl
      refine aw_step [2] [2, 100] (by simp <;> rfl) ?_   -- resume.go:106
      exact aw_ret (ends_ret (by simp [Tryz.results49, hnp] <;> rfl) rfl)

end Go.Proofs.YtmkbhognijicjaaGreatDoor

/- Resume: guess and Decode together. No condition. -/
set_option linter.unusedSimpArgs false
set_option maxRecDepth 4000
namespace Go.Proofs.YtmkbhognijicjaaGreatDoor
open Go.Eng

theorem guess_ac (x : Nd) : AC Tryz.prog 49 [x.v] (fun r => r = (gP x).v) := by
  obtain ⟨t, k, n, s, ks⟩ := x
  match hks : ks with
  | [] => subst hks; rw [Nd.v]; exact guessS_ac t k n s _ (by simp)
  | [a] => subst hks; rw [Nd.v]; exact guessS_ac t k n s _ (by simp)
  | a :: b :: l =>
    obtain ⟨t0, k0, n0, s0, l0⟩ := a
    obtain ⟨t1, k1, n1, s1, l1⟩ := b
    by_cases h2 : n0 = 2
    · by_cases h5 : l.length = 5
      · obtain ⟨c0, c1, c2, c3, c4, rfl⟩ := five_of h5
        obtain ⟨t2, k2, n2, s2, l2⟩ := c0
        obtain ⟨t3, k3, n3, s3, l3⟩ := c1
        obtain ⟨t4, k4, n4, s4, l4⟩ := c2
        obtain ⟨t5, k5, n5, s5, l5⟩ := c3
        obtain ⟨t6, k6, n6, s6, l6⟩ := c4
        by_cases h10 : l3.length ≤ 10
        · have hg : gP (Nd.mk t k n s [Nd.mk t0 k0 n0 s0 l0, Nd.mk t1 k1 n1 s1 l1, Nd.mk t2 k2 n2 s2 l2, Nd.mk t3 k3 n3 s3 l3, Nd.mk t4 k4 n4 s4 l4, Nd.mk t5 k5 n5 s5 l5, Nd.mk t6 k6 n6 s6 l6]) = ⟨2, n1, n2, l3.map Nd.nn, n4, s5, decide (n6 = 1), 0, 0, 0, 0⟩ := by
            simp only [gP, Nd.kids, Nd.nn, Nd.ss, h2, if_true, h10, evA]
            rfl
          rw [hg]
          simp only [Nd.v, List.map_cons, List.map_nil]
          exact guessA_ac t k n s t0 k0 n0 s0 _ t1 k1 n1 s1 _ t2 k2 n2 s2 _ t3 k3 n3 s3 _ t4 k4 n4 s4 _ t5 k5 n5 s5 _ t6 k6 n6 s6 _ l3 rfl h2 (by simpa using h10)
        · have hg : gP (Nd.mk t k n s [Nd.mk t0 k0 n0 s0 l0, Nd.mk t1 k1 n1 s1 l1, Nd.mk t2 k2 n2 s2 l2, Nd.mk t3 k3 n3 s3 l3, Nd.mk t4 k4 n4 s4 l4, Nd.mk t5 k5 n5 s5 l5, Nd.mk t6 k6 n6 s6 l6]) = evT n0 n1 := by
            simp only [gP, Nd.kids, Nd.nn, Nd.ss, h2, if_true, h10, if_false]
          rw [hg]
          simp only [Nd.v, List.map_cons, List.map_nil]
          exact guessX_ac t k n s t0 k0 n0 s0 _ t1 k1 n1 s1 _ t2 k2 n2 s2 _ t3 k3 n3 s3 _ t4 k4 n4 s4 _ t5 k5 n5 s5 _ t6 k6 n6 s6 _ h2 (by simp; omega)
      · rw [(gP_five (x := Nd.mk t k n s (Nd.mk t0 k0 n0 s0 l0 :: Nd.mk t1 k1 n1 s1 l1 :: l)) rfl h2 h5).1]
        simp only [Nd.v, List.map_cons]
        exact guessT_ac t k n s t0 k0 n0 s0 _ t1 k1 n1 s1 _ _ (.inr (by simpa using h5)) (fun h => by omega)
    · by_cases h5 : n0 = 5 ∧ l.length = 3
      · obtain ⟨h5, h3⟩ := h5
        obtain ⟨c0, c1, c2, rfl⟩ := three_of h3
        obtain ⟨t2, k2, n2, s2, l2⟩ := c0
        obtain ⟨t3, k3, n3, s3, l3⟩ := c1
        obtain ⟨t4, k4, n4, s4, l4⟩ := c2
        have hg : gP (Nd.mk t k n s [Nd.mk t0 k0 n0 s0 l0, Nd.mk t1 k1 n1 s1 l1, Nd.mk t2 k2 n2 s2 l2, Nd.mk t3 k3 n3 s3 l3, Nd.mk t4 k4 n4 s4 l4]) = ⟨5, n1, 0, [], 0, [], false, n2, n1, n3, n4⟩ := by
          simp only [gP, Nd.kids, Nd.nn, Nd.ss, h2, if_false, h5, if_true, evI]
          rfl
        rw [hg]
        simp only [Nd.v, List.map_cons, List.map_nil]
        exact guessI_ac t k n s t0 k0 n0 s0 _ t1 k1 n1 s1 _ t2 k2 n2 s2 _ t3 k3 n3 s3 _ t4 k4 n4 s4 _ h5
      · have h5' : n0 = 5 → l.length ≠ 3 := fun h hl => h5 ⟨h, hl⟩
        rw [(gP_three (x := Nd.mk t k n s (Nd.mk t0 k0 n0 s0 l0 :: Nd.mk t1 k1 n1 s1 l1 :: l)) rfl h2 h5').1]
        simp only [Nd.v, List.map_cons]
        exact guessT_ac t k n s t0 k0 n0 s0 _ t1 k1 n1 s1 _ _ (.inl h2) (fun h => by simpa using h5' h)

/-- What Decode returns, by the event that was guessed. -/
noncomputable def decB (g : Ev) (x : Nd) : Bool := !decide (encE g = 0) || !eqN (encN g) x
noncomputable def decV (g : Ev) (x : Nd) : V := if decB g x = true then .tup [zE.v, .int .i64 2] else .tup [g.v, .int .i64 0]
theorem relax_zE : Relax (.tup [.agg [.int .i64 0, .int .i64 0, .int .i64 0, .nils, .int .i64 0, .str [], .bool false, .int .i64 0, .int .i64 0, .int .i64 0, .int .i64 0], .int .i64 2]) (.tup [zE.v, .int .i64 2]) :=
  Relax.tup (.cons (relax_evT 0 0 0 0 0 0 0 0 [] false) (.cons (Relax.refl _) .nil))
set_option maxRecDepth 100000 in
set_option maxHeartbeats 2000000 in
theorem evDecode_ac (x : Nd) : AC Tryz.prog 17 [x.v] (fun r => r = decV (gP x) x) := by
  have hgu := guess_ac x
  have hen := encode_ac (gP x)
  have heq := cEqual_ac x (encN (gP x))
  have hp := pureI (gP x).ch
  unfold decV
  have hdb : decB (gP x) x = (!decide (encE (gP x) = 0) || !eqN (encN (gP x)) x) := rfl
  generalize gP x = g at hgu hen heq hp hdb
  rw [encV] at hen
  obtain ⟨t, k, n, s, ks⟩ := x
  generalize hq : eqN (encN g) (Nd.mk t k n s ks) = q at heq hdb
  rcases hm : encN g with ⟨t', k', n', s', ks'⟩
  rw [hm] at hen heq
  have hp1 := pureN ks
  have hp2 := pureN ks'
  simp only [Nd.v, Ev.v] at hgu hen heq ⊢
  generalize ks.map Nd.v = kv at hgu heq hp1
  generalize ks'.map Nd.v = kv' at hen heq hp2
  generalize nums g.ch = cv at hgu hen hp
  generalize encE g = ec at hen hdb
  by_cases hb : decB g (Nd.mk t k n s ks) = true
  · rw [if_pos hb]
    refine AC.relax ?_ relax_zE
    rw [hb] at hdb
    refine ac_intro Tryz.func17 rfl (by show (1 : Nat) ≤ 24; omega) (fun w0 N0 => ?_)
    refine aw_step [1, 2] [1, 2] (by simp [Tryz.ntmps17] <;> rfl) ?_   -- resume.go:79
    refine aw_seq (aw_region ?_)   -- resume.go:80
    refine awl_go 1 (by simp <;> rfl) ?_
    refine awl_call1 hgu Tryz.func49 rfl (by kernel_rfl) rfl rfl rfl rfl (by simp [hp1]) (by simp <;> rfl) ?_
    refine awl_end [1, 2, 4] [1, 2, 4] (by simp <;> rfl) ?_
    refine aw_seq (aw_region ?_)   -- resume.go:81
    refine awl_go 1 (by simp <;> rfl) ?_
    refine awl_call1 hen Tryz.func12 rfl (by kernel_rfl) rfl rfl rfl rfl (by simp [hp]) (by simp <;> rfl) ?_
    refine awl_end [1, 2, 4, 5, 6] [1, 2, 4, 5] (by simp <;> rfl) ?_
    refine aw_seq ?_
    refine aw_seq (aw_region ?_)   -- resume.go:82
    refine awl_go 5 (by simp <;> rfl) ?_
    refine awl_gcall (c := decide (ec = 0)) (fun hg => heq) Tryz.func50 rfl (by kernel_rfl) (by simp) rfl rfl (by simp <;> rfl) (by simp [hp1, hp2]) (by simp <;> rfl) ?_
    refine awl_end [2, 4, 21] [2, 4] (by simp <;> rfl) ?_
    refine aw_cond rfl (fun h1 => ?_) (fun h1 => by rw [← hdb] at h1; cases h1)   -- if t21
    refine aw_step [2, 3] [2] (by simp <;> rfl) ?_   -- resume.go:83
    exact aw_ret (ends_ret (by simp [Tryz.results17] <;> rfl) rfl)
  · rw [if_neg hb]
    rw [Bool.not_eq_true] at hb
    rw [hb] at hdb
    refine ac_intro Tryz.func17 rfl (by show (1 : Nat) ≤ 24; omega) (fun w0 N0 => ?_)
    refine aw_step [1, 2] [1, 2] (by simp [Tryz.ntmps17] <;> rfl) ?_   -- resume.go:79
    refine aw_seq (aw_region ?_)   -- resume.go:80
    refine awl_go 1 (by simp <;> rfl) ?_
    refine awl_call1 hgu Tryz.func49 rfl (by kernel_rfl) rfl rfl rfl rfl (by simp [hp1]) (by simp <;> rfl) ?_
    refine awl_end [1, 2, 4] [1, 2, 4] (by simp <;> rfl) ?_
    refine aw_seq (aw_region ?_)   -- resume.go:81
    refine awl_go 1 (by simp <;> rfl) ?_
    refine awl_call1 hen Tryz.func12 rfl (by kernel_rfl) rfl rfl rfl rfl (by simp [hp]) (by simp <;> rfl) ?_
    refine awl_end [1, 2, 4, 5, 6] [1, 2, 4, 5] (by simp <;> rfl) ?_
    refine aw_seq ?_
    refine aw_seq (aw_region ?_)   -- resume.go:82
    refine awl_go 5 (by simp <;> rfl) ?_
    refine awl_gcall (c := decide (ec = 0)) (fun hg => heq) Tryz.func50 rfl (by kernel_rfl) (by simp) rfl rfl (by simp <;> rfl) (by simp [hp1, hp2]) (by simp <;> rfl) ?_
    refine awl_end [2, 4, 21] [2, 4] (by simp <;> rfl) ?_
    refine aw_cond rfl (fun h1 => by rw [← hdb] at h1; cases h1) (fun h1 => aw_skip ?_)   -- if t21
    refine aw_step [2, 3] [2] (by simp <;> rfl) ?_   -- resume.go:85
    exact aw_ret (ends_ret (by simp [Tryz.results17] <;> rfl) rfl)
end Go.Proofs.YtmkbhognijicjaaGreatDoor

/- Resume: the reference's Decode, by the forms of a tree. No condition. -/
set_option linter.unusedSimpArgs false
set_option maxRecDepth 4000
namespace Go.Proofs.YtmkbhognijicjaaGreatDoor
open Go.Eng

theorem integer_ac (t k n : Int) (s : List UInt8) (v : List V) : AC Tryz.prog 51 [.agg [.int .i64 t, .int .i64 k, .int .i64 n, .str s, .ro 5 v]] (fun r => r = .int .i64 n) := by
  refine ac_intro Tryz.func51 rfl (by show (1 : Nat) ≤ 5; omega) (fun w0 N0 => ?_)
  refine aw_step [1] [1] (by simp [Tryz.ntmps51] <;> rfl) ?_   -- ref.go:66
  refine aw_step [2] [] (by simp <;> rfl) ?_   -- ref.go:66
  exact aw_ret (ends_ret (by simp [Tryz.results51] <;> rfl) rfl)

theorem refDecS_ac (t k n : Int) (s : List UInt8) (lv : List V) (R : V → Prop) (h : lv.length < 2) (herr : R (.tup [.agg [.int .i64 0, .int .i64 0, .int .i64 0, .ro 1 [], .int .i64 0, .str [], .bool false, .int .i64 0, .int .i64 0, .int .i64 0, .int .i64 0], .int .i64 2])) :
    AC Tryz.prog 20 [.agg [.int .i64 t, .int .i64 k, .int .i64 n, .str s, .ro 5 lv]] R := by
    refine ac_intro Tryz.func20 rfl (by show (1 : Nat) ≤ 114; omega) (fun w0 N0 => ?_)
    refine aw_step [1, 2] [1, 2] (by simp [Tryz.ntmps20] <;> rfl) ?_   -- ref.go:69
    refine aw_step [1, 2, 4] [1, 2] (by simp <;> rfl) ?_   -- ref.go:70
    refine aw_seq ?_
    refine aw_step [1, 2, 4, 13] [1, 2] (by simp <;> rfl) ?_   -- ref.go:71
    refine aw_cond rfl (fun h1 => ?_) (fun h1 => by simp at h1; omega)   -- if t13
    refine aw_step [2, 3] [2] (by simp <;> rfl) ?_   -- ref.go:72
    refine aw_adoptC 2 3 101 1 3 [2, 3] [2, 101] (by simp <;> rfl) ?_
    refine aw_freeze 101 [2, 3] [2] (by simp <;> rfl) ?_
    exact aw_ret (ends_ret (by simp [Tryz.results20] <;> rfl) herr)

set_option maxRecDepth 100000 in
set_option maxHeartbeats 4000000 in
theorem refDecT_ac (t k n : Int) (s : List UInt8) (t0 k0 n0 : Int) (s0 : List UInt8) (v0 : List V) (t1 k1 n1 : Int) (s1 : List UInt8) (v1 : List V) (lv : List V) (mt mk mn : Int) (ms : List UInt8) (mv : List V) (ec : Int) (q : Bool) (R : V → Prop)
    (hint : ∀ (t k n : Int) (s : List UInt8) (v : List V), AC Tryz.prog 51 [.agg [.int .i64 t, .int .i64 k, .int .i64 n, .str s, .ro 5 v]] (fun r => r = .int .i64 n))
    (hen : AC Tryz.prog 14 [.agg [.int .i64 n0, .int .i64 n1, .int .i64 0, .ro 1 [], .int .i64 0, .str [], .bool false, .int .i64 0, .int .i64 0, .int .i64 0, .int .i64 0]] (fun r => r = .tup [.agg [.int .i64 mt, .int .i64 mk, .int .i64 mn, .str ms, .ro 5 mv], .int .i64 ec]))
    (heq : AC Tryz.prog 52 [.agg [.int .i64 mt, .int .i64 mk, .int .i64 mn, .str ms, .ro 5 mv], .agg [.int .i64 t, .int .i64 k, .int .i64 n, .str s, .ro 5 (.agg [.int .i64 t0, .int .i64 k0, .int .i64 n0, .str s0, .ro 5 v0] :: .agg [.int .i64 t1, .int .i64 k1, .int .i64 n1, .str s1, .ro 5 v1] :: lv)]] (fun r => r = .bool q))
    (herr : (!decide (ec = 0) || !q) = true → R (.tup [.agg [.int .i64 0, .int .i64 0, .int .i64 0, .ro 1 [], .int .i64 0, .str [], .bool false, .int .i64 0, .int .i64 0, .int .i64 0, .int .i64 0], .int .i64 2]))
    (hok : (!decide (ec = 0) || !q) = false → R (.tup [.agg [.int .i64 n0, .int .i64 n1, .int .i64 0, .ro 1 [], .int .i64 0, .str [], .bool false, .int .i64 0, .int .i64 0, .int .i64 0, .int .i64 0], .int .i64 0]))
    (hc1 : (decide (n0 = 2) && decide ((lv.length : Int) + 1 + 1 = 7)) = false) (hc2 : (decide (n0 = 5) && decide ((lv.length : Int) + 1 + 1 = 5)) = false) :
    AC Tryz.prog 20 [.agg [.int .i64 t, .int .i64 k, .int .i64 n, .str s, .ro 5 (.agg [.int .i64 t0, .int .i64 k0, .int .i64 n0, .str s0, .ro 5 v0] :: .agg [.int .i64 t1, .int .i64 k1, .int .i64 n1, .str s1, .ro 5 v1] :: lv)]] R := by
    have hA : (0 : Int) < (lv.length : Int) + 1 + 1 := by omega
    have hB : (1 : Int) < (lv.length : Int) + 1 + 1 := by omega
    have hp : True := trivial
    have hp0 : True := trivial
    have hp1 : True := trivial
    refine ac_intro Tryz.func20 rfl (by show (1 : Nat) ≤ 114; omega) (fun w0 N0 => ?_)
    refine aw_step [1, 2] [1, 2] (by simp [Tryz.ntmps20] <;> rfl) ?_   -- ref.go:69
    refine aw_step [1, 2, 4] [1, 2] (by simp <;> rfl) ?_   -- ref.go:70
    refine aw_seq ?_
    refine aw_step [1, 2, 4, 13] [1, 2] (by simp <;> rfl) ?_   -- ref.go:71
    refine aw_cond rfl (fun h1 => by simp at h1 <;> omega) (fun h1 => aw_skip ?_)   -- if t13
    refine aw_seq (aw_draw [(0, []), (1, []), (4, []), (5, []), (2, [5]), (3, []), (6, [5]), (7, []), (8, []), (9, []), (10, [])] hmix (by kernel_rfl) ?_)   -- ref.go:74
    refine awo_go 5 (by simp [hA, hB] <;> rfl) ?_
    refine awo_call (fun hg => hint t0 k0 _ s0 v0) Tryz.func51 rfl (by kernel_rfl) rfl rfl (by simp <;> rfl) rfl rfl (by simp <;> rfl) (by simp [hp0]) (by simp <;> rfl) ?_
    refine awo_go 1 (by simp <;> rfl) ?_
    refine awo_call (fun hg => hint t1 k1 n1 s1 v1) Tryz.func51 rfl (by kernel_rfl) rfl rfl (by simp <;> rfl) rfl rfl (by simp <;> rfl) (by simp [hp1]) (by simp <;> rfl) ?_
    refine awo_end [1, 2, 4, 5] [1, 2, 5] (by simp <;> rfl) ?_
    refine aw_seq ?_
    refine aw_step [1, 2, 4, 5, 31] [1, 2, 5] (by simp [hc1] <;> rfl) ?_   -- ref.go:75
    refine aw_cond rfl (fun h2 => by simp [hc1] at h2) (fun h2 => aw_skip ?_)   -- if t31
    refine aw_seq ?_
    refine aw_step [1, 2, 4, 5, 82] [1, 2, 5] (by simp [hc2] <;> rfl) ?_   -- ref.go:81
    refine aw_cond rfl (fun h7 => by simp [hc2] at h7) (fun h7 => aw_skip ?_)   -- if t82
    refine aw_adoptC 5 3 100 1 3 [1, 2, 5] [1, 2, 5, 100] (by simp <;> rfl) ?_
    refine aw_freeze 100 [1, 2, 5] [1, 2, 5] (by simp <;> rfl) ?_
    refine aw_seq (aw_region ?_)   -- ref.go:84
    refine awl_go 1 (by simp <;> rfl) ?_
    refine awl_call1 hen Tryz.func14 rfl (by kernel_rfl) rfl rfl rfl rfl (by simp [hp]) (by simp <;> rfl) ?_
    refine awl_end [1, 2, 5, 7, 8] [1, 2, 5, 7] (by simp <;> rfl) ?_
    refine aw_seq ?_
    refine aw_seq (aw_region ?_)   -- ref.go:85
    refine awl_go 5 (by simp <;> rfl) ?_
    refine awl_gcall (c := decide (ec = 0)) (fun hg => heq) Tryz.func52 rfl (by kernel_rfl) (by simp) rfl rfl (by simp <;> rfl) (by simp) (by simp <;> rfl) ?_
    refine awl_end [2, 5, 111] [2, 5] (by simp <;> rfl) ?_
    refine aw_cond rfl (fun h6 => ?_) (fun h6 => aw_skip ?_)   -- if t111
    · refine aw_step [2, 3] [2] (by simp <;> rfl) ?_   -- ref.go:86
      refine aw_adoptC 2 3 101 1 3 [2, 3] [2, 101] (by simp <;> rfl) ?_
      refine aw_freeze 101 [2, 3] [2] (by simp <;> rfl) ?_
      exact aw_ret (ends_ret (by simp [Tryz.results20] <;> rfl) (herr h6))
    refine aw_step [2, 3] [2] (by simp <;> rfl) ?_   -- ref.go:88
    exact aw_ret (ends_ret (by simp [Tryz.results20, hp] <;> rfl) (hok h6))

set_option maxRecDepth 100000 in
set_option maxHeartbeats 4000000 in
theorem refDecI_ac (t k n : Int) (s : List UInt8) (t0 k0 n0 : Int) (s0 : List UInt8) (v0 : List V) (t1 k1 n1 : Int) (s1 : List UInt8) (v1 : List V) (t2 k2 n2 : Int) (s2 : List UInt8) (v2 : List V) (t3 k3 n3 : Int) (s3 : List UInt8) (v3 : List V) (t4 k4 n4 : Int) (s4 : List UInt8) (v4 : List V) (mt mk mn : Int) (ms : List UInt8) (mv : List V) (ec : Int) (q : Bool) (R : V → Prop)
    (hint : ∀ (t k n : Int) (s : List UInt8) (v : List V), AC Tryz.prog 51 [.agg [.int .i64 t, .int .i64 k, .int .i64 n, .str s, .ro 5 v]] (fun r => r = .int .i64 n))
    (hen : AC Tryz.prog 14 [.agg [.int .i64 n0, .int .i64 n1, .int .i64 0, .ro 1 [], .int .i64 0, .str [], .bool false, .int .i64 n2, .int .i64 n1, .int .i64 n3, .int .i64 n4]] (fun r => r = .tup [.agg [.int .i64 mt, .int .i64 mk, .int .i64 mn, .str ms, .ro 5 mv], .int .i64 ec]))
    (heq : AC Tryz.prog 52 [.agg [.int .i64 mt, .int .i64 mk, .int .i64 mn, .str ms, .ro 5 mv], .agg [.int .i64 t, .int .i64 k, .int .i64 n, .str s, .ro 5 [.agg [.int .i64 t0, .int .i64 k0, .int .i64 n0, .str s0, .ro 5 v0], .agg [.int .i64 t1, .int .i64 k1, .int .i64 n1, .str s1, .ro 5 v1], .agg [.int .i64 t2, .int .i64 k2, .int .i64 n2, .str s2, .ro 5 v2], .agg [.int .i64 t3, .int .i64 k3, .int .i64 n3, .str s3, .ro 5 v3], .agg [.int .i64 t4, .int .i64 k4, .int .i64 n4, .str s4, .ro 5 v4]]]] (fun r => r = .bool q))
    (herr : (!decide (ec = 0) || !q) = true → R (.tup [.agg [.int .i64 0, .int .i64 0, .int .i64 0, .ro 1 [], .int .i64 0, .str [], .bool false, .int .i64 0, .int .i64 0, .int .i64 0, .int .i64 0], .int .i64 2]))
    (hok : (!decide (ec = 0) || !q) = false → R (.tup [.agg [.int .i64 n0, .int .i64 n1, .int .i64 0, .ro 1 [], .int .i64 0, .str [], .bool false, .int .i64 n2, .int .i64 n1, .int .i64 n3, .int .i64 n4], .int .i64 0]))
    (h5 : n0 = 5) : AC Tryz.prog 20 [.agg [.int .i64 t, .int .i64 k, .int .i64 n, .str s, .ro 5 [.agg [.int .i64 t0, .int .i64 k0, .int .i64 n0, .str s0, .ro 5 v0], .agg [.int .i64 t1, .int .i64 k1, .int .i64 n1, .str s1, .ro 5 v1], .agg [.int .i64 t2, .int .i64 k2, .int .i64 n2, .str s2, .ro 5 v2], .agg [.int .i64 t3, .int .i64 k3, .int .i64 n3, .str s3, .ro 5 v3], .agg [.int .i64 t4, .int .i64 k4, .int .i64 n4, .str s4, .ro 5 v4]]]] R := by
    subst h5
    have hp : True := trivial
    have hp0 : True := trivial
    have hp1 : True := trivial
    refine ac_intro Tryz.func20 rfl (by show (1 : Nat) ≤ 114; omega) (fun w0 N0 => ?_)
    refine aw_step [1, 2] [1, 2] (by simp [Tryz.ntmps20] <;> rfl) ?_   -- ref.go:69
    refine aw_step [1, 2, 4] [1, 2] (by simp <;> rfl) ?_   -- ref.go:70
    refine aw_seq ?_
    refine aw_step [1, 2, 4, 13] [1, 2] (by simp <;> rfl) ?_   -- ref.go:71
    refine aw_cond rfl (fun h1 => by simp at h1 <;> omega) (fun h1 => aw_skip ?_)   -- if t13
    refine aw_seq (aw_draw [(0, []), (1, []), (4, []), (5, []), (2, [5]), (3, []), (6, [5]), (7, []), (8, []), (9, []), (10, [])] hmix (by kernel_rfl) ?_)   -- ref.go:74
    refine awo_go 5 (by simp  <;> rfl) ?_
    refine awo_call (fun hg => hint t0 k0 _ s0 v0) Tryz.func51 rfl (by kernel_rfl) rfl rfl (by simp <;> rfl) rfl rfl (by simp <;> rfl) (by simp [hp0]) (by simp <;> rfl) ?_
    refine awo_go 1 (by simp <;> rfl) ?_
    refine awo_call (fun hg => hint t1 k1 n1 s1 v1) Tryz.func51 rfl (by kernel_rfl) rfl rfl (by simp <;> rfl) rfl rfl (by simp <;> rfl) (by simp [hp1]) (by simp <;> rfl) ?_
    refine awo_end [1, 2, 4, 5] [1, 2, 5] (by simp <;> rfl) ?_
    refine aw_seq ?_
    refine aw_step [1, 2, 4, 5, 31] [1, 2, 5] (by simp <;> rfl) ?_   -- ref.go:75
    refine aw_cond rfl (fun h2 => by simp at h2) (fun h2 => aw_skip ?_)   -- if t31
    refine aw_seq ?_
    refine aw_step [1, 2, 4, 5, 82] [1, 2, 5] (by simp <;> rfl) ?_   -- ref.go:81
    refine aw_cond rfl (fun h7 => ?_) (fun h7 => by simp at h7)   -- if t82
    refine aw_draw [(0, []), (1, []), (4, []), (6, []), (7, []), (10, []), (11, []), (2, []), (3, []), (5, []), (8, []), (9, []), (12, []), (13, []), (14, []), (15, []), (16, [])] hmix (by kernel_rfl) ?_   -- ref.go:82
    refine awo_go 8 (by simp <;> rfl) ?_
    refine awo_call (fun hg => hint t2 k2 n2 s2 v2) Tryz.func51 rfl (by kernel_rfl) rfl rfl (by simp <;> rfl) rfl rfl (by simp <;> rfl) (by simp) (by simp <;> rfl) ?_
    refine awo_go 2 (by simp <;> rfl) ?_
    refine awo_call (fun hg => hint t3 k3 n3 s3 v3) Tryz.func51 rfl (by kernel_rfl) rfl rfl (by simp <;> rfl) rfl rfl (by simp <;> rfl) (by simp) (by simp <;> rfl) ?_
    refine awo_go 1 (by simp <;> rfl) ?_
    refine awo_call (fun hg => hint t4 k4 n4 s4 v4) Tryz.func51 rfl (by kernel_rfl) rfl rfl (by simp <;> rfl) rfl rfl (by simp <;> rfl) (by simp) (by simp <;> rfl) ?_
    refine awo_end [1, 2, 5] [1, 2, 5] (by simp <;> rfl) ?_
    refine aw_adoptC 5 3 100 1 3 [1, 2, 5] [1, 2, 5, 100] (by simp <;> rfl) ?_
    refine aw_freeze 100 [1, 2, 5] [1, 2, 5] (by simp <;> rfl) ?_
    refine aw_seq (aw_region ?_)   -- ref.go:84
    refine awl_go 1 (by simp <;> rfl) ?_
    refine awl_call1 hen Tryz.func14 rfl (by kernel_rfl) rfl rfl rfl rfl (by simp [hp]) (by simp <;> rfl) ?_
    refine awl_end [1, 2, 5, 7, 8] [1, 2, 5, 7] (by simp <;> rfl) ?_
    refine aw_seq ?_
    refine aw_seq (aw_region ?_)   -- ref.go:85
    refine awl_go 5 (by simp <;> rfl) ?_
    refine awl_gcall (c := decide (ec = 0)) (fun hg => heq) Tryz.func52 rfl (by kernel_rfl) (by simp) rfl rfl (by simp <;> rfl) (by simp) (by simp <;> rfl) ?_
    refine awl_end [2, 5, 111] [2, 5] (by simp <;> rfl) ?_
    refine aw_cond rfl (fun h6 => ?_) (fun h6 => aw_skip ?_)   -- if t111
    · refine aw_step [2, 3] [2] (by simp <;> rfl) ?_   -- ref.go:86
      refine aw_adoptC 2 3 101 1 3 [2, 3] [2, 101] (by simp <;> rfl) ?_
      refine aw_freeze 101 [2, 3] [2] (by simp <;> rfl) ?_
      exact aw_ret (ends_ret (by simp [Tryz.results20] <;> rfl) (herr h6))
    refine aw_step [2, 3] [2] (by simp <;> rfl) ?_   -- ref.go:88
    exact aw_ret (ends_ret (by simp [Tryz.results20, hp] <;> rfl) (hok h6))

set_option maxRecDepth 100000 in
set_option maxHeartbeats 4000000 in
theorem refDecA_ac (t k n : Int) (s : List UInt8) (t0 k0 n0 : Int) (s0 : List UInt8) (v0 : List V) (t1 k1 n1 : Int) (s1 : List UInt8) (v1 : List V) (t2 k2 n2 : Int) (s2 : List UInt8) (v2 : List V) (t3 k3 n3 : Int) (s3 : List UInt8) (v3 : List V) (t4 k4 n4 : Int) (s4 : List UInt8) (v4 : List V) (t5 k5 n5 : Int) (s5 : List UInt8) (v5 : List V) (t6 k6 n6 : Int) (s6 : List UInt8) (v6 : List V) (ks : List Nd) (hks : v3 = ks.map Nd.v) (cv : List V) (hcv : cv = nums (ks.map Nd.nn)) (mt mk mn : Int) (ms : List UInt8) (mv : List V) (ec : Int) (q : Bool) (R : V → Prop)
    (hint : ∀ (t k n : Int) (s : List UInt8) (v : List V), AC Tryz.prog 51 [.agg [.int .i64 t, .int .i64 k, .int .i64 n, .str s, .ro 5 v]] (fun r => r = .int .i64 n))
    (hen : AC Tryz.prog 14 [.agg [.int .i64 2, .int .i64 n1, .int .i64 n2, .ro 1 cv, .int .i64 n4, .str s5, .bool (decide (n6 = 1)), .int .i64 0, .int .i64 0, .int .i64 0, .int .i64 0]] (fun r => r = .tup [.agg [.int .i64 mt, .int .i64 mk, .int .i64 mn, .str ms, .ro 5 mv], .int .i64 ec]))
    (heq : AC Tryz.prog 52 [.agg [.int .i64 mt, .int .i64 mk, .int .i64 mn, .str ms, .ro 5 mv], .agg [.int .i64 t, .int .i64 k, .int .i64 n, .str s, .ro 5 [.agg [.int .i64 t0, .int .i64 k0, .int .i64 n0, .str s0, .ro 5 v0], .agg [.int .i64 t1, .int .i64 k1, .int .i64 n1, .str s1, .ro 5 v1], .agg [.int .i64 t2, .int .i64 k2, .int .i64 n2, .str s2, .ro 5 v2], .agg [.int .i64 t3, .int .i64 k3, .int .i64 n3, .str s3, .ro 5 v3], .agg [.int .i64 t4, .int .i64 k4, .int .i64 n4, .str s4, .ro 5 v4], .agg [.int .i64 t5, .int .i64 k5, .int .i64 n5, .str s5, .ro 5 v5], .agg [.int .i64 t6, .int .i64 k6, .int .i64 n6, .str s6, .ro 5 v6]]]] (fun r => r = .bool q))
    (herr : (!decide (ec = 0) || !q) = true → R (.tup [.agg [.int .i64 0, .int .i64 0, .int .i64 0, .ro 1 [], .int .i64 0, .str [], .bool false, .int .i64 0, .int .i64 0, .int .i64 0, .int .i64 0], .int .i64 2]))
    (hok : (!decide (ec = 0) || !q) = false → R (.tup [.agg [.int .i64 2, .int .i64 n1, .int .i64 n2, .ro 1 cv, .int .i64 n4, .str s5, .bool (decide (n6 = 1)), .int .i64 0, .int .i64 0, .int .i64 0, .int .i64 0], .int .i64 0]))
    (h2 : n0 = 2) (hv : v3.length ≤ 1024) : AC Tryz.prog 20 [.agg [.int .i64 t, .int .i64 k, .int .i64 n, .str s, .ro 5 [.agg [.int .i64 t0, .int .i64 k0, .int .i64 n0, .str s0, .ro 5 v0], .agg [.int .i64 t1, .int .i64 k1, .int .i64 n1, .str s1, .ro 5 v1], .agg [.int .i64 t2, .int .i64 k2, .int .i64 n2, .str s2, .ro 5 v2], .agg [.int .i64 t3, .int .i64 k3, .int .i64 n3, .str s3, .ro 5 v3], .agg [.int .i64 t4, .int .i64 k4, .int .i64 n4, .str s4, .ro 5 v4], .agg [.int .i64 t5, .int .i64 k5, .int .i64 n5, .str s5, .ro 5 v5], .agg [.int .i64 t6, .int .i64 k6, .int .i64 n6, .str s6, .ro 5 v6]]]] R := by
    subst h2
    have hlen : v3.length = ks.length := by rw [hks]; simp
    have hga : ∀ (j : Nat) (h : j < ks.length), nth v3 j = some ks[j].v := fun j h => by rw [hks]; exact nthN h
    have hnl : cv.length = ks.length := by rw [hcv]; simp [nums]
    have hng : ∀ (j : Nat) (h : j < ks.length), cv[j]? = some (.int .i64 ks[j].nn) := fun j h => by rw [hcv]; simp [nums, h]
    have hp : cv.all V.pureE = true := by rw [hcv]; exact pureI _
    have hp0 : True := trivial
    have hp1 : True := trivial
    clear hks hcv
    refine ac_intro Tryz.func20 rfl (by show (1 : Nat) ≤ 114; omega) (fun w0 N0 => ?_)
    refine aw_step [1, 2] [1, 2] (by simp [Tryz.ntmps20] <;> rfl) ?_   -- ref.go:69
    refine aw_step [1, 2, 4] [1, 2] (by simp <;> rfl) ?_   -- ref.go:70
    refine aw_seq ?_
    refine aw_step [1, 2, 4, 13] [1, 2] (by simp <;> rfl) ?_   -- ref.go:71
    refine aw_cond rfl (fun h1 => by simp at h1 <;> omega) (fun h1 => aw_skip ?_)   -- if t13
    refine aw_seq (aw_draw [(0, []), (1, []), (4, []), (5, []), (2, [5]), (3, []), (6, [5]), (7, []), (8, []), (9, []), (10, [])] hmix (by kernel_rfl) ?_)   -- ref.go:74
    refine awo_go 5 (by simp  <;> rfl) ?_
    refine awo_call (fun hg => hint t0 k0 _ s0 v0) Tryz.func51 rfl (by kernel_rfl) rfl rfl (by simp <;> rfl) rfl rfl (by simp <;> rfl) (by simp [hp0]) (by simp <;> rfl) ?_
    refine awo_go 1 (by simp <;> rfl) ?_
    refine awo_call (fun hg => hint t1 k1 n1 s1 v1) Tryz.func51 rfl (by kernel_rfl) rfl rfl (by simp <;> rfl) rfl rfl (by simp <;> rfl) (by simp [hp1]) (by simp <;> rfl) ?_
    refine awo_end [1, 2, 4, 5] [1, 2, 5] (by simp <;> rfl) ?_
    refine aw_seq ?_
    refine aw_step [1, 2, 4, 5, 31] [1, 2, 5] (by simp <;> rfl) ?_   -- ref.go:75
    refine aw_cond rfl (fun h2 => ?_) (fun h2 => by simp at h2)   -- if t31
    refine aw_seq (aw_draw [(0, []), (1, []), (4, []), (5, []), (8, []), (9, []), (10, []), (12, []), (13, []), (14, []), (2, []), (3, []), (6, []), (7, []), (11, []), (15, []), (16, []), (17, []), (18, []), (19, [])] hmix (by kernel_rfl) ?_)   -- ref.go:76
    refine awo_go 11 (by simp <;> rfl) ?_
    refine awo_call (fun hg => hint t2 k2 n2 s2 v2) Tryz.func51 rfl (by kernel_rfl) rfl rfl (by simp <;> rfl) rfl rfl (by simp <;> rfl) (by simp) (by simp <;> rfl) ?_
    refine awo_go 1 (by simp <;> rfl) ?_
    refine awo_call (fun hg => hint t4 k4 n4 s4 v4) Tryz.func51 rfl (by kernel_rfl) rfl rfl (by simp <;> rfl) rfl rfl (by simp <;> rfl) (by simp) (by simp <;> rfl) ?_
    refine awo_end [1, 2, 4, 5] [1, 2, 5] (by simp <;> rfl) ?_
    refine aw_step [1, 2, 4, 5, 6] [1, 2, 5] (by simp <;> rfl) ?_   -- ref.go:77
    refine aw_adoptC 5 3 100 1 3 [1, 2, 4, 5, 6] [1, 2, 5, 100] (by simp <;> rfl) ?_
    refine aw_block ?_
    refine aw_loop (fun x : Nat × Nat × Nat => ⟨[(1, .bp 1 0 5 0 0), (2, .bp 2 1 11 0 0), (4, .ro 5 [.agg [.int .i64 t0, .int .i64 k0, .int .i64 2, .str s0, .ro 5 v0], .agg [.int .i64 t1, .int .i64 k1, .int .i64 n1, .str s1, .ro 5 v1], .agg [.int .i64 t2, .int .i64 k2, .int .i64 n2, .str s2, .ro 5 v2], .agg [.int .i64 t3, .int .i64 k3, .int .i64 n3, .str s3, .ro 5 v3], .agg [.int .i64 t4, .int .i64 k4, .int .i64 n4, .str s4, .ro 5 v4], .agg [.int .i64 t5, .int .i64 k5, .int .i64 n5, .str s5, .ro 5 v5], .agg [.int .i64 t6, .int .i64 k6, .int .i64 n6, .str s6, .ro 5 v6]]), (5, .bp 5 18 11 0 0), (6, .int .i64 x.1)],
        [(1, ⟨0, 5, 42, [.agg [.int .i64 t, .int .i64 k, .int .i64 n, .str s, .ro 5 [.agg [.int .i64 t0, .int .i64 k0, .int .i64 2, .str s0, .ro 5 v0], .agg [.int .i64 t1, .int .i64 k1, .int .i64 n1, .str s1, .ro 5 v1], .agg [.int .i64 t2, .int .i64 k2, .int .i64 n2, .str s2, .ro 5 v2], .agg [.int .i64 t3, .int .i64 k3, .int .i64 n3, .str s3, .ro 5 v3], .agg [.int .i64 t4, .int .i64 k4, .int .i64 n4, .str s4, .ro 5 v4], .agg [.int .i64 t5, .int .i64 k5, .int .i64 n5, .str s5, .ro 5 v5], .agg [.int .i64 t6, .int .i64 k6, .int .i64 n6, .str s6, .ro 5 v6]]]]⟩), (2, ⟨1, 11, 29, [.agg [.int .i64 0, .int .i64 0, .int .i64 0, .nils, .int .i64 0, .str [], .bool false, .int .i64 0, .int .i64 0, .int .i64 0, .int .i64 0]]⟩), (5, ⟨18, 11, 29, [.agg [.int .i64 2, .int .i64 n1, .int .i64 n2, .sl 100 x.2.1 1 x.1, .int .i64 n4, .str s5, .bool (decide (n6 = 1)), .int .i64 0, .int .i64 0, .int .i64 0, .int .i64 0]]⟩), (100, ⟨x.2.1, 1, 3, cv.take x.1⟩)], x.2.2, 114⟩)
        (fun x => x.1 ≤ ks.length) (fun x => ks.length - x.1) (0, 49, _) (Nat.zero_le _) (AS.le_refl _) ?_
    rintro ⟨j, q', nx⟩ hj
    simp only at hj
    have htl : (cv.take j).length = j := by rw [List.length_take]; omega
    generalize hrow : cv.take j = row at htl ⊢
    refine aw_seq ?_
    refine aw_step [1, 2, 4, 5, 6, 57] [1, 2, 5, 100] (by simp <;> rfl) ?_   -- ref.go:77
    refine aw_cond rfl (fun h3 => aw_skip ?_) (fun h3 => ?_)   -- if t57
    · have hlt : j < ks.length := by simp at h3; omega
      have hlt' : j < v3.length := by omega
      have hltn : j < cv.length := by omega
      have ga := hga j hlt
      have hw := wrap_succ (k := j) (by omega)
      have htk : cv.take (j + 1) = row ++ [.int .i64 ks[j].nn] := by
        rw [List.take_succ_eq_append_getElem hltn, hrow]
        congr 2
        have := hng j hlt
        rw [List.getElem?_eq_getElem hltn] at this
        injection this
      have hb1 : j + 1 ≤ maxLen := by unfold maxLen; omega
      have hb2 : (j + 1) * 8 ≤ 140737488355328 := by omega
      rcases hkj : ks[j] with ⟨tj, kj, nj, sj, kks⟩
      rw [hkj] at ga htk
      simp only [Nd.nn] at htk
      rw [Nd.v] at ga
      have hpj := pureN kks
      generalize kks.map Nd.v = kjv at ga hpj
      refine aw_seq ?_
      refine aw_block ?_
      refine aw_draw [(0, []), (1, []), (3, []), (4, []), (5, []), (7, []), (2, [71]), (6, [71]), (8, []), (9, [71]), (10, []), (11, []), (12, []), (13, []), (14, []), (15, [])] hmix (by kernel_rfl) ?_   -- ref.go:78
      refine awo_go 10 (by simp [ga, hlt'] <;> rfl) ?_
      refine awo_call (fun hg => hint tj kj nj sj kjv) Tryz.func51 rfl (by kernel_rfl) rfl rfl (by simp <;> rfl) rfl rfl (by simp <;> rfl) (by simp [hpj]) (by simp <;> rfl) ?_
      refine awo_end [1, 2, 4, 5, 6] [1, 2, 5, 100] (by simp [htl, hb1, hb2] <;> rfl) ?_
      refine aw_one [1, 2, 4, 5, 6] [1, 2, 5, 100] (by simp [hw] <;> rfl) ?_   -- ref.go:77
      exact ⟨(j + 1, _, _), hlt, by simp only; omega, by simp only [htk]; exact AS.le_refl _⟩
    refine aw_exit ?_
    have hkl : j = cv.length := by simp at h3; omega
    have hrow' : row = cv := by rw [← hrow, hkl, List.take_length]
    subst hrow'
    subst hkl
    refine aw_seq ?_
    refine aw_step [1, 2, 4, 5, 82] [1, 2, 5, 100] (by simp <;> rfl) ?_   -- ref.go:81
    refine aw_cond rfl (fun h4 => by simp at h4) (fun h4 => aw_skip ?_)   -- if t82
    refine aw_freeze 100 [1, 2, 5] [1, 2, 5] (by simp [hp] <;> rfl) ?_
    refine aw_seq (aw_region ?_)   -- ref.go:84
    refine awl_go 1 (by simp <;> rfl) ?_
    refine awl_call1 hen Tryz.func14 rfl (by kernel_rfl) rfl rfl rfl rfl (by simp [hp]) (by simp <;> rfl) ?_
    refine awl_end [1, 2, 5, 7, 8] [1, 2, 5, 7] (by simp <;> rfl) ?_
    refine aw_seq ?_
    refine aw_seq (aw_region ?_)   -- ref.go:85
    refine awl_go 5 (by simp <;> rfl) ?_
    refine awl_gcall (c := decide (ec = 0)) (fun hg => heq) Tryz.func52 rfl (by kernel_rfl) (by simp) rfl rfl (by simp <;> rfl) (by simp) (by simp <;> rfl) ?_
    refine awl_end [2, 5, 111] [2, 5] (by simp <;> rfl) ?_
    refine aw_cond rfl (fun h6 => ?_) (fun h6 => aw_skip ?_)   -- if t111
    · refine aw_step [2, 3] [2] (by simp <;> rfl) ?_   -- ref.go:86
      refine aw_adoptC 2 3 101 1 3 [2, 3] [2, 101] (by simp <;> rfl) ?_
      refine aw_freeze 101 [2, 3] [2] (by simp <;> rfl) ?_
      exact aw_ret (ends_ret (by simp [Tryz.results20] <;> rfl) (herr h6))
    refine aw_step [2, 3] [2] (by simp <;> rfl) ?_   -- ref.go:88
    exact aw_ret (ends_ret (by simp [Tryz.results20, hp] <;> rfl) (hok h6))

end Go.Proofs.YtmkbhognijicjaaGreatDoor
