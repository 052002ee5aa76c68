/- Asset: the types, Valid and Usable. No condition. -/
import Derived.Test.YtepkalebaaidcaaEng31
import Derived.Test.YtepkalebaaidcaaProg
import Derived.KernelRfl
import Derived.IntWalk
set_option linter.unusedSimpArgs false
namespace Go.Proofs.Ytepkalebaaidcaa
open Go.Eng
@[simp] theorem tyZ3 : tsz Try.prog 3 = some 1 := by kernel_rfl
@[simp] theorem tyA3 : tagg Try.prog 3 = some false := by kernel_rfl
@[simp] theorem tyU3 : (Try.prog.underlying 3).isSome = true := by kernel_rfl
@[simp] theorem tyO3 : tzero Try.prog 3 = some (.int .i64 0) := by kernel_rfl
@[simp] theorem tyK3 : tok Try.prog 3 = some 1 := by kernel_rfl
@[simp] theorem tyY3 : tbytes Try.prog 3 = some 8 := by kernel_rfl
@[simp] theorem tyI3 : tint Try.prog 3 = some .i64 := by kernel_rfl
@[simp] theorem tyZ4 : tsz Try.prog 4 = some 1 := by kernel_rfl
@[simp] theorem tyA4 : tagg Try.prog 4 = some false := by kernel_rfl
@[simp] theorem tyU4 : (Try.prog.underlying 4).isSome = true := by kernel_rfl
@[simp] theorem tyO4 : tzero Try.prog 4 = some (.bool false) := by kernel_rfl
@[simp] theorem tyK4 : tok Try.prog 4 = some 1 := by kernel_rfl
@[simp] theorem tyY4 : tbytes Try.prog 4 = some 1 := by kernel_rfl
@[simp] theorem tyB4 : tbool Try.prog 4 = true := by kernel_rfl
@[simp] theorem tyZ5 : tsz Try.prog 5 = some 1 := by kernel_rfl
@[simp] theorem tyA5 : tagg Try.prog 5 = some false := by kernel_rfl
@[simp] theorem tyU5 : (Try.prog.underlying 5).isSome = true := by kernel_rfl
@[simp] theorem tyO5 : tzero Try.prog 5 = some (.int .u8 0) := by kernel_rfl
@[simp] theorem tyK5 : tok Try.prog 5 = some 1 := by kernel_rfl
@[simp] theorem tyY5 : tbytes Try.prog 5 = some 1 := by kernel_rfl
@[simp] theorem tyI5 : tint Try.prog 5 = some .u8 := by kernel_rfl
@[simp] theorem tyZ9 : tsz Try.prog 9 = some 1 := by kernel_rfl
@[simp] theorem tyA9 : tagg Try.prog 9 = some false := by kernel_rfl
@[simp] theorem tyU9 : (Try.prog.underlying 9).isSome = true := by kernel_rfl
@[simp] theorem tyO9 : tzero Try.prog 9 = some (.str []) := by kernel_rfl
@[simp] theorem tyK9 : tok Try.prog 9 = some 1 := by kernel_rfl
@[simp] theorem tyY9 : tbytes Try.prog 9 = some 16 := by kernel_rfl
@[simp] theorem tyS9 : tstr Try.prog 9 = true := by kernel_rfl
@[simp] theorem tyZ23 : tsz Try.prog 23 = some 5 := by kernel_rfl
@[simp] theorem tyA23 : tagg Try.prog 23 = some true := by kernel_rfl
@[simp] theorem tyU23 : (Try.prog.underlying 23).isSome = true := by kernel_rfl
@[simp] theorem tyO23 : tzero Try.prog 23 = some (.agg [.int .i64 0, .int .i64 0, .str [], .int .i64 0, .int .i64 0]) := by kernel_rfl
@[simp] theorem tyK23 : tok Try.prog 23 = some 5 := by kernel_rfl
@[simp] theorem tyY23 : tbytes Try.prog 23 = some 48 := by kernel_rfl
@[simp] theorem tyF23_0 : tfield Try.prog 23 0 = some (0, 1, false) := by kernel_rfl
@[simp] theorem tyF23_1 : tfield Try.prog 23 1 = some (1, 1, false) := by kernel_rfl
@[simp] theorem tyF23_2 : tfield Try.prog 23 2 = some (2, 1, false) := by kernel_rfl
@[simp] theorem tyF23_3 : tfield Try.prog 23 3 = some (3, 1, false) := by kernel_rfl
@[simp] theorem tyF23_4 : tfield Try.prog 23 4 = some (4, 1, false) := by kernel_rfl
@[simp] theorem tyD23 : tfields Try.prog 23 = true := by kernel_rfl
@[simp] theorem tyL23 : tflat Try.prog 23 = some [0, 0, 2, 0, 0] := by kernel_rfl
@[simp] theorem tyZ24 : tsz Try.prog 24 = some 1 := by kernel_rfl
@[simp] theorem tyA24 : tagg Try.prog 24 = some false := by kernel_rfl
@[simp] theorem tyU24 : (Try.prog.underlying 24).isSome = true := by kernel_rfl
@[simp] theorem tyO24 : tzero Try.prog 24 = some (.int .i64 0) := by kernel_rfl
@[simp] theorem tyK24 : tok Try.prog 24 = some 1 := by kernel_rfl
@[simp] theorem tyY24 : tbytes Try.prog 24 = some 8 := by kernel_rfl
@[simp] theorem tyI24 : tint Try.prog 24 = some .i64 := by kernel_rfl
@[simp] theorem tyZ29 : tsz Try.prog 29 = some 1 := by kernel_rfl
@[simp] theorem tyA29 : tagg Try.prog 29 = some false := by kernel_rfl
@[simp] theorem tyU29 : (Try.prog.underlying 29).isSome = true := by kernel_rfl
@[simp] theorem tyO29 : tzero Try.prog 29 = some (.nils) := by kernel_rfl
@[simp] theorem tyK29 : tok Try.prog 29 = some 1 := by kernel_rfl
@[simp] theorem tyY29 : tbytes Try.prog 29 = some 24 := by kernel_rfl
@[simp] theorem tyE29 : telem Try.prog 29 = some 3 := by kernel_rfl
@[simp] theorem tyZ30 : tsz Try.prog 30 = some 1 := by kernel_rfl
@[simp] theorem tyA30 : tagg Try.prog 30 = some false := by kernel_rfl
@[simp] theorem tyU30 : (Try.prog.underlying 30).isSome = true := by kernel_rfl
@[simp] theorem tyO30 : tzero Try.prog 30 = some (.nils) := by kernel_rfl
@[simp] theorem tyK30 : tok Try.prog 30 = some 1 := by kernel_rfl
@[simp] theorem tyY30 : tbytes Try.prog 30 = some 24 := by kernel_rfl
@[simp] theorem tyE30 : telem Try.prog 30 = some 23 := by kernel_rfl
@[simp] theorem tyM45 : tmap Try.prog 45 = some (.i64, 4) := by kernel_rfl
theorem hmix : Try.prog.follows .mixedOrders = true := by kernel_rfl
theorem wrap_succ {k : Nat} (h : (k : Int) < 9223372036854775807) : IntKind.i64.wrap ((k : Int) + 1) = ((k + 1 : Nat) : Int) := by
  rw [IntKind.wrap_i64]; omega
theorem wrap_in {x : Int} (h1 : -9223372036854775808 ≤ x) (h2 : x < 9223372036854775808) : IntKind.i64.wrap x = x := by
  rw [IntKind.wrap_i64]; omega

structure As where
  id : Int
  by_ : Int
  alt : List UInt8
  fr : Int
  un : Int
  deriving DecidableEq
def As.v (a : As) : V := .agg [.int .i64 a.id, .int .i64 a.by_, .str a.alt, .int .i64 a.fr, .int .i64 a.un]
def zA : As := ⟨0, 0, [], 0, 0⟩
theorem zA_v : zA.v = .agg [.int .i64 0, .int .i64 0, .str [], .int .i64 0, .int .i64 0] := rfl

/-- A byte that a text must not hold. -/
def badB (b : UInt8) : Bool := decide ((b.toNat : Int) < 32) || decide ((126 : Int) < b.toNat)
def inR (n lo hi : Int) : Bool := decide (lo ≤ n) && decide (n ≤ hi)
def vA (a : As) : Int :=
  if (inR a.id 1 9999999 && inR a.by_ 1 1048576 && inR a.fr 0 9999999 && inR a.un 0 9999999) = false then 3
  else if inR a.alt.length 1 200 = false then 2 else if a.alt.any badB = true then 2 else if decide (a.un < a.fr) = true then 15 else 0
def uA (a : As) (day : Int) : Int := if vA a ≠ 0 then vA a else if inR day a.fr a.un = false then 17 else 0
theorem any_take {p : UInt8 → Bool} {l : List UInt8} {k : Nat} (h : k < l.length) : (l.take (k + 1)).any p = ((l.take k).any p || p l[k]) := by
  rw [List.take_succ_eq_append_getElem h, List.any_append]; simp

set_option maxHeartbeats 1000000 in
theorem valid_ac (a : As) : AC Try.prog 8 [a.v] (fun r => r = .int .i64 (vA a)) := by
  obtain ⟨id, by_, alt, fr, un⟩ := a
  have hg : ∀ (k : Nat) (h : k < alt.length), nth alt k = some alt[k] := fun k h => by rw [nth_eq]; simp [h]
  simp only [As.v, vA]
  refine ac_intro Try.func8 rfl (by show (1 : Nat) ≤ 76; omega) (fun w0 N0 => ?_)
  refine aw_step [1] [1] (by simp [Try.ntmps8] <;> rfl) ?_   -- asset.go:12
  refine aw_seq ?_
  refine aw_step [1, 41] [1] (by simp <;> rfl) ?_   -- asset.go:13
  refine aw_cond rfl (fun h1 => ?_) (fun h1 => aw_skip ?_)   -- if t41
  · refine aw_step [2] [] (by simp <;> rfl) ?_   -- asset.go:15
    refine aw_ret (ends_ret (by simp [Try.results8] <;> rfl) ?_)
    rw [if_pos (by simp [inR] at h1 ⊢; omega)]
  rw [if_neg (by simp [inR] at h1 ⊢; omega)]
  refine aw_seq ?_
  refine aw_step [1, 51] [1] (by simp <;> rfl) ?_   -- asset.go:17
  refine aw_cond rfl (fun h2 => ?_) (fun h2 => aw_skip ?_)   -- if t51
  · refine aw_step [2] [] (by simp <;> rfl) ?_   -- asset.go:18
    refine aw_ret (ends_ret (by simp [Try.results8] <;> rfl) ?_)
    rw [if_pos (by simp [inR] at h2 ⊢; omega)]
  have hl : alt.length ≤ 200 := by simp at h2; omega
  rw [if_neg (by simp [inR] at h2 ⊢; omega)]
  refine aw_seq ?_
  refine aw_step [1, 3] [1] (by simp <;> rfl) ?_   -- asset.go:20
  refine aw_block ?_
  refine aw_count (fun k nx => ⟨[(1, .bp 1 0 5 0 0), (3, .int .i64 k)], [(1, ⟨0, 5, 23, [.agg [.int .i64 id, .int .i64 by_, .str alt, .int .i64 fr, .int .i64 un]]⟩)], nx, 76⟩) (fun k => (alt.take k).any badB = false) alt.length _ (by simp) (AS.le_refl _) ?_
  intro k nx hk hI
  refine aw_seq ?_
  refine aw_step [1, 3, 56] [1] (by simp <;> rfl) ?_   -- asset.go:20
  refine aw_cond rfl (fun h3 => aw_skip ?_) (fun h3 => ?_)   -- if t56
  · have hlt : k < alt.length := by simp at h3; omega
    have hgk := hg k hlt
    have hat := any_take (p := badB) hlt
    have hw := wrap_succ (k := k) (by omega)
    have hsub : alt.any badB = false → badB alt[k] = false := fun h => by
      rw [List.any_eq_false] at h
      simpa using h alt[k] (List.getElem_mem hlt)
    generalize alt[k] = b at hgk hat hsub
    refine aw_seq ?_
    refine aw_block ?_
    refine aw_step [1, 3, 70] [1] (by simp [hgk] <;> rfl) ?_   -- asset.go:21
    refine aw_cond rfl (fun h4 => ?_) (fun h4 => aw_skip ?_)   -- if t70
    · refine aw_step [2] [] (by simp <;> rfl) ?_   -- asset.go:22
      refine aw_ret (ends_ret (by simp [Try.results8] <;> rfl) ?_)
      have hb : badB b = true := by simpa [badB] using h4
      have : alt.any badB = true := by
        cases h : alt.any badB with
        | true => rfl
        | false => have := hsub h; rw [hb] at this; cases this
      rw [if_pos this]
    refine aw_one [1, 3] [1] (by simp [hw] <;> rfl) ?_   -- asset.go:20
    refine ⟨hlt, ?_, _, AS.le_refl _⟩
    have hb : badB b = false := by simpa [badB] using h4
    rw [hat, hI, hb]; rfl
  · refine aw_exit ?_
    have hkl : k = alt.length := by simp at h3; omega
    rw [hkl, List.take_length] at hI
    rw [if_neg (by rw [hI]; simp)]
    refine aw_seq ?_
    refine aw_step [75] [] (by simp <;> rfl) ?_   -- asset.go:25
    refine aw_cond rfl (fun h5 => ?_) (fun h5 => aw_skip ?_)   -- if t75
    · refine aw_step [2] [] (by simp <;> rfl) ?_   -- asset.go:26
      exact aw_ret (ends_ret (by simp [Try.results8] <;> rfl) (by rw [if_pos h5]))
    refine aw_step [2] [] (by simp <;> rfl) ?_   -- asset.go:28
    exact aw_ret (ends_ret (by simp [Try.results8] <;> rfl) (by rw [if_neg (by rw [h5]; simp)]))

theorem within_ac (n lo hi : Int) : AC Try.prog 23 [.int .i64 n, .int .i64 lo, .int .i64 hi] (fun r => r = .bool (inR n lo hi)) := by
  refine ac_intro Try.func23 rfl (by show (3 : Nat) ≤ 15; omega) (fun w0 N0 => ?_)
  refine aw_step [0, 1, 2] [] (by simp [Try.ntmps23] <;> rfl) ?_   -- ref.go:7
  refine aw_step [6] [] (by simp <;> rfl) ?_   -- ref.go:8
  exact aw_ret (ends_ret (by simp [Try.results23] <;> rfl) rfl)

set_option maxHeartbeats 1000000 in
theorem refValid_ac (a : As) : AC Try.prog 9 [a.v] (fun r => r = .int .i64 (vA a)) := by
  obtain ⟨id, by_, alt, fr, un⟩ := a
  have hg : ∀ (k : Nat) (h : k < alt.length), nth alt k = some alt[k] := fun k h => by rw [nth_eq]; simp [h]
  simp only [As.v, vA]
  have hl200 : inR alt.length 1 200 = true → alt.length ≤ 200 := fun h => by simp [inR] at h; omega
  have c1 := within_ac id 1 9999999
  have c2 := within_ac by_ 1 1048576
  have c3 := within_ac fr 0 9999999
  have c4 := within_ac un 0 9999999
  have c5 := within_ac alt.length 1 200
  generalize inR id 1 9999999 = q1 at c1
  generalize inR by_ 1 1048576 = q2 at c2
  generalize inR fr 0 9999999 = q3 at c3
  generalize inR un 0 9999999 = q4 at c4
  generalize inR alt.length 1 200 = q5 at c5 hl200
  refine ac_intro Try.func9 rfl (by show (1 : Nat) ≤ 55; omega) (fun w0 N0 => ?_)
  refine aw_step [1] [1] (by simp [Try.ntmps9] <;> rfl) ?_   -- ref.go:12
  refine aw_seq ?_
  refine aw_seq (aw_region ?_)   -- ref.go:13
  refine awl_go 2 (by simp <;> rfl) ?_
  refine awl_call1 c1 Try.func23 rfl (by kernel_rfl) rfl rfl rfl rfl rfl (by simp <;> rfl) ?_
  refine awl_go 4 (by simp <;> rfl) ?_
  refine awl_gcall (c := q1) (fun hg => c2) Try.func23 rfl (by kernel_rfl) (by simp) rfl rfl (by simp <;> rfl) (by simp) (by simp <;> rfl) ?_
  refine awl_go 5 (by simp <;> rfl) ?_
  refine awl_gcall (c := q1 && q2) (fun hg => c3) Try.func23 rfl (by kernel_rfl) (by simp) rfl rfl (by simp <;> rfl) (by simp) (by simp <;> rfl) ?_
  refine awl_go 5 (by simp <;> rfl) ?_
  refine awl_gcall (c := q1 && q2 && q3) (fun hg => c4) Try.func23 rfl (by kernel_rfl) (by simp) rfl rfl (by simp <;> rfl) (by simp) (by simp <;> rfl) ?_
  refine awl_end [1, 25] [1] (by simp <;> rfl) ?_
  refine aw_cond rfl (fun h1 => ?_) (fun h1 => aw_skip ?_)   -- if t25
  · refine aw_step [2] [] (by simp <;> rfl) ?_   -- ref.go:14
    refine aw_ret (ends_ret (by simp [Try.results9] <;> rfl) ?_)
    rw [if_pos (by cases q1 <;> cases q2 <;> cases q3 <;> cases q4 <;> simp at h1 ⊢)]
  rw [if_neg (by cases q1 <;> cases q2 <;> cases q3 <;> cases q4 <;> simp at h1 ⊢)]
  refine aw_seq ?_
  refine aw_seq (aw_region ?_)   -- ref.go:16
  refine awl_go 3 (by simp <;> rfl) ?_
  refine awl_call1 c5 Try.func23 rfl (by kernel_rfl) rfl rfl rfl rfl rfl (by simp <;> rfl) ?_
  refine awl_end [1, 30] [1] (by simp <;> rfl) ?_
  refine aw_cond rfl (fun h2 => ?_) (fun h2 => aw_skip ?_)   -- if t30
  · refine aw_step [2] [] (by simp <;> rfl) ?_   -- ref.go:17
    refine aw_ret (ends_ret (by simp [Try.results9] <;> rfl) ?_)
    rw [if_pos (by simpa using h2)]
  have hl := hl200 (by simpa using h2)
  rw [if_neg (by simpa using h2)]
  refine aw_seq ?_
  refine aw_step [1, 3] [1] (by simp <;> rfl) ?_   -- ref.go:19
  refine aw_block ?_
  refine aw_count (fun k nx => ⟨[(1, .bp 1 0 5 0 0), (3, .int .i64 k)], [(1, ⟨0, 5, 23, [.agg [.int .i64 id, .int .i64 by_, .str alt, .int .i64 fr, .int .i64 un]]⟩)], nx, 55⟩) (fun k => (alt.take k).any badB = false) alt.length _ (by simp) (AS.le_refl _) ?_
  intro k nx hk hI
  refine aw_seq ?_
  refine aw_step [1, 3, 35] [1] (by simp <;> rfl) ?_   -- ref.go:19
  refine aw_cond rfl (fun h3 => aw_skip ?_) (fun h3 => ?_)   -- if t35
  · have hlt : k < alt.length := by simp at h3; omega
    have hgk := hg k hlt
    have hat := any_take (p := badB) hlt
    have hw := wrap_succ (k := k) (by omega)
    have hsub : alt.any badB = false → badB alt[k] = false := fun h => by
      rw [List.any_eq_false] at h
      simpa using h alt[k] (List.getElem_mem hlt)
    generalize alt[k] = b at hgk hat hsub
    refine aw_seq ?_
    refine aw_block ?_
    refine aw_step [1, 3, 49] [1] (by simp [hgk] <;> rfl) ?_   -- ref.go:20
    refine aw_cond rfl (fun h4 => ?_) (fun h4 => aw_skip ?_)   -- if t49
    · refine aw_step [2] [] (by simp <;> rfl) ?_   -- ref.go:21
      refine aw_ret (ends_ret (by simp [Try.results9] <;> rfl) ?_)
      have hb : badB b = true := by simpa [badB] using h4
      have : alt.any badB = true := by
        cases h : alt.any badB with
        | true => rfl
        | false => have := hsub h; rw [hb] at this; cases this
      rw [if_pos this]
    refine aw_one [1, 3] [1] (by simp [hw] <;> rfl) ?_   -- ref.go:19
    refine ⟨hlt, ?_, _, AS.le_refl _⟩
    have hb : badB b = false := by simpa [badB] using h4
    rw [hat, hI, hb]; rfl
  · refine aw_exit ?_
    have hkl : k = alt.length := by simp at h3; omega
    rw [hkl, List.take_length] at hI
    rw [if_neg (by rw [hI]; simp)]
    refine aw_seq ?_
    refine aw_step [54] [] (by simp <;> rfl) ?_   -- ref.go:24
    refine aw_cond rfl (fun h5 => ?_) (fun h5 => aw_skip ?_)   -- if t54
    · refine aw_step [2] [] (by simp <;> rfl) ?_   -- ref.go:25
      exact aw_ret (ends_ret (by simp [Try.results9] <;> rfl) (by rw [if_pos h5]))
    refine aw_step [2] [] (by simp <;> rfl) ?_   -- ref.go:27
    exact aw_ret (ends_ret (by simp [Try.results9] <;> rfl) (by rw [if_neg (by rw [h5]; simp)]))

theorem usable_ac (a : As) (d : Int) : AC Try.prog 10 [a.v, .int .i64 d] (fun r => r = .int .i64 (uA a d)) := by
  have hc := valid_ac a
  simp only [uA]
  generalize vA a = e at hc
  obtain ⟨id, by_, alt, fr, un⟩ := a
  simp only [As.v] at hc ⊢
  refine ac_intro Try.func10 rfl (by show (2 : Nat) ≤ 21; omega) (fun w0 N0 => ?_)
  refine aw_step [1, 2] [2] (by simp [Try.ntmps10] <;> rfl) ?_   -- asset.go:42
  refine aw_seq ?_
  refine aw_seq (aw_region ?_)   -- asset.go:43
  refine awl_go 1 (by simp <;> rfl) ?_
  refine awl_call1 hc Try.func8 rfl (by kernel_rfl) rfl rfl rfl rfl rfl (by simp <;> rfl) ?_
  refine awl_end [1, 2, 5] [2] (by simp <;> rfl) ?_
  refine aw_step [1, 2, 5, 9] [2] (by simp <;> rfl) ?_   -- asset.go:43
  refine aw_cond rfl (fun h1 => ?_) (fun h1 => aw_skip ?_)   -- if t9
  · refine aw_step [4] [] (by simp <;> rfl) ?_   -- asset.go:44
    exact aw_ret (ends_ret (by simp [Try.results10] <;> rfl) (by rw [if_pos (by simpa using h1)]))
  rw [if_neg (by simpa using h1)]
  refine aw_seq ?_
  refine aw_step [20] [] (by simp <;> rfl) ?_   -- asset.go:46
  refine aw_cond rfl (fun h2 => ?_) (fun h2 => aw_skip ?_)   -- if t20
  · refine aw_step [4] [] (by simp <;> rfl) ?_   -- asset.go:47
    exact aw_ret (ends_ret (by simp [Try.results10] <;> rfl) (by rw [if_pos (by simp [inR] at h2 ⊢; omega)]))
  refine aw_step [4] [] (by simp <;> rfl) ?_   -- asset.go:49
  exact aw_ret (ends_ret (by simp [Try.results10] <;> rfl) (by rw [if_neg (by simp [inR] at h2 ⊢; omega)]))

theorem refUsable_ac (a : As) (d : Int) : AC Try.prog 11 [a.v, .int .i64 d] (fun r => r = .int .i64 (uA a d)) := by
  have hc := refValid_ac a
  have hw := within_ac d a.fr a.un
  simp only [uA]
  generalize vA a = e at hc
  obtain ⟨id, by_, alt, fr, un⟩ := a
  simp only [As.v] at hc hw ⊢
  generalize inR d fr un = q at hw
  refine ac_intro Try.func11 rfl (by show (2 : Nat) ≤ 18; omega) (fun w0 N0 => ?_)
  refine aw_step [1, 2] [2] (by simp [Try.ntmps11] <;> rfl) ?_   -- ref.go:41
  refine aw_seq ?_
  refine aw_seq (aw_region ?_)   -- ref.go:42
  refine awl_go 1 (by simp <;> rfl) ?_
  refine awl_call1 hc Try.func9 rfl (by kernel_rfl) rfl rfl rfl rfl rfl (by simp <;> rfl) ?_
  refine awl_end [1, 2, 5] [2] (by simp <;> rfl) ?_
  refine aw_step [1, 2, 5, 9] [2] (by simp <;> rfl) ?_   -- ref.go:42
  refine aw_cond rfl (fun h1 => ?_) (fun h1 => aw_skip ?_)   -- if t9
  · refine aw_step [4] [] (by simp <;> rfl) ?_   -- ref.go:43
    exact aw_ret (ends_ret (by simp [Try.results11] <;> rfl) (by rw [if_pos (by simpa using h1)]))
  rw [if_neg (by simpa using h1)]
  refine aw_seq ?_
  refine aw_seq (aw_region ?_)   -- ref.go:45
  refine awl_go 5 (by simp <;> rfl) ?_
  refine awl_call1 hw Try.func23 rfl (by kernel_rfl) rfl rfl rfl rfl rfl (by simp <;> rfl) ?_
  refine awl_end [17] [] (by simp <;> rfl) ?_
  refine aw_cond rfl (fun h2 => ?_) (fun h2 => aw_skip ?_)   -- if t17
  · refine aw_step [4] [] (by simp <;> rfl) ?_   -- ref.go:46
    exact aw_ret (ends_ret (by simp [Try.results11] <;> rfl) (by rw [if_pos (by simpa using h2)]))
  refine aw_step [4] [] (by simp <;> rfl) ?_   -- ref.go:48
  exact aw_ret (ends_ret (by simp [Try.results11] <;> rfl) (by rw [if_neg (by simpa using h2)]))
end Go.Proofs.Ytepkalebaaidcaa
