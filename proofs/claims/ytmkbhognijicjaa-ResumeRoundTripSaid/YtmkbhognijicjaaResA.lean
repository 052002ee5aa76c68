/- Resume: the types, trees, and the contracts of the functions on trees. No condition. -/
import Derived.Test.YtmkbhognijicjaaEng29
import Derived.Test.YtmkbhognijicjaaProg
import Derived.KernelRfl
import Derived.IntWalk
set_option linter.unusedSimpArgs false
namespace Go.Proofs.Ytmkbhognijicjaa
open Go.Eng
@[simp] theorem tyZ2 : tsz Try.prog 2 = some 1 := by kernel_rfl
@[simp] theorem tyA2 : tagg Try.prog 2 = some false := by kernel_rfl
@[simp] theorem tyU2 : (Try.prog.underlying 2).isSome = true := by kernel_rfl
@[simp] theorem tyO2 : tzero Try.prog 2 = some (.int .i64 0) := by kernel_rfl
@[simp] theorem tyK2 : tok Try.prog 2 = some 1 := by kernel_rfl
@[simp] theorem tyY2 : tbytes Try.prog 2 = some 8 := by kernel_rfl
@[simp] theorem tyI2 : tint Try.prog 2 = some .i64 := by kernel_rfl
@[simp] theorem tyZ3 : tsz Try.prog 3 = some 1 := by kernel_rfl
@[simp] theorem tyA3 : tagg Try.prog 3 = some false := by kernel_rfl
@[simp] theorem tyU3 : (Try.prog.underlying 3).isSome = true := by kernel_rfl
@[simp] theorem tyO3 : tzero Try.prog 3 = some (.int .i64 0) := by kernel_rfl
@[simp] theorem tyK3 : tok Try.prog 3 = some 1 := by kernel_rfl
@[simp] theorem tyY3 : tbytes Try.prog 3 = some 8 := by kernel_rfl
@[simp] theorem tyI3 : tint Try.prog 3 = some .i64 := by kernel_rfl
@[simp] theorem tyZ4 : tsz Try.prog 4 = some 1 := by kernel_rfl
@[simp] theorem tyA4 : tagg Try.prog 4 = some false := by kernel_rfl
@[simp] theorem tyU4 : (Try.prog.underlying 4).isSome = true := by kernel_rfl
@[simp] theorem tyO4 : tzero Try.prog 4 = some (.bool false) := by kernel_rfl
@[simp] theorem tyK4 : tok Try.prog 4 = some 1 := by kernel_rfl
@[simp] theorem tyY4 : tbytes Try.prog 4 = some 1 := by kernel_rfl
@[simp] theorem tyB4 : tbool Try.prog 4 = true := by kernel_rfl
@[simp] theorem tyZ5 : tsz Try.prog 5 = some 1 := by kernel_rfl
@[simp] theorem tyA5 : tagg Try.prog 5 = some false := by kernel_rfl
@[simp] theorem tyU5 : (Try.prog.underlying 5).isSome = true := by kernel_rfl
@[simp] theorem tyO5 : tzero Try.prog 5 = some (.int .u8 0) := by kernel_rfl
@[simp] theorem tyK5 : tok Try.prog 5 = some 1 := by kernel_rfl
@[simp] theorem tyY5 : tbytes Try.prog 5 = some 1 := by kernel_rfl
@[simp] theorem tyI5 : tint Try.prog 5 = some .u8 := by kernel_rfl
@[simp] theorem tyZ9 : tsz Try.prog 9 = some 1 := by kernel_rfl
@[simp] theorem tyA9 : tagg Try.prog 9 = some false := by kernel_rfl
@[simp] theorem tyU9 : (Try.prog.underlying 9).isSome = true := by kernel_rfl
@[simp] theorem tyO9 : tzero Try.prog 9 = some (.str []) := by kernel_rfl
@[simp] theorem tyK9 : tok Try.prog 9 = some 1 := by kernel_rfl
@[simp] theorem tyY9 : tbytes Try.prog 9 = some 16 := by kernel_rfl
@[simp] theorem tyS9 : tstr Try.prog 9 = true := by kernel_rfl
@[simp] theorem tyZ22 : tsz Try.prog 22 = some 1 := by kernel_rfl
@[simp] theorem tyA22 : tagg Try.prog 22 = some false := by kernel_rfl
@[simp] theorem tyU22 : (Try.prog.underlying 22).isSome = true := by kernel_rfl
@[simp] theorem tyO22 : tzero Try.prog 22 = some (.nils) := by kernel_rfl
@[simp] theorem tyK22 : tok Try.prog 22 = some 1 := by kernel_rfl
@[simp] theorem tyY22 : tbytes Try.prog 22 = some 24 := by kernel_rfl
@[simp] theorem tyE22 : telem Try.prog 22 = some 24 := by kernel_rfl
@[simp] theorem tyZ24 : tsz Try.prog 24 = some 5 := by kernel_rfl
@[simp] theorem tyA24 : tagg Try.prog 24 = some true := by kernel_rfl
@[simp] theorem tyU24 : (Try.prog.underlying 24).isSome = true := by kernel_rfl
@[simp] theorem tyO24 : tzero Try.prog 24 = some (.agg [.int .i64 0, .int .i64 0, .int .i64 0, .str [], .nils]) := by kernel_rfl
@[simp] theorem tyK24 : tok Try.prog 24 = some 5 := by kernel_rfl
@[simp] theorem tyY24 : tbytes Try.prog 24 = some 64 := by kernel_rfl
@[simp] theorem tyF24_0 : tfield Try.prog 24 0 = some (0, 1, false) := by kernel_rfl
@[simp] theorem tyF24_1 : tfield Try.prog 24 1 = some (1, 1, false) := by kernel_rfl
@[simp] theorem tyF24_2 : tfield Try.prog 24 2 = some (2, 1, false) := by kernel_rfl
@[simp] theorem tyF24_3 : tfield Try.prog 24 3 = some (3, 1, false) := by kernel_rfl
@[simp] theorem tyF24_4 : tfield Try.prog 24 4 = some (4, 1, false) := by kernel_rfl
@[simp] theorem tyD24 : tfields Try.prog 24 = true := by kernel_rfl
@[simp] theorem tyZ26 : tsz Try.prog 26 = some 1 := by kernel_rfl
@[simp] theorem tyA26 : tagg Try.prog 26 = some false := by kernel_rfl
@[simp] theorem tyU26 : (Try.prog.underlying 26).isSome = true := by kernel_rfl
@[simp] theorem tyO26 : tzero Try.prog 26 = some (.nils) := by kernel_rfl
@[simp] theorem tyK26 : tok Try.prog 26 = some 1 := by kernel_rfl
@[simp] theorem tyY26 : tbytes Try.prog 26 = some 24 := by kernel_rfl
@[simp] theorem tyE26 : telem Try.prog 26 = some 3 := by kernel_rfl
@[simp] theorem tyZ28 : tsz Try.prog 28 = some 5 := by kernel_rfl
@[simp] theorem tyA28 : tagg Try.prog 28 = some true := by kernel_rfl
@[simp] theorem tyU28 : (Try.prog.underlying 28).isSome = true := by kernel_rfl
@[simp] theorem tyO28 : tzero Try.prog 28 = some (.agg [.int .i64 0, .nils, .int .i64 0, .str [], .bool false]) := by kernel_rfl
@[simp] theorem tyK28 : tok Try.prog 28 = some 5 := by kernel_rfl
@[simp] theorem tyY28 : tbytes Try.prog 28 = some 64 := by kernel_rfl
@[simp] theorem tyF28_0 : tfield Try.prog 28 0 = some (0, 1, false) := by kernel_rfl
@[simp] theorem tyF28_1 : tfield Try.prog 28 1 = some (1, 1, false) := by kernel_rfl
@[simp] theorem tyF28_2 : tfield Try.prog 28 2 = some (2, 1, false) := by kernel_rfl
@[simp] theorem tyF28_3 : tfield Try.prog 28 3 = some (3, 1, false) := by kernel_rfl
@[simp] theorem tyF28_4 : tfield Try.prog 28 4 = some (4, 1, false) := by kernel_rfl
@[simp] theorem tyD28 : tfields Try.prog 28 = true := by kernel_rfl
@[simp] theorem tyZ30 : tsz Try.prog 30 = some 4 := by kernel_rfl
@[simp] theorem tyA30 : tagg Try.prog 30 = some true := by kernel_rfl
@[simp] theorem tyU30 : (Try.prog.underlying 30).isSome = true := by kernel_rfl
@[simp] theorem tyO30 : tzero Try.prog 30 = some (.agg [.int .i64 0, .int .i64 0, .int .i64 0, .int .i64 0]) := by kernel_rfl
@[simp] theorem tyK30 : tok Try.prog 30 = some 4 := by kernel_rfl
@[simp] theorem tyY30 : tbytes Try.prog 30 = some 32 := by kernel_rfl
@[simp] theorem tyF30_0 : tfield Try.prog 30 0 = some (0, 1, false) := by kernel_rfl
@[simp] theorem tyF30_1 : tfield Try.prog 30 1 = some (1, 1, false) := by kernel_rfl
@[simp] theorem tyF30_2 : tfield Try.prog 30 2 = some (2, 1, false) := by kernel_rfl
@[simp] theorem tyF30_3 : tfield Try.prog 30 3 = some (3, 1, false) := by kernel_rfl
@[simp] theorem tyD30 : tfields Try.prog 30 = true := by kernel_rfl
@[simp] theorem tyL30 : tflat Try.prog 30 = some [0, 0, 0, 0] := by kernel_rfl
@[simp] theorem tyZ32 : tsz Try.prog 32 = some 11 := by kernel_rfl
@[simp] theorem tyA32 : tagg Try.prog 32 = some true := by kernel_rfl
@[simp] theorem tyU32 : (Try.prog.underlying 32).isSome = true := by kernel_rfl
@[simp] theorem tyO32 : tzero Try.prog 32 = some (.agg [.int .i64 0, .int .i64 0, .int .i64 0, .nils, .int .i64 0, .str [], .bool false, .int .i64 0, .int .i64 0, .int .i64 0, .int .i64 0]) := by kernel_rfl
@[simp] theorem tyK32 : tok Try.prog 32 = some 11 := by kernel_rfl
@[simp] theorem tyY32 : tbytes Try.prog 32 = some 112 := by kernel_rfl
@[simp] theorem tyF32_0 : tfield Try.prog 32 0 = some (0, 1, false) := by kernel_rfl
@[simp] theorem tyF32_1 : tfield Try.prog 32 1 = some (1, 1, false) := by kernel_rfl
@[simp] theorem tyF32_2 : tfield Try.prog 32 2 = some (2, 5, true) := by kernel_rfl
@[simp] theorem tyF32_3 : tfield Try.prog 32 3 = some (7, 4, true) := by kernel_rfl
@[simp] theorem tyD32 : tfields Try.prog 32 = true := by kernel_rfl
@[simp] theorem tyZ33 : tsz Try.prog 33 = some 1 := by kernel_rfl
@[simp] theorem tyA33 : tagg Try.prog 33 = some false := by kernel_rfl
@[simp] theorem tyU33 : (Try.prog.underlying 33).isSome = true := by kernel_rfl
@[simp] theorem tyO33 : tzero Try.prog 33 = some (.int .i64 0) := by kernel_rfl
@[simp] theorem tyK33 : tok Try.prog 33 = some 1 := by kernel_rfl
@[simp] theorem tyY33 : tbytes Try.prog 33 = some 8 := by kernel_rfl
@[simp] theorem tyI33 : tint Try.prog 33 = some .i64 := by kernel_rfl
@[simp] theorem tyZ40 : tsz Try.prog 40 = some 1 := by kernel_rfl
@[simp] theorem tyA40 : tagg Try.prog 40 = some false := by kernel_rfl
@[simp] theorem tyU40 : (Try.prog.underlying 40).isSome = true := by kernel_rfl
@[simp] theorem tyY40 : tbytes Try.prog 40 = some 8 := by kernel_rfl
@[simp] theorem tyZ55 : tsz Try.prog 55 = some 1 := by kernel_rfl
@[simp] theorem tyA55 : tagg Try.prog 55 = some false := by kernel_rfl
@[simp] theorem tyU55 : (Try.prog.underlying 55).isSome = true := by kernel_rfl
@[simp] theorem tyO55 : tzero Try.prog 55 = some (.int .u64 0) := by kernel_rfl
@[simp] theorem tyK55 : tok Try.prog 55 = some 1 := by kernel_rfl
@[simp] theorem tyY55 : tbytes Try.prog 55 = some 8 := by kernel_rfl
@[simp] theorem tyI55 : tint Try.prog 55 = some .u64 := by kernel_rfl
theorem hmix : Try.prog.follows .mixedOrders = true := by kernel_rfl
theorem wrap_succ {k : Nat} (h : (k : Int) < 9223372036854775807) : IntKind.i64.wrap ((k : Int) + 1) = ((k + 1 : Nat) : Int) := by
  rw [IntKind.wrap_i64]; omega
theorem wrap_in {x : Int} (h1 : -9223372036854775808 ≤ x) (h2 : x < 9223372036854775808) : IntKind.i64.wrap x = x := by
  rw [IntKind.wrap_i64]; omega

/-- Trees. -/
inductive Nd where
  | mk (tag kind n : Int) (s : List UInt8) (kids : List Nd)
def Nd.kids : Nd → List Nd
  | .mk _ _ _ _ ks => ks
def Nd.v : Nd → V
  | .mk t k n s ks => .agg [.int .i64 t, .int .i64 k, .int .i64 n, .str s, .ro 5 (ks.map Nd.v)]
theorem Nd.kid_lt {t k n : Int} {s : List UInt8} {ks : List Nd} {x : Nd} (h : x ∈ ks) : SizeOf.sizeOf x < SizeOf.sizeOf (Nd.mk t k n s ks) := by
  have := List.sizeOf_lt_of_mem h
  simp only [Nd.mk.sizeOf_spec]
  omega
theorem Nd.v_pure (x : Nd) : x.v.pureE = true := by
  obtain ⟨t, k, n, s, ks⟩ := x
  rw [Nd.v]; rfl
theorem pureN (l : List Nd) : (l.map Nd.v).all V.pureE = true := by
  rw [List.all_eq_true]
  intro x hx
  simp only [List.mem_map] at hx
  obtain ⟨y, _, rfl⟩ := hx
  exact y.v_pure
theorem nthN {l : List Nd} {k : Nat} (h : k < l.length) : nth (l.map Nd.v) k = some l[k].v := by rw [nth_eq]; simp [h]

/-- What the count of a tree's nodes says. -/
def Fine (x : Nd) : Prop := x.kids.length ≤ 39 ∧ ∀ y ∈ x.kids, y.kids.length ≤ 39
theorem nodes_ac : ∀ (m : Nat) (x : Nd) (d : Int), SizeOf.sizeOf x < m → 1 ≤ d → d ≤ 9 →
    AC Try.prog 5 [x.v, .int .i64 d] (fun r => ∃ k : Int, r = .int .i64 k ∧ 1 ≤ k ∧ k ≤ 1000 + 40 * (9 - d) ∧ (k ≤ 40 → Fine x)) := by
  intro m
  induction m with
  | zero => intro x d h; omega
  | succ m ih =>
  intro x d hm hd1 hd2
  obtain ⟨t, kd, n, s, ks⟩ := x
  have ih' : ∀ y ∈ ks, 1 ≤ d + 1 → d + 1 ≤ 9 → AC Try.prog 5 [y.v, .int .i64 (d + 1)] (fun r => ∃ k : Int, r = .int .i64 k ∧ 1 ≤ k ∧ k ≤ 1000 + 40 * (9 - (d + 1)) ∧ (k ≤ 40 → Fine y)) :=
    fun y hy => ih y (d + 1) (by have := Nd.kid_lt (t := t) (k := kd) (n := n) (s := s) hy; omega)
  have hget := fun (k : Nat) (h : k < ks.length) => nthN h
  have hlen : (ks.map Nd.v).length = ks.length := by simp
  rw [Nd.v]
  generalize hkv : ks.map Nd.v = kv at hget hlen
  refine ac_intro Try.func5 rfl (by show (2 : Nat) ≤ 37; omega) (fun w0 N0 => ?_)
  refine aw_step [1, 2] [2] (by simp [Try.ntmps5] <;> rfl) ?_   -- law.go:50
  refine aw_seq ?_
  refine aw_step [1, 2, 14] [2] (by simp <;> rfl) ?_   -- law.go:51
  refine aw_cond rfl (fun h1 => ?_) (fun h1 => aw_skip ?_)   -- if t14
  · refine aw_step [4] [] (by simp <;> rfl) ?_   -- law.go:52
    refine aw_ret (ends_ret (by simp [Try.results5] <;> rfl) ?_)
    exact ⟨1000, rfl, by omega, by omega, fun h => by omega⟩
  have hd8 : d ≤ 8 := by simp at h1; omega
  have hwd : IntKind.i64.wrap (d + 1) = d + 1 := wrap_in (by omega) (by omega)
  refine aw_step [1, 2, 5] [2] (by simp <;> rfl) ?_   -- law.go:54
  refine aw_seq ?_
  refine aw_step [1, 2, 5, 6] [2] (by simp <;> rfl) ?_   -- law.go:55
  refine aw_block ?_
  refine aw_loop (fun x : Nat × Int × Nat => ⟨[(1, .int .i64 d), (2, .bp 2 0 5 0 0), (5, .int .i64 x.2.1), (6, .int .i64 x.1)], [(2, ⟨0, 5, 24, [.agg [.int .i64 t, .int .i64 kd, .int .i64 n, .str s, .ro 5 kv]]⟩)], x.2.2, 37⟩)
    (fun x => x.1 ≤ ks.length ∧ x.1 + 1 ≤ x.2.1 ∧ x.2.1 ≤ 1000 + 40 * (9 - d) ∧ (x.2.1 ≤ 40 → ∀ (j : Nat) (h : j < ks.length), j < x.1 → ks[j].kids.length ≤ 39)) (fun x => ks.length - x.1) (0, 1, _) ⟨Nat.zero_le _, by simp, by simp only; omega, by simp⟩ (AS.le_refl _) ?_
  rintro ⟨k, c, nx⟩ ⟨hk, hc1, hc2, hc3⟩
  simp only at hk hc1 hc2 hc3
  refine aw_seq ?_
  refine aw_step [1, 2, 5, 6, 23] [2] (by simp <;> rfl) ?_   -- law.go:55
  refine aw_cond rfl (fun h2 => aw_skip ?_) (fun h2 => ?_)   -- if t23
  · have hlt : k < ks.length ∧ c ≤ 40 := by simp at h2; omega
    have hlt' : k < kv.length := by omega
    have hg := hget k hlt.1
    have hy := ih' ks[k] (List.getElem_mem hlt.1) (by omega) (by omega)
    have hw := wrap_succ (k := k) (by omega)
    have hpv := ks[k].v_pure
    refine aw_seq ?_
    refine aw_block ?_
    refine aw_region ?_   -- law.go:56
    rcases hkk : ks[k] with ⟨kt, kk, kn, kss, kks⟩
    rw [hkk] at hg hy hpv
    rw [Nd.v] at hg hy hpv
    refine awl_go 8 (by simp [hg, hlt', hwd] <;> rfl) ?_
    refine awl_call rfl rfl rfl Try.func5 rfl (by kernel_rfl) (by simp <;> rfl) (by simp) hy ?_
    rintro r ⟨q, rfl, q1, q2, q3⟩
    have hwc : IntKind.i64.wrap (c + q) = c + q := wrap_in (by omega) (by omega)
    refine ⟨_, rfl, ?_⟩
    refine awl_end [1, 2, 5, 6] [2] (by simp [hwc] <;> rfl) ?_
    refine aw_one [1, 2, 5, 6] [2] (by simp [hw] <;> rfl) ?_   -- law.go:55
    refine ⟨(k + 1, c + q, _), ⟨hlt.1, by simp only; omega, by simp only; omega, fun hq j hj hjk => ?_⟩, by simp only; omega, AS.le_refl _⟩
    simp only at hq hjk
    by_cases e : j = k
    · subst e
      rw [hkk]
      exact (q3 (by omega)).1
    · exact hc3 hlt.2 j hj (by omega)
  · refine aw_exit ?_
    refine aw_step [4] [] (by simp <;> rfl) ?_   -- law.go:58
    refine aw_ret (ends_ret (by simp [Try.results5] <;> rfl) ?_)
    refine ⟨c, rfl, by omega, by omega, fun h40 => ?_⟩
    have hkl : k = ks.length := by simp at h2; omega
    refine ⟨by show ks.length ≤ 39; omega, fun y hy => ?_⟩
    obtain ⟨j, hj, rfl⟩ := List.getElem_of_mem hy
    have hj' : j < ks.length := hj
    exact hc3 h40 j hj' (by omega)
end Go.Proofs.Ytmkbhognijicjaa
