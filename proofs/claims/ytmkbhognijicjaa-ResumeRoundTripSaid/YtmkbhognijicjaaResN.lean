/- Resume: the measure of a tree that fits. No condition. -/
import Derived.Test.YtmkbhognijicjaaResM
set_option linter.unusedSimpArgs false
namespace Go.Proofs.Ytmkbhognijicjaa
open Go.Eng

def sumC (c : Nd → Int) : List Nd → Int
  | [] => 0
  | x :: r => c x + sumC c r
theorem sumC_nonneg {c : Nd → Int} : ∀ {l : List Nd}, (∀ x ∈ l, 0 ≤ c x) → 0 ≤ sumC c l
  | [], _ => by simp [sumC]
  | x :: r, h => by
    have h1 := h x (by simp)
    have h2 := sumC_nonneg (c := c) (l := r) (fun y hy => h y (by simp [hy]))
    simp only [sumC]; omega
theorem sumC_take {c : Nd → Int} : ∀ {l : List Nd} {k : Nat} (h : k < l.length), sumC c (l.take (k + 1)) = sumC c (l.take k) + c l[k]
  | x :: r, 0, _ => by simp [sumC]
  | x :: r, k + 1, h => by
    have := sumC_take (c := c) (l := r) (k := k) (by simpa using h)
    simp only [List.take_succ_cons, sumC, List.getElem_cons_succ]
    rw [this]; omega
theorem sumC_le {c : Nd → Int} : ∀ {l : List Nd} (k : Nat), (∀ x ∈ l, 0 ≤ c x) → sumC c (l.take k) ≤ sumC c l
  | [], k, _ => by simp [sumC]
  | x :: r, 0, h => by simpa [sumC] using sumC_nonneg h
  | x :: r, k + 1, h => by
    have := sumC_le (c := c) (l := r) k (fun y hy => h y (by simp [hy]))
    simp only [List.take_succ_cons, sumC]; omega

set_option maxRecDepth 100000 in
set_option maxHeartbeats 4000000 in
theorem measure_ac (t kd n : Int) (s : List UInt8) (l : List Nd) (lv room : Int) (c : Nd → Int) (ht : 0 ≤ t ∧ t ≤ 9999999) (hlv : 1 ≤ lv ∧ lv ≤ 8) (hr : room ≤ 1048576)
    (hkind : (kd = 1 ∧ s = [] ∧ l = []) ∨ (kd = 2 ∧ n = 0 ∧ l = [] ∧ s.length ≤ 2000) ∨ (kd = 3 ∧ n = 0 ∧ s = [] ∧ l.length ≤ 1024))
    (hc : ∀ x ∈ l, 0 ≤ c x) (hkids : ∀ x ∈ l, ∀ r, c x ≤ r → r ≤ 1048576 → AC Try.prog 20 [x.v, .int .i64 (lv + 1), .int .i64 r] (fun q => ∃ k : Int, q = .tup [.int .i64 k, .bool true] ∧ 0 ≤ k ∧ k ≤ c x))
    (hroom : 21 + s.length + sumC c l ≤ room) :
    AC Try.prog 20 [(Nd.mk t kd n s l).v, .int .i64 lv, .int .i64 room] (fun q => ∃ k : Int, q = .tup [.int .i64 k, .bool true] ∧ 0 ≤ k ∧ k ≤ 21 + s.length + sumC c l) := by
  have hga := fun (k : Nat) (h : k < l.length) => nthN h
  have hla : (l.map Nd.v).length = l.length := by simp
  have hl0 : l = [] → l.map Nd.v = [] := by rintro rfl; rfl
  have hsn : (0 : Int) ≤ s.length := by omega
  have hcn := sumC_nonneg hc
  have hs2 : (s.length : Int) ≤ 2000 := by
    rcases hkind with ⟨_, h, _⟩ | ⟨_, _, _, h⟩ | ⟨_, _, h, _⟩
    · rw [h]; simp
    · omega
    · rw [h]; simp
  have hl2 : (l.length : Int) ≤ 1024 := by
    rcases hkind with ⟨_, _, h⟩ | ⟨_, _, h, _⟩ | ⟨_, _, _, h⟩
    · rw [h]; simp
    · rw [h]; simp
    · omega
  rw [Nd.v]
  generalize l.map Nd.v = kv at hga hla hl0
  have hkv2 : ¬ (1024 : Int) < kv.length := by omega
  have hss2 : ¬ (2000 : Int) < s.length := by omega
  have g1 : ¬ 8 < lv := by omega
  have g2 : ¬ t < 0 := by omega
  have g3 : ¬ 9999999 < t := by omega
  refine ac_intro Try.func20 rfl (by show (3 : Nat) ≤ 130; omega) (fun w0 N0 => ?_)
  refine aw_step [1, 2, 3] [3] (by simp [Try.ntmps20] <;> rfl) ?_   -- codec.go:55
  refine aw_seq ?_
  refine aw_step [1, 2, 3, 24] [3] (by simp [g1, g2, g3] <;> rfl) ?_   -- codec.go:56
  refine aw_cond rfl (fun h1 => by simp at h1) (fun h1 => aw_skip ?_)   -- if t24
  refine aw_seq ?_
  refine aw_step [1, 2, 3, 53] [3] (by simp <;> rfl) ?_   -- codec.go:59
  refine aw_cond rfl (fun h2 => ?_) (fun h2 => aw_skip ?_)   -- if t53
  · exfalso
    rcases hkind with ⟨rfl, rfl, h⟩ | ⟨rfl, rfl, h, _⟩ | ⟨rfl, rfl, rfl, _⟩
    · rw [hl0 h] at h2; simp at h2
    · rw [hl0 h] at h2; simp at h2
    · simp at h2
  refine aw_seq (aw_region ?_)   -- codec.go:62
  refine awl_go 3 (by simp <;> rfl) ?_
  have hv1 := vl_b (IntKind.u64.wrap t)
  have hva1 := varintLen_ac (IntKind.u64.wrap t)
  generalize vl (IntKind.u64.wrap t) = k1 at hv1 hva1
  have hw1 : IntKind.i64.wrap (k1 + 1) = k1 + 1 := wrap_in (by omega) (by omega)
  refine awl_call1 hva1 Try.func29 rfl (by kernel_rfl) rfl rfl rfl rfl rfl (by simp <;> rfl) ?_
  refine awl_end [1, 2, 3, 8] [3] (by simp [hw1] <;> rfl) ?_
  refine aw_viaE (fun p : Int × Nat => ⟨[(1, .int .i64 lv), (2, .int .i64 room), (3, .bp 3 0 5 0 0), (8, .int .i64 p.1)], [(3, ⟨0, 5, 24, [.agg [.int .i64 t, .int .i64 kd, .int .i64 n, .str s, .ro 5 kv]]⟩)], p.2, 130⟩) (fun p => 0 ≤ p.1 ∧ p.1 ≤ 21 + s.length) ?_ ?_
  · refine aw_step [1, 2, 3, 8, 60] [3] (by simp <;> rfl) ?_   -- codec.go:63
    refine aw_block ?_
    refine aw_step [1, 2, 3, 8, 60, 61] [3] (by simp <;> rfl) ?_   -- codec.go:64
    refine aw_cond rfl (fun h3 => ?_) (fun h3 => ?_)   -- if t61
    · refine aw_region ?_   -- codec.go:65
      refine awl_go 3 (by simp <;> rfl) ?_
      refine awl_call rfl rfl rfl Try.func30 rfl (by kernel_rfl) rfl (by simp) (fold_ac _) ?_
      rintro r ⟨k2, rfl⟩
      refine ⟨_, rfl, ?_⟩
      have hv3 := vl_b k2
      have hva3 := varintLen_ac k2
      generalize vl k2 = k3 at hv3 hva3
      have hw3 : IntKind.i64.wrap (k1 + 1 + k3) = k1 + 1 + k3 := wrap_in (by omega) (by omega)
      refine awl_call1 hva3 Try.func29 rfl (by kernel_rfl) rfl rfl rfl rfl rfl (by simp <;> rfl) ?_
      refine awl_end [1, 2, 3, 8] [3] (by simp [hw3] <;> rfl) ?_
      exact ⟨(k1 + 1 + k3, _), ⟨by simp only; omega, by simp only; omega⟩, AS.le_refl _⟩
    · refine aw_step [1, 2, 3, 8, 60, 69] [3] (by simp <;> rfl) ?_   -- codec.go:66
      refine aw_cond rfl (fun h4 => ?_) (fun h4 => ?_)   -- if t69
      · have hv3 := vl_b (IntKind.u64.wrap s.length)
        have hva3 := varintLen_ac (IntKind.u64.wrap s.length)
        generalize vl (IntKind.u64.wrap s.length) = k3 at hv3 hva3
        have hw3 : IntKind.i64.wrap (k3 + s.length) = k3 + s.length := wrap_in (by omega) (by omega)
        have hw4 : IntKind.i64.wrap (k1 + 1 + (k3 + s.length)) = k1 + 1 + (k3 + s.length) := wrap_in (by omega) (by omega)
        refine aw_draw [(0, []), (1, []), (6, []), (2, []), (3, []), (4, []), (5, []), (7, []), (8, []), (9, []), (10, []), (11, [])] hmix (by kernel_rfl) ?_   -- codec.go:67
        refine awo_go 6 (by simp <;> rfl) ?_
        refine awo_call (fun hg => hva3) Try.func29 rfl (by kernel_rfl) rfl rfl (by simp <;> rfl) rfl rfl (by simp <;> rfl) (by simp) (by simp <;> rfl) ?_
        refine awo_end [1, 2, 3, 8] [3] (by simp [hw3, hw4] <;> rfl) ?_
        exact ⟨(k1 + 1 + (k3 + s.length), _), ⟨by simp only; omega, by simp only; omega⟩, AS.le_refl _⟩
      · refine aw_step [1, 2, 3, 8, 82] [3] (by simp <;> rfl) ?_   -- codec.go:68
        refine aw_cond rfl (fun h5 => ?_) (fun h5 => ?_)   -- if t82
        · refine aw_region ?_   -- codec.go:69
          refine awl_go 5 (by simp <;> rfl) ?_
          have hv3 := vl_b (IntKind.u64.wrap kv.length)
          have hva3 := varintLen_ac (IntKind.u64.wrap kv.length)
          generalize vl (IntKind.u64.wrap kv.length) = k3 at hv3 hva3
          have hw3 : IntKind.i64.wrap (k1 + 1 + k3) = k1 + 1 + k3 := wrap_in (by omega) (by omega)
          refine awl_call1 hva3 Try.func29 rfl (by kernel_rfl) rfl rfl rfl rfl rfl (by simp <;> rfl) ?_
          refine awl_end [1, 2, 3, 8] [3] (by simp [hw3] <;> rfl) ?_
          exact ⟨(k1 + 1 + k3, _), ⟨by simp only; omega, by simp only; omega⟩, AS.le_refl _⟩
        · exfalso
          simp at h3 h4 h5
          omega
  rintro ⟨sz, nx0⟩ ⟨hsz, hsz'⟩
  simp only at hsz hsz'
  have hroom2 : ¬ room < sz := by omega
  refine aw_seq ?_
  refine aw_step [1, 2, 3, 8, 105] [3] (by simp [hkv2, hss2, hroom2] <;> rfl) ?_   -- codec.go:73
  refine aw_cond rfl (fun h4 => by simp at h4) (fun h4 => aw_skip ?_)   -- if t105
  refine aw_seq ?_
  refine aw_step [1, 2, 8, 107, 108, 109] [] (by simp <;> rfl) ?_   -- codec.go:76
  refine aw_block ?_
  refine aw_loop (fun p : Nat × Int × Nat => ⟨[(1, .int .i64 lv), (2, .int .i64 room), (8, .int .i64 p.2.1), (107, .ro 5 kv), (108, .int .i64 kv.length), (109, .int .i64 p.1)], [], p.2.2, 130⟩) (fun p => p.1 ≤ l.length ∧ 0 ≤ p.2.1 ∧ p.2.1 ≤ 21 + s.length + sumC c (l.take p.1)) (fun p => l.length - p.1) (0, sz, _) ⟨Nat.zero_le _, hsz, by simpa [sumC] using hsz'⟩ (AS.le_refl _) ?_
  rintro ⟨k, q, nx⟩ ⟨hk, hq0, hq1⟩
  simp only at hk hq0 hq1
  have hsl := sumC_le (c := c) (l := l) k hc
  refine aw_step [1, 2, 8, 107, 108, 109, 110] [] (by simp <;> rfl) ?_   -- codec.go:76
  refine aw_seq ?_
  refine aw_cond rfl (fun h5 => aw_skip ?_) (fun h5 => ?_)   -- if t110
  · have hlt : k < l.length := by simp at h5; omega
    have hlt' : k < kv.length := by omega
    have ga := hga k hlt
    have hst := sumC_take (c := c) hlt
    have hsl1 := sumC_le (c := c) (l := l) (k + 1) hc
    have hcall := hkids l[k] (List.getElem_mem hlt) (room - q) (by omega) (by omega)
    have hwk := wrap_succ (k := k) (by omega)
    have hwl : IntKind.i64.wrap (lv + 1) = lv + 1 := wrap_in (by omega) (by omega)
    have hwr : IntKind.i64.wrap (room - q) = room - q := wrap_in (by omega) (by omega)
    generalize c l[k] = ck at hst hcall
    rcases hkk : l[k] with ⟨kt, kk, kn, kss, kks⟩
    rw [hkk] at ga hcall
    rw [Nd.v] at ga hcall
    generalize kks.map Nd.v = kkv at ga hcall
    refine aw_seq ?_
    refine aw_block ?_
    refine aw_step [1, 2, 8, 10, 107, 108, 109] [10] (by simp [ga, hlt'] <;> rfl) ?_   -- codec.go:76
    refine aw_seq (aw_region ?_)   -- codec.go:77
    refine awl_go 6 (by simp [hwl, hwr] <;> rfl) ?_
    refine awl_call rfl rfl rfl Try.func20 rfl (by kernel_rfl) rfl (by simp) hcall ?_
    rintro r ⟨p, rfl, hp0, hp1⟩
    have hwp : IntKind.i64.wrap (q + p) = q + p := wrap_in (by omega) (by omega)
    refine ⟨_, rfl, ?_⟩
    refine awl_end [1, 2, 8, 11, 12, 107, 108, 109] [] (by simp <;> rfl) ?_
    refine aw_seq ?_
    refine aw_step [1, 2, 8, 11, 107, 108, 109, 124] [] (by simp <;> rfl) ?_   -- codec.go:78
    refine aw_cond rfl (fun h6 => by simp at h6) (fun h6 => aw_skip ?_)   -- if t124
    refine aw_one [1, 2, 8, 107, 108, 109] [] (by simp [hwp] <;> rfl) ?_   -- codec.go:81
    refine aw_one [1, 2, 8, 107, 108, 109] [] (by simp [hwk] <;> rfl) ?_   -- codec.go:76
    exact ⟨(k + 1, q + p, _), ⟨hlt, by simp only; omega, by simp only; omega⟩, by simp only; omega, AS.le_refl _⟩
  · refine aw_exit ?_
    refine aw_step [6, 7] [] (by simp <;> rfl) ?_   -- codec.go:83
    refine aw_ret (ends_ret (by simp [Try.results20] <;> rfl) ?_)
    exact ⟨q, rfl, hq0, by omega⟩
end Go.Proofs.Ytmkbhognijicjaa
