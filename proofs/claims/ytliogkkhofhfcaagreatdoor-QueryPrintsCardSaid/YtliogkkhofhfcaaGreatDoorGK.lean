import Derived.Test.YtliogkkhofhfcaaGreatDoorGJ
/- Query: the law's small functions. No condition. -/
set_option linter.unusedSimpArgs false
set_option maxRecDepth 4000
namespace Go.Proofs.YtliogkkhofhfcaaGreatDoor
open Go.Eng
open Classical in
/-- Whether two queries are equal. -/
noncomputable def sameQ (a b : Qy) : Bool := decide (a = b)
theorem sameQ_self (a : Qy) : sameQ a a = true := by simp [sameQ]

def notQy (p : Qy) : Qy := .mk 3 0 0 [] [] [p]
def andQy (p q : Qy) : Qy := .mk 1 0 0 [] [] [p, q]
def orQy (p q : Qy) : Qy := .mk 2 0 0 [] [] [p, q]
theorem not_ac (p : Qy) : AC Tryz.prog 16 [p.v] (fun r => r = (notQy p).v) := by
  obtain ⟨xk, xc, xn, xf, xs, xks⟩ := p
  have hpk := pureQ xks
  rw [notQy, Qy.v, Qy.v, List.map_cons, List.map_nil, Qy.v]
  generalize xks.map Qy.v = xv at hpk
  refine ac_intro Tryz.func16 rfl (by show (1 : Nat) ≤ 6; omega) (fun w0 N0 => ?_)
  refine aw_step [1, 2] [1, 2] (by simp [Tryz.ntmps16] <;> rfl) ?_   -- law.go:37
  refine aw_step [2] [2, 4] (by simp <;> rfl) ?_   -- law.go:37
  refine aw_freeze 4 [2] [2] (by simp [hpk, Eng.get] <;> rfl) ?_
  exact aw_ret (ends_ret (by simp [Tryz.results16] <;> rfl) rfl)
theorem and_ac (p q : Qy) : AC Tryz.prog 17 [p.v, q.v] (fun r => r = (andQy p q).v) := by
  obtain ⟨xk, xc, xn, xf, xs, xks⟩ := p
  obtain ⟨yk, yc, yn, yf, ys, yks⟩ := q
  have hpk := pureQ xks
  have hpy := pureQ yks
  rw [andQy, Qy.v, Qy.v, Qy.v, List.map_cons, List.map_cons, List.map_nil, Qy.v, Qy.v]
  generalize xks.map Qy.v = xv at hpk
  generalize yks.map Qy.v = yv at hpy
  refine ac_intro Tryz.func17 rfl (by show (2 : Nat) ≤ 9; omega) (fun w0 N0 => ?_)
  refine aw_step [2, 3, 4] [2, 3, 4] (by simp [Tryz.ntmps17] <;> rfl) ?_
  refine aw_step [4] [4, 7] (by simp <;> rfl) ?_
  refine aw_freeze 7 [4] [4] (by simp [hpk, hpy, Eng.get] <;> rfl) ?_
  exact aw_ret (ends_ret (by simp [Tryz.results17] <;> rfl) rfl)
theorem or_ac (p q : Qy) : AC Tryz.prog 18 [p.v, q.v] (fun r => r = (orQy p q).v) := by
  obtain ⟨xk, xc, xn, xf, xs, xks⟩ := p
  obtain ⟨yk, yc, yn, yf, ys, yks⟩ := q
  have hpk := pureQ xks
  have hpy := pureQ yks
  rw [orQy, Qy.v, Qy.v, Qy.v, List.map_cons, List.map_cons, List.map_nil, Qy.v, Qy.v]
  generalize xks.map Qy.v = xv at hpk
  generalize yks.map Qy.v = yv at hpy
  refine ac_intro Tryz.func18 rfl (by show (2 : Nat) ≤ 9; omega) (fun w0 N0 => ?_)
  refine aw_step [2, 3, 4] [2, 3, 4] (by simp [Tryz.ntmps18] <;> rfl) ?_
  refine aw_step [4] [4, 7] (by simp <;> rfl) ?_
  refine aw_freeze 7 [4] [4] (by simp [hpk, hpy, Eng.get] <;> rfl) ?_
  exact aw_ret (ends_ret (by simp [Tryz.results18] <;> rfl) rfl)

theorem equal_ac (a b : List Int) : AC Tryz.prog 26 [.ro 1 (nums a), .ro 1 (nums b)] (fun r => r = .bool (decide (a = b))) := by
  refine ac_lenR 0 rfl (fun hmax => ?_)
  unfold maxLen at hmax
  have hga : ∀ (k : Nat) (h : k < a.length), nth (nums a) k = some (.int .i64 a[k]) := fun k h => by rw [nth_eq]; simp [nums, h]
  have hgb : ∀ (k : Nat) (h : k < b.length), nth (nums b) k = some (.int .i64 b[k]) := fun k h => by rw [nth_eq]; simp [nums, h]
  have hla : (nums a).length = a.length := by simp [nums]
  have hlb : (nums b).length = b.length := by simp [nums]
  generalize nums a = av at *
  generalize nums b = bv at *
  refine ac_intro Tryz.func26 rfl (by show (2 : Nat) ≤ 26; omega) (fun w0 N0 => ?_)
  refine aw_step [0, 1] [] (by simp [Tryz.ntmps26] <;> rfl) ?_   -- law.go:24
  refine aw_seq ?_
  refine aw_step [0, 1, 10] [] (by simp <;> rfl) ?_   -- law.go:25
  refine aw_cond rfl (fun h1 => ?_) (fun h1 => aw_skip ?_)   -- if t10
  · refine aw_step [4] [] (by simp <;> rfl) ?_   -- law.go:26
    refine aw_ret (ends_ret (by simp [Tryz.results26] <;> rfl) ?_)
    have hne : ¬ a = b := by rintro rfl; simp at h1; omega
    simp [hne]
  have hab : a.length = b.length := by simp at h1; omega
  refine aw_seq ?_
  refine aw_step [0, 1, 12, 13] [] (by simp <;> rfl) ?_   -- law.go:28
  refine aw_block ?_
  refine aw_count (fun k nx => ⟨[(0, .ro 1 av), (1, .ro 1 bv), (12, .int .i64 av.length), (13, .int .i64 k)], [], nx, 26⟩) (fun k => a.take k = b.take k) a.length _ rfl (AS.le_refl _) ?_
  intro k nx hk hI
  refine aw_step [0, 1, 12, 13, 14] [] (by simp <;> rfl) ?_   -- law.go:28
  refine aw_seq ?_
  refine aw_cond rfl (fun h2 => aw_skip ?_) (fun h2 => ?_)   -- if t14
  · have hlt : k < a.length := by simp at h2; omega
    have hltb : k < b.length := by omega
    have h3 : k < av.length := by omega
    have h4 : k < bv.length := by omega
    have ga := hga k hlt
    have gb := hgb k hltb
    have hw := wrap_succ (k := k) (by omega)
    refine aw_seq ?_
    refine aw_block ?_
    refine aw_step [0, 1, 5, 12, 13] [] (by simp <;> rfl) ?_   -- law.go:28
    refine aw_dstep [(0, []), (1, []), (2, []), (4, []), (5, []), (6, []), (3, []), (7, []), (8, [])] [0, 1, 12, 13, 24] [] hmix (by kernel_rfl) (by simp [ga, gb, h3, h4] <;> rfl) ?_   -- law.go:29
    refine aw_cond rfl (fun h3 => ?_) (fun h3 => aw_skip ?_)   -- if t24
    · refine aw_step [4] [] (by simp <;> rfl) ?_   -- law.go:30
      refine aw_ret (ends_ret (by simp [Tryz.results26] <;> rfl) ?_)
      have hne : ¬ a = b := by rintro rfl; simp at h3
      simp [hne]
    refine aw_one [0, 1, 12, 13] [] (by simp [hw] <;> rfl) ?_   -- law.go:28
    have he : a[k] = b[k] := by simpa using h3
    refine ⟨hlt, ?_, _, AS.le_refl _⟩
    rw [List.take_succ_eq_append_getElem hlt, List.take_succ_eq_append_getElem hltb, hI, he]
  · have hke : k = a.length := by simp at h2; omega
    subst hke
    refine aw_exit ?_
    refine aw_step [4] [] (by simp <;> rfl) ?_   -- law.go:33
    refine aw_ret (ends_ret (by simp [Tryz.results26] <;> rfl) ?_)
    have he : a = b := by rw [List.take_length, hab, List.take_length] at hI; exact hI
    simp [he]
theorem has_ac (a : List Int) (n : Int) : AC Tryz.prog 21 [.ro 1 (nums a), .int .i64 n] (fun r => r = .bool (decide (n ∈ a))) := by
  refine ac_lenR 0 rfl (fun hmax => ?_)
  unfold maxLen at hmax
  have hga : ∀ (k : Nat) (h : k < a.length), nth (nums a) k = some (.int .i64 a[k]) := fun k h => by rw [nth_eq]; simp [nums, h]
  have hla : (nums a).length = a.length := by simp [nums]
  generalize nums a = av at *
  refine ac_intro Tryz.func21 rfl (by show (2 : Nat) ≤ 17; omega) (fun w0 N0 => ?_)
  refine aw_step [0, 1] [] (by simp [Tryz.ntmps21] <;> rfl) ?_   -- law.go:119
  refine aw_seq ?_
  refine aw_step [1, 7, 8, 9] [] (by simp <;> rfl) ?_   -- law.go:120
  refine aw_block ?_
  refine aw_count (fun k nx => ⟨[(1, .int .i64 n), (7, .ro 1 av), (8, .int .i64 av.length), (9, .int .i64 k)], [], nx, 17⟩) (fun k => n ∉ a.take k) a.length _ (by simp) (AS.le_refl _) ?_
  intro k nx hk hI
  refine aw_step [1, 7, 8, 9, 10] [] (by simp <;> rfl) ?_   -- law.go:120
  refine aw_seq ?_
  refine aw_cond rfl (fun h1 => aw_skip ?_) (fun h1 => ?_)   -- if t10
  · have hlt : k < a.length := by simp at h1; omega
    have h3 : k < av.length := by omega
    have ga := hga k hlt
    have hw := wrap_succ (k := k) (by omega)
    refine aw_seq ?_
    refine aw_block ?_
    refine aw_step [1, 6, 7, 8, 9] [] (by simp [ga, h3] <;> rfl) ?_   -- law.go:120
    refine aw_step [1, 7, 8, 9, 15] [] (by simp <;> rfl) ?_   -- law.go:121
    refine aw_cond rfl (fun h2 => ?_) (fun h2 => aw_skip ?_)   -- if t15
    · refine aw_step [4] [] (by simp <;> rfl) ?_   -- law.go:122
      refine aw_ret (ends_ret (by simp [Tryz.results21] <;> rfl) ?_)
      have he : a[k] = n := by simpa using h2
      have hm : n ∈ a := he ▸ List.getElem_mem hlt
      simp [hm]
    refine aw_one [1, 7, 8, 9] [] (by simp [hw] <;> rfl) ?_   -- law.go:120
    have he : ¬ a[k] = n := by simpa using h2
    refine ⟨hlt, ?_, _, AS.le_refl _⟩
    rw [List.take_succ_eq_append_getElem hlt]
    simp only [List.mem_append, List.mem_singleton, not_or]
    exact ⟨hI, fun h => he h.symm⟩
  · have hke : k = a.length := by simp at h1; omega
    subst hke
    refine aw_exit ?_
    refine aw_step [4] [] (by simp <;> rfl) ?_   -- law.go:125
    refine aw_ret (ends_ret (by simp [Tryz.results21] <;> rfl) ?_)
    rw [List.take_length] at hI
    simp [hI]

set_option maxHeartbeats 4000000 in
theorem same_ac : ∀ (m : Nat) (a b : Qy), SizeOf.sizeOf a < m → AC Tryz.prog 14 [a.v, b.v] (fun r => r = .bool (sameQ a b)) := by
  intro m
  induction m with
  | zero => intro a b h; omega
  | succ m ih0 =>
  rintro ⟨ak, acc, an, af, ass, aks⟩ ⟨bk, bc, bn, bf, bs, bks⟩ hm
  have ih : ∀ x ∈ aks, ∀ y, AC Tryz.prog 14 [x.v, y.v] (fun r => r = .bool (sameQ x y)) := by
    intro x hx y
    have := Qy.kid_lt (k := ak) (c := acc) (n := an) (f := af) (s := ass) hx
    exact ih0 x y (by omega)
  clear ih0
  have hga := fun (k : Nat) (h : k < aks.length) => nthQ h
  have hgb := fun (k : Nat) (h : k < bks.length) => nthQ h
  have hla : (aks.map Qy.v).length = aks.length := by simp
  have hlb : (bks.map Qy.v).length = bks.length := by simp
  rw [Qy.v, Qy.v]
  have hpa := pureQ aks
  have hpb := pureQ bks
  generalize hkv : aks.map Qy.v = av at hga hla hpa
  generalize hkw : bks.map Qy.v = bv at hgb hlb hpb
  refine ac_intro Tryz.func14 rfl (by show (2 : Nat) ≤ 67; omega) (fun w0 N0 => ?_)
  refine aw_step [2, 3] [2, 3] (by simp [Tryz.ntmps14] <;> rfl) ?_   -- law.go:11
  refine aw_seq ?_
  refine aw_step [2, 3, 47] [2, 3] (by simp <;> rfl) ?_   -- law.go:12
  refine aw_cond rfl (fun h1 => ?_) (fun h1 => aw_skip ?_)   -- if t47
  · refine aw_step [4] [] (by simp <;> rfl) ?_   -- law.go:13
    refine aw_ret (ends_ret (by simp [Tryz.results14] <;> rfl) ?_)
    have hne : ¬ (Qy.mk ak acc an af ass aks = Qy.mk bk bc bn bf bs bks) := by
      intro h
      injection h with h1' h2' h3' h4' h5' h6'
      subst h1' h2' h3' h4' h5' h6'
      simp at h1
      omega
    simp [sameQ, hne]
  have hflat : ak = bk ∧ acc = bc ∧ an = bn ∧ af = bf ∧ ass = bs ∧ aks.length = bks.length := by
    simp at h1
    refine ⟨h1.1.1.1.1.1, h1.1.1.1.1.2, h1.1.1.1.2, h1.1.1.2, h1.1.2, ?_⟩
    have := h1.2
    omega
  obtain ⟨rfl, rfl, rfl, rfl, rfl, hab⟩ := hflat
  refine aw_seq ?_
  refine aw_step [2, 3, 49, 50, 51] [2, 3] (by simp <;> rfl) ?_   -- law.go:15
  refine aw_len 49 rfl (fun hmax => ?_)
  unfold maxLen at hmax
  refine aw_block ?_
  refine aw_count (fun k nx => ⟨[(2, .bp 2 0 6 0 0), (3, .bp 3 1 6 0 0), (49, .ro 6 av), (50, .int .i64 av.length), (51, .int .i64 k)], [(2, ⟨0, 6, 24, [.agg [.int .i64 ak, .int .i64 acc, .int .i64 an, .str af, .str ass, .ro 6 av]]⟩), (3, ⟨1, 6, 24, [.agg [.int .i64 ak, .int .i64 acc, .int .i64 an, .str af, .str ass, .ro 6 bv]]⟩)], nx, 67⟩) (fun k => aks.take k = bks.take k) aks.length _ rfl (AS.le_refl _) ?_
  intro k nx hk hI
  refine aw_step [2, 3, 49, 50, 51, 52] [2, 3] (by simp <;> rfl) ?_   -- law.go:15
  refine aw_seq ?_
  refine aw_cond rfl (fun h2 => aw_skip ?_) (fun h2 => ?_)   -- if t52
  · have hlt : k < aks.length := by simp at h2; omega
    have hltb : k < bks.length := by omega
    have h3 : k < av.length := by omega
    have h4 : k < bv.length := by omega
    have ga := hga k hlt
    have gb := hgb k hltb
    have hw := wrap_succ (k := k) (by omega)
    have hta := List.take_succ_eq_append_getElem (l := aks) (i := k) hlt
    have htb := List.take_succ_eq_append_getElem (l := bks) (i := k) hltb
    have hmem : aks[k] ∈ aks := List.getElem_mem hlt
    have hc := ih _ hmem bks[k]
    have hgk : ∀ h : aks = bks, aks[k] = bks[k] := fun h => by simp [h]
    generalize aks[k] = x at ga hta hc hgk
    generalize bks[k] = y at gb htb hc hgk
    have hxy : sameQ x y = true → x = y := fun h => by simpa [sameQ] using h
    have hyx : x = y → sameQ x y = true := fun h => by simpa [sameQ] using h
    generalize sameQ x y = sb at hc hxy hyx
    obtain ⟨xk, xc, xn, xf, xs, xks⟩ := x
    obtain ⟨yk, yc, yn, yf, ys, yks⟩ := y
    rw [Qy.v, Qy.v] at hc
    rw [Qy.v] at ga gb
    have hpx := pureQ xks
    have hpy := pureQ yks
    generalize xks.map Qy.v = xkv at ga hc hpx
    generalize yks.map Qy.v = ykv at gb hc hpy
    refine aw_seq ?_
    refine aw_block ?_
    refine aw_step [2, 3, 5, 49, 50, 51] [2, 3] (by simp <;> rfl) ?_   -- law.go:15
    refine aw_seq (aw_draw [(0, []), (2, []), (5, []), (7, []), (1, []), (3, []), (4, []), (6, []), (8, []), (9, []), (10, []), (11, [])] hmix (by kernel_rfl) ?_)   -- law.go:16
    refine awo_go 10 (by simp [ga, gb, h3, h4] <;> rfl) ?_
    refine awo_call (fun hg => hc) Tryz.func14 rfl (by kernel_rfl) rfl rfl (by simp <;> rfl) rfl rfl (by simp <;> rfl) (by simp [V.pureV, V.pureE]) (by simp <;> rfl) ?_
    refine awo_end [2, 3, 49, 50, 51, 65] [2, 3] (by simp <;> rfl) ?_
    refine aw_cond rfl (fun h3 => ?_) (fun h3 => aw_skip ?_)   -- if t65
    · refine aw_step [4] [] (by simp <;> rfl) ?_   -- law.go:17
      refine aw_ret (ends_ret (by simp [Tryz.results14] <;> rfl) ?_)
      have hne : ¬ (Qy.mk ak acc an af ass aks = Qy.mk ak acc an af ass bks) := by
        intro h
        injection h with _ _ _ _ _ h
        have := hyx (hgk h)
        rw [this] at h3
        simp at h3
      simp [sameQ, hne]
    refine aw_one [2, 3, 49, 50, 51] [2, 3] (by simp [hw] <;> rfl) ?_   -- law.go:15
    have he := hxy (by simpa using h3)
    exact ⟨hlt, by rw [hta, htb, hI, he], _, AS.le_refl _⟩
  · have hke : k = aks.length := by simp at h2; omega
    subst hke
    refine aw_exit ?_
    refine aw_step [4] [] (by simp <;> rfl) ?_   -- law.go:20
    refine aw_ret (ends_ret (by simp [Tryz.results14] <;> rfl) ?_)
    have he : aks = bks := by rw [List.take_length, hab, List.take_length] at hI; exact hI
    simp [sameQ, he]
end Go.Proofs.YtliogkkhofhfcaaGreatDoor

/- Query: awake, the values. No condition. -/
set_option linter.unusedSimpArgs false
set_option maxRecDepth 10000
namespace Go.Proofs.YtliogkkhofhfcaaGreatDoor
open Go.Eng
def qW : Qy := .mk 4 1 50 [119, 111, 114, 100, 115] [] []
def qC : Qy := .mk 7 0 0 [] [99, 104, 111, 105, 99, 101] []
def qH : Qy := .mk 6 0 0 [] [104, 101, 108, 100] []
def qAw : Qy := orQy qW (andQy qC (notQy qH))
def tAw : List UInt8 := [119, 111, 114, 100, 115, 32, 60, 32, 53, 48, 32, 111, 114, 32, 107, 105, 110, 100, 32, 99, 104, 111, 105, 99, 101, 32, 97, 110, 100, 32, 110, 111, 116, 32, 115, 116, 97, 116, 101, 32, 104, 101, 108, 100]
def itAw : It := { id := 7, ver := 0, kind := 1, stem := [], opts := [], ch := [], value := 0, tol := 0, texts := [], points := 0, code := [], fam := 0, set := 0, words := 90, secs := 0, ass := [], rub := 0 }
def eAw : En := ⟨[itAw], 5, 0, [], [], [], []⟩
def eZ : En := ⟨[], 0, 0, [], [], [], []⟩
def bAw : Bk := ⟨0, [], [], [], [], [eAw, eZ], []⟩
def bZ : Bk := ⟨0, [], [], [], [], [], []⟩
theorem awC : (wr 8 qAw []) = (tAw, true) := by kernel_rfl
theorem canB : canonB qAw = true := by unfold canonB; rw [awC]; rfl
theorem canT : canonT qAw = tAw := by unfold canonT; rw [canB, awC]; rfl
def sP1 : List UInt8 := [32, 119, 111, 114, 100, 115, 60, 53, 48, 32, 111, 114, 32, 40, 107, 105, 110, 100, 32, 99, 104, 111, 105, 99, 101, 41, 32, 97, 110, 100, 32, 110, 111, 116, 32, 115, 116, 97, 116, 101, 32, 104, 101, 108, 100, 32]
theorem awP1 : parseP sP1 = .ok qAw := by kernel_rfl
theorem awP2 : parseP [112, 111, 105, 110, 116, 115, 62, 61, 50, 97, 110, 100] = .error (8, 2) := by kernel_rfl
theorem awP3 : parseP [110, 111, 116, 32, 110, 111, 116, 32, 115, 116, 97, 116, 101, 32, 104, 101, 108, 100] = .error (4, 2) := by kernel_rfl
theorem awP4 : parseP [105, 100, 32, 61] = .error (4, 2) := by kernel_rfl
theorem awM1 : matchQ bZ eAw qAw = true := by kernel_rfl
theorem awM2 : matchQ bZ eAw (notQy qAw) = false := by kernel_rfl
theorem awS : selQ bAw qAw = [7] := by kernel_rfl
theorem smAw : SmQ qAw := by
  have sW : SmQ qW := .mk (by decide) (by decide) (by simp)
  have sC : SmQ qC := .mk (by decide) (by decide) (by simp)
  have sH : SmQ qH := .mk (by decide) (by decide) (by simp)
  have sN : SmQ (notQy qH) := .mk (by decide) (by decide) (by simp; exact sH)
  have sA : SmQ (andQy qC (notQy qH)) := .mk (by decide) (by decide) (by simp; exact ⟨sC, sN⟩)
  exact .mk (by decide) (by decide) (by simp; exact ⟨sW, sA⟩)
theorem smNw : SmQ (notQy qAw) := .mk (by decide) (by decide) (by simp; exact smAw)

theorem relax_ro1 {sz : Nat} {cs ds : List V} (h : RelaxL cs ds) : Relax (.ro sz [.agg cs]) (.ro sz [.agg ds]) := by
  refine Relax.ro (.cons (Relax.agg h) .nil) (fun k e f he hf => ?_)
  cases k with
  | zero =>
    simp at he hf
    subst he hf
    refine ⟨h.length, fun j c d hc hd => ?_⟩
    obtain ⟨v, h1, h2⟩ := h.get j d hd
    rw [show (V.agg cs).cells[j]? = cs[j]? from rfl, h1] at hc
    injection hc with hc
    exact hc ▸ h2
  | succ k => simp at he
theorem relax_ro2 {sz : Nat} {cs ds cs' ds' : List V} (h : RelaxL cs ds) (h' : RelaxL cs' ds') : Relax (.ro sz [.agg cs, .agg cs']) (.ro sz [.agg ds, .agg ds']) := by
  refine Relax.ro (.cons (Relax.agg h) (.cons (Relax.agg h') .nil)) (fun k e f he hf => ?_)
  match k with
  | 0 =>
    simp at he hf
    subst he hf
    refine ⟨h.length, fun j c d hc hd => ?_⟩
    obtain ⟨v, h1, h2⟩ := h.get j d hd
    rw [show (V.agg cs).cells[j]? = cs[j]? from rfl, h1] at hc
    injection hc with hc
    exact hc ▸ h2
  | 1 =>
    simp at he hf
    subst he hf
    refine ⟨h'.length, fun j c d hc hd => ?_⟩
    obtain ⟨v, h1, h2⟩ := h'.get j d hd
    rw [show (V.agg cs').cells[j]? = cs'[j]? from rfl, h1] at hc
    injection hc with hc
    exact hc ▸ h2
  | k + 2 => simp at he
/-- The item, the entries and the banks as the law builds them. -/
abbrev itV : V := .agg [.int .i64 7, .int .i64 0, .int .i64 1, .str [], .nils, .nils, .int .i64 0, .int .i64 0, .nils, .int .i64 0, .str [], .int .i64 0, .int .i64 0, .int .i64 90, .int .i64 0, .nils, .int .i64 0]
abbrev eV : V := .agg [.ro 17 [itV], .int .i64 5, .int .i64 0, .nils, .nils, .nils, .nils]
abbrev zV : V := .agg [.nils, .int .i64 0, .int .i64 0, .nils, .nils, .nils, .nils]
abbrev bV : V := .agg [.int .i64 0, .nils, .nils, .nils, .nils, .ro 7 [eV, zV], .nils]
abbrev bzV : V := .agg [.int .i64 0, .nils, .nils, .nils, .nils, .nils, .nils]
theorem rIt : Relax (.ro 17 [itV]) (.ro 17 [itAw.v]) := by
  refine relax_ro1 ?_
  repeat' first
    | exact Relax.refl _
    | exact Relax.nils _
    | apply RelaxL.cons
    | exact RelaxL.nil
theorem rEl : RelaxL [.ro 17 [itV], .int .i64 5, .int .i64 0, .nils, .nils, .nils, .nils] [.ro 17 ([itAw].map It.v), .int .i64 5, .int .i64 0, .ro 1 [], .ro 1 [], .ro 4 [], .ro 1 []] := by
  repeat' first
    | exact rIt
    | exact Relax.refl _
    | exact Relax.nils _
    | apply RelaxL.cons
    | exact RelaxL.nil
theorem rE : Relax eV eAw.v := Relax.agg rEl
theorem rZl : RelaxL [.nils, .int .i64 0, .int .i64 0, .nils, .nils, .nils, .nils] [.ro 17 ([].map It.v), .int .i64 0, .int .i64 0, .ro 1 [], .ro 1 [], .ro 4 [], .ro 1 []] := by
  repeat' first
    | exact Relax.refl _
    | exact Relax.nils _
    | apply RelaxL.cons
    | exact RelaxL.nil
theorem rEs : Relax (.ro 7 [eV, zV]) (.ro 7 ([eAw, eZ].map En.v)) := relax_ro2 rEl rZl
theorem rB : Relax bV bAw.v := by
  refine Relax.agg ?_
  repeat' first
    | exact rEs
    | exact Relax.refl _
    | exact Relax.nils _
    | apply RelaxL.cons
    | exact RelaxL.nil
theorem rBz : Relax bzV bZ.v := by
  refine Relax.agg ?_
  repeat' first
    | exact Relax.refl _
    | exact Relax.nils _
    | apply RelaxL.cons
    | exact RelaxL.nil
theorem aM1 : ACQ gv Tryz.prog 15 [bzV, eV, qAw.v] (fun r => r = .bool true) := by
  have := match_acq bZ eAw (by simp [eAw, itAw]) _ qAw (Nat.lt_succ_self _) smAw
  rw [awM1] at this
  exact this.argsR (.cons rBz (.cons rE (.cons (.refl _) .nil)))
theorem aM2 : ACQ gv Tryz.prog 15 [bzV, eV, (notQy qAw).v] (fun r => r = .bool false) := by
  have := match_acq bZ eAw (by simp [eAw, itAw]) _ (notQy qAw) (Nat.lt_succ_self _) smNw
  rw [awM2] at this
  exact this.argsR (.cons rBz (.cons rE (.cons (.refl _) .nil)))
theorem aS : ACQ gv Tryz.prog 20 [bV, qAw.v] (fun r => r = .ro 1 (nums [7])) := by
  have := select_acq bAw qAw (by simp [bAw, eAw, eZ, itAw]) smAw (by simp [bAw])
  rw [awS] at this
  exact this.argsR (.cons rB (.cons (.refl _) .nil))
theorem aP1 : ACQ gv Tryz.prog 13 [.str sP1] (fun r => r = .tup [qAw.v, .int .i64 0, .int .i64 0]) := by
  have := parse_acq sP1
  unfold parseV at this; rw [awP1] at this; exact this
theorem aP2 : ACQ gv Tryz.prog 13 [.str [112, 111, 105, 110, 116, 115, 62, 61, 50, 97, 110, 100]] (fun r => r = .tup [q0.v, .int .i64 8, .int .i64 2]) := by
  have := parse_acq [112, 111, 105, 110, 116, 115, 62, 61, 50, 97, 110, 100]
  unfold parseV at this; rw [awP2] at this; exact this
theorem aP3 : ACQ gv Tryz.prog 13 [.str [110, 111, 116, 32, 110, 111, 116, 32, 115, 116, 97, 116, 101, 32, 104, 101, 108, 100]] (fun r => r = .tup [q0.v, .int .i64 4, .int .i64 2]) := by
  have := parse_acq [110, 111, 116, 32, 110, 111, 116, 32, 115, 116, 97, 116, 101, 32, 104, 101, 108, 100]
  unfold parseV at this; rw [awP3] at this; exact this
theorem aP4 : ACQ gv Tryz.prog 13 [.str [105, 100, 32, 61]] (fun r => r = .tup [q0.v, .int .i64 4, .int .i64 2]) := by
  have := parse_acq [105, 100, 32, 61]
  unfold parseV at this; rw [awP4] at this; exact this
theorem aPr : ACQ gv Tryz.prog 8 [qAw.v] (fun r => r = .tup [.str tAw, .int .i64 0]) := by
  have := print_acq qAw
  rw [canT, canB] at this; exact this
end Go.Proofs.YtliogkkhofhfcaaGreatDoor

/- Query: awake. No condition. -/
set_option linter.unusedSimpArgs false
set_option maxRecDepth 10000
namespace Go.Proofs.YtliogkkhofhfcaaGreatDoor
open Go.Eng

set_option maxHeartbeats 8000000 in
theorem awake_acq : ACQ gv Tryz.prog 12 [] (fun r => r = .bool true) := by
  have vW : qW.v = .agg [.int .i64 4, .int .i64 1, .int .i64 50, .str [119, 111, 114, 100, 115], .str [], .ro 6 []] := by rw [qW, Qy.v]; rfl
  have vC : qC.v = .agg [.int .i64 7, .int .i64 0, .int .i64 0, .str [], .str [99, 104, 111, 105, 99, 101], .ro 6 []] := by rw [qC, Qy.v]; rfl
  have vH : qH.v = .agg [.int .i64 6, .int .i64 0, .int .i64 0, .str [], .str [104, 101, 108, 100], .ro 6 []] := by rw [qH, Qy.v]; rfl
  have vN : (notQy qH).v = .agg [.int .i64 3, .int .i64 0, .int .i64 0, .str [], .str [], .ro 6 [qH.v]] := by rw [notQy, Qy.v]; rfl
  have vA : (andQy qC (notQy qH)).v = .agg [.int .i64 1, .int .i64 0, .int .i64 0, .str [], .str [], .ro 6 [qC.v, (notQy qH).v]] := by rw [andQy, Qy.v]; rfl
  have vQ : qAw.v = .agg [.int .i64 2, .int .i64 0, .int .i64 0, .str [], .str [], .ro 6 [qW.v, (andQy qC (notQy qH)).v]] := by rw [qAw, orQy, Qy.v]; rfl
  have vM : (notQy qAw).v = .agg [.int .i64 3, .int .i64 0, .int .i64 0, .str [], .str [], .ro 6 [qAw.v]] := by rw [notQy, Qy.v]; rfl
  have v0 : q0.v = .agg [.int .i64 0, .int .i64 0, .int .i64 0, .str [], .str [], .ro 6 []] := by rw [q0, Qy.v]; rfl
  have a16 := not_ac qH
  have a17 := and_ac qC (notQy qH)
  have a18 := or_ac qW (andQy qC (notQy qH))
  have a8 := aPr
  have p1 := aP1
  have p2 := aP2
  have p3 := aP3
  have p4 := aP4
  have aS := aS
  have aM1 := aM1
  have aM2 := aM2
  have a14 := same_ac _ qAw qAw (Nat.lt_succ_self _)
  rw [sameQ_self] at a14
  have b16 := not_ac qAw
  have a26 := equal_ac [7] [7]
  rw [show decide (([7] : List Int) = [7]) = true from rfl, show nums [7] = [.int .i64 7] from rfl] at a26
  rw [show nums [7] = [.int .i64 7] from rfl] at aS
  change AC Tryz.prog 18 [qW.v, (andQy qC (notQy qH)).v] (fun r => r = qAw.v) at a18
  generalize [qH.v] = n1 at vN
  generalize [qC.v, (notQy qH).v] = n2 at vA
  generalize [qW.v, (andQy qC (notQy qH)).v] = qk at vQ
  generalize [qAw.v] = n3 at vM
  rw [vH, vN] at a16
  rw [vC, vN, vA] at a17
  rw [vW, vA, vQ] at a18
  rw [vQ, vM] at b16
  rw [vM] at aM2
  rw [vQ] at a8 p1 aS aM1 a14
  rw [v0] at p2 p3 p4
  clear vW vC vH vN vA vQ vM v0
  refine acq_intro Tryz.func12 rfl (by show (0 : Nat) ≤ 129; omega) (fun w0 N0 hG => ?_)
  refine aw_step [] [] (by simp [Tryz.ntmps12] <;> rfl) ?_   -- law.go:44
  refine aw_step [1] [1] (by simp <;> rfl) ?_   -- law.go:45
  refine aw_step [1, 2] [1, 2] (by simp <;> rfl) ?_   -- law.go:46
  refine aw_step [1, 2, 3] [1, 2, 3] (by simp <;> rfl) ?_   -- law.go:47
  refine aw_adoptC 1 5 201 6 24 [1, 2, 3] [1, 2, 3, 201] (by simp [Eng.get] <;> rfl) ?_
  refine aw_freeze 201 [1, 2, 3] [1, 2, 3] (by simp [Eng.get] <;> rfl) ?_
  refine aw_adoptC 2 5 201 6 24 [1, 2, 3] [1, 2, 3, 201] (by simp [Eng.get] <;> rfl) ?_
  refine aw_freeze 201 [1, 2, 3] [1, 2, 3] (by simp [Eng.get] <;> rfl) ?_
  refine aw_adoptC 3 5 201 6 24 [1, 2, 3] [1, 2, 3, 201] (by simp [Eng.get] <;> rfl) ?_
  refine aw_freeze 201 [1, 2, 3] [1, 2, 3] (by simp [Eng.get] <;> rfl) ?_
  refine aw_seq (aw_draw [(0, [4]), (1, [4]), (2, [4]), (3, []), (4, []), (5, []), (6, []), (7, [])] hmix (by kernel_rfl) ?_)   -- law.go:48
  refine awo_go 3 (by simp <;> rfl) ?_
  refine awo_call (fun hg => a16) Tryz.func16 rfl (by kernel_rfl) rfl rfl (by simp <;> rfl) rfl rfl (by simp <;> rfl) (by simp [V.pureV, V.pureE]) (by simp <;> rfl) ?_
  refine awo_call (fun hg => a17) Tryz.func17 rfl (by kernel_rfl) rfl rfl (by simp <;> rfl) rfl rfl (by simp <;> rfl) (by simp [V.pureV, V.pureE]) (by simp <;> rfl) ?_
  refine awo_call (fun hg => a18) Tryz.func18 rfl (by kernel_rfl) rfl rfl (by simp <;> rfl) rfl rfl (by simp <;> rfl) (by simp [V.pureV, V.pureE]) (by simp <;> rfl) ?_
  refine awo_end [4] [4] (by simp <;> rfl) ?_
  refine aw_step [4, 5] [4] (by simp <;> rfl) ?_   -- law.go:49
  refine aw_seq (aw_region ?_)   -- law.go:50
  refine awl_go 1 (by simp <;> rfl) ?_
  refine awl_callQ hG a8 Tryz.func8 rfl (by kernel_rfl) (by simp) rfl rfl rfl (by simp <;> rfl) (by simp [V.pureV, V.pureE]) (by simp <;> rfl) ?_
  refine awl_end [4, 5, 6, 7] [4] (by simp <;> rfl) ?_
  refine aw_seq (aw_region ?_)   -- law.go:51
  refine awl_callQ hG p1 Tryz.func13 rfl (by kernel_rfl) (by simp) rfl rfl rfl (by simp <;> rfl) (by simp [V.pureV, V.pureE]) (by simp <;> rfl) ?_
  refine awl_end [4, 5, 6, 7, 8, 9, 10] [4, 8] (by simp <;> rfl) ?_
  refine aw_seq (aw_region ?_)   -- law.go:52
  refine awl_callQ hG p2 Tryz.func13 rfl (by kernel_rfl) (by simp) rfl rfl rfl (by simp <;> rfl) (by simp [V.pureV, V.pureE]) (by simp <;> rfl) ?_
  refine awl_end [4, 5, 6, 7, 8, 9, 10, 12, 13] [4, 8] (by simp <;> rfl) ?_
  refine aw_seq (aw_region ?_)   -- law.go:53
  refine awl_callQ hG p3 Tryz.func13 rfl (by kernel_rfl) (by simp) rfl rfl rfl (by simp <;> rfl) (by simp [V.pureV, V.pureE]) (by simp <;> rfl) ?_
  refine awl_end [4, 5, 6, 7, 8, 9, 10, 12, 13, 15, 16] [4, 8] (by simp <;> rfl) ?_
  refine aw_seq (aw_region ?_)   -- law.go:54
  refine awl_callQ hG p4 Tryz.func13 rfl (by kernel_rfl) (by simp) rfl rfl rfl (by simp <;> rfl) (by simp [V.pureV, V.pureE]) (by simp <;> rfl) ?_
  refine awl_end [4, 5, 6, 7, 8, 9, 10, 12, 13, 15, 16, 18, 19] [4, 8] (by simp <;> rfl) ?_
  refine aw_step [4, 5, 6, 7, 8, 9, 10, 12, 13, 15, 16, 18, 19, 20] [4, 8, 20, 57] (by simp <;> rfl) ?_   -- law.go:55
  refine aw_freeze 57 [4, 5, 6, 7, 8, 9, 10, 12, 13, 15, 16, 18, 19, 20] [4, 8, 20] (by simp [Eng.get] <;> rfl) ?_
  refine aw_seq (aw_region ?_)   -- law.go:56
  refine awl_go 3 (by simp <;> rfl) ?_
  refine awl_freeze 62 [4, 5, 6, 7, 8, 9, 10, 12, 13, 15, 16, 18, 19, 20, 62] [4, 8, 20] (by simp [Eng.get] <;> rfl) ?_
  refine awl_go 2 (by simp <;> rfl) ?_
  refine awl_callQ hG aS Tryz.func20 rfl (by kernel_rfl) (by simp) rfl rfl rfl (by simp <;> rfl) (by simp [V.pureV, V.pureE]) (by simp <;> rfl) ?_
  refine awl_end [4, 5, 6, 7, 8, 9, 10, 12, 13, 15, 16, 18, 19, 20, 21] [4, 8, 20] (by simp <;> rfl) ?_
  refine aw_seq (aw_drawX [48, 55, 61] hmix ?_)   -- law.go:57
  refine at_go [(0, []), (1, []), (2, []), (3, []), (4, []), (5, []), (6, []), (7, []), (8, [126]), (9, [126])] (by kernel_rfl) (by simp <;> rfl) ?_
  refine at_call (i := 10) (ks := []) (by kernel_rfl) (fun _ => a14) Tryz.func14 rfl (by kernel_rfl) rfl (by simp) (by simp <;> rfl) rfl rfl (by simp <;> rfl) (by simp [V.pureV, V.pureE]) (by simp <;> rfl) ?_
  refine at_go [(11, []), (12, []), (13, []), (14, []), (15, []), (16, []), (17, []), (18, []), (19, []), (20, []), (21, []), (22, []), (23, []), (24, []), (25, []), (26, []), (27, []), (28, []), (29, []), (30, []), (31, []), (32, []), (33, []), (34, []), (35, []), (36, []), (37, []), (38, []), (39, []), (40, []), (41, []), (42, []), (43, []), (44, []), (45, []), (46, [126]), (47, [126])] (by kernel_rfl) (by simp <;> rfl) ?_
  refine at_step (i := 48) (ks := []) (by kernel_rfl) rfl (by simp) (sx_callQ (by simp) hG aM1 Tryz.func15 rfl (by kernel_rfl) (by simp <;> rfl) rfl rfl (by simp <;> rfl) (by simp [V.pureV, V.pureE]) (by simp <;> rfl)) ?_
  refine at_go [(49, []), (50, []), (51, []), (52, [126]), (53, [126])] (by kernel_rfl) (by simp <;> rfl) ?_
  refine at_call (i := 54) (ks := []) (by kernel_rfl) (fun _ => b16) Tryz.func16 rfl (by kernel_rfl) rfl (by simp) (by simp <;> rfl) rfl rfl (by simp <;> rfl) (by simp [V.pureV, V.pureE]) (by simp <;> rfl) ?_
  refine at_step (i := 55) (ks := []) (by kernel_rfl) rfl (by simp) (sx_callQ (by simp) hG aM2 Tryz.func15 rfl (by kernel_rfl) (by simp <;> rfl) rfl rfl (by simp <;> rfl) (by simp [V.pureV, V.pureE]) (by simp <;> rfl)) ?_
  refine at_go [(56, []), (57, []), (58, []), (59, [])] (by kernel_rfl) (by simp <;> rfl) ?_
  refine at_step (i := 60) (ks := []) (by kernel_rfl) rfl (by simp) (sx_act (by simp <;> rfl)) ?_
  refine at_step (i := 61) (ks := []) (by kernel_rfl) rfl (by simp) (sx_callv (by simp) a26 Tryz.func26 rfl (by kernel_rfl) (by simp <;> rfl) rfl rfl (by simp <;> rfl) (by simp <;> rfl) rfl (by simp <;> rfl)) ?_
  refine at_go [(62, []), (63, [])] (by kernel_rfl) (by simp <;> rfl) ?_
  refine at_end [0] [] (by kernel_rfl) (by simp <;> rfl) ?_
  exact aw_ret (ends_ret (by simp [Tryz.results12] <;> rfl) rfl)
end Go.Proofs.YtliogkkhofhfcaaGreatDoor
