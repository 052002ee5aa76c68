import Derived.Test.YtmkbhognijicjaaDoorGH
/- Joins: Write, Join, the law's own comparison. No condition. -/
set_option linter.unusedSimpArgs false
set_option maxRecDepth 4000
namespace Go.Proofs.YtmkbhognijicjaaDoor
open Go.Eng

def wrR (a : List UInt8) (e : Ev) : List UInt8 × Int := if encE e ≠ 0 then ([], encE e) else appR a (byN (.mk 50 3 0 [] (encK e)))
set_option maxHeartbeats 4000000 in
theorem write_acg (a : List UInt8) (e : Ev) (hl : a.length ≤ 2 ^ 39) : ACG 0 errT Tryd.prog 4 [.ro 1 (bys a), e.v] (fun r => r = bcV (wrR a e)) := by
  refine ACG.relaxP ?_
  have hpa := bys_pure a
  have hpe := pureI e.ch
  have hen := encode_ac e
  unfold encV encN at hen
  unfold Ev.v at *
  unfold wrR
  have happ : encE e = 0 → _ := fun hE => append_acg a e hE hl
  generalize nums e.ch = cv at *
  generalize bys a = av at *
  by_cases hE : encE e = 0
  · rw [if_neg (by simpa using hE)]
    have ha := happ hE
    rw [if_pos hE, hE, Nd.v] at hen
    rw [Nd.v] at ha
    have hpk := pureNd (encK e)
    generalize (encK e).map Nd.v = kv at *
    have hpr := bys_pure (appR a (byN (.mk 50 3 0 [] (encK e)))).1
    unfold bcV at ha ⊢
    generalize bys (appR a (byN (.mk 50 3 0 [] (encK e)))).1 = rv at *
    generalize (appR a (byN (.mk 50 3 0 [] (encK e)))).2 = rc at *
    refine acg_intro Tryd.func4 rfl (by show (2 : Nat) ≤ 21; omega) (fun w0 N0 hG => ?_)
    refine aw_step [0, 3] [3] (by simp [Tryd.ntmps4] <;> rfl) ?_   -- resume.go:110
    refine aw_seq (aw_region ?_)   -- resume.go:111
    refine awl_go 1 (by simp <;> rfl) ?_
    refine awl_call1 hen Tryd.func7 rfl (by kernel_rfl) rfl rfl rfl rfl (by simp [hpe]) (by simp <;> rfl) ?_
    refine awl_end [0, 6, 7] [6] (by simp <;> rfl) ?_
    refine aw_seq ?_
    refine aw_step [0, 6, 7, 14] [6] (by simp <;> rfl) ?_   -- resume.go:112
    refine aw_cond rfl (fun h1 => by simp at h1) (fun h1 => aw_skip ?_)   -- if t14
    refine aw_seq (aw_region ?_)   -- resume.go:115
    refine awl_go 2 (by simp <;> rfl) ?_
    refine awl_call1G hG ha Tryd.func8 rfl (by kernel_rfl) rfl rfl rfl rfl (by simp [hpa, hpk]) (by simp <;> rfl) ?_
    refine awl_end [4, 5] [] (by simp <;> rfl) ?_
    exact aw_ret (ends_ret (by simp [Tryd.results4, hpr] <;> rfl) (.refl _))
  · rw [if_pos (by simpa using hE)]
    rw [if_neg hE, zNd, Nd.v, List.map_nil] at hen
    generalize encE e = ec at *
    refine acg_intro Tryd.func4 rfl (by show (2 : Nat) ≤ 21; omega) (fun w0 N0 hG => ?_)
    refine aw_step [0, 3] [3] (by simp [Tryd.ntmps4] <;> rfl) ?_   -- resume.go:110
    refine aw_seq (aw_region ?_)   -- resume.go:111
    refine awl_go 1 (by simp <;> rfl) ?_
    refine awl_call1 hen Tryd.func7 rfl (by kernel_rfl) rfl rfl rfl rfl (by simp [hpe]) (by simp <;> rfl) ?_
    refine awl_end [0, 6, 7] [6] (by simp <;> rfl) ?_
    refine aw_seq ?_
    refine aw_step [0, 6, 7, 14] [6] (by simp <;> rfl) ?_   -- resume.go:112
    refine aw_cond rfl (fun h1 => ?_) (fun h1 => by simp [hE] at h1)   -- if t14
    refine aw_step [4, 5] [] (by simp <;> rfl) ?_   -- resume.go:113
    exact aw_ret (ends_ret (by simp [Tryd.results4] <;> rfl) (nilRx _))

def joinR (x y : List UInt8) : List UInt8 × Int :=
  if begB (trimB x) (trimB y) = true then (trimB x, 0) else if begB (trimB y) (trimB x) = true then (trimB y, 0) else ([], 11)
set_option maxHeartbeats 4000000 in
theorem join_acg (x y : List UInt8) (hx : x.length ≤ 2 ^ 40) (hy : y.length ≤ 2 ^ 40) : ACG 0 errT Tryd.prog 5 [.ro 1 (bys x), .ro 1 (bys y)] (fun r => r = bcV (joinR x y)) := by
  refine ACG.relaxP ?_
  have h1 := trim_acg x hx
  have h2 := trim_acg y hy
  have h3 := extends_ac (trimB x) (trimB y)
  have h4 := extends_ac (trimB y) (trimB x)
  have hpx := bys_pure x
  have hpy := bys_pure y
  have hptx := bys_pure (trimB x)
  have hpty := bys_pure (trimB y)
  unfold joinR
  generalize bys x = xv at *
  generalize bys y = yv at *
  generalize begB (trimB x) (trimB y) = b1 at *
  generalize begB (trimB y) (trimB x) = b2 at *
  have hv1 : bcV (trimB x, 0) = .tup [.ro 1 (bys (trimB x)), .int .i64 0] := rfl
  have hv2 : bcV (trimB y, 0) = .tup [.ro 1 (bys (trimB y)), .int .i64 0] := rfl
  generalize bys (trimB x) = xt at *
  generalize bys (trimB y) = yt at *
  refine acg_intro Tryd.func5 rfl (by show (2 : Nat) ≤ 20; omega) (fun w0 N0 hG => ?_)
  refine aw_step [0, 1] [] (by simp [Tryd.ntmps5] <;> rfl) ?_   -- resume.go:168
  refine aw_seq (aw_region ?_)   -- resume.go:169
  refine awl_go 1 (by simp <;> rfl) ?_
  refine awl_call1G hG h1 Tryd.func9 rfl (by kernel_rfl) rfl rfl rfl rfl (by simp [hpx]) (by simp <;> rfl) ?_
  refine awl_go 1 (by simp <;> rfl) ?_
  refine awl_call1G hG h2 Tryd.func9 rfl (by kernel_rfl) rfl rfl rfl rfl (by simp [hpy]) (by simp <;> rfl) ?_
  refine awl_end [6, 7] [] (by simp <;> rfl) ?_
  refine aw_seq ?_
  refine aw_seq (aw_region ?_)   -- resume.go:170
  refine awl_go 2 (by simp <;> rfl) ?_
  refine awl_call1 h3 Tryd.func10 rfl (by kernel_rfl) rfl rfl rfl rfl (by simp [hptx, hpty]) (by simp <;> rfl) ?_
  refine awl_end [6, 7, 14] [] (by simp <;> rfl) ?_
  refine aw_cond rfl (fun hb1 => ?_) (fun hb1 => aw_skip ?_)   -- if t14
  · subst hb1
    refine aw_step [4, 5] [] (by simp <;> rfl) ?_   -- resume.go:171
    exact aw_ret (ends_ret (by simp [Tryd.results5, hptx] <;> rfl) (by simp only [if_true, hv1]; exact .refl _))
  subst hb1
  refine aw_seq ?_
  refine aw_seq (aw_region ?_)   -- resume.go:173
  refine awl_go 2 (by simp <;> rfl) ?_
  refine awl_call1 h4 Tryd.func10 rfl (by kernel_rfl) rfl rfl rfl rfl (by simp [hptx, hpty]) (by simp <;> rfl) ?_
  refine awl_end [7, 18] [] (by simp <;> rfl) ?_
  refine aw_cond rfl (fun hb2 => ?_) (fun hb2 => aw_skip ?_)   -- if t18
  · subst hb2
    refine aw_step [4, 5] [] (by simp <;> rfl) ?_   -- resume.go:174
    exact aw_ret (ends_ret (by simp [Tryd.results5, hpty] <;> rfl) (by simp only [Bool.false_eq_true, if_false, if_true, hv2]; exact .refl _))
  subst hb2
  refine aw_step [4, 5] [] (by simp <;> rfl) ?_   -- resume.go:176
  exact aw_ret (ends_ret (by simp [Tryd.results5] <;> rfl) (by simp only [Bool.false_eq_true, if_false]; exact nilRx _))
end Go.Proofs.YtmkbhognijicjaaDoor

/- Joins: the law's comparison of bytes. No condition. -/
set_option linter.unusedSimpArgs false
set_option maxRecDepth 4000
namespace Go.Proofs.YtmkbhognijicjaaDoor
open Go.Eng
theorem byV_inj (x y : UInt8) : ((x.toNat : Int) = y.toNat) ↔ x = y := by
  constructor
  · intro h; exact UInt8.toNat_inj.1 (by omega)
  · intro h; rw [h]
set_option maxHeartbeats 2000000 in
theorem bytes_ac (a b : List UInt8) : AC Tryd.prog 6 [.ro 1 (bys a), .ro 1 (bys b)] (fun r => r = .bool (decide (a = b))) := by
  refine ac_lenR 0 rfl (fun hmax => ?_)
  unfold maxLen at hmax
  have hla := bysL a
  have hlb := bysL b
  have hna : ∀ k (h : k < a.length), nth (bys a) k = some (byV a[k]) := fun k h => nthB h
  have hnb : ∀ k (h : k < b.length), nth (bys b) k = some (byV b[k]) := fun k h => nthB h
  generalize bys a = av at hla hna hmax
  generalize bys b = bv at hlb hnb
  refine ac_intro Tryd.func6 rfl (by show (2 : Nat) ≤ 26; omega) (fun w0 N0 => ?_)
  refine aw_step [0, 1] [] (by simp [Tryd.ntmps6] <;> rfl) ?_   -- law.go:12
  refine aw_seq ?_
  refine aw_step [0, 1, 10] [] (by simp <;> rfl) ?_   -- law.go:13
  refine aw_cond rfl (fun h1 => ?_) (fun h1 => aw_skip ?_)   -- if t10
  · have h1' : ¬ a = b := by rintro rfl; simp at h1; omega
    refine aw_step [4] [] (by simp <;> rfl) ?_   -- law.go:14
    exact aw_ret (ends_ret (by simp [Tryd.results6] <;> rfl) (by simp [h1']))
  have h1' : a.length = b.length := by simp at h1; omega
  refine aw_seq ?_
  refine aw_step [0, 1, 5] [] (by simp <;> rfl) ?_   -- law.go:16
  refine aw_block ?_
  refine aw_count (fun k nx => ⟨[(0, .ro 1 av), (1, .ro 1 bv), (5, .int .i64 k)], [], nx, 26⟩) (fun k => a.take k = b.take k) a.length _ rfl (AS.le_refl _) ?_
  intro k nx hk hI
  refine aw_seq ?_
  refine aw_step [0, 1, 5, 14] [] (by simp <;> rfl) ?_   -- law.go:16
  refine aw_cond rfl (fun h2 => aw_skip ?_) (fun h2 => ?_)   -- if t14
  · have hka : k < a.length := by simp at h2; omega
    have hkb : k < b.length := by omega
    have ha := hna k hka
    have hb := hnb k hkb
    have hwk : IntKind.i64.wrap ((k : Int) + 1) = ((k + 1 : Nat) : Int) := by rw [wrap_in (by omega) (by omega)]; omega
    have hka' : (k : Int) < av.length := by omega
    have hkb' : (k : Int) < bv.length := by omega
    refine aw_seq ?_
    refine aw_block ?_
    refine aw_dstep [(0, []), (1, []), (2, []), (4, []), (5, []), (6, []), (3, []), (7, []), (8, [])] [0, 1, 5, 25] [] hmix (by kernel_rfl) (by simp [ha, hb, hka', hkb', byV] <;> rfl) ?_   -- law.go:17
    refine aw_cond rfl (fun h3 => ?_) (fun h3 => aw_skip ?_)   -- if t25
    · have h3' : ¬ a = b := by
        rintro rfl
        simp at h3
      refine aw_step [4] [] (by simp <;> rfl) ?_   -- law.go:18
      exact aw_ret (ends_ret (by simp [Tryd.results6] <;> rfl) (by simp [h3']))
    have h3' : a[k] = b[k] := by
      simp at h3
      exact (byV_inj _ _).1 (by omega)
    refine aw_one [0, 1, 5] [] (by simp [hwk] <;> rfl) ?_   -- law.go:16
    exact ⟨hka, by rw [List.take_succ_eq_append_getElem hka, List.take_succ_eq_append_getElem hkb, hI, h3'], _, AS.le_refl _⟩
  · have hke : k = a.length := by simp at h2; omega
    have hab : a = b := by
      subst hke
      rw [List.take_length, h1', List.take_length] at hI
      exact hI
    refine aw_exit ?_
    refine aw_step [4] [] (by simp <;> rfl) ?_   -- law.go:21
    exact aw_ret (ends_ret (by simp [Tryd.results6] <;> rfl) (by simp [hab]))
end Go.Proofs.YtmkbhognijicjaaDoor
