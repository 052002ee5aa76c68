import Derived.Test.YtmkbhognijicjaaGreatDoorGH
/- Joins: Append. No condition. -/
set_option linter.unusedSimpArgs false
set_option maxRecDepth 4000
namespace Go.Proofs.YtmkbhognijicjaaGreatDoor
open Go.Eng

theorem endD_range (l : List UInt8) : 0 ≤ endD l ∧ endD l < 2 ^ 64 := by
  unfold endD
  split
  · unfold dig0; omega
  · have := getB_lt (l.drop (l.length - 8)); omega
/-- The record that an entry's bytes make. -/
def recB (enc : List UInt8) : List UInt8 := putB enc.length 4 ++ enc
def sumB (a enc : List UInt8) : Nat := (chn (endD a).toNat (recB enc)).toNat
def appB (a enc : List UInt8) : List UInt8 := a ++ recB enc ++ putB (sumB a enc) 8
def appR (a enc : List UInt8) : List UInt8 × Int :=
  if (rdJ0 a).2.2 ≠ 0 then ([], (rdJ0 a).2.2) else
  if 2000 < enc.length ∨ 300 ≤ (rdJ0 a).1.length then ([], 5) else (appB a enc, 0)
def bcV (r : List UInt8 × Int) : V := .tup [.ro 1 (bys r.1), .int .i64 r.2]
theorem nilRx (c : Int) : Relax (.tup [.nils, .int .i64 c]) (bcV ([], c)) := by
  unfold bcV
  exact Relax.tup (.cons (.nils 1) (.refl _))
set_option maxHeartbeats 4000000 in
theorem append_acg (a : List UInt8) (e : Ev) (hE : encE e = 0) (hl : a.length ≤ 2 ^ 39) : ACG 0 errT Tryz.prog 13 [.ro 1 (bys a), (Nd.mk 50 3 0 [] (encK e)).v] (fun r => r = bcV (appR a (byN (.mk 50 3 0 [] (encK e))))) := by
  refine ACG.relaxP ?_
  have hrd := read_acg a (by omega)
  have hva := valid_ac e hE
  have hen := cEncode_ac e hE
  have hpk := pureNd (encK e)
  rw [Nd.v] at hva hen ⊢
  have hpa := bys_pure a
  have hfa := bys_flat a
  have hla := bysL a
  have hnl : ((rdJ0 a).1.map Nd.v).length = (rdJ0 a).1.length := by simp
  have hpn := pureNd (rdJ0 a).1
  unfold jV at hrd
  unfold appR
  generalize hnn : (rdJ0 a).1.map Nd.v = nv at hrd hnl hpn
  generalize (rdJ0 a).1.length = nn at hnl ⊢
  generalize (rdJ0 a).2.1 = at_ at hrd
  generalize (rdJ0 a).2.2 = cd at hrd ⊢
  generalize (encK e).map Nd.v = kv at hva hen hpk ⊢
  generalize byN (.mk 50 3 0 [] (encK e)) = enc at hen ⊢
  have hpe := bys_pure enc
  have hfe := bys_flat enc
  have hle := bysL enc
  refine acg_intro Tryz.func13 rfl (by show (2 : Nat) ≤ 56; omega) (fun w0 N0 hG => ?_)
  generalize hav : bys a = av at *
  generalize hev : bys enc = ev at *
  refine aw_step [0, 3] [3] (by simp [Tryz.ntmps13, hpk] <;> rfl) ?_   -- journal.go:92
  refine aw_seq (aw_region ?_)   -- journal.go:93
  refine awl_go 1 (by simp <;> rfl) ?_
  refine awl_call1G hG hrd Tryz.func16 rfl (by kernel_rfl) rfl rfl rfl rfl (by simp [hpa]) (by simp <;> rfl) ?_
  refine awl_end [0, 3, 6, 8] [3] (by simp <;> rfl) ?_
  refine aw_seq ?_
  refine aw_step [0, 3, 6, 8, 19] [3] (by simp <;> rfl) ?_   -- journal.go:94
  refine aw_cond rfl (fun h1 => ?_) (fun h1 => aw_skip ?_)   -- if t19
  · have h1' : cd ≠ 0 := by simpa using h1
    rw [if_pos h1']
    refine aw_step [4, 5] [] (by simp <;> rfl) ?_   -- journal.go:95
    exact aw_ret (ends_ret (by simp [Tryz.results13] <;> rfl) (nilRx _))
  have h1' : ¬ cd ≠ 0 := by simpa using h1
  rw [if_neg h1']
  refine aw_seq ?_
  refine aw_seq (aw_region ?_)   -- journal.go:97
  refine awl_go 1 (by simp <;> rfl) ?_
  refine awl_call1 hva Tryz.func31 rfl (by kernel_rfl) rfl rfl rfl rfl (by simp [hpk]) (by simp <;> rfl) ?_
  refine awl_end [0, 3, 6, 23] [3] (by simp <;> rfl) ?_
  refine aw_cond rfl (fun h2 => by simp at h2) (fun h2 => aw_skip ?_)   -- if t23
  refine aw_seq (aw_region ?_)   -- journal.go:100
  refine awl_go 1 (by simp <;> rfl) ?_
  refine awl_call1 hen Tryz.func32 rfl (by kernel_rfl) rfl rfl rfl rfl (by simp [hpk]) (by simp <;> rfl) ?_
  refine awl_end [0, 6, 8, 9] [] (by simp <;> rfl) ?_
  refine aw_seq ?_
  refine aw_step [0, 6, 8, 9, 30] [] (by simp <;> rfl) ?_   -- journal.go:101
  refine aw_cond rfl (fun h3 => by simp at h3) (fun h3 => aw_skip ?_)   -- if t30
  refine aw_seq ?_
  refine aw_step [0, 9, 39] [] (by simp <;> rfl) ?_   -- journal.go:104
  refine aw_cond rfl (fun h4 => ?_) (fun h4 => aw_skip ?_)   -- if t39
  · have h4' : 2000 < enc.length ∨ 300 ≤ nn := by simp at h4; omega
    rw [if_pos h4']
    refine aw_step [4, 5] [] (by simp <;> rfl) ?_   -- journal.go:105
    exact aw_ret (ends_ret (by simp [Tryz.results13] <;> rfl) (nilRx _))
  have h4' : ¬ (2000 < enc.length ∨ 300 ≤ nn) := by simp at h4; omega
  rw [if_neg h4']
  have hw1 : IntKind.u64.wrap (ev.length : Int) = ev.length := u64_in (by omega)
  have hput := putNil_aco ev.length 4 (by omega) (by omega)
  have hpl : (bys (putB ev.length 4)).length = 4 := by rw [bysL, putB_len]
  have hrc : bys (recB enc) = bys (putB ev.length 4) ++ ev := by rw [← hev, bysL]; simp [recB]
  generalize bys (putB ev.length 4) = pv at hput hpl hrc
  have hb1 : pv.length + ev.length ≤ maxLen := by simp [maxLen]; omega
  have hb2 : pv.length + ev.length ≤ 140737488355328 := by omega
  refine aw_seq (aw_region ?_)   -- journal.go:107
  refine awl_go 3 (by simp [hw1] <;> rfl) ?_
  refine awl_callO1 43 hput Tryz.func33 rfl (by kernel_rfl) rfl rfl rfl (by simp <;> rfl) (by simp <;> rfl) (by simp <;> rfl) ?_
  refine awl_end [0, 10] [43] (by simp [hb1, hb2] <;> rfl) ?_
  rw [← hrc]
  have hrl : (bys (recB enc)).length = pv.length + ev.length := by rw [hrc]; simp
  have hcl := clone_aco a (by omega)
  rw [hav] at hcl
  have hfr := bys_flat (recB enc)
  have hpr := bys_pure (recB enc)
  have hch := chain_ac (endD a).toNat (by have := endD_range a; omega) (recB enc)
  have hend := end_ac a
  rw [hav] at hend
  have her := endD_range a
  rw [show (((endD a).toNat : Nat) : Int) = endD a by omega] at hch
  have hcr := chn_range (endD a).toNat (recB enc)
  have hpt := put_aca (a ++ recB enc) (sumB a enc) 8 (by unfold sumB; omega) (by omega) (by
    have : (recB enc).length = pv.length + ev.length := by rw [← hrl, bysL]
    simp only [List.length_append]; omega)
  have hsb : ((sumB a enc : Nat) : Int) = chn (endD a).toNat (recB enc) := by unfold sumB; omega
  rw [hsb] at hpt
  have hfin : bys (appB a enc) = bys (a ++ recB enc) ++ bys (putB (sumB a enc) 8) := by simp [appB]
  have har : bys (a ++ recB enc) = av ++ bys (recB enc) := by simp [← hav]
  have hps := bys_pure (putB (sumB a enc) 8)
  have hff : (bys (a ++ recB enc) ++ bys (putB (sumB a enc) 8)).all flatE = true := by rw [← hfin]; exact bys_flat _
  have hpf := bys_pure (appB a enc)
  have hbc : bcV (appB a enc, 0) = .tup [.ro 1 (bys (appB a enc)), .int .i64 0] := rfl
  rw [hbc]
  rw [hfin] at hpf ⊢
  rw [har] at hpt hff hpf ⊢
  have hlr : (pv ++ ev).length = pv.length + ev.length := by simp
  rw [← hrc] at hlr
  generalize chn (endD a).toNat (recB enc) = cs at *
  generalize bys (putB (sumB a enc) 8) = sv at *
  generalize bys (recB enc) = rv at *
  have hb3 : av.length + rv.length ≤ maxLen := by simp [maxLen]; omega
  have hb4 : av.length + rv.length ≤ 140737488355328 := by omega
  rw [← hlr]
  refine aw_seq (aw_region ?_)   -- journal.go:108
  refine awl_go 1 (by simp <;> rfl) ?_
  refine awl_callO1 47 hcl Tryz.func34 rfl (by kernel_rfl) rfl rfl rfl (by simp <;> rfl) (by simp [hpa] <;> rfl) (by simp <;> rfl) ?_
  refine awl_end [0, 10, 11] [43, 47] (by simp [hb3, hb4] <;> rfl) ?_
  refine aw_seq (aw_region ?_)   -- journal.go:109
  refine awl_go 2 (by simp <;> rfl) ?_
  refine awl_call1 hend Tryz.func36 rfl (by kernel_rfl) rfl rfl rfl (by simp <;> rfl) (by simp [hpa]) (by simp <;> rfl) ?_
  refine awl_go 1 (by simp <;> rfl) ?_
  refine awl_call1v hch Tryz.func35 rfl (by kernel_rfl) rfl rfl rfl (by simp <;> rfl) (by simp [hpr] <;> rfl) rfl (by simp <;> rfl) ?_
  refine awl_callA (d := 47) hpt hff Tryz.func33 rfl (by kernel_rfl) (by show (5 : Nat) < 8; omega) rfl rfl rfl (by simp <;> rfl) (by simp <;> rfl) (by simp <;> rfl) ?_
  refine awl_end [4, 5] [47] (by simp <;> rfl) ?_
  exact aw_ret (ends_ret (by simp [Tryz.results13, hpa, hpr, hps] <;> rfl) (by simp only [List.append_assoc]; exact .refl _))
end Go.Proofs.YtmkbhognijicjaaGreatDoor

/- Joins: Write, Join, the law's own comparison. No condition. -/
set_option linter.unusedSimpArgs false
set_option maxRecDepth 4000
namespace Go.Proofs.YtmkbhognijicjaaGreatDoor
open Go.Eng

def wrR (a : List UInt8) (e : Ev) : List UInt8 × Int := if encE e ≠ 0 then ([], encE e) else appR a (byN (.mk 50 3 0 [] (encK e)))
set_option maxHeartbeats 4000000 in
theorem write_acg (a : List UInt8) (e : Ev) (hl : a.length ≤ 2 ^ 39) : ACG 0 errT Tryz.prog 4 [.ro 1 (bys a), e.v] (fun r => r = bcV (wrR a e)) := by
  refine ACG.relaxP ?_
  have hpa := bys_pure a
  have hpe := pureI e.ch
  have hen := encode_ac e
  unfold encV encN at hen
  unfold Ev.v at *
  unfold wrR
  have happ : encE e = 0 → _ := fun hE => append_acg a e hE hl
  generalize nums e.ch = cv at *
  generalize bys a = av at *
  by_cases hE : encE e = 0
  · rw [if_neg (by simpa using hE)]
    have ha := happ hE
    rw [if_pos hE, hE, Nd.v] at hen
    rw [Nd.v] at ha
    have hpk := pureNd (encK e)
    generalize (encK e).map Nd.v = kv at *
    have hpr := bys_pure (appR a (byN (.mk 50 3 0 [] (encK e)))).1
    unfold bcV at ha ⊢
    generalize bys (appR a (byN (.mk 50 3 0 [] (encK e)))).1 = rv at *
    generalize (appR a (byN (.mk 50 3 0 [] (encK e)))).2 = rc at *
    refine acg_intro Tryz.func4 rfl (by show (2 : Nat) ≤ 21; omega) (fun w0 N0 hG => ?_)
    refine aw_step [0, 3] [3] (by simp [Tryz.ntmps4] <;> rfl) ?_   -- resume.go:110
    refine aw_seq (aw_region ?_)   -- resume.go:111
    refine awl_go 1 (by simp <;> rfl) ?_
    refine awl_call1 hen Tryz.func12 rfl (by kernel_rfl) rfl rfl rfl rfl (by simp [hpe]) (by simp <;> rfl) ?_
    refine awl_end [0, 6, 7] [6] (by simp <;> rfl) ?_
    refine aw_seq ?_
    refine aw_step [0, 6, 7, 14] [6] (by simp <;> rfl) ?_   -- resume.go:112
    refine aw_cond rfl (fun h1 => by simp at h1) (fun h1 => aw_skip ?_)   -- if t14
    refine aw_seq (aw_region ?_)   -- resume.go:115
    refine awl_go 2 (by simp <;> rfl) ?_
    refine awl_call1G hG ha Tryz.func13 rfl (by kernel_rfl) rfl rfl rfl rfl (by simp [hpa, hpk]) (by simp <;> rfl) ?_
    refine awl_end [4, 5] [] (by simp <;> rfl) ?_
    exact aw_ret (ends_ret (by simp [Tryz.results4, hpr] <;> rfl) (.refl _))
  · rw [if_pos (by simpa using hE)]
    rw [if_neg hE, zNd, Nd.v, List.map_nil] at hen
    generalize encE e = ec at *
    refine acg_intro Tryz.func4 rfl (by show (2 : Nat) ≤ 21; omega) (fun w0 N0 hG => ?_)
    refine aw_step [0, 3] [3] (by simp [Tryz.ntmps4] <;> rfl) ?_   -- resume.go:110
    refine aw_seq (aw_region ?_)   -- resume.go:111
    refine awl_go 1 (by simp <;> rfl) ?_
    refine awl_call1 hen Tryz.func12 rfl (by kernel_rfl) rfl rfl rfl rfl (by simp [hpe]) (by simp <;> rfl) ?_
    refine awl_end [0, 6, 7] [6] (by simp <;> rfl) ?_
    refine aw_seq ?_
    refine aw_step [0, 6, 7, 14] [6] (by simp <;> rfl) ?_   -- resume.go:112
    refine aw_cond rfl (fun h1 => ?_) (fun h1 => by simp [hE] at h1)   -- if t14
    refine aw_step [4, 5] [] (by simp <;> rfl) ?_   -- resume.go:113
    exact aw_ret (ends_ret (by simp [Tryz.results4] <;> rfl) (nilRx _))

def joinR (x y : List UInt8) : List UInt8 × Int :=
  if begB (trimB x) (trimB y) = true then (trimB x, 0) else if begB (trimB y) (trimB x) = true then (trimB y, 0) else ([], 11)
set_option maxHeartbeats 4000000 in
theorem join_acg (x y : List UInt8) (hx : x.length ≤ 2 ^ 40) (hy : y.length ≤ 2 ^ 40) : ACG 0 errT Tryz.prog 10 [.ro 1 (bys x), .ro 1 (bys y)] (fun r => r = bcV (joinR x y)) := by
  refine ACG.relaxP ?_
  have h1 := trim_acg x hx
  have h2 := trim_acg y hy
  have h3 := extends_ac (trimB x) (trimB y)
  have h4 := extends_ac (trimB y) (trimB x)
  have hpx := bys_pure x
  have hpy := bys_pure y
  have hptx := bys_pure (trimB x)
  have hpty := bys_pure (trimB y)
  unfold joinR
  generalize bys x = xv at *
  generalize bys y = yv at *
  generalize begB (trimB x) (trimB y) = b1 at *
  generalize begB (trimB y) (trimB x) = b2 at *
  have hv1 : bcV (trimB x, 0) = .tup [.ro 1 (bys (trimB x)), .int .i64 0] := rfl
  have hv2 : bcV (trimB y, 0) = .tup [.ro 1 (bys (trimB y)), .int .i64 0] := rfl
  generalize bys (trimB x) = xt at *
  generalize bys (trimB y) = yt at *
  refine acg_intro Tryz.func10 rfl (by show (2 : Nat) ≤ 20; omega) (fun w0 N0 hG => ?_)
  refine aw_step [0, 1] [] (by simp [Tryz.ntmps10] <;> rfl) ?_   -- resume.go:168
  refine aw_seq (aw_region ?_)   -- resume.go:169
  refine awl_go 1 (by simp <;> rfl) ?_
  refine awl_call1G hG h1 Tryz.func23 rfl (by kernel_rfl) rfl rfl rfl rfl (by simp [hpx]) (by simp <;> rfl) ?_
  refine awl_go 1 (by simp <;> rfl) ?_
  refine awl_call1G hG h2 Tryz.func23 rfl (by kernel_rfl) rfl rfl rfl rfl (by simp [hpy]) (by simp <;> rfl) ?_
  refine awl_end [6, 7] [] (by simp <;> rfl) ?_
  refine aw_seq ?_
  refine aw_seq (aw_region ?_)   -- resume.go:170
  refine awl_go 2 (by simp <;> rfl) ?_
  refine awl_call1 h3 Tryz.func24 rfl (by kernel_rfl) rfl rfl rfl rfl (by simp [hptx, hpty]) (by simp <;> rfl) ?_
  refine awl_end [6, 7, 14] [] (by simp <;> rfl) ?_
  refine aw_cond rfl (fun hb1 => ?_) (fun hb1 => aw_skip ?_)   -- if t14
  · subst hb1
    refine aw_step [4, 5] [] (by simp <;> rfl) ?_   -- resume.go:171
    exact aw_ret (ends_ret (by simp [Tryz.results10, hptx] <;> rfl) (by simp only [if_true, hv1]; exact .refl _))
  subst hb1
  refine aw_seq ?_
  refine aw_seq (aw_region ?_)   -- resume.go:173
  refine awl_go 2 (by simp <;> rfl) ?_
  refine awl_call1 h4 Tryz.func24 rfl (by kernel_rfl) rfl rfl rfl rfl (by simp [hptx, hpty]) (by simp <;> rfl) ?_
  refine awl_end [7, 18] [] (by simp <;> rfl) ?_
  refine aw_cond rfl (fun hb2 => ?_) (fun hb2 => aw_skip ?_)   -- if t18
  · subst hb2
    refine aw_step [4, 5] [] (by simp <;> rfl) ?_   -- resume.go:174
    exact aw_ret (ends_ret (by simp [Tryz.results10, hpty] <;> rfl) (by simp only [Bool.false_eq_true, if_false, if_true, hv2]; exact .refl _))
  subst hb2
  refine aw_step [4, 5] [] (by simp <;> rfl) ?_   -- resume.go:176
  exact aw_ret (ends_ret (by simp [Tryz.results10] <;> rfl) (by simp only [Bool.false_eq_true, if_false]; exact nilRx _))
end Go.Proofs.YtmkbhognijicjaaGreatDoor

/- Joins: the law's comparison of bytes. No condition. -/
set_option linter.unusedSimpArgs false
set_option maxRecDepth 4000
namespace Go.Proofs.YtmkbhognijicjaaGreatDoor
open Go.Eng
theorem byV_inj (x y : UInt8) : ((x.toNat : Int) = y.toNat) ↔ x = y := by
  constructor
  · intro h; exact UInt8.toNat_inj.1 (by omega)
  · intro h; rw [h]
set_option maxHeartbeats 2000000 in
theorem bytes_ac (a b : List UInt8) : AC Tryz.prog 6 [.ro 1 (bys a), .ro 1 (bys b)] (fun r => r = .bool (decide (a = b))) := by
  refine ac_lenR 0 rfl (fun hmax => ?_)
  unfold maxLen at hmax
  have hla := bysL a
  have hlb := bysL b
  have hna : ∀ k (h : k < a.length), nth (bys a) k = some (byV a[k]) := fun k h => nthB h
  have hnb : ∀ k (h : k < b.length), nth (bys b) k = some (byV b[k]) := fun k h => nthB h
  generalize bys a = av at hla hna hmax
  generalize bys b = bv at hlb hnb
  refine ac_intro Tryz.func6 rfl (by show (2 : Nat) ≤ 26; omega) (fun w0 N0 => ?_)
  refine aw_step [0, 1] [] (by simp [Tryz.ntmps6] <;> rfl) ?_   -- law.go:12
  refine aw_seq ?_
  refine aw_step [0, 1, 10] [] (by simp <;> rfl) ?_   -- law.go:13
  refine aw_cond rfl (fun h1 => ?_) (fun h1 => aw_skip ?_)   -- if t10
  · have h1' : ¬ a = b := by rintro rfl; simp at h1; omega
    refine aw_step [4] [] (by simp <;> rfl) ?_   -- law.go:14
    exact aw_ret (ends_ret (by simp [Tryz.results6] <;> rfl) (by simp [h1']))
  have h1' : a.length = b.length := by simp at h1; omega
  refine aw_seq ?_
  refine aw_step [0, 1, 5] [] (by simp <;> rfl) ?_   -- law.go:16
  refine aw_block ?_
  refine aw_count (fun k nx => ⟨[(0, .ro 1 av), (1, .ro 1 bv), (5, .int .i64 k)], [], nx, 26⟩) (fun k => a.take k = b.take k) a.length _ rfl (AS.le_refl _) ?_
  intro k nx hk hI
  refine aw_seq ?_
  refine aw_step [0, 1, 5, 14] [] (by simp <;> rfl) ?_   -- law.go:16
  refine aw_cond rfl (fun h2 => aw_skip ?_) (fun h2 => ?_)   -- if t14
  · have hka : k < a.length := by simp at h2; omega
    have hkb : k < b.length := by omega
    have ha := hna k hka
    have hb := hnb k hkb
    have hwk : IntKind.i64.wrap ((k : Int) + 1) = ((k + 1 : Nat) : Int) := by rw [wrap_in (by omega) (by omega)]; omega
    have hka' : (k : Int) < av.length := by omega
    have hkb' : (k : Int) < bv.length := by omega
    refine aw_seq ?_
    refine aw_block ?_
    refine aw_dstep [(0, []), (1, []), (2, []), (4, []), (5, []), (6, []), (3, []), (7, []), (8, [])] [0, 1, 5, 25] [] hmix (by kernel_rfl) (by simp [ha, hb, hka', hkb', byV] <;> rfl) ?_   -- law.go:17
    refine aw_cond rfl (fun h3 => ?_) (fun h3 => aw_skip ?_)   -- if t25
    · have h3' : ¬ a = b := by
        rintro rfl
        simp at h3
      refine aw_step [4] [] (by simp <;> rfl) ?_   -- law.go:18
      exact aw_ret (ends_ret (by simp [Tryz.results6] <;> rfl) (by simp [h3']))
    have h3' : a[k] = b[k] := by
      simp at h3
      exact (byV_inj _ _).1 (by omega)
    refine aw_one [0, 1, 5] [] (by simp [hwk] <;> rfl) ?_   -- law.go:16
    exact ⟨hka, by rw [List.take_succ_eq_append_getElem hka, List.take_succ_eq_append_getElem hkb, hI, h3'], _, AS.le_refl _⟩
  · have hke : k = a.length := by simp at h2; omega
    have hab : a = b := by
      subst hke
      rw [List.take_length, h1', List.take_length] at hI
      exact hI
    refine aw_exit ?_
    refine aw_step [4] [] (by simp <;> rfl) ?_   -- law.go:21
    exact aw_ret (ends_ret (by simp [Tryz.results6] <;> rfl) (by simp [hab]))
end Go.Proofs.YtmkbhognijicjaaGreatDoor
