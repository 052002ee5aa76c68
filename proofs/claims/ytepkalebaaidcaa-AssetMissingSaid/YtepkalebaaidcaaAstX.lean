/- Asset: AssetMissing. No condition. -/
import Derived.Test.YtepkalebaaidcaaAstQ
set_option linter.unusedSimpArgs false
namespace Go.Proofs.Ytepkalebaaidcaa
open Go.Eng

set_option maxHeartbeats 4000000 in
theorem assetMissing_ac (a b : List Int) (l : List As) (day : Int) : AC Try.prog 6 [.ro 1 (nums a), .ro 1 (nums b), .ro 5 (l.map As.v), .int .i64 day] (fun r => r = .bool true) := by
  have hfa := few_ac a
  have hfb := few_ac b
  have hpa := pureI a
  have hpb := pureI b
  have hxl : (a.take 40).length ≤ 40 := by simp; omega
  have hyl : (b.take 40).length ≤ 40 := by simp; omega
  generalize nums a = av at *
  generalize nums b = bv at *
  generalize a.take 40 = x at *
  generalize b.take 40 = y at *
  have hmx := missing_ac x l day (by omega)
  have hmy := missing_ac y l day (by omega)
  have hmb := missing_ac (x ++ y) l day (by simp; omega)
  have lenm := misF_len l day x
  have lenn := misF_len l day y
  have lenb := misF_len l day (x ++ y)
  have memm := misF_mem l day x
  have memn := misF_mem l day y
  have memb := misF_mem l day (x ++ y)
  have stepm : ∀ (k : Nat) (h0 : k < (misF l day x).length) (h : k + 1 < (misF l day x).length), (misF l day x)[k] < (misF l day x)[k + 1] := fun k _ h => misF_step l day x k h
  have hjxy := join_ac x y (by omega)
  have hpl := pureAs l
  have hfind := fun id => find_ac l id
  have hlm := numsL (misF l day x)
  have hln := numsL (misF l day y)
  have hlb := numsL (misF l day (x ++ y))
  rw [← hlm] at hmx
  rw [← hln] at hmy
  rw [← hlb] at hmb
  rw [List.length_append] at lenb
  generalize misF l day x = m at *
  generalize misF l day y = n at *
  generalize misF l day (x ++ y) = bo at *
  have hjmn := join_ac m n (by omega)
  have hhx := fun z => has_ac x z
  have hhm := fun z => has_ac m z
  have hhn := fun z => has_ac n z
  have hhb := fun z => has_ac bo z
  have hgx := fun (k : Nat) (h : k < x.length) => nthI h
  have hgm := fun (k : Nat) (h : k < m.length) => nthI h
  have hgb := fun (k : Nat) (h : k < bo.length) => nthI h
  have hgj := fun (k : Nat) (h : k < (m ++ n).length) => nthI h
  have hlx := numsL x
  have hlj := numsL (m ++ n)
  have hpx := pureI x
  have hpy := pureI y
  have hpxy := pureI (x ++ y)
  have hpm := pureI m
  have hpn := pureI n
  have hpbo := pureI bo
  have hpj := pureI (m ++ n)
  have husb : ∀ z, usb l day z = match fA l z with | some s => decide (uA s day = 0) | none => false := fun z => rfl
  have hfid : ∀ z s, fA l z = some s → s.id = z := fun z s h => by
    have := List.find?_some h
    simpa using this
  have husable := fun s => usable_ac s day
  generalize l.map As.v = lv at *
  generalize nums x = xv at *
  generalize nums y = yv at *
  generalize nums (x ++ y) = xyv at *
  generalize nums m = mv at *
  generalize nums n = nv at *
  generalize nums bo = bov at *
  generalize nums (m ++ n) = jv at *
  refine ac_intro Try.func6 rfl (by show (4 : Nat) ≤ 132; omega) (fun w0 N0 => ?_)
  refine aw_step [0, 1, 2, 3] [] (by simp [Try.ntmps6] <;> rfl) ?_   -- law.go:100
  refine aw_seq (aw_region ?_)   -- law.go:101
  refine awl_go 1 (by simp <;> rfl) ?_
  refine awl_call1 hfa Try.func13 rfl (by kernel_rfl) rfl rfl rfl rfl (by simp [hpa]) (by simp <;> rfl) ?_
  refine awl_end [1, 2, 3, 9] [] (by simp <;> rfl) ?_
  refine aw_seq (aw_region ?_)   -- law.go:102
  refine awl_go 1 (by simp <;> rfl) ?_
  refine awl_call1 hfb Try.func13 rfl (by kernel_rfl) rfl rfl rfl rfl (by simp [hpb]) (by simp <;> rfl) ?_
  refine awl_end [2, 3, 9, 10] [] (by simp <;> rfl) ?_
  refine aw_seq (aw_region ?_)   -- law.go:103
  refine awl_go 3 (by simp <;> rfl) ?_
  refine awl_callO1 31 hmx Try.func17 rfl (by kernel_rfl) rfl rfl rfl rfl (by simp [hpx, hpl] <;> rfl) (by simp <;> rfl) ?_
  refine awl_end [2, 3, 9, 10, 11] [31] (by simp <;> rfl) ?_
  refine aw_freeze 31 [2, 3, 9, 10, 11] [] (by simp [hpm] <;> rfl) ?_
  refine aw_seq ?_
  refine aw_step [2, 3, 9, 10, 11, 32, 33, 34] [] (by simp <;> rfl) ?_   -- law.go:104
  refine aw_block ?_
  refine aw_count (fun k nx => ⟨[(2, .ro 5 lv), (3, .int .i64 day), (9, .ro 1 xv), (10, .ro 1 yv), (11, .ro 1 mv), (32, .ro 1 mv), (33, .int .i64 mv.length), (34, .int .i64 k)], [], nx, 132⟩) (fun k => True) m.length _ trivial (AS.le_refl _) ?_
  intro k nx hk _
  refine aw_step [2, 3, 9, 10, 11, 32, 33, 34, 35] [] (by simp <;> rfl) ?_   -- law.go:104
  refine aw_seq ?_
  refine aw_cond rfl (fun h1 => aw_skip ?_) (fun h1 => ?_)   -- if t35
  · have hlt : k < m.length := by simp at h1; omega
    have hlt' : k < mv.length := by omega
    have hget := hgm k hlt
    have hw := wrap_succ (k := k) (by omega)
    have hin : m[k] ∈ x := ((memm _).1 (List.getElem_mem hlt)).1
    have hh := hhx m[k]
    rw [decide_eq_true hin] at hh
    refine aw_seq ?_
    refine aw_block ?_
    refine aw_step [2, 3, 9, 10, 11, 12, 13, 32, 33, 34] [] (by simp [hget, hlt'] <;> rfl) ?_   -- law.go:104
    refine aw_seq (aw_region ?_)   -- law.go:105
    refine awl_go 2 (by simp <;> rfl) ?_
    refine awl_call1 hh Try.func21 rfl (by kernel_rfl) rfl rfl rfl rfl (by simp [hpx]) (by simp <;> rfl) ?_
    by_cases hk0 : k = 0
    · subst hk0
      refine awl_end [2, 3, 9, 10, 11, 32, 33, 34, 55] [] (by simp <;> rfl) ?_
      refine aw_cond rfl (fun h2 => absurd h2 (by simp)) (fun h2 => aw_skip ?_)   -- if t55
      refine aw_one [2, 3, 9, 10, 11, 32, 33, 34] [] (by simp [hw] <;> rfl) ?_   -- law.go:104
      exact ⟨hlt, trivial, _, AS.le_refl _⟩
    · obtain ⟨j, hj⟩ : ∃ j, j + 1 = k := ⟨k - 1, by omega⟩
      have hlj1 : j < mv.length := by omega
      have hgj1 := hgm j (by omega)
      have hwj : IntKind.i64.wrap ((k : Int) - 1) = (j : Int) := by rw [wrap_in (by omega) (by omega)]; omega
      have hpos : (0 : Int) < (k : Int) := by omega
      have hposN : 0 < k := by omega
      have hst : ¬ (m[k] ≤ m[j]) := by
        have := stepm j (by omega) (by omega)
        simp only [hj] at this
        omega
      generalize m[k] = z1 at *
      generalize m[j]'(by omega) = z0 at *
      refine awl_end [2, 3, 9, 10, 11, 32, 33, 34, 55] [] (by simp [hwj, hpos, hposN, hlj1, hgj1, hst] <;> rfl) ?_
      refine aw_cond rfl (fun h2 => absurd h2 (by simp)) (fun h2 => aw_skip ?_)   -- if t55
      refine aw_one [2, 3, 9, 10, 11, 32, 33, 34] [] (by simp [hw] <;> rfl) ?_   -- law.go:104
      exact ⟨hlt, trivial, _, AS.le_refl _⟩
  · refine aw_exit ?_
    refine aw_seq ?_
    refine aw_step [2, 3, 9, 10, 11, 57, 58, 59] [] (by simp <;> rfl) ?_   -- law.go:109
    refine aw_block ?_
    refine aw_count (fun k nx => ⟨[(2, .ro 5 lv), (3, .int .i64 day), (9, .ro 1 xv), (10, .ro 1 yv), (11, .ro 1 mv), (57, .ro 1 xv), (58, .int .i64 xv.length), (59, .int .i64 k)], [], nx, 132⟩) (fun k => True) x.length _ trivial (AS.le_refl _) ?_
    clear hk h1 k nx
    intro k nx hk _
    refine aw_step [2, 3, 9, 10, 11, 57, 58, 59, 60] [] (by simp <;> rfl) ?_   -- law.go:109
    refine aw_seq ?_
    refine aw_cond rfl (fun h3 => aw_skip ?_) (fun h3 => ?_)   -- if t60
    · have hlt : k < x.length := by simp at h3; omega
      have hlt' : k < xv.length := by omega
      have hget := hgx k hlt
      have hw := wrap_succ (k := k) (by omega)
      have hin : x[k] ∈ x := List.getElem_mem hlt
      have hf := hfind x[k]
      have hh := hhm x[k]
      have hus := husb x[k]
      have hfi := hfid x[k]
      have hmm := memm x[k]
      generalize x[k] = id at *
      have hdec : decide (id ∈ m) = !usb l day id := by
        cases hu : usb l day id with
        | true => exact decide_eq_false (fun h => by have := (hmm.1 h).2; rw [hu] at this; cases this)
        | false => exact decide_eq_true (hmm.2 ⟨hin, hu⟩)
      rw [hdec, hus] at hh
      refine aw_seq ?_
      refine aw_block ?_
      refine aw_step [2, 3, 9, 10, 11, 15, 57, 58, 59] [] (by simp [hget, hlt'] <;> rfl) ?_   -- law.go:109
      cases hfa' : fA l id with
      | none =>
        rw [hfa'] at hf hh
        simp only [Option.getD_none, Option.isSome_none, zA_v, Bool.not_false] at hf hh
        have hus0 := husable zA
        rw [zA_v] at hus0
        refine aw_seq (aw_region ?_)   -- law.go:110
        refine awl_go 2 (by simp <;> rfl) ?_
        refine awl_call1 hf Try.func14 rfl (by kernel_rfl) rfl rfl rfl rfl (by simp [hpl]) (by simp <;> rfl) ?_
        refine awl_end [2, 3, 9, 10, 11, 15, 16, 17, 57, 58, 59] [16] (by simp <;> rfl) ?_
        refine aw_seq (aw_region ?_)   -- law.go:111
        refine awl_go 2 (by simp <;> rfl) ?_
        refine awl_call1 hh Try.func21 rfl (by kernel_rfl) rfl rfl rfl rfl (by simp [hpm]) (by simp <;> rfl) ?_
        refine awl_go 5 (by simp <;> rfl) ?_
        refine awl_gcall (fun hg => hus0) Try.func10 rfl (by kernel_rfl) (by simp <;> rfl) rfl rfl (by simp <;> rfl) (by simp) (by simp <;> rfl) ?_
        refine awl_end [2, 3, 9, 10, 11, 57, 58, 59, 89] [] (by simp <;> rfl) ?_
        refine aw_cond rfl (fun h4 => absurd h4 (by simp)) (fun h4 => aw_skip ?_)   -- if t89
        refine aw_one [2, 3, 9, 10, 11, 57, 58, 59] [] (by simp [hw] <;> rfl) ?_   -- law.go:109
        exact ⟨hlt, trivial, _, AS.le_refl _⟩
      | some s =>
        have hsid := hfi s hfa'
        have hus0 := husable s
        rw [hfa'] at hf hh
        simp only [Option.getD_some, Option.isSome_some] at hf hh
        generalize uA s day = us at *
        obtain ⟨ai, ab, aa, af, au⟩ := s
        simp only [As.v] at hf hus0
        simp only at hsid
        subst hsid
        refine aw_seq (aw_region ?_)   -- law.go:110
        refine awl_go 2 (by simp <;> rfl) ?_
        refine awl_call1 hf Try.func14 rfl (by kernel_rfl) rfl rfl rfl rfl (by simp [hpl]) (by simp <;> rfl) ?_
        refine awl_end [2, 3, 9, 10, 11, 15, 16, 17, 57, 58, 59] [16] (by simp <;> rfl) ?_
        refine aw_seq (aw_region ?_)   -- law.go:111
        refine awl_go 2 (by simp <;> rfl) ?_
        refine awl_call1 hh Try.func21 rfl (by kernel_rfl) rfl rfl rfl rfl (by simp [hpm]) (by simp <;> rfl) ?_
        refine awl_go 5 (by simp <;> rfl) ?_
        refine awl_gcall (fun hg => hus0) Try.func10 rfl (by kernel_rfl) (by simp <;> rfl) rfl rfl (by simp <;> rfl) (by simp) (by simp <;> rfl) ?_
        by_cases h0 : us = 0
        · subst h0
          refine awl_end [2, 3, 9, 10, 11, 57, 58, 59, 89] [] (by simp <;> rfl) ?_
          refine aw_cond rfl (fun h4 => absurd h4 (by simp)) (fun h4 => aw_skip ?_)   -- if t89
          refine aw_one [2, 3, 9, 10, 11, 57, 58, 59] [] (by simp [hw] <;> rfl) ?_   -- law.go:109
          exact ⟨hlt, trivial, _, AS.le_refl _⟩
        · refine awl_end [2, 3, 9, 10, 11, 57, 58, 59, 89] [] (by simp [h0] <;> rfl) ?_
          refine aw_cond rfl (fun h4 => absurd h4 (by simp)) (fun h4 => aw_skip ?_)   -- if t89
          refine aw_one [2, 3, 9, 10, 11, 57, 58, 59] [] (by simp [hw] <;> rfl) ?_   -- law.go:109
          exact ⟨hlt, trivial, _, AS.le_refl _⟩
    · refine aw_exit ?_
      refine aw_seq (aw_region ?_)   -- law.go:115
      refine awl_go 3 (by simp <;> rfl) ?_
      refine awl_callO1 94 hmy Try.func17 rfl (by kernel_rfl) rfl rfl rfl rfl (by simp [hpy, hpl] <;> rfl) (by simp <;> rfl) ?_
      refine awl_end [2, 3, 9, 10, 11, 18] [94] (by simp <;> rfl) ?_
      refine aw_freeze 94 [2, 3, 9, 10, 11, 18] [] (by simp [hpn] <;> rfl) ?_
      refine aw_seq (aw_region ?_)   -- law.go:116
      refine awl_go 2 (by simp <;> rfl) ?_
      refine awl_callO1 97 hjxy Try.func22 rfl (by kernel_rfl) rfl rfl rfl rfl (by simp [hpx, hpy] <;> rfl) (by simp <;> rfl) ?_
      refine awl_go 2 (by simp <;> rfl) ?_
      refine awl_callO1 100 hmb Try.func17 rfl (by kernel_rfl) rfl rfl rfl rfl (by simp [hpxy, hpl] <;> rfl) (by simp <;> rfl) ?_
      refine awl_end [11, 18, 19] [100] (by simp <;> rfl) ?_
      refine aw_freeze 100 [11, 18, 19] [] (by simp [hpbo] <;> rfl) ?_
      refine aw_seq ?_
      refine aw_step [11, 18, 19, 101, 102, 103] [] (by simp <;> rfl) ?_   -- law.go:117
      refine aw_block ?_
      refine aw_count (fun k nx => ⟨[(11, .ro 1 mv), (18, .ro 1 nv), (19, .ro 1 bov), (101, .ro 1 bov), (102, .int .i64 bov.length), (103, .int .i64 k)], [], nx, 132⟩) (fun k => True) bo.length _ trivial (AS.le_refl _) ?_
      clear hk h3 k nx
      intro k nx hk _
      refine aw_step [11, 18, 19, 101, 102, 103, 104] [] (by simp <;> rfl) ?_   -- law.go:117
      refine aw_seq ?_
      refine aw_cond rfl (fun h5 => aw_skip ?_) (fun h5 => ?_)   -- if t104
      · have hlt : k < bo.length := by simp at h5; omega
        have hlt' : k < bov.length := by omega
        have hget := hgb k hlt
        have hw := wrap_succ (k := k) (by omega)
        have hin := (memb _).1 (List.getElem_mem hlt)
        have hh1 := hhm bo[k]
        have hh2 := hhn bo[k]
        have hm1 := memm bo[k]
        have hm2 := memn bo[k]
        generalize bo[k] = id at *
        have hor : decide (id ∈ m) = true ∨ decide (id ∈ m) = false ∧ decide (id ∈ n) = true := by
          by_cases h : id ∈ m
          · exact .inl (decide_eq_true h)
          · refine .inr ⟨decide_eq_false h, decide_eq_true (hm2.2 ⟨?_, hin.2⟩)⟩
            rcases List.mem_append.1 hin.1 with h' | h'
            · exact absurd (hm1.2 ⟨h', hin.2⟩) h
            · exact h'
        generalize decide (id ∈ m) = d1 at *
        generalize decide (id ∈ n) = d2 at *
        refine aw_seq ?_
        refine aw_block ?_
        refine aw_step [11, 18, 19, 21, 101, 102, 103] [] (by simp [hget, hlt'] <;> rfl) ?_   -- law.go:117
        refine aw_seq (aw_region ?_)   -- law.go:118
        refine awl_go 2 (by simp <;> rfl) ?_
        refine awl_call1 hh1 Try.func21 rfl (by kernel_rfl) rfl rfl rfl rfl (by simp [hpm]) (by simp <;> rfl) ?_
        rcases hor with rfl | ⟨rfl, rfl⟩
        all_goals
          refine awl_go 4 (by simp <;> rfl) ?_
          refine awl_gcall (fun hg => hh2) Try.func21 rfl (by kernel_rfl) (by simp <;> rfl) rfl rfl (by simp <;> rfl) (by simp [hpn]) (by simp <;> rfl) ?_
          refine awl_end [11, 18, 19, 101, 102, 103, 116] [] (by simp <;> rfl) ?_
          refine aw_cond rfl (fun h6 => absurd h6 (by simp)) (fun h6 => aw_skip ?_)   -- if t116
          refine aw_one [11, 18, 19, 101, 102, 103] [] (by simp [hw] <;> rfl) ?_   -- law.go:117
          exact ⟨hlt, trivial, _, AS.le_refl _⟩
      · refine aw_exit ?_
        refine aw_seq ?_
        refine aw_seq (aw_region ?_)   -- law.go:122
        refine awl_go 2 (by simp <;> rfl) ?_
        refine awl_callO1 120 hjmn Try.func22 rfl (by kernel_rfl) rfl rfl rfl rfl (by simp [hpm, hpn] <;> rfl) (by simp <;> rfl) ?_
        refine awl_end [19, 120, 121, 122] [120] (by simp <;> rfl) ?_
        refine aw_freeze 120 [19, 120, 121, 122] [] (by simp [hpj] <;> rfl) ?_
        refine aw_block ?_
        refine aw_count (fun k nx => ⟨[(19, .ro 1 bov), (120, .ro 1 jv), (121, .int .i64 jv.length), (122, .int .i64 k)], [], nx, 132⟩) (fun k => True) (m ++ n).length _ trivial (AS.le_refl _) ?_
        clear hk h5 k nx
        intro k nx hk _
        refine aw_step [19, 120, 121, 122, 123] [] (by simp <;> rfl) ?_   -- law.go:122
        refine aw_seq ?_
        refine aw_cond rfl (fun h7 => aw_skip ?_) (fun h7 => ?_)   -- if t123
        · have hlt : k < (m ++ n).length := by simp at h7; omega
          have hlt' : k < jv.length := by omega
          have hget := hgj k hlt
          have hw := wrap_succ (k := k) (by simp at hlt; omega)
          have hh := hhb (m ++ n)[k]
          have hin : (m ++ n)[k] ∈ bo := by
            rw [memb]
            rcases List.mem_append.1 (List.getElem_mem hlt) with h' | h'
            · have := (memm _).1 h'
              exact ⟨List.mem_append_left _ this.1, this.2⟩
            · have := (memn _).1 h'
              exact ⟨List.mem_append_right _ this.1, this.2⟩
          rw [decide_eq_true hin] at hh
          generalize (m ++ n)[k] = id at *
          refine aw_seq ?_
          refine aw_block ?_
          refine aw_step [19, 23, 120, 121, 122] [] (by simp [hget, hlt'] <;> rfl) ?_   -- law.go:122
          refine aw_seq (aw_region ?_)   -- law.go:123
          refine awl_go 2 (by simp <;> rfl) ?_
          refine awl_call1 hh Try.func21 rfl (by kernel_rfl) rfl rfl rfl rfl (by simp [hpbo]) (by simp <;> rfl) ?_
          refine awl_end [19, 120, 121, 122, 129] [] (by simp <;> rfl) ?_
          refine aw_cond rfl (fun h8 => absurd h8 (by simp)) (fun h8 => aw_skip ?_)   -- if t129
          refine aw_one [19, 120, 121, 122] [] (by simp [hw] <;> rfl) ?_   -- law.go:122
          exact ⟨hlt, trivial, _, AS.le_refl _⟩
        · refine aw_exit ?_
          refine aw_seq (aw_region ?_)   -- law.go:127
          refine awl_call1 awake_ac Try.func12 rfl (by kernel_rfl) rfl rfl rfl rfl rfl (by simp <;> rfl) ?_
          refine awl_end [8] [] (by simp <;> rfl) ?_
          exact aw_ret (ends_ret (by simp [Try.results6] <;> rfl) rfl)
end Go.Proofs.Ytepkalebaaidcaa
