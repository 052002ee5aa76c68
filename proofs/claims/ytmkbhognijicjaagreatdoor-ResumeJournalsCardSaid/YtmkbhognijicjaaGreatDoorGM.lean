import Derived.Test.YtmkbhognijicjaaGreatDoorGL
/- Journals: the reference's copies of bytes, Trim, Append. No condition. -/
set_option linter.unusedSimpArgs false
set_option maxRecDepth 4000
namespace Go.Proofs.YtmkbhognijicjaaGreatDoor
open Go.Eng

set_option maxHeartbeats 1000000 in
theorem refCopied_aco (l : List UInt8) (hl : l.length ≤ 2 ^ 40) : ACO Tryz.prog 44 [.ro 1 (bys l)] 1 5 (fun F es' => (F = fun d q => .sl d q 1 (bys l).length) ∧ es' = bys l) := by
  have hf := bys_flat l
  have hg := fun (k : Nat) (h : k < l.length) => nthB h
  have hll := bysL l
  have htk : ∀ (k : Nat) (h : k < l.length), (bys l).take (k + 1) = (bys l).take k ++ [byV l[k]] := by
    intro k h
    rw [List.take_succ_eq_append_getElem (by simpa using h)]
    simp
  have htl : ∀ k, k ≤ l.length → ((bys l).take k).length = k := by intro k h; simp; omega
  have ht0 : (bys l).take 0 = [] := rfl
  have htn : (bys l).take l.length = bys l := by rw [← bysL l, List.take_length]
  generalize hcp : (fun k => (bys l).take k) = cp
  have hcp' : ∀ k, (bys l).take k = cp k := fun k => by rw [← hcp]
  clear hcp
  simp only [hcp'] at htk htl ht0 htn
  clear hcp'
  generalize bys l = lv at hf hg hll htk htn
  refine aco_intro Tryz.func44 rfl (by show (1 : Nat) ≤ 18; omega) (fun w0 N0 => ?_)
  refine aw_step [0] [] (by simp [Tryz.ntmps44] <;> rfl) ?_   -- ref.go:80
  refine aw_step [0, 3] [] (by simp <;> rfl) ?_   -- ref.go:81
  refine aw_adoptS 3 100 1 5 [0, 3] [100] (by simp <;> rfl) (by simp <;> rfl) ?_
  refine aw_seq ?_
  refine aw_step [3, 6, 7, 8] [100] (by simp <;> rfl) ?_   -- ref.go:82
  refine aw_block ?_
  refine aw_loop (fun p : Nat × Nat × Nat => ⟨[(3, .sl 100 p.2.1 1 p.1), (6, .ro 1 lv), (7, .int .i64 lv.length), (8, .int .i64 p.1)], [(100, ⟨p.2.1, 1, 5, cp p.1⟩)], p.2.2, 18⟩) (fun p => p.1 ≤ l.length) (fun p => l.length - p.1) (0, _, _) (Nat.zero_le _) (by simp [ht0]; exact AS.le_refl _) ?_
  rintro ⟨k, vr, nx⟩ hk
  simp only at hk
  simp only
  refine aw_step [3, 6, 7, 8, 9] [100] (by simp <;> rfl) ?_   -- ref.go:82
  refine aw_seq ?_
  refine aw_cond rfl (fun h1 => aw_skip ?_) (fun h1 => ?_)   -- if t9
  · have hlt : k < l.length := by simp at h1; omega
    have hlt' : k < lv.length := by omega
    have ga := hg k hlt
    have ht := htk k hlt
    have hw := wrap_succ (k := k) (by omega)
    have hkl := htl k hk
    have hb1 : k + 1 ≤ maxLen := by simp [maxLen]; omega
    have hb2 : k ≤ 140737488355327 := by omega
    simp only [byV] at ga ht
    generalize l[k] = c at ga ht
    generalize cp k = pv at ht hkl
    refine aw_seq ?_
    refine aw_block ?_
    refine aw_step [3, 5, 6, 7, 8] [100] (by simp [ga, hlt'] <;> rfl) ?_   -- ref.go:82
    refine aw_one [3, 6, 7, 8] [100] (by simp [hkl, hb1, hb2] <;> rfl) ?_   -- ref.go:83
    refine aw_one [3, 6, 7, 8] [100] (by simp [hw] <;> rfl) ?_   -- ref.go:82
    refine ⟨(k + 1, nx + 1 + 3 + 3, nx + 1 + 3 + 5 + 2), by simp only; omega, by simp only; omega, ?_⟩
    have hc1 : ((k + 1 : Nat) : Int) = (k : Int) + 1 := by omega
    simp only [ht, hc1]
    exact AS.le_refl _
  · have hkl : k = l.length := by simp at h1; omega
    rw [hkl, htn, ← hll]
    refine aw_exit ?_
    refine aw_step [2] [100] (by simp <;> rfl) ?_   -- ref.go:85
    exact aw_ret (endso_row 100 rfl rfl rfl hf (by simp [Tryz.results44] <;> rfl) ⟨rfl, rfl⟩)
theorem refCopied_ac (l : List UInt8) (hl : l.length ≤ 2 ^ 40) : AC Tryz.prog 44 [.ro 1 (bys l)] (fun r => r = .ro 1 (bys l)) := by
  have hp := bys_pure l
  refine (refCopied_aco l hl).ac ?_
  rintro F es ⟨rfl, rfl⟩
  generalize bys l = lv at hp
  exact ⟨_, by simp [AS.viewT, AS.view, AS.viewC, AS.elems, hp, Eng.get] <;> rfl, rfl⟩

set_option maxHeartbeats 1000000 in
theorem refBytes_aco (x n : Nat) (hx : x < 2 ^ 64) (hn : n ≤ 8) : ACO Tryz.prog 43 [.int .u64 x, .int .i64 n] 1 5 (fun F es' => (F = fun d q => .sl d q 1 (bys (putB x n)).length) ∧ es' = bys (putB x n)) := by
  have hz : V.int .u8 0 = byV 0 := rfl
  obtain ⟨rw_, hrw⟩ : ∃ rw_ : Nat → List V, ∀ k, rw_ k = List.replicate k (V.int .u8 0) ++ bys (putB x (n - k)) := ⟨_, fun _ => rfl⟩
  have hlen : ∀ k, k ≤ n → (rw_ k).length = n := by intro k hk; rw [hrw]; simp [putB_len]; omega
  have hnth : ∀ k, k + 1 ≤ n → nth (rw_ (k + 1)) k = some (.int .u8 0) := by
    intro k hk
    rw [hrw, nth_eq, List.getElem?_append_left (by simp)]
    simp
  have hset : ∀ k, k + 1 ≤ n → ∀ c : Int, V.int .u8 c = byV (UInt8.ofNat (x / 256 ^ (n - (k + 1)) % 256)) → (rw_ (k + 1)).set k (.int .u8 c) = rw_ k := by
    intro k hk c hc
    rw [hrw, hrw, hc, List.set_append_left _ _ (by simp)]
    rw [show n - k = (n - (k + 1)) + 1 by omega, putB]
    have : (List.replicate (k + 1) (V.int .u8 0)).set k (byV (UInt8.ofNat (x / 256 ^ (n - (k + 1)) % 256))) = List.replicate k (V.int .u8 0) ++ [byV (UInt8.ofNat (x / 256 ^ (n - (k + 1)) % 256))] := by
      rw [List.replicate_succ', List.set_append_right _ _ (by simp)]
      simp
    rw [this]
    simp
  have hfl := bys_flat (putB x n)
  have hpl : (bys (putB x n)).length = n := by rw [bysL, putB_len]
  have h0 : rw_ 0 = bys (putB x n) := by rw [hrw]; simp
  have hnn : rw_ n = List.replicate n (V.int .u8 0) := by rw [hrw]; simp [putB]
  rw [← h0] at hfl hpl ⊢
  clear h0
  have hb1 : (n : Int) ≤ 9223372036854775807 := by omega
  have hb2 : (n : Int) ≤ 281474976710656 := by omega
  have hw0 : IntKind.i64.wrap ((n : Int) - 1) = (n : Int) - 1 := wrap_in (by omega) (by omega)
  refine aco_intro Tryz.func43 rfl (by show (2 : Nat) ≤ 24; omega) (fun w0 N0 => ?_)
  refine aw_step [0, 1] [] (by simp [Tryz.ntmps43] <;> rfl) ?_   -- ref.go:20
  refine aw_step [0, 1, 5] [8] (by simp [hb1, hb2] <;> rfl) ?_   -- ref.go:21
  rw [← hnn]
  refine aw_seq ?_
  refine aw_step [0, 5, 6] [8] (by simp [hw0] <;> rfl) ?_   -- ref.go:22
  refine aw_block ?_
  obtain ⟨yk, hyk⟩ : ∃ yk : Nat → Nat, ∀ k, x / 256 ^ (n - k) = yk k := ⟨_, fun _ => rfl⟩
  have hyn : yk n = x := by rw [← hyk]; simp
  refine aw_loop (fun p : Nat × Nat => ⟨[(0, .int .u64 (yk p.1 : Int)), (5, .sl 8 2 1 n), (6, .int .i64 ((p.1 : Int) - 1))], [(8, ⟨2, 1, 5, rw_ p.1⟩)], p.2, 24⟩) (fun p => p.1 ≤ n) (fun p => p.1) (n, _) (Nat.le_refl _) (by simp [hyn]; exact AS.le_refl _) ?_
  rintro ⟨k, nx⟩ hk
  simp only at hk
  simp only
  refine aw_seq ?_
  refine aw_step [0, 5, 6, 12] [8] (by simp <;> rfl) ?_   -- ref.go:22
  refine aw_cond rfl (fun h1 => aw_skip ?_) (fun h1 => ?_)   -- if t12
  · have hpos : 0 < k := by simp at h1; omega
    obtain ⟨j, rfl⟩ : ∃ j, k = j + 1 := ⟨k - 1, by omega⟩
    have hy : x / 256 ^ (n - (j + 1)) < 2 ^ 64 := Nat.lt_of_le_of_lt (Nat.div_le_self _ _) hx
    have hdiv : x / 256 ^ (n - (j + 1)) / 256 = x / 256 ^ (n - j) := by rw [Nat.div_div_eq_div_mul, ← Nat.pow_succ]; congr 2; omega
    have hst := hset j hk
    have hnt := hnth j hk
    have hle := hlen (j + 1) hk
    rw [hyk] at hy hdiv hst
    rw [hyk] at hdiv
    generalize yk (j + 1) = y at *
    obtain ⟨e1, he1, he1'⟩ : ∃ e1 : Int, ((j + 1 : Nat) : Int) - 1 = e1 ∧ e1 = (j : Int) := ⟨_, rfl, by omega⟩
    obtain ⟨c, hc, hc'⟩ : ∃ c : Int, IntKind.u8.wrap ((y : Int).tmod 256) = c ∧ c = ((y % 256 : Nat) : Int) := ⟨_, rfl, by rw [Int.tmod_eq_emod_of_nonneg (by omega), IntKind.wrap_u8]; omega⟩
    obtain ⟨q, hq, hq'⟩ : ∃ q : Int, IntKind.u64.wrap ((y : Int) / 256) = q ∧ q = ((y / 256 : Nat) : Int) := ⟨_, rfl, by rw [IntKind.wrap_u64]; omega⟩
    have hst' := hst c (by rw [byV_of (by omega), hc'])
    have hwe : IntKind.i64.wrap (e1 - 1) = (j : Int) - 1 := by rw [wrap_in (by omega) (by omega)]; omega
    have hbe : 0 ≤ e1 ∧ e1 < n := by omega
    have het : e1.toNat = j := by omega
    rw [he1]
    generalize rw_ (j + 1) = r1 at *
    generalize hr0 : rw_ j = r0 at *
    refine aw_seq ?_
    refine aw_block ?_
    refine aw_step [0, 5, 6] [8] (by simp [hc, hbe, het, hnt, hst', hle] <;> rfl) ?_   -- ref.go:23
    refine aw_one [0, 5, 6] [8] (by simp [hq] <;> rfl) ?_   -- ref.go:24
    refine aw_one [0, 5, 6] [8] (by simp [hwe] <;> rfl) ?_   -- ref.go:22
    refine ⟨(j, nx + 2 + 7 + 3 + 3), by simp only; omega, by simp only; omega, ?_⟩
    simp only [← hdiv, hq', hr0]
    exact AS.le_refl _
  · have hk0 : k = 0 := by simp at h1; omega
    subst hk0
    refine aw_exit ?_
    refine aw_step [4] [8] (by simp <;> rfl) ?_   -- ref.go:26
    rw [← hpl]
    exact aw_ret (endso_row 8 rfl rfl rfl hfl (by simp [Tryz.results43] <;> rfl) ⟨rfl, rfl⟩)
end Go.Proofs.YtmkbhognijicjaaGreatDoor

/- Journals: the reference's Trim, Append, Write, Join. No condition. -/
set_option linter.unusedSimpArgs false
set_option maxRecDepth 4000
namespace Go.Proofs.YtmkbhognijicjaaGreatDoor
open Go.Eng

theorem rdK0_le (l : List UInt8) : (rdK0 l).2.1 ≤ l.length := (rdK0_run l).le.1
theorem trimB_K (l : List UInt8) : trimB l = l.take (rdK0 l).2.1 := by rw [trimB, rdK0_rdJ]
theorem refTrim_ac (l : List UInt8) (hl : l.length ≤ 2 ^ 40) : AC Tryz.prog 25 [.ro 1 (bys l)] (fun r => r = .ro 1 (bys (trimB l))) := by
  have hc := refRead_ac l hl
  have hle := rdK0_le l
  have hcl := refCopied_ac (l.take (rdK0 l).2.1) (by simp; omega)
  have hpr := pureNd (rdK0 l).1
  have e1 : bys (l.take (rdK0 l).2.1) = (bys l).take (rdK0 l).2.1 := by simp
  have hp := bys_pure l
  have hll := bysL l
  unfold kV at hc
  rw [trimB_K]
  rw [e1] at hcl ⊢
  generalize (rdK0 l).2.2.2 = cd at hc
  generalize (rdK0 l).2.2.1 = dd at hc
  generalize (rdK0 l).2.1 = at_ at *
  generalize (rdK0 l).1.map Nd.v = nv at *
  generalize bys l = lv at *
  have hb : (at_ : Int) ≤ lv.length := by omega
  refine ac_intro Tryz.func25 rfl (by show (1 : Nat) ≤ 18; omega) (fun w0 N0 => ?_)
  refine aw_step [0] [] (by simp [Tryz.ntmps25] <;> rfl) ?_   -- ref.go:107
  refine aw_seq (aw_region ?_)   -- ref.go:108
  refine awl_go 1 (by simp <;> rfl) ?_
  refine awl_call1 hc Tryz.func41 rfl (by kernel_rfl) rfl rfl rfl rfl (by simp [hp]) (by simp <;> rfl) ?_
  refine awl_end [0, 4] [] (by simp <;> rfl) ?_
  refine aw_seq (aw_region ?_)   -- ref.go:109
  refine awl_go 3 (by simp [hb] <;> rfl) ?_
  refine awl_call1 hcl Tryz.func44 rfl (by kernel_rfl) rfl rfl rfl (by simp <;> rfl) (by simp [hp]) (by simp <;> rfl) ?_
  refine awl_end [2] [] (by simp <;> rfl) ?_
  exact aw_ret (ends_ret (by simp [Tryz.results25, hp] <;> rfl) rfl)

/-- All numbers of an event are of 64 bits. -/
def EvOk (e : Ev) : Prop := I64 e.kind ∧ I64 e.time ∧ I64 e.item ∧ (∀ c ∈ e.ch, I64 c) ∧ I64 e.value ∧ I64 e.ik ∧ I64 e.il ∧ I64 e.ig
theorem fit_num {t n : Int} (m : Nat) (ht : 0 ≤ t ∧ t ≤ 100) (hn : I64 n) : Fit (m + 1) (num t n) := by
  unfold num
  rw [Fit]
  exact ⟨ht.1, by omega, hn, .inl ⟨rfl, rfl, rfl⟩, by simp⟩
theorem fit_encK {e : Ev} (hE : encE e = 0) (ho : EvOk e) : Fit 8 (.mk 50 3 0 [] (encK e)) := by
  obtain ⟨h10, ht⟩ := encE_len hE
  obtain ⟨o1, o2, o3, o4, o5, o6, o7, o8⟩ := ho
  have hlen : (encK e).length ≤ 1024 := (encK_sum h10 ht).2
  have hz : I64 0 := by unfold I64; omega
  rw [Fit]
  refine ⟨by omega, by omega, hz, .inr (.inr ⟨rfl, rfl, rfl, hlen⟩), fun x hx => ?_⟩
  unfold encK at hx
  rcases List.mem_append.1 hx with h | h
  · simp at h
    rcases h with rfl | rfl
    · exact fit_num 6 (by omega) o1
    · exact fit_num 6 (by omega) o2
  · split at h
    · unfold ansK at h
      simp at h
      rcases h with rfl | rfl | rfl | rfl | rfl
      · exact fit_num 6 (by omega) o3
      · rw [Fit]
        refine ⟨by omega, by omega, hz, .inr (.inr ⟨rfl, rfl, rfl, by simp [chN]; omega⟩), fun x hx => ?_⟩
        simp only [chN, List.mem_map] at hx
        obtain ⟨n, hn, rfl⟩ := hx
        exact fit_num 5 (by omega) (o4 n hn)
      · exact fit_num 6 (by omega) o5
      · rw [Fit]
        exact ⟨by omega, by omega, hz, .inr (.inl ⟨rfl, rfl, rfl, by omega⟩), by simp⟩
      · exact fit_num 6 (by omega) (by unfold I64; split <;> omega)
    · split at h
      · simp at h
        rcases h with rfl | rfl | rfl
        · exact fit_num 6 (by omega) o6
        · exact fit_num 6 (by omega) o7
        · exact fit_num 6 (by omega) o8
      · simp at h

set_option maxHeartbeats 4000000 in
theorem refAppend_ac (a : List UInt8) (e : Ev) (hE : encE e = 0) (ho : EvOk e) (hl : a.length ≤ 2 ^ 39) : AC Tryz.prog 15 [.ro 1 (bys a), (Nd.mk 50 3 0 [] (encK e)).v] (fun r => r = bcV (appR a (byN (.mk 50 3 0 [] (encK e))))) := by
  refine AC.relaxP ?_
  have hrd := refRead_ac a (by omega)
  obtain ⟨h10, ht⟩ := encE_len hE
  have helen := enc_len h10 ht
  have hen := refEncode10_ac _ (fit_encK hE ho) (by omega)
  have hpk := pureNd (encK e)
  rw [Nd.v] at hen ⊢
  have hpa := bys_pure a
  have hfa := bys_flat a
  have hla := bysL a
  have hnl : ((rdK0 a).1.map Nd.v).length = (rdK0 a).1.length := by simp
  have hpn := pureNd (rdK0 a).1
  have hdg : (rdK0 a).2.2.2 = 0 → ((rdK0 a).2.2.1 : Int) = endD a := by
    intro h
    rw [rdK_dig]
    obtain ⟨s', hr⟩ := rdJ_run 301 0 14695981039346656037 [] (.start (l := a)) (by
      show (rdJ0 a).2.2 = 0
      rw [rdK0_rdJ]; exact h)
    have hj : Jok a := ⟨_, _, hr⟩
    obtain ⟨ns, hjr⟩ := hj.read
    rw [rdK0_rdJ] at hjr
    injection hjr with h1 h2
    injection h2 with h2 h3
    rw [h2, List.take_length]
  unfold kV at hrd
  unfold appR
  rw [rdK0_rdJ]
  simp only
  generalize hnn : (rdK0 a).1.map Nd.v = nv at hrd hnl hpn
  generalize (rdK0 a).1.length = nn at hnl ⊢
  generalize (rdK0 a).2.1 = at_ at hrd
  generalize (rdK0 a).2.2.1 = dd at hrd hdg
  generalize (rdK0 a).2.2.2 = cd at hrd hdg ⊢
  generalize (encK e).map Nd.v = kv at hen hpk ⊢
  generalize byN (.mk 50 3 0 [] (encK e)) = enc at hen helen ⊢
  have hpe := bys_pure enc
  have hfe := bys_flat enc
  have hle := bysL enc
  generalize hav : bys a = av at *
  generalize hev : bys enc = ev at *
  refine ac_intro Tryz.func15 rfl (by show (2 : Nat) ≤ 55; omega) (fun w0 N0 => ?_)
  refine aw_step [0, 3] [3] (by simp [Tryz.ntmps15, hpk] <;> rfl) ?_   -- ref.go:89
  refine aw_seq (aw_region ?_)   -- ref.go:90
  refine awl_go 1 (by simp <;> rfl) ?_
  refine awl_call1 hrd Tryz.func41 rfl (by kernel_rfl) rfl rfl rfl rfl (by simp [hpa]) (by simp <;> rfl) ?_
  refine awl_end [0, 3, 6, 8, 9] [3] (by simp <;> rfl) ?_
  refine aw_seq ?_
  refine aw_step [0, 3, 6, 8, 9, 22] [3] (by simp <;> rfl) ?_   -- ref.go:91
  refine aw_cond rfl (fun h1 => ?_) (fun h1 => aw_skip ?_)   -- if t22
  · have h1' : cd ≠ 0 := by simpa using h1
    rw [if_pos h1']
    refine aw_step [4, 5] [] (by simp <;> rfl) ?_   -- ref.go:92
    exact aw_ret (ends_ret (by simp [Tryz.results15] <;> rfl) (nilRx _))
  have h1' : ¬ cd ≠ 0 := by simpa using h1
  rw [if_neg h1']
  have hdd := hdg (by simpa using h1')
  refine aw_seq (aw_region ?_)   -- ref.go:94
  refine awl_go 1 (by simp <;> rfl) ?_
  refine awl_call1 hen Tryz.func42 rfl (by kernel_rfl) rfl rfl rfl rfl (by simp [hpk]) (by simp <;> rfl) ?_
  refine awl_end [0, 6, 8, 10, 11] [] (by simp <;> rfl) ?_
  refine aw_seq ?_
  refine aw_step [0, 6, 8, 10, 30] [] (by simp <;> rfl) ?_   -- ref.go:95
  refine aw_cond rfl (fun h2 => by simp at h2) (fun h2 => aw_skip ?_)   -- if t30
  refine aw_seq ?_
  refine aw_step [0, 8, 10, 38] [] (by simp <;> rfl) ?_   -- ref.go:98
  refine aw_cond rfl (fun h4 => ?_) (fun h4 => aw_skip ?_)   -- if t38
  · have h4' : 2000 < enc.length ∨ 300 ≤ nn := by simp at h4; omega
    rw [if_pos h4']
    refine aw_step [4, 5] [] (by simp <;> rfl) ?_   -- ref.go:99
    exact aw_ret (ends_ret (by simp [Tryz.results15] <;> rfl) (nilRx _))
  have h4' : ¬ (2000 < enc.length ∨ 300 ≤ nn) := by simp at h4; omega
  rw [if_neg h4']
  have hw1 : IntKind.u64.wrap (ev.length : Int) = ev.length := u64_in (by omega)
  have hput := refBytes_aco ev.length 4 (by omega) (by omega)
  have hpl : (bys (putB ev.length 4)).length = 4 := by rw [bysL, putB_len]
  have hrc : bys (recB enc) = bys (putB ev.length 4) ++ ev := by rw [← hev, bysL]; simp [recB]
  generalize bys (putB ev.length 4) = pv at hput hpl hrc
  have hb1 : pv.length + ev.length ≤ maxLen := by simp [maxLen]; omega
  have hb2 : pv.length + ev.length ≤ 140737488355328 := by omega
  refine aw_seq (aw_region ?_)   -- ref.go:101
  refine awl_go 3 (by simp [hw1] <;> rfl) ?_
  refine awl_callO1 43 hput Tryz.func43 rfl (by kernel_rfl) rfl rfl rfl (by simp <;> rfl) (by simp <;> rfl) (by simp <;> rfl) ?_
  refine awl_end [0, 8, 12] [43] (by simp [hb1, hb2] <;> rfl) ?_
  rw [← hrc]
  have hrl : (bys (recB enc)).length = pv.length + ev.length := by rw [hrc]; simp
  have hcl := refCopied_aco a (by omega)
  rw [hav] at hcl
  have hfr := bys_flat (recB enc)
  have hpr := bys_pure (recB enc)
  have her := endD_range a
  have hdt : dd = (endD a).toNat := by omega
  have hch := refChain_ac dd (by omega) (recB enc)
  rw [hdt] at hch
  have hcr := chn_range (endD a).toNat (recB enc)
  have hpt := refBytes_aco (sumB a enc) 8 (by unfold sumB; omega) (by omega)
  have hsb : ((sumB a enc : Nat) : Int) = chn (endD a).toNat (recB enc) := by unfold sumB; omega
  rw [hsb] at hpt
  have hfin : bys (appB a enc) = av ++ bys (recB enc) ++ bys (putB (sumB a enc) 8) := by simp [appB, ← hav]
  have hps := bys_pure (putB (sumB a enc) 8)
  have hps8 : (bys (putB (sumB a enc) 8)).length = 8 := by rw [bysL, putB_len]
  have hbc : bcV (appB a enc, 0) = .tup [.ro 1 (bys (appB a enc)), .int .i64 0] := rfl
  rw [hbc, hfin]
  have hlr : (pv ++ ev).length = pv.length + ev.length := by simp
  rw [← hrc] at hlr
  rw [← hdt] at hch hpt
  generalize chn dd (recB enc) = cs at *
  generalize bys (putB (sumB a enc) 8) = sv at *
  generalize bys (recB enc) = rv at *
  have hb3 : av.length + rv.length ≤ maxLen := by simp [maxLen]; omega
  have hb4 : av.length + rv.length ≤ 140737488355328 := by omega
  have hb5 : av.length + rv.length + sv.length ≤ maxLen := by simp [maxLen]; omega
  have hb6 : av.length + rv.length + sv.length ≤ 140737488355328 := by omega
  rw [← hlr]
  refine aw_seq (aw_region ?_)   -- ref.go:102
  refine awl_go 1 (by simp <;> rfl) ?_
  refine awl_callO1 47 hcl Tryz.func44 rfl (by kernel_rfl) rfl rfl rfl (by simp <;> rfl) (by simp [hpa] <;> rfl) (by simp <;> rfl) ?_
  refine awl_end [8, 12, 13] [43, 47] (by simp [hb3, hb4] <;> rfl) ?_
  refine aw_seq (aw_region ?_)   -- ref.go:103
  refine awl_go 3 (by simp <;> rfl) ?_
  refine awl_call1v hch Tryz.func45 rfl (by kernel_rfl) rfl rfl rfl (by simp <;> rfl) (by simp [hpr] <;> rfl) rfl (by simp <;> rfl) ?_
  refine awl_callO1 53 hpt Tryz.func43 rfl (by kernel_rfl) rfl rfl rfl (by simp <;> rfl) (by simp <;> rfl) (by simp <;> rfl) ?_
  refine awl_end [4, 5] [47] (by simp [hb5, hb6] <;> rfl) ?_
  exact aw_ret (ends_ret (by simp [Tryz.results15, hpa, hpr, hps, Nat.add_assoc] <;> rfl) (by simp only [List.append_assoc]; exact .refl _))

set_option maxHeartbeats 4000000 in
theorem refWrite52_ac (a : List UInt8) (e : Ev) (ho : EvOk e) (hl : a.length ≤ 2 ^ 39) : AC Tryz.prog 5 [.ro 1 (bys a), e.v] (fun r => r = bcV (wrR a e)) := by
  refine AC.relaxP ?_
  have hpa := bys_pure a
  have hpe := pureI e.ch
  have hen := refEncode_ac e
  unfold encV encN at hen
  have happ : encE e = 0 → _ := fun hE => refAppend_ac a e hE ho hl
  unfold Ev.v at *
  unfold wrR
  generalize nums e.ch = cv at *
  generalize bys a = av at *
  by_cases hE : encE e = 0
  · rw [if_neg (by simpa using hE)]
    have ha := happ hE
    rw [if_pos hE, hE, Nd.v] at hen
    rw [Nd.v] at ha
    have hpk := pureNd (encK e)
    generalize (encK e).map Nd.v = kv at *
    have hpr := bys_pure (appR a (byN (.mk 50 3 0 [] (encK e)))).1
    unfold bcV at ha ⊢
    generalize bys (appR a (byN (.mk 50 3 0 [] (encK e)))).1 = rv at *
    generalize (appR a (byN (.mk 50 3 0 [] (encK e)))).2 = rc at *
    refine ac_intro Tryz.func5 rfl (by show (2 : Nat) ≤ 21; omega) (fun w0 N0 => ?_)
    refine aw_step [0, 3] [3] (by simp [Tryz.ntmps5] <;> rfl) ?_   -- ref.go:92
    refine aw_seq (aw_region ?_)   -- ref.go:93
    refine awl_go 1 (by simp <;> rfl) ?_
    refine awl_call1 hen Tryz.func14 rfl (by kernel_rfl) rfl rfl rfl rfl (by simp [hpe]) (by simp <;> rfl) ?_
    refine awl_end [0, 6, 7] [6] (by simp <;> rfl) ?_
    refine aw_seq ?_
    refine aw_step [0, 6, 7, 14] [6] (by simp <;> rfl) ?_   -- ref.go:94
    refine aw_cond rfl (fun h1 => by simp at h1) (fun h1 => aw_skip ?_)   -- if t14
    refine aw_seq (aw_region ?_)   -- ref.go:97
    refine awl_go 2 (by simp <;> rfl) ?_
    refine awl_call1 ha Tryz.func15 rfl (by kernel_rfl) rfl rfl rfl rfl (by simp [hpa, hpk]) (by simp <;> rfl) ?_
    refine awl_end [4, 5] [] (by simp <;> rfl) ?_
    exact aw_ret (ends_ret (by simp [Tryz.results5, hpr] <;> rfl) (.refl _))
  · rw [if_pos (by simpa using hE)]
    rw [if_neg hE, zNd, Nd.v, List.map_nil] at hen
    clear happ
    generalize encE e = ec at *
    refine ac_intro Tryz.func5 rfl (by show (2 : Nat) ≤ 21; omega) (fun w0 N0 => ?_)
    refine aw_step [0, 3] [3] (by simp [Tryz.ntmps5] <;> rfl) ?_   -- ref.go:92
    refine aw_seq (aw_region ?_)   -- ref.go:93
    refine awl_go 1 (by simp <;> rfl) ?_
    refine awl_call1 hen Tryz.func14 rfl (by kernel_rfl) rfl rfl rfl rfl (by simp [hpe]) (by simp <;> rfl) ?_
    refine awl_end [0, 6, 7] [6] (by simp <;> rfl) ?_
    refine aw_seq ?_
    refine aw_step [0, 6, 7, 14] [6] (by simp <;> rfl) ?_   -- ref.go:94
    refine aw_cond rfl (fun h1 => ?_) (fun h1 => by simp [hE] at h1)   -- if t14
    refine aw_step [4, 5] [] (by simp <;> rfl) ?_   -- ref.go:95
    exact aw_ret (ends_ret (by simp [Tryz.results5] <;> rfl) (nilRx _))

set_option maxHeartbeats 4000000 in
theorem refJoin_ac (x y : List UInt8) (hx : x.length ≤ 2 ^ 40) (hy : y.length ≤ 2 ^ 40) : AC Tryz.prog 11 [.ro 1 (bys x), .ro 1 (bys y)] (fun r => r = bcV (joinR x y)) := by
  refine AC.relaxP ?_
  have h1 := refTrim_ac x hx
  have h2 := refTrim_ac y hy
  have h3 := refExtends_ac (trimB x) (trimB y)
  have h4 := refExtends_ac (trimB y) (trimB x)
  have hpx := bys_pure x
  have hpy := bys_pure y
  have hptx := bys_pure (trimB x)
  have hpty := bys_pure (trimB y)
  unfold joinR
  generalize bys x = xv at *
  generalize bys y = yv at *
  generalize begB (trimB x) (trimB y) = b1 at *
  generalize begB (trimB y) (trimB x) = b2 at *
  have hv1 : bcV (trimB x, 0) = .tup [.ro 1 (bys (trimB x)), .int .i64 0] := rfl
  have hv2 : bcV (trimB y, 0) = .tup [.ro 1 (bys (trimB y)), .int .i64 0] := rfl
  generalize bys (trimB x) = xt at *
  generalize bys (trimB y) = yt at *
  refine ac_intro Tryz.func11 rfl (by show (2 : Nat) ≤ 20; omega) (fun w0 N0 => ?_)
  refine aw_step [0, 1] [] (by simp [Tryz.ntmps11] <;> rfl) ?_   -- ref.go:157
  refine aw_seq (aw_region ?_)   -- ref.go:158
  refine awl_go 1 (by simp <;> rfl) ?_
  refine awl_call1 h1 Tryz.func25 rfl (by kernel_rfl) rfl rfl rfl rfl (by simp [hpx]) (by simp <;> rfl) ?_
  refine awl_go 1 (by simp <;> rfl) ?_
  refine awl_call1 h2 Tryz.func25 rfl (by kernel_rfl) rfl rfl rfl rfl (by simp [hpy]) (by simp <;> rfl) ?_
  refine awl_end [6, 7] [] (by simp <;> rfl) ?_
  refine aw_seq ?_
  refine aw_seq (aw_region ?_)   -- ref.go:159
  refine awl_go 2 (by simp <;> rfl) ?_
  refine awl_call1 h3 Tryz.func26 rfl (by kernel_rfl) rfl rfl rfl rfl (by simp [hptx, hpty]) (by simp <;> rfl) ?_
  refine awl_end [6, 7, 14] [] (by simp <;> rfl) ?_
  refine aw_cond rfl (fun hb1 => ?_) (fun hb1 => aw_skip ?_)   -- if t14
  · subst hb1
    refine aw_step [4, 5] [] (by simp <;> rfl) ?_   -- ref.go:160
    exact aw_ret (ends_ret (by simp [Tryz.results11, hptx] <;> rfl) (by simp only [if_true, hv1]; exact .refl _))
  subst hb1
  refine aw_seq ?_
  refine aw_seq (aw_region ?_)   -- ref.go:162
  refine awl_go 2 (by simp <;> rfl) ?_
  refine awl_call1 h4 Tryz.func26 rfl (by kernel_rfl) rfl rfl rfl rfl (by simp [hptx, hpty]) (by simp <;> rfl) ?_
  refine awl_end [7, 18] [] (by simp <;> rfl) ?_
  refine aw_cond rfl (fun hb2 => ?_) (fun hb2 => aw_skip ?_)   -- if t18
  · subst hb2
    refine aw_step [4, 5] [] (by simp <;> rfl) ?_   -- ref.go:163
    exact aw_ret (ends_ret (by simp [Tryz.results11, hpty] <;> rfl) (by simp only [Bool.false_eq_true, if_false, if_true, hv2]; exact .refl _))
  subst hb2
  refine aw_step [4, 5] [] (by simp <;> rfl) ?_   -- ref.go:165
  exact aw_ret (ends_ret (by simp [Tryz.results11] <;> rfl) (by simp only [Bool.false_eq_true, if_false]; exact nilRx _))
end Go.Proofs.YtmkbhognijicjaaGreatDoor
