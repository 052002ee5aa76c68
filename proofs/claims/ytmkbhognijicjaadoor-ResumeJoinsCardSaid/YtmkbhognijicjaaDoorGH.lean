import Derived.Test.YtmkbhognijicjaaDoorGG
import Derived.Test.YtmkbhognijicjaaDoorGF
import Derived.Test.YtmkbhognijicjaaDoorGD
/- Joins: reading a journal. No condition. -/
set_option linter.unusedSimpArgs false
set_option maxRecDepth 4000
namespace Go.Proofs.YtmkbhognijicjaaDoor
open Go.Eng

/-- Reads entries while there are bytes: the trees, how far, the code. -/
def rdJ (l : List UInt8) : Nat → Nat → Nat → List Nd → List Nd × Nat × Int
  | 0, at_, _, ns => (ns, at_, 5)
  | f + 1, at_, s, ns => if l.length ≤ at_ then (ns, at_, 0) else match entD (l.drop at_) s ns.length with
    | .error e => (ns, at_, e)
    | .ok (x, k, s') => rdJ l f (at_ + k) s' (ns ++ [x])
def rdJ0 (l : List UInt8) : List Nd × Nat × Int := rdJ l 301 0 14695981039346656037 []
def jV (r : List Nd × Nat × Int) : V := .tup [.ro 5 (r.1.map Nd.v), .int .i64 r.2.1, .int .i64 r.2.2]
theorem entD_ok {l : List UInt8} {sum : Nat} {n : Int} {x : Nd} {k s : Nat} (h : entD l sum n = .ok (x, k, s)) : n < 300 ∧ 12 ≤ k ∧ k ≤ l.length ∧ k ≤ 2012 ∧ s < 2 ^ 64 := by
  unfold entD at h
  split at h
  · cases h
  split at h
  · cases h
  split at h
  · cases h
  split at h
  · cases h
  split at h
  · cases h
  split at h
  · split at h
    · injection h with h
      injection h with h1 h2
      injection h2 with h2 h3
      have := chn_range sum (l.take (4 + getB (l.take 4)))
      omega
    · cases h
  · cases h
set_option maxHeartbeats 4000000 in
theorem read_acg (l : List UInt8) (hlen : l.length ≤ 2 ^ 40) : ACG 0 errT Tryd.prog 15 [.ro 1 (bys l)] (fun r => r = jV (rdJ0 l)) := by
  have hp := bys_pure l
  have hl := bysL l
  have hdr : ∀ k, bys (l.drop k) = (bys l).drop k := by intro k; simp
  have hent : ∀ (k s : Nat) (n : Int), s < 2 ^ 64 → AC Tryd.prog 27 [.ro 1 ((bys l).drop k), .int .u64 s, .int .i64 n] (fun r => r = entV (entD (l.drop k) s n)) := by
    intro k s n hs
    rw [← hdr]
    exact entry_ac _ _ _ hs
  clear hdr
  generalize hlv : bys l = lv at hp hl hent
  refine acg_intro Tryd.func15 rfl (by show (1 : Nat) ≤ 47; omega) (fun w0 N0 hG => ?_)
  refine aw_step [0] [] (by simp [Tryd.ntmps15] <;> rfl) ?_   -- journal.go:75
  refine aw_step [0, 5] [] (by simp <;> rfl) ?_   -- journal.go:76
  refine aw_seq (aw_region ?_)   -- journal.go:77
  refine awl_call1 ofNil_ac Tryd.func26 rfl (by kernel_rfl) rfl rfl rfl rfl rfl (by simp <;> rfl) ?_
  refine awl_end [0, 5, 6, 7] [] (by simp <;> rfl) ?_
  refine aw_adoptS 5 100 5 39 [0, 5, 6, 7] [100] (by simp <;> rfl) (by simp <;> rfl) ?_
  refine aw_seq ?_
  refine aw_block ?_
  refine aw_loop (fun p : Nat × Nat × List Nd × Nat × Nat => ⟨[(0, .ro 1 lv), (5, .sl 100 p.2.2.2.1 5 (p.2.2.1.map Nd.v).length), (6, .int .i64 p.1), (7, .int .u64 p.2.1)], [(100, ⟨p.2.2.2.1, 5, 39, p.2.2.1.map Nd.v⟩)], p.2.2.2.2, 47⟩)
    (fun p => p.2.2.1.length ≤ 300 ∧ p.1 ≤ l.length ∧ p.2.1 < 2 ^ 64 ∧ rdJ l (301 - p.2.2.1.length) p.1 p.2.1 p.2.2.1 = rdJ0 l) (fun p => 301 - p.2.2.1.length) (0, 14695981039346656037, [], _, _) ⟨by simp, by simp, by simp, rfl⟩ (by simp [dig0]; exact AS.le_refl _) ?_
  rintro ⟨at_, sum, acc, vr, nx⟩ ⟨hacc, hat_, hsum, hR⟩
  simp only at hacc hat_ hsum hR
  have hpacc := pureNd acc
  have hal : (acc.map Nd.v).length = acc.length := by simp
  obtain ⟨m, hm⟩ : ∃ m, 301 - acc.length = m + 1 := ⟨300 - acc.length, by omega⟩
  rw [hm, rdJ] at hR
  simp only
  generalize hav : acc.map Nd.v = av at hpacc hal
  have hb1 : av.length + 1 ≤ maxLen := by simp [maxLen]; omega
  have hb2 : (av.length + 1) * 64 ≤ 140737488355328 := by omega
  refine aw_seq ?_
  refine aw_step [0, 5, 6, 7, 17] [100] (by simp <;> rfl) ?_   -- journal.go:78
  refine aw_cond rfl (fun h1 => aw_skip ?_) (fun h1 => ?_)   -- if t17
  · have h1' : ¬ l.length ≤ at_ := by simp at h1; omega
    rw [if_neg h1'] at hR
    have hbd : (at_ : Int) ≤ lv.length := by omega
    have hta : lv.length - at_ = (lv.drop at_).length := by simp
    have hent' : AC Tryd.prog 27 [.ro 1 ((lv.drop at_).take (lv.length - at_)), .int .u64 sum, .int .i64 av.length] (fun r => r = entV (entD (l.drop at_) sum acc.length)) := by
      rw [hta, List.take_length, hal]
      exact hent at_ sum _ hsum
    refine aw_block ?_
    refine aw_seq (aw_region ?_)   -- journal.go:79
    refine awl_go 6 (by simp [hbd] <;> rfl) ?_
    cases hx : entD (l.drop at_) sum acc.length with
    | error er =>
      rw [hx] at hR hent'
      simp only at hR
      simp only [entV, Nd.v, List.map_nil] at hent'
      refine awl_call1 hent' Tryd.func27 rfl (by kernel_rfl) rfl rfl rfl (by simp <;> rfl) (by simp [hp]) (by simp <;> rfl) ?_
      refine awl_end [0, 5, 6, 8, 9, 10, 11] [8, 100] (by simp <;> rfl) ?_
      refine aw_step [0, 5, 6, 8, 9, 10, 11, 12] [8, 12, 100] (by simp <;> rfl) ?_   -- journal.go:80
      refine aw_seq ?_
      refine aw_seq (aw_region ?_)   -- journal.go:81
      refine awl_go 2 (by simp <;> rfl) ?_
      refine awl_callSG hG (as_hit_acs 12 (nx + 21) 0 er) Tryd.func28 rfl (by kernel_rfl) rfl rfl rfl (by simp <;> rfl) (fun k o hk => get_one (by simp [Eng.get]) hk) (fun r outs nx2 hr hnx => ?_)
      obtain ⟨rfl, rfl⟩ := hr
      refine ⟨fun k hk => by simp_all [Eng.get], _, by simp <;> rfl, ?_⟩
      refine awl_end [5, 6, 12, 32] [12, 100] (by simp <;> rfl) ?_
      refine aw_cond rfl (fun h2 => ?_) (fun h2 => by simp at h2)   -- if t32
      refine aw_freeze 100 [5, 6, 12] [12] (by simp [hpacc] <;> rfl) ?_
      refine aw_dstep [(0, []), (1, []), (2, []), (4, []), (5, []), (3, []), (6, [])] [2, 3, 4] [] hmix (by kernel_rfl) (by simp <;> rfl) ?_   -- journal.go:82
      refine aw_ret (ends_ret (by simp [Tryd.results15] <;> rfl) ?_)
      rw [← hR, jV]
      simp [hav]
    | ok p =>
      obtain ⟨x, k, s'⟩ := p
      obtain ⟨hk1, hk2, hk3, hk4, hk5⟩ := entD_ok hx
      rw [hx] at hR hent'
      simp only at hR
      simp only [List.length_drop] at hk3
      rcases hxx : x with ⟨xt, xk, xn, xs, xks⟩
      have hxv : x.v = .agg [.int .i64 xt, .int .i64 xk, .int .i64 xn, .str xs, .ro 5 (xks.map Nd.v)] := by rw [hxx, Nd.v]
      simp only [entV, hxv] at hent'
      have hpk := pureNd xks
      generalize hkvv : xks.map Nd.v = xkv at hent' hpk hxv
      have hwk : IntKind.i64.wrap ((at_ : Int) + k) = (at_ : Int) + k := wrap_in (by omega) (by omega)
      refine awl_call1 hent' Tryd.func27 rfl (by kernel_rfl) rfl rfl rfl (by simp <;> rfl) (by simp [hp]) (by simp <;> rfl) ?_
      refine awl_end [0, 5, 6, 8, 9, 10, 11] [8, 100] (by simp <;> rfl) ?_
      refine aw_step [0, 5, 6, 8, 9, 10, 11, 12] [8, 12, 100] (by simp <;> rfl) ?_   -- journal.go:80
      refine aw_seq ?_
      refine aw_seq (aw_region ?_)   -- journal.go:81
      refine awl_go 2 (by simp <;> rfl) ?_
      refine awl_callSG hG (as_nil_acs _) Tryd.func28 rfl (by kernel_rfl) rfl rfl rfl (by simp <;> rfl) (fun k o hk => by simp [Eng.get] at hk) (fun r outs nx2 hr hnx => ?_)
      obtain ⟨rfl, rfl⟩ := hr
      refine ⟨fun k hk => by simp_all [Eng.get], _, by simp <;> rfl, ?_⟩
      refine awl_end [0, 5, 6, 8, 9, 10, 32] [8, 100] (by simp <;> rfl) ?_
      refine aw_cond rfl (fun h2 => by simp at h2) (fun h2 => aw_skip ?_)   -- if t32
      refine aw_step [0, 5, 6, 9, 10] [100] (by simp [hb1, hb2] <;> rfl) ?_   -- journal.go:84
      refine aw_step [0, 5, 6, 10] [100] (by simp [hwk] <;> rfl) ?_   -- journal.go:85
      refine aw_one [0, 5, 6, 7] [100] (by simp <;> rfl) ?_   -- journal.go:86
      refine ⟨(at_ + k, s', acc ++ [x], nx2 + 3 + 3, nx2 + 3 + 5 + 4 + 2), ⟨by simp; omega, by simp only; omega, hk5, ?_⟩, by simp; omega, ?_⟩
      · simp only [List.length_append, List.length_cons, List.length_nil]
        rw [show 301 - (acc.length + (0 + 1)) = m by omega]
        exact hR
      · have hc1 : ((at_ + k : Nat) : Int) = (at_ : Int) + k := by omega
        simp only [hc1, List.map_append, hav, List.map_cons, List.map_nil, hxv, List.length_append, List.length_cons, List.length_nil]
        exact AS.le_refl _
  · have h1' : l.length ≤ at_ := by simp at h1; omega
    rw [if_pos h1'] at hR
    refine aw_exit ?_
    refine aw_freeze 100 [5, 6] [] (by simp [hpacc] <;> rfl) ?_
    refine aw_step [2, 3, 4] [] (by simp <;> rfl) ?_   -- journal.go:88
    refine aw_ret (ends_ret (by simp [Tryd.results15] <;> rfl) ?_)
    rw [← hR, jV]
    simp [hav]
end Go.Proofs.YtmkbhognijicjaaDoor

/- Joins: Trim, Append. No condition. -/
set_option linter.unusedSimpArgs false
set_option maxRecDepth 4000
namespace Go.Proofs.YtmkbhognijicjaaDoor
open Go.Eng

theorem clone_aco (l : List UInt8) (hl : l.length ≤ 2 ^ 40) : ACO Tryd.prog 19 [.ro 1 (bys l)] 1 5 (fun F es' => (F = fun d q => .sl d q 1 (bys l).length) ∧ es' = bys l) := by
  have hf := bys_flat l
  have hp := bys_pure l
  have hll := bysL l
  generalize bys l = lv at hf hp hll
  have hb1 : lv.length ≤ maxLen := by simp [maxLen]; omega
  have hb2 : lv.length ≤ 140737488355328 := by omega
  refine aco_intro Tryd.func19 rfl (by show (1 : Nat) ≤ 8; omega) (fun w0 N0 => ?_)
  refine aw_step [0] [] (by simp [Tryd.ntmps19] <;> rfl) ?_
  refine aw_seq ?_
  refine aw_seq (aw_region ?_)
  refine awl_go 1 (by simp <;> rfl) ?_
  refine awl_isnil rfl rfl (by simp <;> rfl) rfl (by kernel_rfl) (fun b hb => ⟨_, by simp <;> rfl, ?_⟩)
  refine awl_end [0, 4] [] (by simp <;> rfl) ?_
  refine aw_cond rfl (fun h1 => ?_) (fun h1 => aw_skip ?_)
  · have h0 : lv = [] := List.eq_nil_of_length_eq_zero (hb h1)
    subst h0
    refine aw_step [2] [] (by simp <;> rfl) ?_
    refine aw_adoptS 2 5 1 5 [2] [5] (by simp <;> rfl) (by simp <;> rfl) ?_
    exact aw_ret (endso_row 5 rfl rfl rfl hf (by simp [Tryd.results19] <;> rfl) ⟨rfl, rfl⟩)
  refine aw_step [2] [5] (by simp [hb1, hb2] <;> rfl) ?_
  exact aw_ret (endso_row 5 rfl rfl rfl hf (by simp [Tryd.results19] <;> rfl) ⟨rfl, rfl⟩)

theorem rdJ_le (l : List UInt8) : ∀ (f at_ s : Nat) (ns : List Nd), at_ ≤ l.length → (rdJ l f at_ s ns).2.1 ≤ l.length
  | 0, at_, s, ns, h => h
  | f + 1, at_, s, ns, h => by
    rw [rdJ]
    split
    · exact h
    · split
      · exact h
      · rename_i x k s' hx
        have := entD_ok hx
        simp only [List.length_drop] at this
        exact rdJ_le l f _ _ _ (by omega)
def trimB (l : List UInt8) : List UInt8 := l.take (rdJ0 l).2.1
theorem trim_acg (l : List UInt8) (hl : l.length ≤ 2 ^ 40) : ACG 0 errT Tryd.prog 9 [.ro 1 (bys l)] (fun r => r = .ro 1 (bys (trimB l))) := by
  have hc := read_acg l hl
  have hle := rdJ_le l 301 0 14695981039346656037 [] (Nat.zero_le _)
  have hcl := clone_ac (l.take (rdJ0 l).2.1) (by simp; omega)
  have hpr := pureNd (rdJ0 l).1
  have e1 : bys (l.take (rdJ0 l).2.1) = (bys l).take (rdJ0 l).2.1 := by simp
  have hp := bys_pure l
  have hll := bysL l
  unfold jV at hc
  unfold trimB
  rw [e1] at hcl ⊢
  change (rdJ0 l).2.1 ≤ _ at hle
  generalize (rdJ0 l).2.2 = cd at hc
  generalize (rdJ0 l).2.1 = at_ at *
  generalize (rdJ0 l).1.map Nd.v = nv at *
  generalize bys l = lv at *
  have hb : (at_ : Int) ≤ lv.length := by omega
  refine acg_intro Tryd.func9 rfl (by show (1 : Nat) ≤ 16; omega) (fun w0 N0 hG => ?_)
  refine aw_step [0] [] (by simp [Tryd.ntmps9] <;> rfl) ?_
  refine aw_seq (aw_region ?_)
  refine awl_go 1 (by simp <;> rfl) ?_
  refine awl_call1G hG hc Tryd.func15 rfl (by kernel_rfl) rfl rfl rfl rfl (by simp [hp]) (by simp <;> rfl) ?_
  refine awl_end [0, 4] [] (by simp <;> rfl) ?_
  refine aw_seq (aw_region ?_)
  refine awl_go 3 (by simp [hb] <;> rfl) ?_
  refine awl_call1 hcl Tryd.func19 rfl (by kernel_rfl) rfl rfl rfl (by simp <;> rfl) (by simp [hp]) (by simp <;> rfl) ?_
  refine awl_end [2] [] (by simp <;> rfl) ?_
  exact aw_ret (ends_ret (by simp [Tryd.results9, hp] <;> rfl) rfl)
end Go.Proofs.YtmkbhognijicjaaDoor

/- Joins: Append. No condition. -/
set_option linter.unusedSimpArgs false
set_option maxRecDepth 4000
namespace Go.Proofs.YtmkbhognijicjaaDoor
open Go.Eng

theorem endD_range (l : List UInt8) : 0 ≤ endD l ∧ endD l < 2 ^ 64 := by
  unfold endD
  split
  · unfold dig0; omega
  · have := getB_lt (l.drop (l.length - 8)); omega
/-- The record that an entry's bytes make. -/
def recB (enc : List UInt8) : List UInt8 := putB enc.length 4 ++ enc
def sumB (a enc : List UInt8) : Nat := (chn (endD a).toNat (recB enc)).toNat
def appB (a enc : List UInt8) : List UInt8 := a ++ recB enc ++ putB (sumB a enc) 8
def appR (a enc : List UInt8) : List UInt8 × Int :=
  if (rdJ0 a).2.2 ≠ 0 then ([], (rdJ0 a).2.2) else
  if 2000 < enc.length ∨ 300 ≤ (rdJ0 a).1.length then ([], 5) else (appB a enc, 0)
def bcV (r : List UInt8 × Int) : V := .tup [.ro 1 (bys r.1), .int .i64 r.2]
theorem nilRx (c : Int) : Relax (.tup [.nils, .int .i64 c]) (bcV ([], c)) := by
  unfold bcV
  exact Relax.tup (.cons (.nils 1) (.refl _))
set_option maxHeartbeats 4000000 in
theorem append_acg (a : List UInt8) (e : Ev) (hE : encE e = 0) (hl : a.length ≤ 2 ^ 39) : ACG 0 errT Tryd.prog 8 [.ro 1 (bys a), (Nd.mk 50 3 0 [] (encK e)).v] (fun r => r = bcV (appR a (byN (.mk 50 3 0 [] (encK e))))) := by
  refine ACG.relaxP ?_
  have hrd := read_acg a (by omega)
  have hva := valid_ac e hE
  have hen := cEncode_ac e hE
  have hpk := pureNd (encK e)
  rw [Nd.v] at hva hen ⊢
  have hpa := bys_pure a
  have hfa := bys_flat a
  have hla := bysL a
  have hnl : ((rdJ0 a).1.map Nd.v).length = (rdJ0 a).1.length := by simp
  have hpn := pureNd (rdJ0 a).1
  unfold jV at hrd
  unfold appR
  generalize hnn : (rdJ0 a).1.map Nd.v = nv at hrd hnl hpn
  generalize (rdJ0 a).1.length = nn at hnl ⊢
  generalize (rdJ0 a).2.1 = at_ at hrd
  generalize (rdJ0 a).2.2 = cd at hrd ⊢
  generalize (encK e).map Nd.v = kv at hva hen hpk ⊢
  generalize byN (.mk 50 3 0 [] (encK e)) = enc at hen ⊢
  have hpe := bys_pure enc
  have hfe := bys_flat enc
  have hle := bysL enc
  refine acg_intro Tryd.func8 rfl (by show (2 : Nat) ≤ 56; omega) (fun w0 N0 hG => ?_)
  generalize hav : bys a = av at *
  generalize hev : bys enc = ev at *
  refine aw_step [0, 3] [3] (by simp [Tryd.ntmps8, hpk] <;> rfl) ?_   -- journal.go:92
  refine aw_seq (aw_region ?_)   -- journal.go:93
  refine awl_go 1 (by simp <;> rfl) ?_
  refine awl_call1G hG hrd Tryd.func15 rfl (by kernel_rfl) rfl rfl rfl rfl (by simp [hpa]) (by simp <;> rfl) ?_
  refine awl_end [0, 3, 6, 8] [3] (by simp <;> rfl) ?_
  refine aw_seq ?_
  refine aw_step [0, 3, 6, 8, 19] [3] (by simp <;> rfl) ?_   -- journal.go:94
  refine aw_cond rfl (fun h1 => ?_) (fun h1 => aw_skip ?_)   -- if t19
  · have h1' : cd ≠ 0 := by simpa using h1
    rw [if_pos h1']
    refine aw_step [4, 5] [] (by simp <;> rfl) ?_   -- journal.go:95
    exact aw_ret (ends_ret (by simp [Tryd.results8] <;> rfl) (nilRx _))
  have h1' : ¬ cd ≠ 0 := by simpa using h1
  rw [if_neg h1']
  refine aw_seq ?_
  refine aw_seq (aw_region ?_)   -- journal.go:97
  refine awl_go 1 (by simp <;> rfl) ?_
  refine awl_call1 hva Tryd.func16 rfl (by kernel_rfl) rfl rfl rfl rfl (by simp [hpk]) (by simp <;> rfl) ?_
  refine awl_end [0, 3, 6, 23] [3] (by simp <;> rfl) ?_
  refine aw_cond rfl (fun h2 => by simp at h2) (fun h2 => aw_skip ?_)   -- if t23
  refine aw_seq (aw_region ?_)   -- journal.go:100
  refine awl_go 1 (by simp <;> rfl) ?_
  refine awl_call1 hen Tryd.func17 rfl (by kernel_rfl) rfl rfl rfl rfl (by simp [hpk]) (by simp <;> rfl) ?_
  refine awl_end [0, 6, 8, 9] [] (by simp <;> rfl) ?_
  refine aw_seq ?_
  refine aw_step [0, 6, 8, 9, 30] [] (by simp <;> rfl) ?_   -- journal.go:101
  refine aw_cond rfl (fun h3 => by simp at h3) (fun h3 => aw_skip ?_)   -- if t30
  refine aw_seq ?_
  refine aw_step [0, 9, 39] [] (by simp <;> rfl) ?_   -- journal.go:104
  refine aw_cond rfl (fun h4 => ?_) (fun h4 => aw_skip ?_)   -- if t39
  · have h4' : 2000 < enc.length ∨ 300 ≤ nn := by simp at h4; omega
    rw [if_pos h4']
    refine aw_step [4, 5] [] (by simp <;> rfl) ?_   -- journal.go:105
    exact aw_ret (ends_ret (by simp [Tryd.results8] <;> rfl) (nilRx _))
  have h4' : ¬ (2000 < enc.length ∨ 300 ≤ nn) := by simp at h4; omega
  rw [if_neg h4']
  have hw1 : IntKind.u64.wrap (ev.length : Int) = ev.length := u64_in (by omega)
  have hput := putNil_aco ev.length 4 (by omega) (by omega)
  have hpl : (bys (putB ev.length 4)).length = 4 := by rw [bysL, putB_len]
  have hrc : bys (recB enc) = bys (putB ev.length 4) ++ ev := by rw [← hev, bysL]; simp [recB]
  generalize bys (putB ev.length 4) = pv at hput hpl hrc
  have hb1 : pv.length + ev.length ≤ maxLen := by simp [maxLen]; omega
  have hb2 : pv.length + ev.length ≤ 140737488355328 := by omega
  refine aw_seq (aw_region ?_)   -- journal.go:107
  refine awl_go 3 (by simp [hw1] <;> rfl) ?_
  refine awl_callO1 43 hput Tryd.func18 rfl (by kernel_rfl) rfl rfl rfl (by simp <;> rfl) (by simp <;> rfl) (by simp <;> rfl) ?_
  refine awl_end [0, 10] [43] (by simp [hb1, hb2] <;> rfl) ?_
  rw [← hrc]
  have hrl : (bys (recB enc)).length = pv.length + ev.length := by rw [hrc]; simp
  have hcl := clone_aco a (by omega)
  rw [hav] at hcl
  have hfr := bys_flat (recB enc)
  have hpr := bys_pure (recB enc)
  have hch := chain_ac (endD a).toNat (by have := endD_range a; omega) (recB enc)
  have hend := end_ac a
  rw [hav] at hend
  have her := endD_range a
  rw [show (((endD a).toNat : Nat) : Int) = endD a by omega] at hch
  have hcr := chn_range (endD a).toNat (recB enc)
  have hpt := put_aca (a ++ recB enc) (sumB a enc) 8 (by unfold sumB; omega) (by omega) (by
    have : (recB enc).length = pv.length + ev.length := by rw [← hrl, bysL]
    simp only [List.length_append]; omega)
  have hsb : ((sumB a enc : Nat) : Int) = chn (endD a).toNat (recB enc) := by unfold sumB; omega
  rw [hsb] at hpt
  have hfin : bys (appB a enc) = bys (a ++ recB enc) ++ bys (putB (sumB a enc) 8) := by simp [appB]
  have har : bys (a ++ recB enc) = av ++ bys (recB enc) := by simp [← hav]
  have hps := bys_pure (putB (sumB a enc) 8)
  have hff : (bys (a ++ recB enc) ++ bys (putB (sumB a enc) 8)).all flatE = true := by rw [← hfin]; exact bys_flat _
  have hpf := bys_pure (appB a enc)
  have hbc : bcV (appB a enc, 0) = .tup [.ro 1 (bys (appB a enc)), .int .i64 0] := rfl
  rw [hbc]
  rw [hfin] at hpf ⊢
  rw [har] at hpt hff hpf ⊢
  have hlr : (pv ++ ev).length = pv.length + ev.length := by simp
  rw [← hrc] at hlr
  generalize chn (endD a).toNat (recB enc) = cs at *
  generalize bys (putB (sumB a enc) 8) = sv at *
  generalize bys (recB enc) = rv at *
  have hb3 : av.length + rv.length ≤ maxLen := by simp [maxLen]; omega
  have hb4 : av.length + rv.length ≤ 140737488355328 := by omega
  rw [← hlr]
  refine aw_seq (aw_region ?_)   -- journal.go:108
  refine awl_go 1 (by simp <;> rfl) ?_
  refine awl_callO1 47 hcl Tryd.func19 rfl (by kernel_rfl) rfl rfl rfl (by simp <;> rfl) (by simp [hpa] <;> rfl) (by simp <;> rfl) ?_
  refine awl_end [0, 10, 11] [43, 47] (by simp [hb3, hb4] <;> rfl) ?_
  refine aw_seq (aw_region ?_)   -- journal.go:109
  refine awl_go 2 (by simp <;> rfl) ?_
  refine awl_call1 hend Tryd.func21 rfl (by kernel_rfl) rfl rfl rfl (by simp <;> rfl) (by simp [hpa]) (by simp <;> rfl) ?_
  refine awl_go 1 (by simp <;> rfl) ?_
  refine awl_call1v hch Tryd.func20 rfl (by kernel_rfl) rfl rfl rfl (by simp <;> rfl) (by simp [hpr] <;> rfl) rfl (by simp <;> rfl) ?_
  refine awl_callA (d := 47) hpt hff Tryd.func18 rfl (by kernel_rfl) (by show (5 : Nat) < 8; omega) rfl rfl rfl (by simp <;> rfl) (by simp <;> rfl) (by simp <;> rfl) ?_
  refine awl_end [4, 5] [47] (by simp <;> rfl) ?_
  exact aw_ret (ends_ret (by simp [Tryd.results8, hpa, hpr, hps] <;> rfl) (by simp only [List.append_assoc]; exact .refl _))
end Go.Proofs.YtmkbhognijicjaaDoor
