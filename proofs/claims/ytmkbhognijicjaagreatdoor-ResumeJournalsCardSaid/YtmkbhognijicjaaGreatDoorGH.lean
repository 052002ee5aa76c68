import Derived.Test.YtmkbhognijicjaaGreatDoorGF
import Derived.Test.YtmkbhognijicjaaGreatDoorGG
import Derived.Test.YtmkbhognijicjaaGreatDoorGE
/- Joins: one entry of a journal. No condition. -/
set_option linter.unusedSimpArgs false
set_option maxRecDepth 4000
namespace Go.Proofs.YtmkbhognijicjaaGreatDoor
open Go.Eng

/-- Reads one entry: the tree, the bytes it takes, the chain's digest. -/
def entD (l : List UInt8) (sum : Nat) (n : Int) : Except Int (Nd × Nat × Nat) :=
  if 300 ≤ n then .error 5 else
  if l.length < 4 then .error 4 else
  if 2000 < getB (l.take 4) then .error 5 else
  if l.length < 4 + getB (l.take 4) + 8 then .error 4 else
  if (getB ((l.drop (4 + getB (l.take 4))).take 8) : Int) ≠ chn sum (l.take (4 + getB (l.take 4))) then .error 12 else
  match rdN ((l.drop 4).take (getB (l.take 4))) 4 8 0 with
  | .ok (x, a) => if a = getB (l.take 4) then .ok (x, 4 + getB (l.take 4) + 8, (chn sum (l.take (4 + getB (l.take 4)))).toNat) else .error 2
  | .error _ => .error 2
def entV : Except Int (Nd × Nat × Nat) → V
  | .ok (x, a, s) => .tup [x.v, .int .i64 a, .int .u64 s, .nili]
  | .error e => .tup [(Nd.mk 0 0 0 [] []).v, .int .i64 0, .int .u64 0, .ifc 74 (.agg [.int .i64 e])]
theorem chn_range (p : Nat) (l : List UInt8) : 0 ≤ chn p l ∧ chn p l < 2 ^ 64 := by
  have h0 : ∀ (l : List UInt8) (h : Int), 0 ≤ h ∧ h < 2 ^ 64 → 0 ≤ dig h l ∧ dig h l < 2 ^ 64 := by
    intro l
    induction l with
    | nil => intro h hh; exact hh
    | cons c l ih => intro h _; exact ih _ (dig1_range h c)
  exact h0 _ _ (h0 _ _ (by unfold dig0; omega))
theorem zeroRx (e : Int) : Relax (.tup [.agg [.int .i64 0, .int .i64 0, .int .i64 0, .str [], .nils], .int .i64 0, .int .u64 0, .ifc 74 (.agg [.int .i64 e])]) (entV (.error e)) := by
  unfold entV
  simp only [Nd.v, List.map_nil]
  exact Relax.tup (.cons (Relax.agg (.cons (.refl _) (.cons (.refl _) (.cons (.refl _) (.cons (.refl _) (.cons (.nils 5) .nil)))))) (.refl _))
theorem rdV_err {bs : List UInt8} {e er : Int} (he : e ≠ 0) : ∀ {k i x at_ : Nat}, rdV bs e k i x at_ = .error er → er ≠ 0
  | 0, _, _, _, h => by simp only [rdV, Except.error.injEq] at h; omega
  | k + 1, i, x, at_, h => by
    rw [rdV] at h
    split at h
    · injection h with h; omega
    · split at h
      · injection h with h; omega
      · split at h
        · cases h
        · exact rdV_err he h
theorem rdC_err {bs : List UInt8} {e er : Int} {most at_ : Nat} (he : e ≠ 0) (h : rdC bs e most at_ = .error er) : er ≠ 0 := by
  unfold rdC at h
  split at h
  · rename_i hv; injection h with h; subst h; exact rdV_err he hv
  · split at h
    · injection h with h; omega
    · cases h
theorem rdL_err {f : Nat → Except Int (Nd × Nat)} (hf : ∀ a er, f a = .error er → er ≠ 0) {er : Int} : ∀ {n a : Nat}, rdL f n a = .error er → er ≠ 0
  | 0, a, h => by simp [rdL] at h
  | n + 1, a, h => by
    rw [rdL] at h
    split at h
    · rename_i hx; injection h with h; subst h; exact hf _ _ hx
    · split at h
      · rename_i hx; injection h with h; subst h; exact rdL_err hf hx
      · cases h
theorem rdN_err {bs : List UInt8} {e : Int} (he : e ≠ 0) : ∀ {lv : Nat} (a : Nat) (er : Int), rdN bs e lv a = .error er → er ≠ 0
  | 0, a, er, h => by simp only [rdN, Except.error.injEq] at h; omega
  | lv + 1, a, er, h => by
    rw [rdN] at h
    split at h
    · rename_i hv; injection h with h; subst h; exact rdV_err he hv
    split at h
    · injection h with h; omega
    split at h
    · injection h with h; omega
    split at h
    · split at h
      · rename_i hv; injection h with h; subst h; exact rdV_err he hv
      · cases h
    split at h
    · split at h
      · rename_i hv; injection h with h; subst h; exact rdC_err he hv
      · split at h
        · cases h
        · injection h with h; omega
    split at h
    · split at h
      · rename_i hv; injection h with h; subst h; exact rdC_err he hv
      · split at h
        · rename_i hv; injection h with h; subst h; exact rdL_err (rdN_err he) hv
        · cases h
    · injection h with h; omega
set_option maxHeartbeats 4000000 in
theorem entry_ac (l : List UInt8) (sum : Nat) (n : Int) (hs : sum < 2 ^ 64) : AC Tryz.prog 47 [.ro 1 (bys l), .int .u64 sum, .int .i64 n] (fun r => r = entV (entD l sum n)) := by
  refine AC.relaxP ?_
  have hl := bysL l
  have hp := bys_pure l
  have hg1 := get_ac (l.take 4)
  have hg2 := get_ac ((l.drop (4 + getB (l.take 4))).take 8)
  have hc := chain_ac sum hs (l.take (4 + getB (l.take 4)))
  have hd := fun h => decode_ac ((l.drop 4).take (getB (l.take 4))) h
  have e1 : bys (l.take 4) = (bys l).take 4 := by simp
  have e2 : bys ((l.drop (4 + getB (l.take 4))).take 8) = ((bys l).drop (4 + getB (l.take 4))).take 8 := by simp
  have e3 : bys (l.take (4 + getB (l.take 4))) = (bys l).take (4 + getB (l.take 4)) := by simp
  have e4 : bys ((l.drop 4).take (getB (l.take 4))) = ((bys l).drop 4).take (getB (l.take 4)) := by simp
  rw [e1] at hg1; rw [e2] at hg2; rw [e3] at hc
  simp only [e4] at hd
  clear e1 e2 e3 e4
  unfold entD
  generalize hS : getB (l.take 4) = sz at *
  generalize hC : chn sum (l.take (4 + sz)) = ch at *
  have hch : 0 ≤ ch ∧ ch < 2 ^ 64 := by rw [← hC]; exact chn_range _ _
  generalize hK : getB ((l.drop (4 + sz)).take 8) = ck at *
  generalize hlv : bys l = lv at *
  refine ac_intro Tryz.func47 rfl (by show (3 : Nat) ≤ 85; omega) (fun w0 N0 => ?_)
  refine aw_step [0, 1, 2, 6] [6] (by simp [Tryz.ntmps47] <;> rfl) ?_   -- journal.go:48
  refine aw_seq ?_
  refine aw_step [0, 1, 6, 17] [6] (by simp <;> rfl) ?_   -- journal.go:49
  refine aw_cond rfl (fun h1 => ?_) (fun h1 => aw_skip ?_)   -- if t17
  · have h1' : 300 ≤ n := by simp at h1; exact h1
    rw [if_pos h1']
    refine aw_step [6, 7, 8, 9] [6] (by simp <;> rfl) ?_   -- journal.go:50
    exact aw_ret (ends_ret (by simp [Tryz.results47] <;> rfl) (zeroRx _))
  have h1' : ¬ 300 ≤ n := by simp at h1; omega
  rw [if_neg h1']
  refine aw_seq ?_
  refine aw_step [0, 1, 6, 23] [6] (by simp <;> rfl) ?_   -- journal.go:52
  refine aw_cond rfl (fun h2 => ?_) (fun h2 => aw_skip ?_)   -- if t23
  · have h2' : l.length < 4 := by simp at h2; omega
    rw [if_pos h2']
    refine aw_step [6, 7, 8, 9] [6] (by simp <;> rfl) ?_   -- journal.go:53
    exact aw_ret (ends_ret (by simp [Tryz.results47] <;> rfl) (zeroRx _))
  have h2' : ¬ l.length < 4 := by simp at h2; omega
  rw [if_neg h2']
  have h2v : (4 : Int) ≤ lv.length := by omega
  refine aw_seq (aw_region ?_)   -- journal.go:55
  refine awl_go 2 (by simp [h2v] <;> rfl) ?_
  refine awl_call1 hg1 Tryz.func61 rfl (by kernel_rfl) rfl rfl rfl (by simp <;> rfl) (by simp [hp]) (by simp <;> rfl) ?_
  refine awl_end [0, 1, 6, 10] [6] (by simp <;> rfl) ?_
  refine aw_seq ?_
  refine aw_step [0, 1, 6, 10, 31] [6] (by simp <;> rfl) ?_   -- journal.go:56
  refine aw_cond rfl (fun h3 => ?_) (fun h3 => aw_skip ?_)   -- if t31
  · have h3' : 2000 < sz := by simp at h3; omega
    rw [if_pos h3']
    refine aw_step [6, 7, 8, 9] [6] (by simp <;> rfl) ?_   -- journal.go:57
    exact aw_ret (ends_ret (by simp [Tryz.results47] <;> rfl) (zeroRx _))
  have h3' : ¬ 2000 < sz := by simp at h3; omega
  rw [if_neg h3']
  have hw1 : IntKind.i64.wrap (sz : Int) = sz := wrap_in (by omega) (by omega)
  obtain ⟨en, hen, hen'⟩ : ∃ en : Int, IntKind.i64.wrap (4 + (sz : Int)) = en ∧ en = ((4 + sz : Nat) : Int) := ⟨_, rfl, by rw [wrap_in (by omega) (by omega)]; omega⟩
  obtain ⟨e8, he8, he8'⟩ : ∃ e8 : Int, IntKind.i64.wrap (en + 8) = e8 ∧ e8 = ((4 + sz + 8 : Nat) : Int) := ⟨_, rfl, by rw [wrap_in (by omega) (by omega)]; omega⟩
  have hent : en.toNat = 4 + sz := by omega
  have he8t : e8.toNat = 4 + sz + 8 := by omega
  refine aw_step [0, 1, 6, 10, 11] [6] (by simp [hw1, hen] <;> rfl) ?_   -- journal.go:59
  refine aw_seq ?_
  refine aw_step [0, 1, 6, 10, 11, 42] [6] (by simp [he8] <;> rfl) ?_   -- journal.go:60
  refine aw_cond rfl (fun h4 => ?_) (fun h4 => aw_skip ?_)   -- if t42
  · have h4' : l.length < 4 + sz + 8 := by simp at h4; omega
    rw [if_pos h4']
    refine aw_step [6, 7, 8, 9] [6] (by simp <;> rfl) ?_   -- journal.go:61
    exact aw_ret (ends_ret (by simp [Tryz.results47] <;> rfl) (zeroRx _))
  have h4' : ¬ l.length < 4 + sz + 8 := by simp at h4; omega
  rw [if_neg h4']
  have hb1 : 0 ≤ en ∧ en ≤ lv.length := by omega
  have hb2 : en ≤ e8 ∧ e8 ≤ lv.length := by omega
  have hb3 : (4 : Int) ≤ en := by omega
  have hc' : AC Tryz.prog 35 [.int .u64 sum, .ro 1 (lv.take en.toNat)] (fun r => r = .int .u64 ch) := by rw [hent]; exact hc
  have hg2' : AC Tryz.prog 61 [.ro 1 ((lv.drop en.toNat).take (e8.toNat - en.toNat))] (fun r => r = .int .u64 ck) := by rw [hent, he8t, show 4 + sz + 8 - (4 + sz) = 8 by omega]; exact hg2
  have hd' : AC Tryz.prog 71 [.ro 1 ((lv.drop 4).take (en.toNat - 4))] (fun r => r = decR ((l.drop 4).take sz)) := by rw [hent, show 4 + sz - 4 = sz by omega]; exact hd (by simp; omega)
  refine aw_seq (aw_region ?_)   -- journal.go:63
  refine awl_go 4 (by simp [hb1] <;> rfl) ?_
  refine awl_call1 hc' Tryz.func35 rfl (by kernel_rfl) rfl rfl rfl (by simp <;> rfl) (by simp [hp]) (by simp <;> rfl) ?_
  refine awl_end [0, 6, 10, 11, 12] [6] (by simp <;> rfl) ?_
  refine aw_seq ?_
  refine aw_seq (aw_region ?_)   -- journal.go:64
  refine awl_go 5 (by simp [he8, hb1, hb2] <;> rfl) ?_
  refine awl_call1 hg2' Tryz.func61 rfl (by kernel_rfl) rfl rfl rfl (by simp <;> rfl) (by simp [hp]) (by simp <;> rfl) ?_
  refine awl_end [0, 6, 10, 11, 12, 58] [6] (by simp <;> rfl) ?_
  refine aw_cond rfl (fun h5 => ?_) (fun h5 => aw_skip ?_)   -- if t58
  · have h5' : (ck : Int) ≠ ch := by simpa using h5
    rw [if_pos h5']
    refine aw_step [6, 7, 8, 9] [6] (by simp <;> rfl) ?_   -- journal.go:65
    exact aw_ret (ends_ret (by simp [Tryz.results47] <;> rfl) (zeroRx _))
  have h5' : ¬ (ck : Int) ≠ ch := by simpa using h5
  rw [if_neg h5']
  refine aw_seq (aw_region ?_)   -- journal.go:67
  refine awl_go 3 (by simp [hb1, hb3] <;> rfl) ?_
  unfold decR at hd'
  cases hx : rdN ((l.drop 4).take sz) 4 8 0 with
  | error er =>
    have hd2 : AC Tryz.prog 71 [.ro 1 ((lv.drop 4).take (en.toNat - 4))] (fun r => r = .tup [.agg [.int .i64 0, .int .i64 0, .int .i64 0, .str [], .ro 5 []], .int .i64 0, .int .i64 er]) := by
      rw [hx] at hd'
      simpa only [Nd.v, List.map_nil] using hd'
    refine awl_call1 hd2 Tryz.func71 rfl (by kernel_rfl) rfl rfl rfl (by simp <;> rfl) (by simp [hp]) (by simp <;> rfl) ?_
    refine awl_end [6, 10, 11, 12, 13, 14, 15] [6, 13] (by simp <;> rfl) ?_
    have her := rdN_err (by omega) _ _ hx
    refine aw_seq ?_
    refine aw_step [6, 11, 12, 13, 77] [6, 13] (by simp [hw1, her] <;> rfl) ?_   -- journal.go:68
    refine aw_cond rfl (fun h6 => ?_) (fun h6 => by simp [her] at h6)   -- if t77
    refine aw_step [6, 7, 8, 9] [6] (by simp <;> rfl) ?_   -- journal.go:69
    exact aw_ret (ends_ret (by simp [Tryz.results47] <;> rfl) (zeroRx _))
  | ok p =>
    obtain ⟨x, a⟩ := p
    have hd2 : AC Tryz.prog 71 [.ro 1 ((lv.drop 4).take (en.toNat - 4))] (fun r => r = .tup [x.v, .int .i64 a, .int .i64 0]) := by
      rw [hx] at hd'
      exact hd'
    have hpk : ∀ xks : List Nd, (xks.map Nd.v).all V.pureE = true := pureNd
    rcases hxx : x with ⟨xt, xk, xn, xs, xks⟩
    have hxv : x.v = .agg [.int .i64 xt, .int .i64 xk, .int .i64 xn, .str xs, .ro 5 (xks.map Nd.v)] := by rw [hxx, Nd.v]
    rw [hxv] at hd2
    have hpk := pureNd xks
    generalize hkvv : xks.map Nd.v = xkv at hd2 hpk hxv
    refine awl_call1 hd2 Tryz.func71 rfl (by kernel_rfl) rfl rfl rfl (by simp <;> rfl) (by simp [hp]) (by simp <;> rfl) ?_
    refine awl_end [6, 10, 11, 12, 13, 14, 15] [6, 13] (by simp <;> rfl) ?_
    refine aw_seq ?_
    refine aw_step [6, 11, 12, 13, 77] [6, 13] (by simp [hw1] <;> rfl) ?_   -- journal.go:68
    refine aw_cond rfl (fun h6 => ?_) (fun h6 => aw_skip ?_)   -- if t77
    · have h6' : ¬ a = sz := by simp at h6; omega
      refine aw_step [6, 7, 8, 9] [6] (by simp <;> rfl) ?_   -- journal.go:69
      refine aw_ret (ends_ret (by simp [Tryz.results47] <;> rfl) ?_)
      simp only [if_neg h6']
      exact zeroRx _
    have h6' : a = sz := by simp at h6; omega
    refine aw_step [6, 7, 8, 9] [6] (by simp [he8] <;> rfl) ?_   -- journal.go:71
    refine aw_ret (ends_ret (by simp [Tryz.results47] <;> rfl) ?_)
    simp only [if_pos h6']
    unfold entV
    simp only [← hxx, hxv, he8']
    rw [show ((ch.toNat : Nat) : Int) = ch by omega]
    exact .refl _
end Go.Proofs.YtmkbhognijicjaaGreatDoor

/- Joins: reading a journal. No condition. -/
set_option linter.unusedSimpArgs false
set_option maxRecDepth 4000
namespace Go.Proofs.YtmkbhognijicjaaGreatDoor
open Go.Eng

/-- Reads entries while there are bytes: the trees, how far, the code. -/
def rdJ (l : List UInt8) : Nat → Nat → Nat → List Nd → List Nd × Nat × Int
  | 0, at_, _, ns => (ns, at_, 5)
  | f + 1, at_, s, ns => if l.length ≤ at_ then (ns, at_, 0) else match entD (l.drop at_) s ns.length with
    | .error e => (ns, at_, e)
    | .ok (x, k, s') => rdJ l f (at_ + k) s' (ns ++ [x])
def rdJ0 (l : List UInt8) : List Nd × Nat × Int := rdJ l 301 0 14695981039346656037 []
def jV (r : List Nd × Nat × Int) : V := .tup [.ro 5 (r.1.map Nd.v), .int .i64 r.2.1, .int .i64 r.2.2]
theorem entD_ok {l : List UInt8} {sum : Nat} {n : Int} {x : Nd} {k s : Nat} (h : entD l sum n = .ok (x, k, s)) : n < 300 ∧ 12 ≤ k ∧ k ≤ l.length ∧ k ≤ 2012 ∧ s < 2 ^ 64 := by
  unfold entD at h
  split at h
  · cases h
  split at h
  · cases h
  split at h
  · cases h
  split at h
  · cases h
  split at h
  · cases h
  split at h
  · split at h
    · injection h with h
      injection h with h1 h2
      injection h2 with h2 h3
      have := chn_range sum (l.take (4 + getB (l.take 4)))
      omega
    · cases h
  · cases h
set_option maxHeartbeats 4000000 in
theorem read_acg (l : List UInt8) (hlen : l.length ≤ 2 ^ 40) : ACG 0 errT Tryz.prog 16 [.ro 1 (bys l)] (fun r => r = jV (rdJ0 l)) := by
  have hp := bys_pure l
  have hl := bysL l
  have hdr : ∀ k, bys (l.drop k) = (bys l).drop k := by intro k; simp
  have hent : ∀ (k s : Nat) (n : Int), s < 2 ^ 64 → AC Tryz.prog 47 [.ro 1 ((bys l).drop k), .int .u64 s, .int .i64 n] (fun r => r = entV (entD (l.drop k) s n)) := by
    intro k s n hs
    rw [← hdr]
    exact entry_ac _ _ _ hs
  clear hdr
  generalize hlv : bys l = lv at hp hl hent
  refine acg_intro Tryz.func16 rfl (by show (1 : Nat) ≤ 47; omega) (fun w0 N0 hG => ?_)
  refine aw_step [0] [] (by simp [Tryz.ntmps16] <;> rfl) ?_   -- journal.go:75
  refine aw_step [0, 5] [] (by simp <;> rfl) ?_   -- journal.go:76
  refine aw_seq (aw_region ?_)   -- journal.go:77
  refine awl_call1 ofNil_ac Tryz.func46 rfl (by kernel_rfl) rfl rfl rfl rfl rfl (by simp <;> rfl) ?_
  refine awl_end [0, 5, 6, 7] [] (by simp <;> rfl) ?_
  refine aw_adoptS 5 100 5 42 [0, 5, 6, 7] [100] (by simp <;> rfl) (by simp <;> rfl) ?_
  refine aw_seq ?_
  refine aw_block ?_
  refine aw_loop (fun p : Nat × Nat × List Nd × Nat × Nat => ⟨[(0, .ro 1 lv), (5, .sl 100 p.2.2.2.1 5 (p.2.2.1.map Nd.v).length), (6, .int .i64 p.1), (7, .int .u64 p.2.1)], [(100, ⟨p.2.2.2.1, 5, 42, p.2.2.1.map Nd.v⟩)], p.2.2.2.2, 47⟩)
    (fun p => p.2.2.1.length ≤ 300 ∧ p.1 ≤ l.length ∧ p.2.1 < 2 ^ 64 ∧ rdJ l (301 - p.2.2.1.length) p.1 p.2.1 p.2.2.1 = rdJ0 l) (fun p => 301 - p.2.2.1.length) (0, 14695981039346656037, [], _, _) ⟨by simp, by simp, by simp, rfl⟩ (by simp [dig0]; exact AS.le_refl _) ?_
  rintro ⟨at_, sum, acc, vr, nx⟩ ⟨hacc, hat_, hsum, hR⟩
  simp only at hacc hat_ hsum hR
  have hpacc := pureNd acc
  have hal : (acc.map Nd.v).length = acc.length := by simp
  obtain ⟨m, hm⟩ : ∃ m, 301 - acc.length = m + 1 := ⟨300 - acc.length, by omega⟩
  rw [hm, rdJ] at hR
  simp only
  generalize hav : acc.map Nd.v = av at hpacc hal
  have hb1 : av.length + 1 ≤ maxLen := by simp [maxLen]; omega
  have hb2 : (av.length + 1) * 64 ≤ 140737488355328 := by omega
  refine aw_seq ?_
  refine aw_step [0, 5, 6, 7, 17] [100] (by simp <;> rfl) ?_   -- journal.go:78
  refine aw_cond rfl (fun h1 => aw_skip ?_) (fun h1 => ?_)   -- if t17
  · have h1' : ¬ l.length ≤ at_ := by simp at h1; omega
    rw [if_neg h1'] at hR
    have hbd : (at_ : Int) ≤ lv.length := by omega
    have hta : lv.length - at_ = (lv.drop at_).length := by simp
    have hent' : AC Tryz.prog 47 [.ro 1 ((lv.drop at_).take (lv.length - at_)), .int .u64 sum, .int .i64 av.length] (fun r => r = entV (entD (l.drop at_) sum acc.length)) := by
      rw [hta, List.take_length, hal]
      exact hent at_ sum _ hsum
    refine aw_block ?_
    refine aw_seq (aw_region ?_)   -- journal.go:79
    refine awl_go 6 (by simp [hbd] <;> rfl) ?_
    cases hx : entD (l.drop at_) sum acc.length with
    | error er =>
      rw [hx] at hR hent'
      simp only at hR
      simp only [entV, Nd.v, List.map_nil] at hent'
      refine awl_call1 hent' Tryz.func47 rfl (by kernel_rfl) rfl rfl rfl (by simp <;> rfl) (by simp [hp]) (by simp <;> rfl) ?_
      refine awl_end [0, 5, 6, 8, 9, 10, 11] [8, 100] (by simp <;> rfl) ?_
      refine aw_step [0, 5, 6, 8, 9, 10, 11, 12] [8, 12, 100] (by simp <;> rfl) ?_   -- journal.go:80
      refine aw_seq ?_
      refine aw_seq (aw_region ?_)   -- journal.go:81
      refine awl_go 2 (by simp <;> rfl) ?_
      refine awl_callSG hG (as_hit_acs 12 (nx + 21) 0 er) Tryz.func48 rfl (by kernel_rfl) rfl rfl rfl (by simp <;> rfl) (fun k o hk => get_one (by simp [Eng.get]) hk) (fun r outs nx2 hr hnx => ?_)
      obtain ⟨rfl, rfl⟩ := hr
      refine ⟨fun k hk => by simp_all [Eng.get], _, by simp <;> rfl, ?_⟩
      refine awl_end [5, 6, 12, 32] [12, 100] (by simp <;> rfl) ?_
      refine aw_cond rfl (fun h2 => ?_) (fun h2 => by simp at h2)   -- if t32
      refine aw_freeze 100 [5, 6, 12] [12] (by simp [hpacc] <;> rfl) ?_
      refine aw_dstep [(0, []), (1, []), (2, []), (4, []), (5, []), (3, []), (6, [])] [2, 3, 4] [] hmix (by kernel_rfl) (by simp <;> rfl) ?_   -- journal.go:82
      refine aw_ret (ends_ret (by simp [Tryz.results16] <;> rfl) ?_)
      rw [← hR, jV]
      simp [hav]
    | ok p =>
      obtain ⟨x, k, s'⟩ := p
      obtain ⟨hk1, hk2, hk3, hk4, hk5⟩ := entD_ok hx
      rw [hx] at hR hent'
      simp only at hR
      simp only [List.length_drop] at hk3
      rcases hxx : x with ⟨xt, xk, xn, xs, xks⟩
      have hxv : x.v = .agg [.int .i64 xt, .int .i64 xk, .int .i64 xn, .str xs, .ro 5 (xks.map Nd.v)] := by rw [hxx, Nd.v]
      simp only [entV, hxv] at hent'
      have hpk := pureNd xks
      generalize hkvv : xks.map Nd.v = xkv at hent' hpk hxv
      have hwk : IntKind.i64.wrap ((at_ : Int) + k) = (at_ : Int) + k := wrap_in (by omega) (by omega)
      refine awl_call1 hent' Tryz.func47 rfl (by kernel_rfl) rfl rfl rfl (by simp <;> rfl) (by simp [hp]) (by simp <;> rfl) ?_
      refine awl_end [0, 5, 6, 8, 9, 10, 11] [8, 100] (by simp <;> rfl) ?_
      refine aw_step [0, 5, 6, 8, 9, 10, 11, 12] [8, 12, 100] (by simp <;> rfl) ?_   -- journal.go:80
      refine aw_seq ?_
      refine aw_seq (aw_region ?_)   -- journal.go:81
      refine awl_go 2 (by simp <;> rfl) ?_
      refine awl_callSG hG (as_nil_acs _) Tryz.func48 rfl (by kernel_rfl) rfl rfl rfl (by simp <;> rfl) (fun k o hk => by simp [Eng.get] at hk) (fun r outs nx2 hr hnx => ?_)
      obtain ⟨rfl, rfl⟩ := hr
      refine ⟨fun k hk => by simp_all [Eng.get], _, by simp <;> rfl, ?_⟩
      refine awl_end [0, 5, 6, 8, 9, 10, 32] [8, 100] (by simp <;> rfl) ?_
      refine aw_cond rfl (fun h2 => by simp at h2) (fun h2 => aw_skip ?_)   -- if t32
      refine aw_step [0, 5, 6, 9, 10] [100] (by simp [hb1, hb2] <;> rfl) ?_   -- journal.go:84
      refine aw_step [0, 5, 6, 10] [100] (by simp [hwk] <;> rfl) ?_   -- journal.go:85
      refine aw_one [0, 5, 6, 7] [100] (by simp <;> rfl) ?_   -- journal.go:86
      refine ⟨(at_ + k, s', acc ++ [x], nx2 + 3 + 3, nx2 + 3 + 5 + 4 + 2), ⟨by simp; omega, by simp only; omega, hk5, ?_⟩, by simp; omega, ?_⟩
      · simp only [List.length_append, List.length_cons, List.length_nil]
        rw [show 301 - (acc.length + (0 + 1)) = m by omega]
        exact hR
      · have hc1 : ((at_ + k : Nat) : Int) = (at_ : Int) + k := by omega
        simp only [hc1, List.map_append, hav, List.map_cons, List.map_nil, hxv, List.length_append, List.length_cons, List.length_nil]
        exact AS.le_refl _
  · have h1' : l.length ≤ at_ := by simp at h1; omega
    rw [if_pos h1'] at hR
    refine aw_exit ?_
    refine aw_freeze 100 [5, 6] [] (by simp [hpacc] <;> rfl) ?_
    refine aw_step [2, 3, 4] [] (by simp <;> rfl) ?_   -- journal.go:88
    refine aw_ret (ends_ret (by simp [Tryz.results16] <;> rfl) ?_)
    rw [← hR, jV]
    simp [hav]
end Go.Proofs.YtmkbhognijicjaaGreatDoor

/- Joins: Trim, Append. No condition. -/
set_option linter.unusedSimpArgs false
set_option maxRecDepth 4000
namespace Go.Proofs.YtmkbhognijicjaaGreatDoor
open Go.Eng

theorem clone_aco (l : List UInt8) (hl : l.length ≤ 2 ^ 40) : ACO Tryz.prog 34 [.ro 1 (bys l)] 1 5 (fun F es' => (F = fun d q => .sl d q 1 (bys l).length) ∧ es' = bys l) := by
  have hf := bys_flat l
  have hp := bys_pure l
  have hll := bysL l
  generalize bys l = lv at hf hp hll
  have hb1 : lv.length ≤ maxLen := by simp [maxLen]; omega
  have hb2 : lv.length ≤ 140737488355328 := by omega
  refine aco_intro Tryz.func34 rfl (by show (1 : Nat) ≤ 8; omega) (fun w0 N0 => ?_)
  refine aw_step [0] [] (by simp [Tryz.ntmps34] <;> rfl) ?_
  refine aw_seq ?_
  refine aw_seq (aw_region ?_)
  refine awl_go 1 (by simp <;> rfl) ?_
  refine awl_isnil rfl rfl (by simp <;> rfl) rfl (by kernel_rfl) (fun b hb => ⟨_, by simp <;> rfl, ?_⟩)
  refine awl_end [0, 4] [] (by simp <;> rfl) ?_
  refine aw_cond rfl (fun h1 => ?_) (fun h1 => aw_skip ?_)
  · have h0 : lv = [] := List.eq_nil_of_length_eq_zero (hb h1)
    subst h0
    refine aw_step [2] [] (by simp <;> rfl) ?_
    refine aw_adoptS 2 5 1 5 [2] [5] (by simp <;> rfl) (by simp <;> rfl) ?_
    exact aw_ret (endso_row 5 rfl rfl rfl hf (by simp [Tryz.results34] <;> rfl) ⟨rfl, rfl⟩)
  refine aw_step [2] [5] (by simp [hb1, hb2] <;> rfl) ?_
  exact aw_ret (endso_row 5 rfl rfl rfl hf (by simp [Tryz.results34] <;> rfl) ⟨rfl, rfl⟩)

theorem rdJ_le (l : List UInt8) : ∀ (f at_ s : Nat) (ns : List Nd), at_ ≤ l.length → (rdJ l f at_ s ns).2.1 ≤ l.length
  | 0, at_, s, ns, h => h
  | f + 1, at_, s, ns, h => by
    rw [rdJ]
    split
    · exact h
    · split
      · exact h
      · rename_i x k s' hx
        have := entD_ok hx
        simp only [List.length_drop] at this
        exact rdJ_le l f _ _ _ (by omega)
def trimB (l : List UInt8) : List UInt8 := l.take (rdJ0 l).2.1
theorem trim_acg (l : List UInt8) (hl : l.length ≤ 2 ^ 40) : ACG 0 errT Tryz.prog 23 [.ro 1 (bys l)] (fun r => r = .ro 1 (bys (trimB l))) := by
  have hc := read_acg l hl
  have hle := rdJ_le l 301 0 14695981039346656037 [] (Nat.zero_le _)
  have hcl := clone_ac (l.take (rdJ0 l).2.1) (by simp; omega)
  have hpr := pureNd (rdJ0 l).1
  have e1 : bys (l.take (rdJ0 l).2.1) = (bys l).take (rdJ0 l).2.1 := by simp
  have hp := bys_pure l
  have hll := bysL l
  unfold jV at hc
  unfold trimB
  rw [e1] at hcl ⊢
  change (rdJ0 l).2.1 ≤ _ at hle
  generalize (rdJ0 l).2.2 = cd at hc
  generalize (rdJ0 l).2.1 = at_ at *
  generalize (rdJ0 l).1.map Nd.v = nv at *
  generalize bys l = lv at *
  have hb : (at_ : Int) ≤ lv.length := by omega
  refine acg_intro Tryz.func23 rfl (by show (1 : Nat) ≤ 16; omega) (fun w0 N0 hG => ?_)
  refine aw_step [0] [] (by simp [Tryz.ntmps23] <;> rfl) ?_
  refine aw_seq (aw_region ?_)
  refine awl_go 1 (by simp <;> rfl) ?_
  refine awl_call1G hG hc Tryz.func16 rfl (by kernel_rfl) rfl rfl rfl rfl (by simp [hp]) (by simp <;> rfl) ?_
  refine awl_end [0, 4] [] (by simp <;> rfl) ?_
  refine aw_seq (aw_region ?_)
  refine awl_go 3 (by simp [hb] <;> rfl) ?_
  refine awl_call1 hcl Tryz.func34 rfl (by kernel_rfl) rfl rfl rfl (by simp <;> rfl) (by simp [hp]) (by simp <;> rfl) ?_
  refine awl_end [2] [] (by simp <;> rfl) ?_
  exact aw_ret (ends_ret (by simp [Tryz.results23, hp] <;> rfl) rfl)
end Go.Proofs.YtmkbhognijicjaaGreatDoor
