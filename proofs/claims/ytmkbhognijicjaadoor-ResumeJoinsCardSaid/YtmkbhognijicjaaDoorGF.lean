import Derived.Test.YtmkbhognijicjaaDoorGE
import Derived.Test.YtmkbhognijicjaaDoorGD
/- Joins: one entry of a journal. No condition. -/
set_option linter.unusedSimpArgs false
set_option maxRecDepth 4000
namespace Go.Proofs.YtmkbhognijicjaaDoor
open Go.Eng

/-- Reads one entry: the tree, the bytes it takes, the chain's digest. -/
def entD (l : List UInt8) (sum : Nat) (n : Int) : Except Int (Nd × Nat × Nat) :=
  if 300 ≤ n then .error 5 else
  if l.length < 4 then .error 4 else
  if 2000 < getB (l.take 4) then .error 5 else
  if l.length < 4 + getB (l.take 4) + 8 then .error 4 else
  if (getB ((l.drop (4 + getB (l.take 4))).take 8) : Int) ≠ chn sum (l.take (4 + getB (l.take 4))) then .error 12 else
  match rdN ((l.drop 4).take (getB (l.take 4))) 4 8 0 with
  | .ok (x, a) => if a = getB (l.take 4) then .ok (x, 4 + getB (l.take 4) + 8, (chn sum (l.take (4 + getB (l.take 4)))).toNat) else .error 2
  | .error _ => .error 2
def entV : Except Int (Nd × Nat × Nat) → V
  | .ok (x, a, s) => .tup [x.v, .int .i64 a, .int .u64 s, .nili]
  | .error e => .tup [(Nd.mk 0 0 0 [] []).v, .int .i64 0, .int .u64 0, .ifc 64 (.agg [.int .i64 e])]
theorem chn_range (p : Nat) (l : List UInt8) : 0 ≤ chn p l ∧ chn p l < 2 ^ 64 := by
  have h0 : ∀ (l : List UInt8) (h : Int), 0 ≤ h ∧ h < 2 ^ 64 → 0 ≤ dig h l ∧ dig h l < 2 ^ 64 := by
    intro l
    induction l with
    | nil => intro h hh; exact hh
    | cons c l ih => intro h _; exact ih _ (dig1_range h c)
  exact h0 _ _ (h0 _ _ (by unfold dig0; omega))
theorem zeroRx (e : Int) : Relax (.tup [.agg [.int .i64 0, .int .i64 0, .int .i64 0, .str [], .nils], .int .i64 0, .int .u64 0, .ifc 64 (.agg [.int .i64 e])]) (entV (.error e)) := by
  unfold entV
  simp only [Nd.v, List.map_nil]
  exact Relax.tup (.cons (Relax.agg (.cons (.refl _) (.cons (.refl _) (.cons (.refl _) (.cons (.refl _) (.cons (.nils 5) .nil)))))) (.refl _))
theorem rdV_err {bs : List UInt8} {e er : Int} (he : e ≠ 0) : ∀ {k i x at_ : Nat}, rdV bs e k i x at_ = .error er → er ≠ 0
  | 0, _, _, _, h => by simp only [rdV, Except.error.injEq] at h; omega
  | k + 1, i, x, at_, h => by
    rw [rdV] at h
    split at h
    · injection h with h; omega
    · split at h
      · injection h with h; omega
      · split at h
        · cases h
        · exact rdV_err he h
theorem rdC_err {bs : List UInt8} {e er : Int} {most at_ : Nat} (he : e ≠ 0) (h : rdC bs e most at_ = .error er) : er ≠ 0 := by
  unfold rdC at h
  split at h
  · rename_i hv; injection h with h; subst h; exact rdV_err he hv
  · split at h
    · injection h with h; omega
    · cases h
theorem rdL_err {f : Nat → Except Int (Nd × Nat)} (hf : ∀ a er, f a = .error er → er ≠ 0) {er : Int} : ∀ {n a : Nat}, rdL f n a = .error er → er ≠ 0
  | 0, a, h => by simp [rdL] at h
  | n + 1, a, h => by
    rw [rdL] at h
    split at h
    · rename_i hx; injection h with h; subst h; exact hf _ _ hx
    · split at h
      · rename_i hx; injection h with h; subst h; exact rdL_err hf hx
      · cases h
theorem rdN_err {bs : List UInt8} {e : Int} (he : e ≠ 0) : ∀ {lv : Nat} (a : Nat) (er : Int), rdN bs e lv a = .error er → er ≠ 0
  | 0, a, er, h => by simp only [rdN, Except.error.injEq] at h; omega
  | lv + 1, a, er, h => by
    rw [rdN] at h
    split at h
    · rename_i hv; injection h with h; subst h; exact rdV_err he hv
    split at h
    · injection h with h; omega
    split at h
    · injection h with h; omega
    split at h
    · split at h
      · rename_i hv; injection h with h; subst h; exact rdV_err he hv
      · cases h
    split at h
    · split at h
      · rename_i hv; injection h with h; subst h; exact rdC_err he hv
      · split at h
        · cases h
        · injection h with h; omega
    split at h
    · split at h
      · rename_i hv; injection h with h; subst h; exact rdC_err he hv
      · split at h
        · rename_i hv; injection h with h; subst h; exact rdL_err (rdN_err he) hv
        · cases h
    · injection h with h; omega
set_option maxHeartbeats 4000000 in
theorem entry_ac (l : List UInt8) (sum : Nat) (n : Int) (hs : sum < 2 ^ 64) : AC Tryd.prog 27 [.ro 1 (bys l), .int .u64 sum, .int .i64 n] (fun r => r = entV (entD l sum n)) := by
  refine AC.relaxP ?_
  have hl := bysL l
  have hp := bys_pure l
  have hg1 := get_ac (l.take 4)
  have hg2 := get_ac ((l.drop (4 + getB (l.take 4))).take 8)
  have hc := chain_ac sum hs (l.take (4 + getB (l.take 4)))
  have hd := fun h => decode_ac ((l.drop 4).take (getB (l.take 4))) h
  have e1 : bys (l.take 4) = (bys l).take 4 := by simp
  have e2 : bys ((l.drop (4 + getB (l.take 4))).take 8) = ((bys l).drop (4 + getB (l.take 4))).take 8 := by simp
  have e3 : bys (l.take (4 + getB (l.take 4))) = (bys l).take (4 + getB (l.take 4)) := by simp
  have e4 : bys ((l.drop 4).take (getB (l.take 4))) = ((bys l).drop 4).take (getB (l.take 4)) := by simp
  rw [e1] at hg1; rw [e2] at hg2; rw [e3] at hc
  simp only [e4] at hd
  clear e1 e2 e3 e4
  unfold entD
  generalize hS : getB (l.take 4) = sz at *
  generalize hC : chn sum (l.take (4 + sz)) = ch at *
  have hch : 0 ≤ ch ∧ ch < 2 ^ 64 := by rw [← hC]; exact chn_range _ _
  generalize hK : getB ((l.drop (4 + sz)).take 8) = ck at *
  generalize hlv : bys l = lv at *
  refine ac_intro Tryd.func27 rfl (by show (3 : Nat) ≤ 85; omega) (fun w0 N0 => ?_)
  refine aw_step [0, 1, 2, 6] [6] (by simp [Tryd.ntmps27] <;> rfl) ?_   -- journal.go:48
  refine aw_seq ?_
  refine aw_step [0, 1, 6, 17] [6] (by simp <;> rfl) ?_   -- journal.go:49
  refine aw_cond rfl (fun h1 => ?_) (fun h1 => aw_skip ?_)   -- if t17
  · have h1' : 300 ≤ n := by simp at h1; exact h1
    rw [if_pos h1']
    refine aw_step [6, 7, 8, 9] [6] (by simp <;> rfl) ?_   -- journal.go:50
    exact aw_ret (ends_ret (by simp [Tryd.results27] <;> rfl) (zeroRx _))
  have h1' : ¬ 300 ≤ n := by simp at h1; omega
  rw [if_neg h1']
  refine aw_seq ?_
  refine aw_step [0, 1, 6, 23] [6] (by simp <;> rfl) ?_   -- journal.go:52
  refine aw_cond rfl (fun h2 => ?_) (fun h2 => aw_skip ?_)   -- if t23
  · have h2' : l.length < 4 := by simp at h2; omega
    rw [if_pos h2']
    refine aw_step [6, 7, 8, 9] [6] (by simp <;> rfl) ?_   -- journal.go:53
    exact aw_ret (ends_ret (by simp [Tryd.results27] <;> rfl) (zeroRx _))
  have h2' : ¬ l.length < 4 := by simp at h2; omega
  rw [if_neg h2']
  have h2v : (4 : Int) ≤ lv.length := by omega
  refine aw_seq (aw_region ?_)   -- journal.go:55
  refine awl_go 2 (by simp [h2v] <;> rfl) ?_
  refine awl_call1 hg1 Tryd.func33 rfl (by kernel_rfl) rfl rfl rfl (by simp <;> rfl) (by simp [hp]) (by simp <;> rfl) ?_
  refine awl_end [0, 1, 6, 10] [6] (by simp <;> rfl) ?_
  refine aw_seq ?_
  refine aw_step [0, 1, 6, 10, 31] [6] (by simp <;> rfl) ?_   -- journal.go:56
  refine aw_cond rfl (fun h3 => ?_) (fun h3 => aw_skip ?_)   -- if t31
  · have h3' : 2000 < sz := by simp at h3; omega
    rw [if_pos h3']
    refine aw_step [6, 7, 8, 9] [6] (by simp <;> rfl) ?_   -- journal.go:57
    exact aw_ret (ends_ret (by simp [Tryd.results27] <;> rfl) (zeroRx _))
  have h3' : ¬ 2000 < sz := by simp at h3; omega
  rw [if_neg h3']
  have hw1 : IntKind.i64.wrap (sz : Int) = sz := wrap_in (by omega) (by omega)
  obtain ⟨en, hen, hen'⟩ : ∃ en : Int, IntKind.i64.wrap (4 + (sz : Int)) = en ∧ en = ((4 + sz : Nat) : Int) := ⟨_, rfl, by rw [wrap_in (by omega) (by omega)]; omega⟩
  obtain ⟨e8, he8, he8'⟩ : ∃ e8 : Int, IntKind.i64.wrap (en + 8) = e8 ∧ e8 = ((4 + sz + 8 : Nat) : Int) := ⟨_, rfl, by rw [wrap_in (by omega) (by omega)]; omega⟩
  have hent : en.toNat = 4 + sz := by omega
  have he8t : e8.toNat = 4 + sz + 8 := by omega
  refine aw_step [0, 1, 6, 10, 11] [6] (by simp [hw1, hen] <;> rfl) ?_   -- journal.go:59
  refine aw_seq ?_
  refine aw_step [0, 1, 6, 10, 11, 42] [6] (by simp [he8] <;> rfl) ?_   -- journal.go:60
  refine aw_cond rfl (fun h4 => ?_) (fun h4 => aw_skip ?_)   -- if t42
  · have h4' : l.length < 4 + sz + 8 := by simp at h4; omega
    rw [if_pos h4']
    refine aw_step [6, 7, 8, 9] [6] (by simp <;> rfl) ?_   -- journal.go:61
    exact aw_ret (ends_ret (by simp [Tryd.results27] <;> rfl) (zeroRx _))
  have h4' : ¬ l.length < 4 + sz + 8 := by simp at h4; omega
  rw [if_neg h4']
  have hb1 : 0 ≤ en ∧ en ≤ lv.length := by omega
  have hb2 : en ≤ e8 ∧ e8 ≤ lv.length := by omega
  have hb3 : (4 : Int) ≤ en := by omega
  have hc' : AC Tryd.prog 20 [.int .u64 sum, .ro 1 (lv.take en.toNat)] (fun r => r = .int .u64 ch) := by rw [hent]; exact hc
  have hg2' : AC Tryd.prog 33 [.ro 1 ((lv.drop en.toNat).take (e8.toNat - en.toNat))] (fun r => r = .int .u64 ck) := by rw [hent, he8t, show 4 + sz + 8 - (4 + sz) = 8 by omega]; exact hg2
  have hd' : AC Tryd.prog 35 [.ro 1 ((lv.drop 4).take (en.toNat - 4))] (fun r => r = decR ((l.drop 4).take sz)) := by rw [hent, show 4 + sz - 4 = sz by omega]; exact hd (by simp; omega)
  refine aw_seq (aw_region ?_)   -- journal.go:63
  refine awl_go 4 (by simp [hb1] <;> rfl) ?_
  refine awl_call1 hc' Tryd.func20 rfl (by kernel_rfl) rfl rfl rfl (by simp <;> rfl) (by simp [hp]) (by simp <;> rfl) ?_
  refine awl_end [0, 6, 10, 11, 12] [6] (by simp <;> rfl) ?_
  refine aw_seq ?_
  refine aw_seq (aw_region ?_)   -- journal.go:64
  refine awl_go 5 (by simp [he8, hb1, hb2] <;> rfl) ?_
  refine awl_call1 hg2' Tryd.func33 rfl (by kernel_rfl) rfl rfl rfl (by simp <;> rfl) (by simp [hp]) (by simp <;> rfl) ?_
  refine awl_end [0, 6, 10, 11, 12, 58] [6] (by simp <;> rfl) ?_
  refine aw_cond rfl (fun h5 => ?_) (fun h5 => aw_skip ?_)   -- if t58
  · have h5' : (ck : Int) ≠ ch := by simpa using h5
    rw [if_pos h5']
    refine aw_step [6, 7, 8, 9] [6] (by simp <;> rfl) ?_   -- journal.go:65
    exact aw_ret (ends_ret (by simp [Tryd.results27] <;> rfl) (zeroRx _))
  have h5' : ¬ (ck : Int) ≠ ch := by simpa using h5
  rw [if_neg h5']
  refine aw_seq (aw_region ?_)   -- journal.go:67
  refine awl_go 3 (by simp [hb1, hb3] <;> rfl) ?_
  unfold decR at hd'
  cases hx : rdN ((l.drop 4).take sz) 4 8 0 with
  | error er =>
    have hd2 : AC Tryd.prog 35 [.ro 1 ((lv.drop 4).take (en.toNat - 4))] (fun r => r = .tup [.agg [.int .i64 0, .int .i64 0, .int .i64 0, .str [], .ro 5 []], .int .i64 0, .int .i64 er]) := by
      rw [hx] at hd'
      simpa only [Nd.v, List.map_nil] using hd'
    refine awl_call1 hd2 Tryd.func35 rfl (by kernel_rfl) rfl rfl rfl (by simp <;> rfl) (by simp [hp]) (by simp <;> rfl) ?_
    refine awl_end [6, 10, 11, 12, 13, 14, 15] [6, 13] (by simp <;> rfl) ?_
    have her := rdN_err (by omega) _ _ hx
    refine aw_seq ?_
    refine aw_step [6, 11, 12, 13, 77] [6, 13] (by simp [hw1, her] <;> rfl) ?_   -- journal.go:68
    refine aw_cond rfl (fun h6 => ?_) (fun h6 => by simp [her] at h6)   -- if t77
    refine aw_step [6, 7, 8, 9] [6] (by simp <;> rfl) ?_   -- journal.go:69
    exact aw_ret (ends_ret (by simp [Tryd.results27] <;> rfl) (zeroRx _))
  | ok p =>
    obtain ⟨x, a⟩ := p
    have hd2 : AC Tryd.prog 35 [.ro 1 ((lv.drop 4).take (en.toNat - 4))] (fun r => r = .tup [x.v, .int .i64 a, .int .i64 0]) := by
      rw [hx] at hd'
      exact hd'
    have hpk : ∀ xks : List Nd, (xks.map Nd.v).all V.pureE = true := pureNd
    rcases hxx : x with ⟨xt, xk, xn, xs, xks⟩
    have hxv : x.v = .agg [.int .i64 xt, .int .i64 xk, .int .i64 xn, .str xs, .ro 5 (xks.map Nd.v)] := by rw [hxx, Nd.v]
    rw [hxv] at hd2
    have hpk := pureNd xks
    generalize hkvv : xks.map Nd.v = xkv at hd2 hpk hxv
    refine awl_call1 hd2 Tryd.func35 rfl (by kernel_rfl) rfl rfl rfl (by simp <;> rfl) (by simp [hp]) (by simp <;> rfl) ?_
    refine awl_end [6, 10, 11, 12, 13, 14, 15] [6, 13] (by simp <;> rfl) ?_
    refine aw_seq ?_
    refine aw_step [6, 11, 12, 13, 77] [6, 13] (by simp [hw1] <;> rfl) ?_   -- journal.go:68
    refine aw_cond rfl (fun h6 => ?_) (fun h6 => aw_skip ?_)   -- if t77
    · have h6' : ¬ a = sz := by simp at h6; omega
      refine aw_step [6, 7, 8, 9] [6] (by simp <;> rfl) ?_   -- journal.go:69
      refine aw_ret (ends_ret (by simp [Tryd.results27] <;> rfl) ?_)
      simp only [if_neg h6']
      exact zeroRx _
    have h6' : a = sz := by simp at h6; omega
    refine aw_step [6, 7, 8, 9] [6] (by simp [he8] <;> rfl) ?_   -- journal.go:71
    refine aw_ret (ends_ret (by simp [Tryd.results27] <;> rfl) ?_)
    simp only [if_pos h6']
    unfold entV
    simp only [← hxx, hxv, he8']
    rw [show ((ch.toNat : Nat) : Int) = ch by omega]
    exact .refl _
end Go.Proofs.YtmkbhognijicjaaDoor

/- Joins: what is encoded can be read (plain law). No condition. -/
set_option linter.unusedSimpArgs false
namespace Go.Proofs.YtmkbhognijicjaaDoor
open Go.Eng

theorem at_drop {bs l : List UInt8} {at_ : Nat} {c : UInt8} (h : bs.drop at_ = c :: l) : bs[at_]? = some c ∧ bs.drop (at_ + 1) = l := by
  constructor
  · have : (bs.drop at_)[0]? = some c := by rw [h]; rfl
    simpa using this
  · rw [← List.drop_drop, h]; rfl
theorem drop_app {bs l r : List UInt8} {at_ : Nat} (h : bs.drop at_ = l ++ r) : bs.drop (at_ + l.length) = r := by
  rw [← List.drop_drop, h]; simp
theorem rdV_enc {bs : List UInt8} {e : Int} : ∀ (k i x at_ y : Nat) (rest : List UInt8), i + k = 10 → y * 128 ^ i < 2 ^ 64 → (0 < i → y ≠ 0) → bs.drop at_ = vEnc y ++ rest →
    rdV bs e k i x at_ = .ok (x + y * 128 ^ i, at_ + (vEnc y).length)
  | 0, i, x, at_, y, rest, hk, hy, hn, hd => by
    have hi : i = 10 := by omega
    subst hi
    have := hn (by omega)
    have : 1 ≤ y := by omega
    have : 1 * 128 ^ 10 ≤ y * 128 ^ 10 := Nat.mul_le_mul_right _ this
    omega
  | k + 1, i, x, at_, y, rest, hk, hy, hn, hd => by
    have h9 : i = 9 → y ≤ 1 := by
      rintro rfl
      rcases Nat.lt_or_ge y 2 with h | h
      · omega
      · have : 2 * 128 ^ 9 ≤ y * 128 ^ 9 := Nat.mul_le_mul_right _ h
        omega
    rw [rdV]
    by_cases h : y < 128
    · rw [vEnc_lt h] at hd ⊢
      obtain ⟨h1, h2⟩ := at_drop hd
      have hc : (UInt8.ofNat y).toNat = y := by simp; omega
      rw [h1]
      simp only [hc]
      rw [if_neg (by rintro (⟨h3, h4⟩ | ⟨h3, h4⟩); have := h9 h3; omega; exact hn h3 h4), if_pos h]
      rfl
    · rw [vEnc_ge (by omega)] at hd ⊢
      obtain ⟨h1, h2⟩ := at_drop hd
      have hc : (UInt8.ofNat (y % 128 + 128)).toNat = y % 128 + 128 := by simp; omega
      rw [h1]
      simp only [hc]
      rw [if_neg (by rintro (⟨h3, h4⟩ | ⟨h3, h4⟩); have := h9 h3; omega; omega), if_neg (by omega)]
      have hsplit : y * 128 ^ i = y % 128 * 128 ^ i + y / 128 * 128 ^ (i + 1) := by
        rw [Nat.pow_succ, ← Nat.mul_assoc, Nat.mul_right_comm, ← Nat.add_mul]
        congr 1
        omega
      rw [rdV_enc k (i + 1) _ (at_ + 1) (y / 128) rest (by omega) (by omega) (by omega) h2]
      simp only [List.length_cons]
      congr 2
      · rw [show (y % 128 + 128) % 128 = y % 128 by omega]
        omega
      · omega
theorem rdV_enc0 {bs : List UInt8} {e : Int} {at_ y : Nat} {rest : List UInt8} (hy : y < 2 ^ 64) (h : bs.drop at_ = vEnc y ++ rest) : rdV bs e 10 0 0 at_ = .ok (y, at_ + (vEnc y).length) := by
  have := rdV_enc (e := e) 10 0 0 at_ y rest rfl (by simpa using hy) (by omega) h
  simpa using this

/-- A tree of at most so many levels. -/
def Lv : Nat → Nd → Prop
  | 0, _ => False
  | n + 1, .mk _ _ _ _ ks => ∀ x ∈ ks, Lv n x
theorem rdL_enc {bs : List UInt8} {f : Nat → Except Int (Nd × Nat)} : ∀ (ks : List Nd) (at_ : Nat) (rest : List UInt8), (∀ x ∈ ks, ∀ at_ rest, bs.drop at_ = byN x ++ rest → ∃ x', f at_ = .ok (x', at_ + (byN x).length)) →
    bs.drop at_ = (ks.map byN).flatten ++ rest → ∃ l, rdL f ks.length at_ = .ok (l, at_ + ((ks.map byN).flatten).length)
  | [], at_, rest, _, _ => ⟨[], by simp [rdL]⟩
  | x :: ks, at_, rest, hf, h => by
    simp only [List.map_cons, List.flatten_cons, List.append_assoc] at h
    obtain ⟨x', hx⟩ := hf x (by simp) at_ _ h
    obtain ⟨l, hl⟩ := rdL_enc ks (at_ + (byN x).length) rest (fun y hy => hf y (by simp [hy])) (drop_app h)
    refine ⟨x' :: l, ?_⟩
    simp only [List.length_cons, rdL, hx, hl]
    simp [Nat.add_assoc]
theorem rdN_enc {bs : List UInt8} {e : Int} : ∀ (lv : Nat) (x : Nd) (at_ : Nat) (rest : List UInt8), Wf x → Lv lv x → bs.drop at_ = byN x ++ rest → ∃ x', rdN bs e lv at_ = .ok (x', at_ + (byN x).length)
  | 0, x, at_, rest, _, hl, _ => by simp [Lv] at hl
  | lv + 1, .mk t k n s ks, at_, rest, hw, hl, h => by
    rw [Wf] at hw
    obtain ⟨h1, h2, h3, h4, h5, h6, h7⟩ := hw
    rw [Lv] at hl
    rw [byN] at h ⊢
    simp only [List.append_assoc, List.cons_append] at h
    have hv := rdV_enc0 (e := e) (by omega) h
    have hd1 := drop_app h
    obtain ⟨hk1, hd2⟩ := at_drop hd1
    have hkn : (UInt8.ofNat k.toNat).toNat = k.toNat := by simp; omega
    rw [rdN, hv]
    simp only
    rw [if_neg (by omega), hk1]
    simp only [hkn, List.length_append, List.length_cons]
    by_cases k1 : k = 1
    · subst k1
      simp only [if_true] at hd2 ⊢
      have hv2 := rdV_enc0 (e := e) (foldN_lt n) hd2
      simp only [show (1 : Int).toNat = 1 from rfl, if_true, hv2]
      exact ⟨_, by congr 2; omega⟩
    · rw [if_neg k1] at hd2 ⊢
      by_cases k2 : k = 2
      · subst k2
        simp only [if_true, List.append_assoc] at hd2 ⊢
        have hv2 := rdV_enc0 (e := e) (by omega) hd2
        have hd3 := drop_app hd2
        have hle : at_ + (vEnc t.toNat).length + 1 + (vEnc s.length).length + s.length ≤ bs.length := by
          have := congrArg List.length hd3
          simp only [List.length_drop, List.length_append] at this
          have h0 := congrArg List.length hd2
          simp only [List.length_drop, List.length_append] at h0
          have hp : 0 < (vEnc s.length).length := by rw [vEnc]; split <;> simp
          omega
        have hc : rdC bs e 2000 (at_ + (vEnc t.toNat).length + 1) = .ok (s.length, at_ + (vEnc t.toNat).length + 1 + (vEnc s.length).length) := by
          unfold rdC
          rw [hv2]
          simp only
          rw [if_neg (by omega)]
        simp only [show (2 : Int).toNat = 2 from rfl, show ¬ (2 = 1) by omega, if_false, if_true, hc]
        rw [if_pos hle]
        exact ⟨_, by congr 2; simp only [List.length_append]; omega⟩
      · have k3 : k = 3 := by omega
        subst k3
        rw [if_neg k2] at hd2 ⊢
        simp only [List.append_assoc] at hd2
        have hv2 := rdV_enc0 (e := e) (by omega) hd2
        have hd3 := drop_app hd2
        have hc : rdC bs e 1024 (at_ + (vEnc t.toNat).length + 1) = .ok (ks.length, at_ + (vEnc t.toNat).length + 1 + (vEnc ks.length).length) := by
          unfold rdC
          rw [hv2]
          simp only
          rw [if_neg (by omega)]
        obtain ⟨l, hl2⟩ := rdL_enc (f := rdN bs e lv) ks _ rest (fun x hx at_ rest hh => rdN_enc lv x at_ rest (h7 x hx) (hl x hx) hh) hd3
        simp only [show (3 : Int).toNat = 3 from rfl, show ¬ (3 = 1) by omega, show ¬ (3 = 2) by omega, if_false, if_true, hc, hl2]
        exact ⟨_, by congr 2; simp only [List.length_append]; omega⟩

theorem getB_putB_from (x : Nat) : ∀ (n v : Nat), (putB x n).foldl (fun v c => (v * 256 + c.toNat) % 2 ^ 64) v % 2 ^ 64 = (v * 256 ^ n + x % 256 ^ n) % 2 ^ 64
  | 0, v => by simp [putB, Nat.mod_one]
  | n + 1, v => by
    simp only [putB, List.foldl_cons]
    rw [getB_putB_from x n]
    have hc : (UInt8.ofNat (x / 256 ^ n % 256)).toNat = x / 256 ^ n % 256 := by simp
    have hmm : ∀ M m p q : Nat, (m % M * p + q) % M = (m * p + q) % M := by intro M m p q; simp [Nat.add_mod, Nat.mul_mod]
    rw [hc, hmm, Nat.mod_pow_succ (b := 256)]
    congr 1
    rw [Nat.pow_succ, Nat.add_mul]
    have : v * 256 * 256 ^ n = v * (256 ^ n * 256) := by rw [Nat.mul_assoc, Nat.mul_comm 256]
    have : 256 ^ n * (x / 256 ^ n % 256) = x / 256 ^ n % 256 * 256 ^ n := Nat.mul_comm _ _
    omega
theorem getB_putB (x n : Nat) (hx : x < 256 ^ n) (h : x < 2 ^ 64) : getB (putB x n) = x := by
  have h1 := getB_putB_from x n 0
  have h2 := getB_lt (putB x n)
  unfold getB at h2 ⊢
  rw [Nat.mod_eq_of_lt h2, Nat.mod_eq_of_lt hx, Nat.zero_mul, Nat.zero_add, Nat.mod_eq_of_lt h] at h1
  exact h1

theorem lv_num (t n : Int) (k : Nat) : Lv (k + 1) (num t n) := by unfold num; rw [Lv]; simp
theorem encK_lv (e : Ev) : Lv 8 (.mk 50 3 0 [] (encK e)) := by
  rw [Lv]
  intro x hx
  unfold encK at hx
  rcases List.mem_append.1 hx with h | h
  · simp at h
    rcases h with rfl | rfl <;> exact lv_num _ _ 6
  · split at h
    · unfold ansK at h
      simp at h
      rcases h with rfl | rfl | rfl | rfl | rfl
      · exact lv_num _ _ 6
      · rw [Lv]
        intro x hx
        simp only [chN, List.mem_map] at hx
        obtain ⟨n, _, rfl⟩ := hx
        exact lv_num _ _ 5
      · exact lv_num _ _ 6
      · rw [Lv]; simp
      · exact lv_num _ _ 6
    · split at h
      · simp at h
        rcases h with rfl | rfl | rfl <;> exact lv_num _ _ 6
      · simp at h
theorem rdN_event {e : Ev} (h10 : e.ch.length ≤ 10) (ht : e.text.length ≤ 1000) : ∃ x, rdN (byN (.mk 50 3 0 [] (encK e))) 4 8 0 = .ok (x, (byN (.mk 50 3 0 [] (encK e))).length) := by
  obtain ⟨x, hx⟩ := rdN_enc (bs := byN (.mk 50 3 0 [] (encK e))) (e := 4) 8 (.mk 50 3 0 [] (encK e)) 0 [] (encK_wf h10 ht) (encK_lv e) (by simp)
  exact ⟨x, by simpa using hx⟩
end Go.Proofs.YtmkbhognijicjaaDoor
