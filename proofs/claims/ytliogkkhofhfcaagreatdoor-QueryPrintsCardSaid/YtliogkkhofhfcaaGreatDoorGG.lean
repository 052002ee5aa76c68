import Derived.Test.YtliogkkhofhfcaaGreatDoorGF
/- Query: writeKids by what write does on the kids. No condition. -/
set_option linter.unusedSimpArgs false
set_option maxRecDepth 4000
namespace Go.Proofs.YtliogkkhofhfcaaGreatDoor
open Go.Eng

/-- What write does, at so many levels. -/
def WriteM (m : Nat) : Prop := ∀ (q : Qy) (d v vq : Nat) (ad : V) (t : List UInt8), okA d v ad → t.length ≤ 100000 →
  ACSQ gv Tryz.prog 40 [.bp d v 2 0 0, q.v, .int .i64 (9 - (m : Int))] (bObs d v ad vq t) (bRes d v (wr m q t).1 (.bool (wr m q t).2))

set_option maxHeartbeats 8000000 in
theorem writeKids_acs (m : Nat) (hm : m ≤ 7) (ih : WriteM m) (q : Qy) (d v vq : Nat) (ad : V) (t : List UInt8) (hok : okA d v ad) (ht : t.length ≤ 1000) :
    ACSQ gv Tryz.prog 56 [.bp d v 2 0 0, q.v, .int .i64 (8 - (m : Int))] (bObs d v ad vq t) (bRes d v (wrK (wr m) q t).1 (.bool (wrK (wr m) q t).2)) := by
  obtain ⟨k, c, n, f, s, ks⟩ := q
  rw [Qy.v]
  have hga := fun (i : Nat) (h : i < ks.length) => nthQ h
  have hla : (ks.map Qy.v).length = ks.length := by simp
  have hpk := pureQ ks
  generalize hkv : ks.map Qy.v = kv at hga hla hpk
  obtain ⟨lv, hlv, hlv1⟩ : ∃ lv : Int, (8 - (m : Int)) = lv ∧ IntKind.i64.wrap (lv + 1) = 9 - (m : Int) := ⟨_, rfl, by rw [wrap_in (by omega) (by omega)]; omega⟩
  rw [hlv]
  refine acsq_intro Tryz.func56 rfl (by show (3 : Nat) ≤ 86; omega) (fun w0 N0 nx0 hG => ?_)
  have hbt := bysL t
  refine awk_step (d + 2) [0, 2, 4] [d, d + 1, d + 2 + 4] (by simp [Tryz.ntmps56] <;> rfl) ?_   -- query.go:81
  refine aw_seq ?_
  refine awk_step (d + 2) [0, 2, 4, 28] [d, d + 1, d + 2 + 4] (by simp <;> rfl) ?_   -- query.go:82
  refine aw_cond rfl (fun h1 => ?_) (fun h1 => aw_skip ?_)   -- if t28
  · refine awk_step (d + 2) [6] [d, d + 1] (by simp <;> rfl) ?_   -- query.go:83
    have hb : badK c n f s = true := by
      simp [badK] at h1 ⊢
      exact h1
    have hR : wrK (wr m) (.mk k c n f s ks) t = (t, false) := by rw [wrK, if_pos hb]
    rw [hR]
    exact aw_ret (bRes_of (vq := vq) (by simp only; omega) (by simp [Tryz.results56] <;> rfl) (by simp [Eng.get]) (by simp [Eng.get]) hok)
  have hnb : badK c n f s = false := by
    simp [badK] at h1 ⊢
    exact h1
  have hR : wrK (wr m) (.mk k c n f s ks) t = if k = 3 ∧ ks.length = 1 then wrL (wr m) k andW true ks (t ++ notW)
    else if k = 3 ∨ ks.length < 2 then (t, false)
    else wrL (wr m) k (if k = 2 then orW else andW) true ks t := by rw [wrK, if_neg (by rw [hnb]; simp)]
  generalize hRR : wrK (wr m) (.mk k c n f s ks) t = R at hR ⊢
  refine awk_step (d + 2) [0, 2, 4, 7] [d, d + 1, d + 2 + 4] (by simp <;> rfl) ?_   -- query.go:85
  refine aw_viaE (fun p : V × Nat × Nat × List UInt8 × List UInt8 => ⟨[(0, .bp d v 2 0 0), (2, .int .i64 lv), (4, .bp (d + 2 + 4) nx0 6 0 0), (7, .str p.2.2.2.1)], [(d, bOb v p.1 (.sl (d + 1) p.2.1 1 p.2.2.2.2.length)), (d + 1, ⟨p.2.1, 1, 5, bys p.2.2.2.2⟩), (d + 2 + 4, ⟨nx0, 6, 24, [.agg [.int .i64 k, .int .i64 c, .int .i64 n, .str f, .str s, .ro 6 kv]]⟩)], p.2.2.1, 86⟩)
    (fun p => okA d v p.1 ∧ nx0 ≤ p.2.2.1 ∧ p.2.2.2.1.length ≤ 5 ∧ p.2.2.2.2.length ≤ 1010 ∧ R = wrL (wr m) k p.2.2.2.1 true ks p.2.2.2.2) ?_ ?_
  · refine aw_block ?_
    refine awk_step (d + 2) [0, 2, 4, 7, 29] [d, d + 1, d + 2 + 4] (by simp <;> rfl) ?_   -- query.go:87
    refine aw_cond rfl (fun h2 => ?_) (fun h2 => ?_)   -- if t29
    · have hq : k = 3 ∧ ks.length = 1 := by simp at h2; exact ⟨h2.1, by omega⟩
      rw [if_pos hq] at hR
      have hws := writeString_acs d v vq ad t notW hok (by simp only [List.length_cons, List.length_nil]; omega)
      refine aw_region ?_   -- query.go:88
      refine awlk_go (d + 2) 1 (by simp <;> rfl) ?_
      refine awl_callS hws Tryz.func84 rfl (by kernel_rfl) rfl rfl rfl (by simp <;> rfl) (fun k o hk => get_two (d := d) (by simp [Eng.get]) (by simp [Eng.get]) hk) ?_ (fun ch hch => hch.elim)
      rintro r outs nx ⟨rfl, ad', vq', hok', rfl⟩ hnx
      have hnx' : nx0 ≤ nx := by simp at hnx; omega
      refine ⟨fun k hk => has_two hk, _, by simp <;> rfl, ?_⟩
      refine awlk_end (d + 2) [0, 2, 4, 7] [d, d + 1, d + 2 + 4] (by simp <;> rfl) ?_
      exact ⟨(ad', vq', nx + 2, andW, t ++ notW), ⟨hok', by simp only; omega, (show andW.length ≤ 5 by decide), by simp only [List.length_append, List.length_cons, List.length_nil]; omega, hR⟩, by simp; exact AS.le_refl _⟩
    · have hq : ¬ (k = 3 ∧ ks.length = 1) := by simp at h2; intro h; exact h2 h.1 (by omega)
      rw [if_neg hq] at hR
      refine awk_step (d + 2) [0, 2, 4, 7, 41] [d, d + 1, d + 2 + 4] (by simp <;> rfl) ?_   -- query.go:89
      refine aw_cond rfl (fun h3 => ?_) (fun h3 => ?_)   -- if t41
      · refine awk_step (d + 2) [6] [d, d + 1] (by simp <;> rfl) ?_   -- query.go:90
        have hq2 : k = 3 ∨ ks.length < 2 := by rw [← hla]; simp at h3; omega
        rw [if_pos hq2] at hR
        rw [hR]
        exact aw_ret (bRes_of (vq := vq) (by simp only; omega) (by simp [Tryz.results56] <;> rfl) (by simp [Eng.get]) (by simp [Eng.get]) hok)
      have hq2 : ¬ (k = 3 ∨ ks.length < 2) := by rw [← hla]; simp at h3; omega
      rw [if_neg hq2] at hR
      refine awk_step (d + 2) [0, 2, 4, 7, 51] [d, d + 1, d + 2 + 4] (by simp <;> rfl) ?_   -- query.go:91
      refine aw_cond rfl (fun h4 => ?_) (fun h4 => aw_skip ?_)   -- if t51
      · have hk2 : k = 2 := by simpa using h4
        rw [if_pos hk2] at hR
        refine awk_one (d + 2) [0, 2, 4, 7] [d, d + 1, d + 2 + 4] (by simp <;> rfl) ?_   -- query.go:92
        exact ⟨(ad, vq, _, orW, t), ⟨hok, by simp only; omega, (show orW.length ≤ 5 by decide), by simp only; omega, hR⟩, AS.le_refl _⟩
      · have hk2 : ¬ k = 2 := by simpa using h4
        rw [if_neg hk2] at hR
        exact ⟨(ad, vq, nx0 + 500, andW, t), ⟨hok, by simp only; omega, (show andW.length ≤ 5 by decide), by simp only; omega, hR⟩, le_to [0, 2, 4, 7] [d, d + 1, d + 2 + 4] (by simp) (by simp) rfl (by simp only; omega)⟩
  rintro ⟨ad1, vq1, nx1, W, T0⟩ ⟨hok1, hnx1, hW, hT0, hR⟩
  simp only at hok1 hnx1 hW hT0 hR
  clear hRR h1 hbt ht hok
  refine aw_seq ?_
  refine awk_step (d + 2) [0, 2, 4, 7, 56, 57, 58] [d, d + 1, d + 2 + 4] (by simp <;> rfl) ?_   -- query.go:94
  refine aw_len 56 rfl (fun hmax => ?_)
  unfold maxLen at hmax
  refine aw_block ?_
  refine aw_loop (fun p : Nat × V × Nat × Nat × List UInt8 => ⟨[(0, .bp d v 2 0 0), (2, .int .i64 lv), (4, .bp (d + 2 + 4) nx0 6 0 0), (7, .str W), (56, .ro 6 kv), (57, .int .i64 kv.length), (58, .int .i64 p.1)], [(d, bOb v p.2.1 (.sl (d + 1) p.2.2.1 1 p.2.2.2.2.length)), (d + 1, ⟨p.2.2.1, 1, 5, bys p.2.2.2.2⟩), (d + 2 + 4, ⟨nx0, 6, 24, [.agg [.int .i64 k, .int .i64 c, .int .i64 n, .str f, .str s, .ro 6 kv]]⟩)], p.2.2.2.1, 86⟩)
    (fun p => p.1 ≤ ks.length ∧ okA d v p.2.1 ∧ nx0 ≤ p.2.2.2.1 ∧ p.2.2.2.2.length ≤ 50000 ∧ R = wrL (wr m) k W (decide (p.1 = 0)) (ks.drop p.1) p.2.2.2.2) (fun p => ks.length - p.1) (0, ad1, vq1, _, T0) ⟨Nat.zero_le _, hok1, by simp only; omega, by simp only; omega, by simpa using hR⟩ (AS.le_refl _) ?_
  rintro ⟨i, ad2, vq2, nx2, T⟩ ⟨hi, hok2, hnx2, hT, hR⟩
  simp only at hi hok2 hnx2 hT hR
  refine awk_step (d + 2) [0, 2, 4, 7, 56, 57, 58, 59] [d, d + 1, d + 2 + 4] (by simp <;> rfl) ?_   -- query.go:94
  refine aw_seq ?_
  refine aw_cond rfl (fun h3 => aw_skip ?_) (fun h3 => ?_)   -- if t59
  · have hlt : i < ks.length := by simp at h3; omega
    have hlt' : i < kv.length := by omega
    have ga := hga i hlt
    have hw := wrap_succ (k := i) (by omega)
    rw [List.drop_eq_getElem_cons hlt, wrL] at hR
    generalize ks[i] = x at ga hR
    obtain ⟨xk, xc, xn, xf, xs, xks⟩ := x
    rw [Qy.v] at ga
    have ihx := ih (.mk xk xc xn xf xs xks)
    rw [Qy.v] at ihx
    have hpx := pureQ xks
    generalize xks.map Qy.v = xkv at ga ihx hpx
    rw [show (Qy.mk xk xc xn xf xs xks).kind = xk from rfl] at hR
    have henc := encloses_ac k xk
    generalize encl k xk = en at hR henc
    have hsl := sepT_len (decide (i = 0)) W hW
    have hol := opT_len en
    have hcl := clT_len en
    refine aw_seq ?_
    refine aw_block ?_
    refine awk_step (d + 2) [0, 2, 4, 7, 8, 9, 56, 57, 58] [d, d + 1, d + 2 + 4, d + 2 + 9] (by simp [ga, hlt'] <;> rfl) ?_   -- query.go:94
    -- the word between
    refine aw_viaE (fun p : V × Nat × Nat => ⟨[(0, .bp d v 2 0 0), (2, .int .i64 lv), (4, .bp (d + 2 + 4) nx0 6 0 0), (7, .str W), (9, .bp (d + 2 + 9) (nx2 + 1 + 3) 6 0 0), (56, .ro 6 kv), (57, .int .i64 kv.length), (58, .int .i64 i)], [(d, bOb v p.1 (.sl (d + 1) p.2.1 1 (T ++ sepT (decide (i = 0)) W).length)), (d + 1, ⟨p.2.1, 1, 5, bys (T ++ sepT (decide (i = 0)) W)⟩), (d + 2 + 4, ⟨nx0, 6, 24, [.agg [.int .i64 k, .int .i64 c, .int .i64 n, .str f, .str s, .ro 6 kv]]⟩), (d + 2 + 9, ⟨nx2 + 1 + 3, 6, 24, [.agg [.int .i64 xk, .int .i64 xc, .int .i64 xn, .str xf, .str xs, .ro 6 xkv]]⟩)], p.2.2, 86⟩)
      (fun p => okA d v p.1 ∧ nx0 ≤ p.2.2) ?_ ?_
    · refine awk_step (d + 2) [0, 2, 4, 7, 9, 56, 57, 58, 64] [d, d + 1, d + 2 + 4, d + 2 + 9] (by simp <;> rfl) ?_   -- query.go:95
      refine aw_cond rfl (fun h4 => ?_) (fun h4 => aw_skip ?_)   -- if t64
      · have hi0 : ¬ i = 0 := by simp at h4; omega
        have hsep : sepT (decide (i = 0)) W = W := by simp [sepT, hi0]
        rw [hsep]
        have hws := writeString_acs d v vq2 ad2 T W hok2 (by omega)
        refine aw_region ?_   -- query.go:96
        refine awlk_go (d + 2) 2 (by simp <;> rfl) ?_
        refine awl_callS hws Tryz.func84 rfl (by kernel_rfl) rfl rfl rfl (by simp <;> rfl) (fun k o hk => get_two (d := d) (by simp [Eng.get]) (by simp [Eng.get]) hk) ?_ (fun ch hch => hch.elim)
        rintro r outs nx ⟨rfl, ad', vq', hok', rfl⟩ hnx
        have hnx' : nx0 ≤ nx := by simp at hnx; omega
        refine ⟨fun k hk => has_two hk, _, by simp <;> rfl, ?_⟩
        refine awlk_end (d + 2) [0, 2, 4, 7, 9, 56, 57, 58] [d, d + 1, d + 2 + 4, d + 2 + 9] (by simp <;> rfl) ?_
        exact ⟨(ad', vq', nx + 3), ⟨hok', by simp only; omega⟩, by simp; exact AS.le_refl _⟩
      · have hi0 : i = 0 := by simp at h4; omega
        have hsep : sepT (decide (i = 0)) W = [] := by simp [sepT, hi0]
        rw [hsep, List.append_nil]
        exact ⟨(ad2, vq2, nx2 + 500), ⟨hok2, by simp only; omega⟩, le_to [0, 2, 4, 7, 9, 56, 57, 58] [d, d + 1, d + 2 + 4, d + 2 + 9] (by simp) (by simp) rfl (by simp only; omega)⟩
    rintro ⟨ad3, vq3, nx3⟩ ⟨hok3, hnx3⟩
    simp only at hok3 hnx3
    have hT1 : (T ++ sepT (decide (i = 0)) W).length ≤ 50005 := by rw [List.length_append]; omega
    generalize T ++ sepT (decide (i = 0)) W = T1 at hT1 hR ⊢
    clear hsl hok2 hT
    refine aw_seq (aw_region ?_)   -- query.go:98
    refine awlk_go (d + 2) 4 (by simp <;> rfl) ?_
    refine awl_call1 henc Tryz.func85 rfl (by kernel_rfl) rfl rfl rfl rfl rfl (by simp <;> rfl) ?_
    refine awlk_end (d + 2) [0, 2, 4, 7, 9, 10, 56, 57, 58] [d, d + 1, d + 2 + 4, d + 2 + 9] (by simp <;> rfl) ?_
    -- the open parenthesis
    refine aw_viaE (fun p : V × Nat × Nat => ⟨[(0, .bp d v 2 0 0), (2, .int .i64 lv), (4, .bp (d + 2 + 4) nx0 6 0 0), (7, .str W), (9, .bp (d + 2 + 9) (nx2 + 1 + 3) 6 0 0), (10, .bool en), (56, .ro 6 kv), (57, .int .i64 kv.length), (58, .int .i64 i)], [(d, bOb v p.1 (.sl (d + 1) p.2.1 1 (T1 ++ opT en).length)), (d + 1, ⟨p.2.1, 1, 5, bys (T1 ++ opT en)⟩), (d + 2 + 4, ⟨nx0, 6, 24, [.agg [.int .i64 k, .int .i64 c, .int .i64 n, .str f, .str s, .ro 6 kv]]⟩), (d + 2 + 9, ⟨nx2 + 1 + 3, 6, 24, [.agg [.int .i64 xk, .int .i64 xc, .int .i64 xn, .str xf, .str xs, .ro 6 xkv]]⟩)], p.2.2, 86⟩)
      (fun p => okA d v p.1 ∧ nx0 ≤ p.2.2) ?_ ?_
    · refine awk_step (d + 2) [0, 2, 4, 7, 9, 10, 56, 57, 58, 73] [d, d + 1, d + 2 + 4, d + 2 + 9] (by simp <;> rfl) ?_   -- query.go:99
      refine aw_cond rfl (fun h5 => ?_) (fun h5 => aw_skip ?_)   -- if t73
      · have he : en = true := by simpa using h5
        subst he
        have hws := writeString_acs d v vq3 ad3 T1 [40] hok3 (by simp only [List.length_cons, List.length_nil]; omega)
        rw [show opT true = [40] from rfl]
        refine aw_region ?_   -- query.go:100
        refine awlk_go (d + 2) 1 (by simp <;> rfl) ?_
        refine awl_callS hws Tryz.func84 rfl (by kernel_rfl) rfl rfl rfl (by simp <;> rfl) (fun k o hk => get_two (d := d) (by simp [Eng.get]) (by simp [Eng.get]) hk) ?_ (fun ch hch => hch.elim)
        rintro r outs nx ⟨rfl, ad', vq', hok', rfl⟩ hnx
        have hnx' : nx0 ≤ nx := by simp at hnx; omega
        refine ⟨fun k hk => has_two hk, _, by simp <;> rfl, ?_⟩
        refine awlk_end (d + 2) [0, 2, 4, 7, 9, 10, 56, 57, 58] [d, d + 1, d + 2 + 4, d + 2 + 9] (by simp <;> rfl) ?_
        exact ⟨(ad', vq', nx + 2), ⟨hok', by simp only; omega⟩, by simp; exact AS.le_refl _⟩
      · have he : en = false := by simpa using h5
        subst he
        rw [show opT false = [] from rfl, List.append_nil]
        exact ⟨(ad3, vq3, nx3 + 500), ⟨hok3, by simp only; omega⟩, le_to [0, 2, 4, 7, 9, 10, 56, 57, 58] [d, d + 1, d + 2 + 4, d + 2 + 9] (by simp) (by simp) rfl (by simp only; omega)⟩
    rintro ⟨ad4, vq4, nx4⟩ ⟨hok4, hnx4⟩
    simp only at hok4 hnx4
    have hT2 : (T1 ++ opT en).length ≤ 50006 := by rw [List.length_append]; omega
    generalize T1 ++ opT en = T2 at hT2 hR ⊢
    clear hok3 hol hT1
    have hcall := ihx d v vq4 ad4 T2 hok4 (by omega)
    have hwl := wr_len m (.mk xk xc xn xf xs xks) T2
    have hwo := wr_ok m (.mk xk xc xn xf xs xks) T2
    generalize wr m (.mk xk xc xn xf xs xks) T2 = wq at hcall hwl hwo hR
    obtain ⟨T3, okq⟩ := wq
    simp only at hcall hwl hwo hR
    refine aw_seq ?_
    refine aw_seq (aw_region ?_)   -- query.go:102
    refine awlk_go (d + 2) 4 (by simp [hlv1] <;> rfl) ?_
    refine awl_callSQ hG hcall Tryz.func40 rfl (by kernel_rfl) rfl rfl rfl (by simp <;> rfl) (fun k o hk => get_two (d := d) (by simp [Eng.get]) (by simp [Eng.get]) hk) ?_
    rintro r outs nx ⟨rfl, ad5, vq5, hok5, rfl⟩ hnx
    have hnx' : nx0 ≤ nx := by simp at hnx; omega
    refine ⟨fun k hk => has_two hk, _, by simp <;> rfl, ?_⟩
    refine awlk_end (d + 2) [0, 2, 4, 7, 10, 56, 57, 58, 81] [d, d + 1, d + 2 + 4] (by simp <;> rfl) ?_
    refine aw_cond rfl (fun h6 => ?_) (fun h6 => aw_skip ?_)   -- if t81
    · have he : okq = false := by simpa using h6
      rw [if_pos he] at hR
      rw [hR]
      refine awk_step (d + 2) [6] [d, d + 1] (by simp <;> rfl) ?_   -- query.go:103
      exact aw_ret (bRes_of (vq := vq5) (by simp only; omega) (by simp [Tryz.results56] <;> rfl) (by simp [Eng.get]) (by simp [Eng.get]) hok5)
    have he : okq = true := by simpa using h6
    rw [if_neg (by rw [he]; simp)] at hR
    -- the closing parenthesis
    have hT3 : T3.length ≤ 40000 := by have := hwo he; omega
    refine awk_step (d + 2) [0, 2, 4, 7, 56, 57, 58, 82] [d, d + 1, d + 2 + 4] (by simp <;> rfl) ?_   -- query.go:105
    refine aw_cond rfl (fun h7 => ?_) (fun h7 => aw_skip ?_)   -- if t82
    · have hen : en = true := by simpa using h7
      subst hen
      have hws := writeString_acs d v vq5 ad5 T3 [41] hok5 (by simp only [List.length_cons, List.length_nil]; omega)
      rw [show clT true = [41] from rfl] at hR
      refine aw_region ?_   -- query.go:106
      refine awlk_go (d + 2) 1 (by simp <;> rfl) ?_
      refine awl_callS hws Tryz.func84 rfl (by kernel_rfl) rfl rfl rfl (by simp <;> rfl) (fun k o hk => get_two (d := d) (by simp [Eng.get]) (by simp [Eng.get]) hk) ?_ (fun ch hch => hch.elim)
      rintro r outs nx6 ⟨rfl, ad', vq', hok', rfl⟩ hnx6
      have hnx6' : nx0 ≤ nx6 := by simp at hnx6; omega
      refine ⟨fun k hk => has_two hk, _, by simp <;> rfl, ?_⟩
      refine awlk_end (d + 2) [0, 2, 4, 7, 56, 57, 58] [d, d + 1, d + 2 + 4] (by simp <;> rfl) ?_
      refine awk_one (d + 2) [0, 2, 4, 7, 56, 57, 58] [d, d + 1, d + 2 + 4] (by simp [hw] <;> rfl) ?_   -- query.go:94
      refine ⟨(i + 1, ad', vq', nx6 + 2 + 2, T3 ++ [41]), ⟨hlt, hok', by simp only; omega, ?_, by simpa using hR⟩, by simp only; omega, ?_⟩
      · simp only [List.length_append, List.length_cons, List.length_nil]
        omega
      · have hc1 : ((i + 1 : Nat) : Int) = (i : Int) + 1 := by omega
        simp only [hc1, List.length_append, List.length_cons, List.length_nil, Nat.zero_add]
        exact AS.le_refl _
    · have hen : en = false := by simpa using h7
      subst hen
      rw [show clT false = [] from rfl, List.append_nil] at hR
      refine awk_one (d + 2) [0, 2, 4, 7, 56, 57, 58] [d, d + 1, d + 2 + 4] (by simp [hw] <;> rfl) ?_   -- query.go:94
      refine ⟨(i + 1, ad5, vq5, nx + 6 + 1 + 2, T3), ⟨hlt, hok5, by simp only; omega, ?_, by simpa using hR⟩, by simp only; omega, ?_⟩
      · simp only; omega
      · have hc1 : ((i + 1 : Nat) : Int) = (i : Int) + 1 := by omega
        simp only [hc1]
        exact AS.le_refl _
  · refine aw_exit ?_
    have hie : i = ks.length := by simp at h3; omega
    rw [hie, List.drop_length, wrL] at hR
    rw [hR]
    refine awk_step (d + 2) [6] [d, d + 1] (by simp <;> rfl) ?_
    exact aw_ret (bRes_of (vq := vq2) (by simp only; omega) (by simp [Tryz.results56] <;> rfl) (by simp [Eng.get]) (by simp [Eng.get]) hok2)
end Go.Proofs.YtliogkkhofhfcaaGreatDoor

/- Query: write, canonical, Print, Valid. No condition. -/
set_option linter.unusedSimpArgs false
set_option maxRecDepth 4000
namespace Go.Proofs.YtliogkkhofhfcaaGreatDoor
open Go.Eng

set_option maxHeartbeats 8000000 in
theorem write_acs : ∀ (m : Nat), m ≤ 8 → WriteM m := by
  intro m
  induction m with
  | zero =>
    intro _ q d v vq ad t hok ht
    have hqs : ∃ cs, q.v = .agg cs ∧ (V.agg cs).pureE = true ∧ cs.length = 6 := by
      obtain ⟨k, c, n, f, s, ks⟩ := q
      exact ⟨_, by rw [Qy.v], rfl, rfl⟩
    obtain ⟨k, c, n, f, s, ks⟩ := q
    rw [Qy.v]
    generalize ks.map Qy.v = kv
    refine acsq_intro Tryz.func40 rfl (by show (3 : Nat) ≤ 27; omega) (fun w0 N0 nx0 hG => ?_)
    refine awk_step (d + 2) [0, 2, 4] [d, d + 1, d + 2 + 4] (by simp [Tryz.ntmps40] <;> rfl) ?_   -- query.go:69
    refine aw_seq ?_
    refine aw_seq (aw_region ?_)   -- query.go:70
    refine awlk_go (d + 2) 4 (by simp <;> rfl) ?_
    refine awl_skips 2 (by simp <;> rfl) ?_
    refine awlk_end (d + 2) [0, 2, 4, 13] [d, d + 1, d + 2 + 4] (by simp <;> rfl) ?_
    refine aw_cond rfl (fun h1 => ?_) (fun h1 => by simp at h1)   -- if t13
    refine awk_step (d + 2) [6] [d, d + 1] (by simp <;> rfl) ?_   -- query.go:71
    exact aw_ret (bRes_of (vq := vq) (by simp only; omega) (by simp [Tryz.results40] <;> rfl) (by simp [Eng.get, wr]) (by simp [Eng.get, wr]) hok)
  | succ m ih =>
    intro hm q d v vq ad t hok ht
    obtain ⟨lv, hlv⟩ : ∃ lv : Int, (9 - ((m + 1 : Nat) : Int)) = lv := ⟨_, rfl⟩
    have hlv2 : lv = 8 - (m : Int) := by omega
    have hl8 : ¬ (8 < lv) := by omega
    rw [hlv]
    have hlen := len_acs d v vq ad t hok
    have hkids := writeKids_acs m (by omega) (ih (by omega)) q d v
    rw [← hlv2] at hkids
    rw [wr]
    have hcond := fun (ad2 : V) (vq2 : Nat) (h2 : okA d v ad2) => (show ACSQ gv Tryz.prog 57 [.bp d v 2 0 0, q.v] (bObs d v ad2 vq2 t) (bRes d v (wrT t q.cond) (.bool q.cond.isSome)) by
      obtain ⟨k, c, n, f, s, ks⟩ := q
      rw [Qy.v, Qy.cond]
      have := writeCondition_acs d v vq2 ad2 t k c n f s (ks.map Qy.v) h2 (by omega)
      rwa [List.length_map] at this)
    have hkd : ∃ c n f s ks, q.v = .agg [.int .i64 q.kind, .int .i64 c, .int .i64 n, .str f, .str s, .ro 6 ks] := by
      obtain ⟨k, c, n, f, s, ks⟩ := q
      exact ⟨c, n, f, s, _, by rw [Qy.v]; rfl⟩
    obtain ⟨c, n, f, s, kv, hqv⟩ := hkd
    rw [hqv] at hkids hcond ⊢
    generalize hqk : q.kind = k at hkids hcond ⊢
    refine acsq_intro Tryz.func40 rfl (by show (3 : Nat) ≤ 27; omega) (fun w0 N0 nx0 hG => ?_)
    refine awk_step (d + 2) [0, 2, 4] [d, d + 1, d + 2 + 4] (by simp [Tryz.ntmps40] <;> rfl) ?_   -- query.go:69
    refine aw_seq ?_
    refine aw_seq (aw_region ?_)   -- query.go:70
    refine awlk_go (d + 2) 4 (by simp [hl8] <;> rfl) ?_
    refine awl_callS hlen Tryz.func41 rfl (by kernel_rfl) (by simp [hl8] <;> rfl) rfl rfl (by simp <;> rfl) (fun k o hk => get_two (d := d) (by simp [Eng.get]) (by simp [Eng.get]) hk) ?_ (fun ch hch => hch.elim)
    rintro r outs nx ⟨rfl, ad1, vq1, hok1, rfl⟩ hnx
    have hnx' : nx0 ≤ nx := by simp at hnx; omega
    refine ⟨fun k hk => has_two hk, _, by simp <;> rfl, ?_⟩
    refine awlk_end (d + 2) [0, 2, 4, 13] [d, d + 1, d + 2 + 4] (by simp [hl8] <;> rfl) ?_
    refine aw_cond rfl (fun h1 => ?_) (fun h1 => aw_skip ?_)   -- if t13
    · have hbig : 1000 < t.length := by simp at h1; omega
      rw [if_pos hbig]
      refine awk_step (d + 2) [6] [d, d + 1] (by simp <;> rfl) ?_   -- query.go:71
      exact aw_ret (bRes_of (vq := vq1) (by simp only; omega) (by simp [Tryz.results40] <;> rfl) (by simp [Eng.get, wr]) (by simp [Eng.get, wr]) hok1)
    have hsm : ¬ 1000 < t.length := by simp at h1; omega
    rw [if_neg hsm]
    refine aw_seq ?_
    refine awk_step (d + 2) [0, 2, 4, 15] [d, d + 1, d + 2 + 4] (by simp <;> rfl) ?_   -- query.go:73
    refine aw_block ?_
    refine aw_viale ⟨[(0, .bp d v 2 0 0), (2, .int .i64 lv), (4, .bp (d + 2 + 4) nx0 6 0 0), (16, .bool (decide (k = 1 ∨ k = 2 ∨ k = 3)))], [(d, bOb v ad1 (.sl (d + 1) vq1 1 t.length)), (d + 1, ⟨vq1, 1, 5, bys t⟩), (d + 2 + 4, ⟨nx0, 6, 24, [.agg [.int .i64 k, .int .i64 c, .int .i64 n, .str f, .str s, .ro 6 kv]]⟩)], nx + 100, 27⟩ ?_ ?_
    · refine awk_step (d + 2) [0, 2, 4, 15, 16] [d, d + 1, d + 2 + 4] (by simp <;> rfl) ?_   -- query.go:74
      refine aw_cond rfl (fun h2 => aw_skip ?_) (fun h2 => ?_)   -- if t16
      · have hq : k = 1 := by simpa using h2
        exact ⟨rfl, le_to [0, 2, 4, 16] [d, d + 1, d + 2 + 4] (by simp [hq]) (by simp) rfl (by simp only; omega)⟩
      have hq : ¬ k = 1 := by simpa using h2
      refine awk_step (d + 2) [0, 2, 4, 15, 16] [d, d + 1, d + 2 + 4] (by simp <;> rfl) ?_   -- query.go:74
      refine aw_cond rfl (fun h4 => aw_skip ?_) (fun h4 => ?_)   -- if t16
      · have hq2 : k = 2 := by simpa using h4
        exact ⟨rfl, le_to [0, 2, 4, 16] [d, d + 1, d + 2 + 4] (by simp [hq2]) (by simp) rfl (by simp only; omega)⟩
      have hq2 : ¬ k = 2 := by simpa using h4
      refine awk_one (d + 2) [0, 2, 4, 16] [d, d + 1, d + 2 + 4] (by simp <;> rfl) ?_   -- query.go:74
      exact ⟨rfl, le_to [0, 2, 4, 16] [d, d + 1, d + 2 + 4] (by simp [hq, hq2]) (by simp) rfl (by simp only; omega)⟩
    refine aw_cond rfl (fun h3 => ?_) (fun h3 => aw_skip ?_)   -- if t16
    · have hq : k = 1 ∨ k = 2 ∨ k = 3 := by simpa using h3
      rw [if_pos hq]
      have hcall := hkids vq1 ad1 t hok1 (by omega)
      refine aw_seq (aw_region ?_)   -- query.go:75
      refine awlk_go (d + 2) 3 (by simp <;> rfl) ?_
      refine awl_callSQ hG hcall Tryz.func56 rfl (by kernel_rfl) rfl rfl rfl (by simp <;> rfl) (fun k o hk => get_two (d := d) (by simp [Eng.get]) (by simp [Eng.get]) hk) ?_
      rintro r outs nx2 ⟨rfl, ad5, vq5, hok5, rfl⟩ hnx2
      have hnx2' : nx0 ≤ nx2 := by simp at hnx2; omega
      refine ⟨fun k hk => has_two hk, _, by simp <;> rfl, ?_⟩
      refine awlk_end (d + 2) [6] [d, d + 1] (by simp <;> rfl) ?_
      exact aw_ret (bRes_of (vq := vq5) (by simp only; omega) (by simp [Tryz.results40] <;> rfl) (by simp [Eng.get]) (by simp [Eng.get]) hok5)
    have hq : ¬ (k = 1 ∨ k = 2 ∨ k = 3) := by simpa using h3
    rw [if_neg hq]
    have hcall := hcond ad1 vq1 hok1
    refine aw_seq (aw_region ?_)   -- query.go:77
    refine awlk_go (d + 2) 2 (by simp <;> rfl) ?_
    refine awl_callSQ hG hcall Tryz.func57 rfl (by kernel_rfl) rfl rfl rfl (by simp <;> rfl) (fun k o hk => get_two (d := d) (by simp [Eng.get]) (by simp [Eng.get]) hk) ?_
    rintro r outs nx2 ⟨rfl, ad5, vq5, hok5, rfl⟩ hnx2
    have hnx2' : nx0 ≤ nx2 := by simp at hnx2; omega
    refine ⟨fun k hk => has_two hk, _, by simp <;> rfl, ?_⟩
    refine awlk_end (d + 2) [6] [d, d + 1] (by simp <;> rfl) ?_
    exact aw_ret (bRes_of (vq := vq5) (by simp only; omega) (by simp [Tryz.results40] <;> rfl) (by simp [Eng.get]) (by simp [Eng.get]) hok5)
end Go.Proofs.YtliogkkhofhfcaaGreatDoor

/- Query: canonical, Print, Valid. No condition. -/
set_option linter.unusedSimpArgs false
set_option maxRecDepth 4000
namespace Go.Proofs.YtliogkkhofhfcaaGreatDoor
open Go.Eng

theorem condT_pos {k c n : Int} {f s x : List UInt8} {nk : Nat} (h : condT k c n f s nk = some x) : 0 < x.length := by
  unfold condT at h
  repeat' split at h
  all_goals first | (cases h; done) | (injection h with h; subst h; simp only [List.length_append, List.length_cons, List.length_nil]; omega)
theorem wrL_grow (g : Qy → List UInt8 → List UInt8 × Bool) (h1 : ∀ q t, (g q t).2 = true → t.length < (g q t).1.length) (kind : Int) (word : List UInt8) :
    ∀ (ks : List Qy) (first : Bool) (t : List UInt8), (wrL g kind word first ks t).2 = true → t.length ≤ (wrL g kind word first ks t).1.length ∧ (ks ≠ [] → t.length < (wrL g kind word first ks t).1.length)
  | [], _, t, _ => by simp [wrL]
  | q :: r, first, t, h => by
    rw [wrL] at h ⊢
    split at h
    · cases h
    · rename_i hf
      rw [if_neg hf]
      have a5 := h1 q (t ++ sepT first word ++ opT (encl kind q.kind)) (by simpa using hf)
      have := (wrL_grow g h1 kind word r false _ h).1
      simp only [List.length_append] at a5 this ⊢
      constructor
      · omega
      · intro _; omega
theorem wr_grow : ∀ (m : Nat) (q : Qy) (t : List UInt8), (wr m q t).2 = true → t.length < (wr m q t).1.length
  | 0, q, t, h => by simp [wr] at h
  | m + 1, q, t, h => by
    rw [wr] at h ⊢
    split at h
    · cases h
    rename_i h1
    rw [if_neg h1]
    split at h
    · rename_i h2
      rw [if_pos h2]
      obtain ⟨k, c, n, f, s, ks⟩ := q
      rw [wrK] at h ⊢
      split at h
      · cases h
      rename_i h3
      rw [if_neg h3]
      split at h
      · rename_i h4
        rw [if_pos h4]
        have := (wrL_grow (wr m) (wr_grow m) k andW ks true _ h).1
        simp only [List.length_append, List.length_cons, List.length_nil] at this
        omega
      rename_i h4
      rw [if_neg h4]
      split at h
      · cases h
      rename_i h5
      rw [if_neg h5]
      exact (wrL_grow (wr m) (wr_grow m) k _ ks true _ h).2 (fun e => by subst e; simp at h5)
    · rename_i h2
      rw [if_neg h2]
      obtain ⟨k, c, n, f, s, ks⟩ := q
      simp only [Qy.cond] at h ⊢
      cases hc : condT k c n f s ks.length with
      | none => rw [hc] at h; cases h
      | some x =>
        have := condT_pos hc
        simp only [wrT, List.length_append]; omega
/-- Whether a query is valid. -/
def canonB (q : Qy) : Bool := (wr 8 q []).2 && decide ((wr 8 q []).1.length ≤ 1000)
def canonT (q : Qy) : List UInt8 := if canonB q = true then (wr 8 q []).1 else []

set_option maxHeartbeats 4000000 in
theorem canonical_acq (q : Qy) : ACQ gv Tryz.prog 22 [q.v] (fun r => r = .tup [.str (canonT q), .bool (canonB q)]) := by
  have hwr := write_acs 8 (by omega) q 4 3 4 .nilp [] (.inl rfl) (by simp)
  have hg := wr_grow 8 q []
  have hsm := wr_len 8 q []
  unfold canonT canonB
  have hkd : ∃ k c n f s ks, q.v = .agg [.int .i64 k, .int .i64 c, .int .i64 n, .str f, .str s, .ro 6 ks] := by
    obtain ⟨k, c, n, f, s, ks⟩ := q
    exact ⟨k, c, n, f, s, _, by rw [Qy.v]⟩
  obtain ⟨k, c, n, f, s, kv, hqv⟩ := hkd
  rw [hqv] at hwr ⊢
  refine acq_intro Tryz.func22 rfl (by show (1 : Nat) ≤ 13; omega) (fun w0 N0 hG => ?_)
  refine aw_step [1] [1] (by simp [Tryz.ntmps22] <;> rfl) ?_   -- query.go:58
  refine aw_step [1, 4] [1, 4] (by simp <;> rfl) ?_   -- query.go:59
  refine aw_adoptC 4 1 5 1 5 [1, 4] [1, 4, 5] (by simp <;> rfl) ?_
  refine aw_seq ?_
  refine aw_seq (aw_region ?_)   -- query.go:60
  generalize wr 8 q [] = p at hwr hg hsm ⊢
  obtain ⟨T, ok⟩ := p
  simp only at hwr hg hsm ⊢
  refine awl_go 1 (by simp <;> rfl) ?_
  refine awl_callSQ hG hwr Tryz.func40 rfl (by kernel_rfl) rfl rfl rfl (by simp <;> rfl) (fun k o hk => get_two (d := 4) (by simp [Eng.get]) (by simp [Eng.get, bys]) hk) ?_
  rintro r outs nx ⟨rfl, ad1, vq1, hok1, rfl⟩ hnx
  refine ⟨fun k hk => has_two hk, _, by simp <;> rfl, ?_⟩
  have hlen := len_acs 4 3 vq1 ad1 T hok1
  cases ok with
  | false =>
    refine awl_go 2 (by simp <;> rfl) ?_
    refine awl_skips 2 (by simp <;> rfl) ?_
    refine awl_end [4, 11] [4, 5] (by simp <;> rfl) ?_
    refine aw_cond rfl (fun h1 => ?_) (fun h1 => by simp at h1)   -- if t11
    refine aw_step [2, 3] [] (by simp <;> rfl) ?_   -- query.go:61
    exact aw_ret (ends_ret (by simp [Tryz.results22] <;> rfl) (by simp))
  | true =>
    have hne : T ≠ [] := by
      have := hg rfl
      intro e; subst e; simp at this
    refine awl_go 2 (by simp <;> rfl) ?_
    refine awl_callS hlen Tryz.func41 rfl (by kernel_rfl) (by simp <;> rfl) rfl rfl (by simp <;> rfl) (fun k o hk => get_two (d := 4) (by simp [Eng.get]) (by simp [Eng.get]) hk) ?_ (fun ch hch => hch.elim)
    rintro r outs nx2 ⟨rfl, ad2, vq2, hok2, rfl⟩ hnx2
    refine ⟨fun k hk => has_two hk, _, by simp <;> rfl, ?_⟩
    refine awl_end [4, 11] [4, 5] (by simp <;> rfl) ?_
    refine aw_cond rfl (fun h1 => ?_) (fun h1 => aw_skip ?_)   -- if t11
    · refine aw_step [2, 3] [] (by simp <;> rfl) ?_   -- query.go:61
      have hbig : ¬ T.length ≤ 1000 := by simp at h1; omega
      exact aw_ret (ends_ret (by simp [Tryz.results22] <;> rfl) (by simp [hbig]))
    have hfit : T.length ≤ 1000 := by simp at h1; omega
    have hst := string_acz 4 3 vq2 ad2 T hne
    refine aw_seq (aw_region ?_)   -- query.go:63
    refine awl_callZ hst Tryz.func42 rfl (by kernel_rfl) rfl rfl rfl (by simp <;> rfl) (fun k o hk => get_two (d := 4) (by simp [Eng.get]) (by simp [Eng.get]) hk) ?_
    rintro r rfl
    refine ⟨_, by simp <;> rfl, ?_⟩
    refine awl_end [2, 3] [] (by simp <;> rfl) ?_
    exact aw_ret (ends_ret (by simp [Tryz.results22] <;> rfl) (by simp [hfit]))
theorem valid_acq (q : Qy) : ACQ gv Tryz.prog 10 [q.v] (fun r => r = .bool (canonB q)) := by
  have hc := canonical_acq q
  have hkd : ∃ k c n f s ks, q.v = .agg [.int .i64 k, .int .i64 c, .int .i64 n, .str f, .str s, .ro 6 ks] := by
    obtain ⟨k, c, n, f, s, ks⟩ := q
    exact ⟨k, c, n, f, s, _, by rw [Qy.v]⟩
  obtain ⟨k, c, n, f, s, kv, hqv⟩ := hkd
  rw [hqv] at hc ⊢
  refine acq_intro Tryz.func10 rfl (by show (1 : Nat) ≤ 11; omega) (fun w0 N0 hG => ?_)
  refine aw_step [1] [1] (by simp [Tryz.ntmps10] <;> rfl) ?_   -- query.go:51
  refine aw_seq (aw_region ?_)   -- query.go:52
  refine awl_go 1 (by simp <;> rfl) ?_
  refine awl_callQ hG hc Tryz.func22 rfl (by kernel_rfl) (by simp) rfl rfl rfl (by simp <;> rfl) (by simp [V.pureV, V.pureE]) (by simp <;> rfl) ?_
  refine awl_end [4] [] (by simp <;> rfl) ?_
  refine aw_step [2] [] (by simp <;> rfl) ?_   -- query.go:53
  exact aw_ret (ends_ret (by simp [Tryz.results10] <;> rfl) rfl)
theorem print_acq (q : Qy) : ACQ gv Tryz.prog 8 [q.v] (fun r => r = .tup [.str (canonT q), .int .i64 (if canonB q = true then 0 else 1)]) := by
  have hc := canonical_acq q
  have hkd : ∃ k c n f s ks, q.v = .agg [.int .i64 k, .int .i64 c, .int .i64 n, .str f, .str s, .ro 6 ks] := by
    obtain ⟨k, c, n, f, s, ks⟩ := q
    exact ⟨k, c, n, f, s, _, by rw [Qy.v]⟩
  obtain ⟨k, c, n, f, s, kv, hqv⟩ := hkd
  rw [hqv] at hc ⊢
  unfold canonT at hc ⊢
  generalize canonB q = b at hc ⊢
  refine acq_intro Tryz.func8 rfl (by show (1 : Nat) ≤ 14; omega) (fun w0 N0 hG => ?_)
  refine aw_step [1] [1] (by simp [Tryz.ntmps8] <;> rfl) ?_   -- query.go:42
  refine aw_seq (aw_region ?_)   -- query.go:43
  refine awl_go 1 (by simp <;> rfl) ?_
  refine awl_callQ hG hc Tryz.func22 rfl (by kernel_rfl) (by simp) rfl rfl rfl (by simp <;> rfl) (by simp [V.pureV, V.pureE]) (by simp <;> rfl) ?_
  refine awl_end [4, 5] [] (by simp <;> rfl) ?_
  refine aw_seq ?_
  refine aw_step [4, 12] [] (by simp <;> rfl) ?_   -- query.go:44
  refine aw_cond rfl (fun h1 => ?_) (fun h1 => aw_skip ?_)   -- if t12
  · refine aw_step [2, 3] [] (by simp <;> rfl) ?_   -- query.go:45
    have hb : b = false := by simpa using h1
    subst hb
    exact aw_ret (ends_ret (by simp [Tryz.results8] <;> rfl) (by simp))
  have hb : b = true := by simpa using h1
  subst hb
  refine aw_step [2, 3] [] (by simp <;> rfl) ?_   -- query.go:47
  exact aw_ret (ends_ret (by simp [Tryz.results8] <;> rfl) (by simp))
end Go.Proofs.YtliogkkhofhfcaaGreatDoor
