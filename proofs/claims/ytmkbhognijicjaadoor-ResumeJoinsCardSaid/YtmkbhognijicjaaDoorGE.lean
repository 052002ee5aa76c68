import Derived.Test.YtmkbhognijicjaaDoorGD
/- Joins: the contract of the reader of trees. No condition. -/
set_option linter.unusedSimpArgs false
set_option maxRecDepth 4000
namespace Go.Proofs.YtmkbhognijicjaaDoor
open Go.Eng

def preL (acc : List Nd) : Except Int (List Nd × Nat) → Except Int (List Nd × Nat)
  | .error er => .error er
  | .ok (l, a) => .ok (acc ++ l, a)
theorem pureNd (l : List Nd) : (l.map Nd.v).all V.pureE = true := pureN l

set_option maxHeartbeats 16000000 in
theorem node_acs (bs : List UInt8) (e : Int) (hb : bs.length ≤ 1048576) : ∀ (lv d v at0 : Nat), lv ≤ 8 → at0 ≤ bs.length →
    ACS Tryd.prog 44 [.bp d v 3 0 0, .int .i64 (9 - lv : Int)] [(d, ⟨v, 3, 93, [rd bs at0 e]⟩)] (fun r q => ∃ x a, rdN bs e lv at0 = .ok (x, a) ∧ r = x.v ∧ q = [(d, ⟨v, 3, 93, [rd bs a e]⟩)]) (fun ch => ∃ er, rdN bs e lv at0 = .error er ∧ ch = pan er) := by
  intro lv
  induction lv with
  | zero =>
    intro d v at0 _ _
    refine acs_intro Tryd.func44 rfl (by show (2 : Nat) ≤ 57; omega) (fun w0 N0 nx0 => ?_)
    refine awk_step (d + 1) [0, 1, 4] [d, d + 1 + 4] (by simp [Tryd.ntmps44] <;> rfl) ?_   -- codec.go:191
    refine aw_seq ?_
    refine awk_step (d + 1) [0, 1, 4, 8] [d, d + 1 + 4] (by simp <;> rfl) ?_   -- codec.go:192
    refine aw_cond rfl (fun h1 => ?_) (fun h1 => by simp at h1)
    refine aw_region ?_
    exact awl_panS (fail_acs 5) Tryd.func49 rfl (by kernel_rfl) rfl rfl rfl (by simp <;> rfl) (fun k o hk => by simp [Eng.get] at hk) (fun ch hch => ⟨5, rfl, hch⟩)
  | succ lv ih =>
  intro d v at0 hlv hat
  rw [rdN]
  obtain ⟨lvl, hlvl⟩ : ∃ l : Int, (9 - ((lv + 1 : Nat) : Int)) = l := ⟨_, rfl⟩
  rw [hlvl]
  have hl8 : ¬ (8 < lvl) := by omega
  refine acs_intro Tryd.func44 rfl (by show (2 : Nat) ≤ 57; omega) (fun w0 N0 nx0 => ?_)
  refine awk_step (d + 1) [0, 1, 4] [d, d + 1 + 4] (by simp [Tryd.ntmps44] <;> rfl) ?_   -- codec.go:191
  refine aw_seq ?_
  refine awk_step (d + 1) [0, 1, 4, 8] [d, d + 1 + 4] (by simp <;> rfl) ?_   -- codec.go:192
  refine aw_cond rfl (fun h1 => by simp at h1; omega) (fun h1 => aw_skip ?_)
  refine aw_seq (aw_region ?_)   -- codec.go:195
  refine awlk_go (d + 1) 1 (by simp <;> rfl) ?_
  cases hv : rdV bs e 10 0 0 at0 with
  | error er => exact awl_panS (varint_err d v bs at0 e er hat hb hv) Tryd.func50 rfl (by kernel_rfl) rfl rfl rfl (by simp <;> rfl) (fun k o hk => get_one (by simp [Eng.get]) hk) (fun ch hch => ⟨er, rfl, hch⟩)
  | ok p =>
  obtain ⟨tag, a1⟩ := p
  obtain ⟨htag, ha1, _⟩ := rdV_bound (i := 0) (by omega) (by simp) hat hv
  refine awl_callS1 (varint_ok d v bs at0 tag a1 e hat hb hv) Tryd.func50 rfl (by kernel_rfl) (by simp [rd, Eng.get]) rfl (by decide) rfl rfl rfl (by simp <;> rfl) (fun k o hk => get_one (by simp [Eng.get]) hk) (by simp <;> rfl) ?_
  refine awlk_end (d + 1) [0, 1, 4, 5] [d, d + 1 + 4] (by simp <;> rfl) ?_
  refine aw_seq ?_
  refine awk_step (d + 1) [0, 1, 4, 5, 13] [d, d + 1 + 4] (by simp <;> rfl) ?_   -- codec.go:196
  simp only
  refine aw_cond rfl (fun h2 => ?_) (fun h2 => aw_skip ?_)   -- if t13
  · have hbig : 9999999 < tag := by simp at h2; omega
    rw [if_pos hbig]
    refine aw_region ?_
    exact awl_panS (fail_acs 3) Tryd.func49 rfl (by kernel_rfl) rfl rfl rfl (by simp <;> rfl) (fun k o hk => by simp [Eng.get] at hk) (fun ch hch => ⟨3, rfl, hch⟩)
  have hsml : ¬ 9999999 < tag := by simp at h2; omega
  rw [if_neg hsml]
  have hwt : IntKind.i64.wrap (tag : Int) = tag := wrap_in (by omega) (by omega)
  refine aw_seq (aw_region ?_)   -- codec.go:199
  refine awlk_go (d + 1) 3 (by simp [hwt] <;> rfl) ?_
  by_cases hlt : a1 < bs.length
  case neg =>
    have hnone : bs[a1]? = none := List.getElem?_eq_none (by omega)
    rw [hnone]
    exact awl_panS (take_err d v bs a1 1 e (by omega) ha1 (by omega) hb) Tryd.func51 rfl (by kernel_rfl) rfl rfl rfl (by simp <;> rfl) (fun k o hk => get_one (by simp [Eng.get]) hk) (fun ch hch => ⟨e, rfl, hch⟩)
  have hgc : bs[a1]? = some bs[a1] := List.getElem?_eq_getElem hlt
  rw [hgc]
  have hone : (bs.drop a1).take 1 = [bs[a1]] := by rw [List.drop_eq_getElem_cons hlt]; rfl
  have htk := take_ok d v bs a1 1 e (by omega) hb
  rw [hone] at htk
  generalize bs[a1] = k at htk
  have hcl : k.toNat < 256 := k.toNat_lt
  have hwk : IntKind.i64.wrap (k.toNat : Int) = k.toNat := wrap_in (by omega) (by omega)
  refine awl_callS1 htk Tryd.func51 rfl (by kernel_rfl) (by simp [rd, Eng.get]) rfl (by decide) rfl rfl rfl (by simp <;> rfl) (fun k o hk => get_one (by simp [Eng.get]) hk) (by simp <;> rfl) ?_
  refine awlk_end (d + 1) [0, 1, 4, 6] [d, d + 1 + 4, d + 1 + 6] (by simp [byV, hwk] <;> rfl) ?_
  refine aw_seq ?_
  refine awk_step (d + 1) [0, 1, 4, 6, 24] [d, d + 1 + 4, d + 1 + 6] (by simp <;> rfl) ?_   -- codec.go:200
  refine aw_block ?_
  refine awk_step (d + 1) [0, 1, 4, 6, 24, 26] [d, d + 1 + 4, d + 1 + 6] (by simp <;> rfl) ?_   -- codec.go:201
  simp only
  refine aw_cond rfl (fun h3 => ?_) (fun h3 => ?_)   -- if t26
  · have hk1 : k.toNat = 1 := by simp at h3; omega
    rw [if_pos hk1]
    refine aw_region ?_   -- codec.go:202
    refine awlk_go (d + 1) 1 (by simp <;> rfl) ?_
    cases hv2 : rdV bs e 10 0 0 (a1 + 1) with
    | error er => exact awl_panS (varint_err d v bs (a1 + 1) e er (by omega) hb hv2) Tryd.func50 rfl (by kernel_rfl) rfl rfl rfl (by simp <;> rfl) (fun k o hk => get_one (by simp [Eng.get]) hk) (fun ch hch => ⟨er, rfl, hch⟩)
    | ok p =>
    obtain ⟨x, a2⟩ := p
    refine awl_callS1 (varint_ok d v bs (a1 + 1) x a2 e (by omega) hb hv2) Tryd.func50 rfl (by kernel_rfl) (by simp [rd, Eng.get]) rfl (by decide) rfl rfl rfl (by simp <;> rfl) (fun k o hk => get_one (by simp [Eng.get]) hk) (by simp <;> rfl) ?_
    refine awl_call1 (unfold_ac x) Tryd.func52 rfl (by kernel_rfl) rfl rfl rfl (by simp <;> rfl) (by simp) (by simp <;> rfl) ?_
    refine awlk_end (d + 1) [4, 6] [d, d + 1 + 4, d + 1 + 6] (by simp <;> rfl) ?_
    refine aw_adoptC (d + 1 + 6) 4 (d + 1 + 100) 5 39 [4, 6] [d, d + 1 + 4, d + 1 + 6, d + 1 + 100] (by simp <;> rfl) ?_
    refine aw_freeze (d + 1 + 100) [4, 6] [d, d + 1 + 4, d + 1 + 6] (by simp <;> rfl) ?_
    refine awk_step (d + 1) [4] [d, d + 1 + 4] (by simp <;> rfl) ?_   -- codec.go:212
    refine aw_ret ⟨by simp only; omega, (Nd.mk tag 1 (unfI x) [] []).v, [(d, ⟨v, 3, 93, [rd bs a2 e]⟩)], by simp [Tryd.results44, Nd.v, hk1], fun k o hk => get_one (by simp [Eng.get, rd]) hk, _, _, rfl, rfl, rfl⟩
  · have hk1 : ¬ k.toNat = 1 := by simp at h3; omega
    rw [if_neg hk1]
    refine awk_step (d + 1) [0, 1, 4, 6, 24, 32] [d, d + 1 + 4, d + 1 + 6] (by simp <;> rfl) ?_   -- codec.go:203
    refine aw_cond rfl (fun h4 => ?_) (fun h4 => ?_)   -- if t32
    · have hk2 : k.toNat = 2 := by simp at h4; omega
      rw [if_pos hk2]
      refine aw_region ?_   -- codec.go:204
      refine awlk_go (d + 1) 2 (by simp <;> rfl) ?_
      cases hv2 : rdC bs e 2000 (a1 + 1) with
      | error er => exact awl_panS (count_err d v bs (a1 + 1) 2000 e er (by omega) hb (by omega) hv2) Tryd.func53 rfl (by kernel_rfl) rfl rfl rfl (by simp <;> rfl) (fun k o hk => get_one (by simp [Eng.get]) hk) (fun ch hch => ⟨er, rfl, hch⟩)
      | ok p =>
      obtain ⟨n, a2⟩ := p
      obtain ⟨hn, ha2, _⟩ := rdC_bound (by omega) hv2
      refine awl_callS1 (count_ok d v bs (a1 + 1) n a2 2000 e (by omega) hb (by omega) hv2) Tryd.func53 rfl (by kernel_rfl) (by simp [rd, Eng.get]) rfl (by decide) rfl rfl rfl (by simp <;> rfl) (fun k o hk => get_one (by simp [Eng.get]) hk) (by simp <;> rfl) ?_
      simp only
      by_cases hfit : a2 + n ≤ bs.length
      case neg =>
        rw [if_neg hfit]
        exact awl_panS (take_err d v bs a2 n e (by omega) ha2 (by omega) hb) Tryd.func51 rfl (by kernel_rfl) rfl rfl rfl (by simp <;> rfl) (fun k o hk => get_one (by simp [Eng.get]) hk) (fun ch hch => ⟨e, rfl, hch⟩)
      rw [if_pos hfit]
      have htk2 := take_ok d v bs a2 n e hfit hb
      have hbv := bytesV_bys ((bs.drop a2).take n)
      have hpb := bys_pure ((bs.drop a2).take n)
      generalize (bs.drop a2).take n = sb at htk2 hbv hpb
      generalize bys sb = sbv at htk2 hbv hpb
      refine awl_callS1 htk2 Tryd.func51 rfl (by kernel_rfl) (by simp [rd, Eng.get]) rfl (by decide) rfl rfl rfl (by simp <;> rfl) (fun k o hk => get_one (by simp [Eng.get]) hk) (by simp <;> rfl) ?_
      refine awlk_end (d + 1) [4, 6] [d, d + 1 + 4, d + 1 + 6] (by simp [hbv] <;> rfl) ?_
      refine aw_adoptC (d + 1 + 6) 4 (d + 1 + 100) 5 39 [4, 6] [d, d + 1 + 4, d + 1 + 6, d + 1 + 100] (by simp <;> rfl) ?_
      refine aw_freeze (d + 1 + 100) [4, 6] [d, d + 1 + 4, d + 1 + 6] (by simp <;> rfl) ?_
      refine awk_step (d + 1) [4] [d, d + 1 + 4] (by simp <;> rfl) ?_   -- codec.go:212
      refine aw_ret ⟨by simp only; omega, (Nd.mk tag 2 0 sb []).v, [(d, ⟨v, 3, 93, [rd bs (a2 + n) e]⟩)], by simp [Tryd.results44, Nd.v, hk2], fun k o hk => get_one (by simp [Eng.get, rd]) hk, _, _, rfl, rfl, rfl⟩
    · have hk2 : ¬ k.toNat = 2 := by simp at h4; omega
      rw [if_neg hk2]
      refine awk_step (d + 1) [0, 1, 4, 6, 40] [d, d + 1 + 4, d + 1 + 6] (by simp <;> rfl) ?_   -- codec.go:205
      refine aw_cond rfl (fun h5 => ?_) (fun h5 => ?_)   -- if t40
      case refine_2 =>
        have hk3 : ¬ k.toNat = 3 := by simp at h5; omega
        rw [if_neg hk3]
        refine aw_region ?_   -- codec.go:210
        exact awl_panS (fail_acs 2) Tryd.func49 rfl (by kernel_rfl) rfl rfl rfl (by simp <;> rfl) (fun k o hk => by simp [Eng.get] at hk) (fun ch hch => ⟨2, rfl, hch⟩)
      have hk3 : k.toNat = 3 := by simp at h5; omega
      rw [if_pos hk3]
      refine aw_seq (aw_region ?_)   -- codec.go:206
      refine awlk_go (d + 1) 1 (by simp <;> rfl) ?_
      cases hv2 : rdC bs e 1024 (a1 + 1) with
      | error er => exact awl_panS (count_err d v bs (a1 + 1) 1024 e er (by omega) hb (by omega) hv2) Tryd.func53 rfl (by kernel_rfl) rfl rfl rfl (by simp <;> rfl) (fun k o hk => get_one (by simp [Eng.get]) hk) (fun ch hch => ⟨er, rfl, hch⟩)
      | ok p =>
      obtain ⟨n, a2⟩ := p
      obtain ⟨hn, ha2, _⟩ := rdC_bound (by omega) hv2
      refine awl_callS1 (count_ok d v bs (a1 + 1) n a2 1024 e (by omega) hb (by omega) hv2) Tryd.func53 rfl (by kernel_rfl) (by simp [rd, Eng.get]) rfl (by decide) rfl rfl rfl (by simp <;> rfl) (fun k o hk => get_one (by simp [Eng.get]) hk) (by simp <;> rfl) ?_
      refine awlk_end (d + 1) [0, 1, 4, 6, 43, 44] [d, d + 1 + 4, d + 1 + 6] (by simp <;> rfl) ?_
      refine aw_adoptC (d + 1 + 6) 4 (d + 1 + 100) 5 39 [0, 1, 4, 6, 43, 44] [d, d + 1 + 4, d + 1 + 6, d + 1 + 100] (by simp <;> rfl) ?_
      refine aw_block ?_
      refine aw_loop (fun p : Nat × List Nd × Nat × Nat × Nat => ⟨[(0, .bp d v 3 0 0), (1, .int .i64 lvl), (4, .bp (d + 1 + 4) nx0 5 0 0), (6, .bp (d + 1 + 6) (nx0 + 1 + 2 + 3 + 2 + 8) 5 0 0), (43, .int .i64 n), (44, .int .i64 p.1)],
        [(d, ⟨v, 3, 93, [rd bs p.2.2.1 e]⟩), (d + 1 + 4, ⟨nx0, 5, 39, [.agg [.int .i64 0, .int .i64 0, .int .i64 0, .str [], .nils]]⟩), (d + 1 + 6, ⟨nx0 + 1 + 2 + 3 + 2 + 8, 5, 39, [.agg [.int .i64 tag, .int .i64 k.toNat, .int .i64 0, .str [], .sl (d + 1 + 100) p.2.2.2.1 5 (p.2.1.map Nd.v).length]]⟩), (d + 1 + 100, ⟨p.2.2.2.1, 5, 39, p.2.1.map Nd.v⟩)], p.2.2.2.2, 57⟩)
        (fun p => p.1 ≤ n ∧ p.2.1.length = p.1 ∧ p.2.2.1 ≤ bs.length ∧ nx0 ≤ p.2.2.2.2 ∧ preL p.2.1 (rdL (rdN bs e lv) (n - p.1) p.2.2.1) = rdL (rdN bs e lv) n a2) (fun p => n - p.1) (0, [], a2, _, _) ⟨Nat.zero_le _, rfl, ha2, ?_, ?_⟩ (by simp; exact AS.le_refl _) ?_
      · simp only; omega
      · simp only [Nat.sub_zero]
        cases rdL (rdN bs e lv) n a2 with
        | error er => rfl
        | ok p => rfl
      rintro ⟨i, acc, at_, vr, nx⟩ ⟨hi, hacc, hat_, hnx, hR⟩
      simp only at hi hacc hat_ hnx hR
      have hpacc := pureNd acc
      have hal : (acc.map Nd.v).length = i := by simpa using hacc
      generalize hav : acc.map Nd.v = av at hpacc hal
      refine awk_step (d + 1) [0, 1, 4, 6, 43, 44, 45] [d, d + 1 + 4, d + 1 + 6, d + 1 + 100] (by simp <;> rfl) ?_   -- codec.go:206
      refine aw_seq ?_
      refine aw_cond rfl (fun h6 => aw_skip ?_) (fun h6 => ?_)   -- if t45
      · have hin : i < n := by simp at h6; omega
        obtain ⟨m, hm⟩ : ∃ m, n - i = m + 1 := ⟨n - i - 1, by omega⟩
        rw [hm, rdL] at hR
        have hwl : IntKind.i64.wrap (lvl + 1) = 9 - (lv : Int) := by rw [wrap_in (by omega) (by omega)]; omega
        have hwi := wrap_succ (k := i) (by omega)
        have hcall := ih d v at_ (by omega) hat_
        have hb1 : i + 1 ≤ maxLen := by simp [maxLen]; omega
        have hb2 : (i + 1) * 64 ≤ 140737488355328 := by omega
        cases hx : rdN bs e lv at_ with
        | error er =>
          rw [hx] at hR
          have hp : ACS Tryd.prog 44 [.bp d v 3 0 0, .int .i64 (9 - lv : Int)] [(d, ⟨v, 3, 93, [rd bs at_ e]⟩)] (fun _ _ => False) (fun ch => ch = pan er) :=
            hcall.mono (fun r q ⟨x', a', h1, _⟩ => by rw [hx] at h1; cases h1) (fun ch ⟨er', h1, h2⟩ => by rw [hx] at h1; injection h1 with h1; subst h1; exact h2)
          have hfin : rdL (rdN bs e lv) n a2 = .error er := hR.symm
          refine aw_seq (aw_block (awk_drawX (d + 1) [5] hmix ?_))
          refine at_go [(0, []), (2, []), (3, []), (4, [])] (by kernel_rfl) (by simp [hwl] <;> rfl) ?_
          refine at_forkP [1, 5] (by kernel_rfl) (fun j hj => ?_)
          simp only [List.mem_cons, List.not_mem_nil, or_false] at hj
          rcases hj with rfl | rfl
          · refine .inl ⟨_, _, rfl, sx_go (by simp <;> rfl), ?_⟩
            refine at_pan (i := 5) (by kernel_rfl) rfl ?_
            exact pan_callS hp Tryd.func44 rfl (by kernel_rfl) rfl rfl rfl (by simp <;> rfl) (fun k o hk => get_one (by simp [Eng.get]) hk) (objs := []) (fun k q hk => by simp [Eng.get] at hk) (fun ch hch => ⟨er, by simp only [hfin], hch⟩)
          · refine .inr ⟨_, rfl, ?_⟩
            exact pan_callS hp Tryd.func44 rfl (by kernel_rfl) rfl rfl rfl (by simp <;> rfl) (fun k o hk => get_one (by simp [Eng.get]) hk) (objs := []) (fun k q hk => by simp [Eng.get] at hk) (fun ch hch => ⟨er, by simp only [hfin], hch⟩)
        | ok p =>
        obtain ⟨x, a3⟩ := p
        rw [hx] at hR
        simp only at hR
        have ha3 := rdN_bound hat_ hx
        have hp : ACS Tryd.prog 44 [.bp d v 3 0 0, .int .i64 (9 - lv : Int)] [(d, ⟨v, 3, 93, [rd bs at_ e]⟩)] (fun r q => r = x.v ∧ q = [(d, ⟨v, 3, 93, [rd bs a3 e]⟩)]) (fun _ => False) :=
          hcall.mono (fun r q ⟨x', a', h1, h2, h3⟩ => by rw [hx] at h1; injection h1 with h1; injection h1 with h4 h5; subst h4; subst h5; exact ⟨h2, h3⟩) (fun ch ⟨er', h1, _⟩ => by rw [hx] at h1; cases h1)
        have hpx := x.v_pure
        have hR2 : preL (acc ++ [x]) (rdL (rdN bs e lv) m a3) = rdL (rdN bs e lv) n a2 := by
          rw [← hR]
          cases rdL (rdN bs e lv) m a3 with
          | error er => rfl
          | ok p => simp [preL]
        rcases hxx : x with ⟨xt, xk, xn, xs, xks⟩
        have hxv : x.v = .agg [.int .i64 xt, .int .i64 xk, .int .i64 xn, .str xs, .ro 5 (xks.map Nd.v)] := by rw [hxx, Nd.v]
        rw [hxv] at hp
        have hpk := pureNd xks
        generalize hkvv : xks.map Nd.v = xkv at hp hpk hxv
        refine aw_seqE ⟨[(0, .bp d v 3 0 0), (1, .int .i64 lvl), (4, .bp (d + 1 + 4) nx0 5 0 0), (6, .bp (d + 1 + 6) (nx0 + 1 + 2 + 3 + 2 + 8) 5 0 0), (43, .int .i64 n), (44, .int .i64 i)],
          [(d, ⟨v, 3, 93, [rd bs a3 e]⟩), (d + 1 + 4, ⟨nx0, 5, 39, [.agg [.int .i64 0, .int .i64 0, .int .i64 0, .str [], .nils]]⟩), (d + 1 + 6, ⟨nx0 + 1 + 2 + 3 + 2 + 8, 5, 39, [.agg [.int .i64 tag, .int .i64 k.toNat, .int .i64 0, .str [], .sl (d + 1 + 100) (nx + 1 + 7) 5 (av.length + 1)]]⟩), (d + 1 + 100, ⟨nx + 1 + 7, 5, 39, av ++ [.agg [.int .i64 xt, .int .i64 xk, .int .i64 xn, .str xs, .ro 5 xkv]]⟩)], nx + 1 + 10, 57⟩ (aw_block (awk_drawX (d + 1) [5] hmix ?_)) ?_
        · refine at_go [(0, []), (2, []), (3, []), (4, [])] (by kernel_rfl) (by simp [hwl] <;> rfl) ?_
          refine at_fork [1, 5] (by kernel_rfl) (fun j hj => ?_)
          simp only [List.mem_cons, List.not_mem_nil, or_false] at hj
          rcases hj with rfl | rfl
          · refine ⟨_, _, rfl, sx_go (by simp <;> rfl), ?_⟩
            refine at_fork [5] (by kernel_rfl) (fun j hj => ?_)
            simp only [List.mem_cons, List.not_mem_nil, or_false] at hj
            subst hj
            refine ⟨_, _, rfl, sx_callS (by decide) hp (by simp [rd, Eng.get]) (by simp) Tryd.func44 rfl (by kernel_rfl) rfl rfl rfl (by simp <;> rfl) (fun k o hk => get_one (by simp [Eng.get]) hk) (by simp <;> rfl), ?_⟩
            refine at_go [(6, []), (7, []), (8, []), (9, [])] (by kernel_rfl) (by simp [hal, hb1, hb2] <;> rfl) ?_
            exact at_end [0, 1, 4, 6, 43, 44] [d, d + 1 + 4, d + 1 + 6, d + 1 + 100] (by kernel_rfl) (by simp <;> rfl) (by show _ = _; simp [hal])
          · refine ⟨_, _, rfl, sx_callS (by decide) hp (by simp [rd, Eng.get]) (by simp) Tryd.func44 rfl (by kernel_rfl) rfl rfl rfl (by simp <;> rfl) (fun k o hk => get_one (by simp [Eng.get]) hk) (by simp <;> rfl), ?_⟩
            refine at_go [(1, [52]), (6, []), (7, []), (8, []), (9, [])] (by kernel_rfl) (by simp [hal, hb1, hb2] <;> rfl) ?_
            exact at_end [0, 1, 4, 6, 43, 44] [d, d + 1 + 4, d + 1 + 6, d + 1 + 100] (by kernel_rfl) (by simp <;> rfl) (by show _ = _; simp [hal])
        refine awk_one (d + 1) [0, 1, 4, 6, 43, 44] [d, d + 1 + 4, d + 1 + 6, d + 1 + 100] (by simp [hwi] <;> rfl) ?_   -- codec.go:206
        refine ⟨(i + 1, acc ++ [x], a3, nx + 1 + 7, nx + 1 + 10 + 2), ⟨by simp only; omega, by simp [hacc], ha3, by simp only; omega, ?_⟩, by simp only; omega, ?_⟩
        · simp only
          rw [show n - (i + 1) = m by omega]
          exact hR2
        · have hc1 : ((i + 1 : Nat) : Int) = (i : Int) + 1 := by omega
          have hlen : av.length + 1 = ((acc ++ [x]).map Nd.v).length := by simp [← hav]
          simp only [hc1, List.map_append, hav, List.map_cons, List.map_nil, hxv, List.length_append, List.length_cons, List.length_nil]
          exact AS.le_refl _
      · have hin : i = n := by simp at h6; omega
        subst hin
        rw [Nat.sub_self, rdL] at hR
        simp only [preL, List.append_nil] at hR
        refine aw_exit ?_
        refine aw_freeze (d + 1 + 100) [4, 6] [d, d + 1 + 4, d + 1 + 6] (by simp [hpacc] <;> rfl) ?_
        refine awk_step (d + 1) [4] [d, d + 1 + 4] (by simp <;> rfl) ?_   -- codec.go:212
        refine aw_ret ⟨by simp only; omega, (Nd.mk tag 3 0 [] acc).v, [(d, ⟨v, 3, 93, [rd bs at_ e]⟩)], by simp [Tryd.results44, Nd.v, hk3, hav], fun k o hk => get_one (by simp [Eng.get, rd]) hk, _, _, by simp only [← hR], rfl, rfl⟩
end Go.Proofs.YtmkbhognijicjaaDoor

/- Joins: Decode. No condition. -/
set_option linter.unusedSimpArgs false
set_option maxRecDepth 4000
namespace Go.Proofs.YtmkbhognijicjaaDoor
open Go.Eng

abbrev capV : List V := [.bp 2 0 5 0 0, .bp 3 1 1 0 0, .bp 4 2 1 0 0]
abbrev obsD (x y z : V) : List (Nat × Ob) := [(2, ⟨0, 5, 39, [x]⟩), (3, ⟨1, 1, 3, [y]⟩), (4, ⟨2, 1, 24, [z]⟩)]
theorem clo_ret (x y z : V) : ACD Tryd.prog 43 capV (obsD x y z) .returning .returning (fun outs => outs = obsD x y z) := by
  refine acd_recover (u := .returning) (v := .nili) Tryd.func43 rfl (by show (3 : Nat) ≤ 13; omega) rfl rfl rfl (by show (6 : Nat) < 13; omega) (fun w N => .nili) (fun w0 N0 nx => ?_) rfl
  refine awl_end [0, 1, 2, 3, 4] [2, 3, 4] (by simp [Tryd.ntmps43] <;> rfl) ?_
  refine aw_step [0, 1, 2, 3, 10] [2, 3, 4] (by simp <;> rfl) ?_
  refine aw_cond rfl (fun h1 => by simp at h1) (fun h1 => aw_skip ?_)
  exact ⟨by simp only; omega, obsD x y z, fun k o hk => by simpa using hk, rfl⟩
theorem clo_pan (x : List V) (y z : Int) (er : Int) (hx : x.length = 5) : ACD Tryd.prog 43 capV (obsD (.agg x) (.int .i64 y) (.int .i64 z)) (.panicking (pan er)) (.panicking [{ v := .iface 90 (.int .i64 er), recovered := true }])
    (fun outs => outs = obsD (.agg [.int .i64 0, .int .i64 0, .int .i64 0, .str [], .nils]) (.int .i64 0) (.int .i64 er)) := by
  have hd : x.drop 5 = [] := List.drop_of_length_le (by omega)
  refine acd_recover (u := .panicking (pan er)) (v := .ifc 90 (.int .i64 er)) Tryd.func43 rfl (by show (3 : Nat) ≤ 13; omega) rfl rfl rfl (by show (6 : Nat) < 13; omega) (fun w N => .ifc _ _ _ rfl (.int _ _)) (fun w0 N0 nx => ?_) rfl
  refine awl_end [0, 1, 2, 3, 4] [2, 3, 4] (by simp [Tryd.ntmps43] <;> rfl) ?_
  refine aw_step [0, 1, 2, 3, 10] [2, 3, 4] (by simp <;> rfl) ?_
  refine aw_cond rfl (fun h1 => ?_) (fun h1 => by simp at h1)
  refine aw_one [0, 1, 2] [2, 3, 4] (by simp [hx, hd] <;> rfl) ?_
  exact ⟨by simp only; omega, _, fun k o hk => by simpa [hx, hd] using hk, rfl⟩

/-- What Decode hands back. -/
def decR (bs : List UInt8) : V := match rdN bs 4 8 0 with
  | .ok (x, a) => .tup [x.v, .int .i64 a, .int .i64 0]
  | .error er => .tup [(Nd.mk 0 0 0 [] []).v, .int .i64 0, .int .i64 er]
theorem AC.relaxP {P : Program} {f : FuncId} {args : List V} {v' : V} (h : AC P f args (fun r => Relax r v')) : AC P f args (fun r => r = v') :=
  fun w N xs h1 h2 h3 => (h w N xs h1 h2 h3).mono fun _ _ ⟨x, _, he, hR, hp, hb⟩ => ⟨x, v', he, rfl, hR.1 _ _ _ hp, hb⟩
theorem hasD {x y z x' y' z' : V} : ∀ k, Eng.get (obsD x y z) k = none → Eng.get (obsD x' y' z') k = none := by
  intro k hk
  by_cases h2 : 2 = k
  · subst h2; simp [Eng.get] at hk
  by_cases h3 : 3 = k
  · subst h3; simp [Eng.get] at hk
  by_cases h4 : 4 = k
  · subst h4; simp [Eng.get] at hk
  simp [Eng.get, h2, h3, h4]
set_option maxHeartbeats 4000000 in
theorem decode_ac (bs : List UInt8) (hb : bs.length ≤ 1048576) : AC Tryd.prog 35 [.ro 1 (bys bs)] (fun r => r = decR bs) := by
  have hl := bysL bs
  have hnode := node_acs bs 4 hb 8 5 7 0 (by omega) (Nat.zero_le _)
  have hbig : ¬ (1048576 < (bys bs).length) := by omega
  refine AC.relaxP ?_
  refine ac_deferred (S1 := ⟨[(0, .ro 1 (bys bs)), (2, .bp 2 0 5 0 0), (3, .bp 3 1 1 0 0), (4, .bp 4 2 1 0 0)], obsD (.agg [.int .i64 0, .int .i64 0, .int .i64 0, .str [], .nils]) (.int .i64 0) (.int .i64 0), 3, 19⟩) (cvs := capV) Tryd.func35 rfl (by show (1 : Nat) ≤ 19; omega) Tryd.func43 rfl (by kernel_rfl) rfl rfl rfl rfl rfl rfl (fun w0 N0 => ?_) (by simp <;> rfl) rfl (by show (6 : Nat) < 19; omega) (fun w0 N0 => ?_) rfl
  · exact aw_one [0, 2, 3, 4] [2, 3, 4] (by simp [Tryd.ntmps35] <;> rfl) ⟨rfl, rfl⟩
  refine aw_step [0, 2, 3, 4, 5] [2, 3, 4, 5] (by simp <;> rfl) ?_
  refine aw_seq ?_
  refine aw_step [0, 2, 3, 4, 5, 11] [2, 3, 4, 5] (by simp <;> rfl) ?_
  refine aw_cond rfl (fun h1 => by simp at h1; omega) (fun h1 => aw_skip ?_)
  refine aw_seq (aw_region ?_)
  unfold decR
  cases hx : rdN bs 4 8 0 with
  | error er =>
    have hp : ACS Tryd.prog 44 [.bp 5 7 3 0 0, .int .i64 1] [(5, ⟨7, 3, 93, [rd bs 0 4]⟩)] (fun _ _ => False) (fun ch => ch = pan er) :=
      hnode.mono (fun r q ⟨x', a', h1, _⟩ => by rw [hx] at h1; cases h1) (fun ch ⟨er', h1, h2⟩ => by rw [hx] at h1; injection h1 with h1; subst h1; exact h2)
    refine awl_panS hp Tryd.func44 rfl (by kernel_rfl) rfl rfl rfl (by simp <;> rfl) (fun k o hk => get_one (by simp [Eng.get, rd]) hk) (fun ch hch => ?_)
    subst hch
    refine ⟨.panicking (pan er), _, obsD (.agg [.int .i64 0, .int .i64 0, .int .i64 0, .str [], .nils]) (.int .i64 0) (.int .i64 0), _, rfl, fun k o hk => by simpa [dropK] using hk, clo_pan [.int .i64 0, .int .i64 0, .int .i64 0, .str [], .nils] 0 0 er rfl, rfl, fun outs nx ho => ⟨fun k hk => ?_, ?_⟩⟩
    · subst ho; exact hasD k hk
    · subst ho
      refine ⟨_, by simp [Tryd.results35] <;> rfl, ?_⟩
      simp only [Nd.v, List.map_nil]
      exact Relax.tup (.cons (Relax.agg (.cons (.refl _) (.cons (.refl _) (.cons (.refl _) (.cons (.refl _) (.cons (.nils 5) .nil)))))) (.refl _))
  | ok p =>
    obtain ⟨x, a⟩ := p
    have hp : ACS Tryd.prog 44 [.bp 5 7 3 0 0, .int .i64 1] [(5, ⟨7, 3, 93, [rd bs 0 4]⟩)] (fun r q => r = x.v ∧ q = [(5, ⟨7, 3, 93, [rd bs a 4]⟩)]) (fun _ => False) :=
      hnode.mono (fun r q ⟨x', a', h1, h2, h3⟩ => by rw [hx] at h1; injection h1 with h1; injection h1 with h4 h5; subst h4; subst h5; exact ⟨h2, h3⟩) (fun ch ⟨er', h1, _⟩ => by rw [hx] at h1; cases h1)
    rcases hxx : x with ⟨xt, xk, xn, xs, xks⟩
    have hxv : x.v = .agg [.int .i64 xt, .int .i64 xk, .int .i64 xn, .str xs, .ro 5 (xks.map Nd.v)] := by rw [hxx, Nd.v]
    rw [hxv] at hp
    have hpk := pureNd xks
    generalize hkvv : xks.map Nd.v = xkv at hp hpk hxv
    refine awl_callS1 hp Tryd.func44 rfl (by kernel_rfl) (by simp [rd, Eng.get]) (by simp [hpk]) (by show (0 : Nat) < 2; omega) rfl rfl rfl (by simp <;> rfl) (fun k o hk => get_one (by simp [Eng.get, rd]) hk) (by simp <;> rfl) ?_
    refine awl_end [2, 3, 4, 5] [2, 3, 4, 5] (by simp <;> rfl) ?_
    refine aw_seqE ⟨[(2, .bp 2 0 5 0 0), (3, .bp 3 1 1 0 0), (4, .bp 4 2 1 0 0)], obsD (.agg [.int .i64 xt, .int .i64 xk, .int .i64 xn, .str xs, .ro 5 xkv]) (.int .i64 a) (.int .i64 0), 20, 19⟩ (aw_drawX [] hmix ?_) ?_
    · refine at_go [(1, []), (0, [])] (by kernel_rfl) (by simp [rd] <;> rfl) ?_
      refine at_fork [2, 3] (by kernel_rfl) (fun j hj => ?_)
      simp only [List.mem_cons, List.not_mem_nil, or_false] at hj
      rcases hj with rfl | rfl
      · refine ⟨_, _, rfl, sx_go (by simp <;> rfl), ?_⟩
        refine at_go [(3, []), (4, []), (5, [])] (by kernel_rfl) (by simp <;> rfl) ?_
        exact at_end [2, 3, 4] [2, 3, 4] (by kernel_rfl) (by simp <;> rfl) rfl
      · refine ⟨_, _, rfl, sx_go (by simp <;> rfl), ?_⟩
        refine at_go [(2, []), (4, []), (5, [])] (by kernel_rfl) (by simp <;> rfl) ?_
        exact at_end [2, 3, 4] [2, 3, 4] (by kernel_rfl) (by simp <;> rfl) rfl
    refine aw_ret ⟨.returning, _, obsD (.agg [.int .i64 xt, .int .i64 xk, .int .i64 xn, .str xs, .ro 5 xkv]) (.int .i64 a) (.int .i64 0), _, rfl, fun k o hk => by simpa using hk, clo_ret _ _ _, rfl, fun outs nx ho => ⟨fun k hk => ?_, ?_⟩⟩
    · subst ho; exact hk
    · subst ho
      refine ⟨_, by simp [Tryd.results35] <;> rfl, ?_⟩
      show Relax _ (.tup [(Nd.mk xt xk xn xs xks).v, .int .i64 a, .int .i64 0])
      rw [← hxx, hxv]
      exact .refl _
end Go.Proofs.YtmkbhognijicjaaDoor
