/- Hold: the law HoldHistory. No condition. -/
import Derived.Test.YtjgngffbmfbdkaaHoldG
set_option linter.unusedSimpArgs false
namespace Go.Proofs.Ytjgngffbmfbdkaa
open Go.Eng
@[simp] theorem tyZ4 : tsz Try.prog 4 = some 1 := by kernel_rfl
@[simp] theorem tyA4 : tagg Try.prog 4 = some false := by kernel_rfl
@[simp] theorem tyU4 : (Try.prog.underlying 4).isSome = true := by kernel_rfl
@[simp] theorem tyO4 : tzero Try.prog 4 = some (.bool false) := by kernel_rfl
@[simp] theorem tyK4 : tok Try.prog 4 = some 1 := by kernel_rfl
@[simp] theorem tyY4 : tbytes Try.prog 4 = some 1 := by kernel_rfl
@[simp] theorem tyB4 : tbool Try.prog 4 = true := by kernel_rfl
@[simp] theorem tyZ40 : tsz Try.prog 40 = some 1 := by kernel_rfl
@[simp] theorem tyA40 : tagg Try.prog 40 = some false := by kernel_rfl
@[simp] theorem tyU40 : (Try.prog.underlying 40).isSome = true := by kernel_rfl
@[simp] theorem tyO40 : tzero Try.prog 40 = some (.nils) := by kernel_rfl
@[simp] theorem tyK40 : tok Try.prog 40 = some 1 := by kernel_rfl
@[simp] theorem tyY40 : tbytes Try.prog 40 = some 24 := by kernel_rfl
@[simp] theorem tyE40 : telem Try.prog 40 = some 43 := by kernel_rfl
@[simp] theorem tyZ44 : tsz Try.prog 44 = some 1 := by kernel_rfl
@[simp] theorem tyA44 : tagg Try.prog 44 = some false := by kernel_rfl
@[simp] theorem tyU44 : (Try.prog.underlying 44).isSome = true := by kernel_rfl
@[simp] theorem tyO44 : tzero Try.prog 44 = some (.int .u64 0) := by kernel_rfl
@[simp] theorem tyK44 : tok Try.prog 44 = some 1 := by kernel_rfl
@[simp] theorem tyY44 : tbytes Try.prog 44 = some 8 := by kernel_rfl
@[simp] theorem tyI44 : tint Try.prog 44 = some .u64 := by kernel_rfl

/-- A nil slice reads as the empty list. -/
theorem pur_rel_nil {w : World} {N : Nat → Prop} {x : Value} {s v l : Int} (h : Pur w N x (rel s v l .nils)) : Pur w N x (rel s v l (.ro 3 [])) := by
  cases h with
  | agg xs _ hl hc hh =>
    refine .agg xs _ hl (by simp [V.isCell]) (fun i y c hy hcs => ?_)
    match i, hcs with
    | 0, hcs => exact hh 0 y c hy hcs
    | 1, hcs => exact hh 1 y c hy hcs
    | 2, hcs => exact hh 2 y c hy hcs
    | 3, hcs =>
      have := hh 3 y .nils hy rfl
      simp at hcs
      subst hcs
      cases this with
      | nils A => exact .ro A ⟨0, 0, none⟩ 0 0 3 [] (fun _ _ => undef) rfl (Nat.le_refl _) (Nat.zero_le _) (fun h0 => by omega) (by simp) (by simp) (by simp)
    | i + 4, hcs => simp at hcs
theorem newP_ac : AC Try.prog 19 [] (fun r => r = rel 1 0 0 (.ro 3 [])) := fun w N xs h1 h2 h3 =>
  (new_ac w N xs h1 h2 h3).mono fun _ _ ⟨x, _, he, hR, hp, hb⟩ => ⟨x, _, he, rfl, pur_rel_nil (hR ▸ hp), hb⟩

theorem validZero_ac : AC Try.prog 14 [rel 0 0 0 .nils] (fun r => r = .int .i64 1) := by
  refine ac_intro Try.func14 rfl (by show (1 : Nat) ≤ 107; omega) (fun w0 N0 => ?_)
  refine aw_step [1, 2] [1] (by simp [Try.ntmps14, rel] <;> rfl) ?_
  refine aw_seq (aw_step [1, 2, 12] [1] (by simp <;> rfl) ?_)
  refine aw_cond rfl (fun h1 => ?_) (fun h1 => by simp at h1)
  refine aw_step [2] [] (by simp <;> rfl) ?_
  exact aw_ret (ends_ret (by simp [Try.results14] <;> rfl) rfl)

set_option maxHeartbeats 4000000 in
theorem holdHistory_ac (ds : List H3) (dv : List V) (hdv : dv = ds.map H3.v) : AC Try.prog 8 [.ro 3 dv] (fun x => x = .bool true) := by
  have hdl : dv.length = ds.length := by rw [hdv]; simp
  refine ac_intro Try.func8 rfl (by show (1 : Nat) ≤ 108; omega) (fun w0 N0 => ?_)
  refine aw_step [0] [] (by simp [Try.ntmps8] <;> rfl) ?_   -- law.go:163
  refine aw_seq (aw_region ?_)   -- law.go:164
  refine awl_call1 newP_ac Try.func19 rfl (by kernel_rfl) rfl rfl rfl rfl rfl (by simp [rel] <;> rfl) ?_
  refine awl_end [0, 3] [3] (by simp <;> rfl) ?_
  refine aw_seq ?_
  have hv0 : validF 1 0 0 [] = 0 := by decide
  have hc0 := valid_ac 1 0 0 [] [] rfl
  rw [hv0] at hc0
  refine aw_seq (aw_region ?_)   -- law.go:165
  refine awl_go 5 (by simp <;> rfl) ?_
  refine awl_gcall (fun hg => hc0) Try.func14 rfl (by kernel_rfl) (by simp <;> rfl) rfl rfl (by simp <;> rfl) (by simp) (by simp <;> rfl) ?_
  refine awl_go 4 (by simp <;> rfl) ?_
  refine awl_gcall (fun hg => validZero_ac) Try.func14 rfl (by kernel_rfl) (by simp <;> rfl) rfl rfl (by simp <;> rfl) (by simp [rel]) (by simp <;> rfl) ?_
  refine awl_end [0, 3, 21] [3] (by simp <;> rfl) ?_
  refine aw_cond rfl (fun h1 => by simp at h1) (fun h1 => aw_skip ?_)   -- if t21
  refine aw_seq ?_
  refine aw_step [0, 3, 4] [3] (by simp <;> rfl) ?_   -- law.go:168
  refine aw_block ?_
  refine aw_loop (fun x : Nat × Rec × Nat => ⟨[(0, .ro 3 dv), (3, .bp 3 2 4 0 0), (4, .int .i64 x.1)], [(3, ⟨2, 4, 24, [.agg [.int .i64 x.2.1.s, .int .i64 x.2.1.v, .int .i64 x.2.1.l, .ro 3 (x.2.1.hs.map H3.v)]]⟩)], x.2.2, 108⟩)
    (fun x => x.1 ≤ ds.length ∧ validF x.2.1.s x.2.1.v x.2.1.l x.2.1.hs = 0) (fun x => ds.length - x.1) (0, ⟨1, 0, 0, []⟩, 18) ⟨Nat.zero_le _, hv0⟩ (AS.le_refl _) ?_
  rintro ⟨k, R, nx⟩ ⟨hk, hV⟩
  simp only at hk hV
  have hRl := (valid_iff.1 hV).2.2.2.2.2.2.1
  have hdo := fun a b c => do_ac R a b c _ rfl (by simp; omega)
  have hkeep := fun a b c => do_keep (R := R) (k := a) (r := b) (t := c)
  have hrl : (R.hs.map H3.v).length = R.hs.length := by simp
  have hrg : ∀ (j : Nat) (hj : j < R.hs.length), nth (R.hs.map H3.v) j = some (H3.v R.hs[j]) := by
    intro j hj; rw [nth_eq]; simp [hj]
  obtain ⟨rr, hrr⟩ : ∃ rr, rr = R.hs.map H3.v := ⟨_, rfl⟩
  simp only [← hrr] at hdo hrl hrg ⊢
  refine aw_seq ?_
  refine aw_step [0, 3, 4, 29] [3] (by simp <;> rfl) ?_   -- law.go:168
  refine aw_cond rfl (fun h2 => aw_skip ?_) (fun h2 => ?_)   -- if t29
  · have hlt : k < ds.length ∧ k < 60 := by simp at h2; omega
    have hlt' : k < dv.length := by omega
    have hget : nth dv k = some (H3.v ds[k]) := by rw [nth_eq, hdv]; simp [hlt.1]
    have hw := wrap_succ (k := k) (by omega)
    generalize ds[k] = d at hget
    have hc := hdo d.r d.f d.u
    have hkp := hkeep d.r d.f d.u
    generalize doR R d.r d.f d.u = B at hc hkp
    generalize doE R d.r d.f d.u = eb at hc hkp
    simp only [recP, rel] at hc
    have hpb := pureH B.hs
    have hbl : (B.hs.map H3.v).length = B.hs.length := by simp
    have hbg : ∀ (j : Nat) h', B.hs[j]? = some h' → nth (B.hs.map H3.v) j = some (H3.v h') := by
      intro j h' hj; rw [nth_eq]; simp [hj]
    have hvB := valid_ac B.s B.v B.l B.hs _ rfl
    obtain ⟨rb, hrb⟩ : ∃ rb, rb = B.hs.map H3.v := ⟨_, rfl⟩
    simp only [← hrb] at hc hpb hbl hbg hvB
    refine aw_seq ?_
    refine aw_block ?_
    refine aw_seq (aw_draw [(1, []), (2, []), (3, []), (0, [5]), (4, [5]), (5, []), (6, []), (7, []), (8, []), (9, []), (10, []), (11, [])] hmix (by kernel_rfl) ?_)   -- law.go:169
    refine awo_go 5 (by simp [hget, hlt', H3.v] <;> rfl) ?_
    refine awo_call (fun hg => hc) Try.func25 rfl (by kernel_rfl) rfl rfl (by simp <;> rfl) rfl rfl (by simp <;> rfl) (by simp) (by simp <;> rfl) ?_
    refine awo_end [0, 3, 4, 5, 6] [3, 5] (by simp <;> rfl) ?_
    refine aw_seq ?_
    refine aw_step [0, 3, 4, 5, 42] [3, 5] (by simp <;> rfl) ?_   -- law.go:170
    refine aw_cond rfl (fun h3 => ?_) (fun h3 => aw_skip ?_)   -- if t42
    · refine aw_exit ?_
      refine aw_one [0, 3, 4] [3] (by simp [hw] <;> rfl) ?_   -- law.go:168
      exact ⟨(k + 1, R, _), ⟨hlt.1, hV⟩, by simp only; omega, by simp only [← hrr]; exact AS.le_refl _⟩
    obtain ⟨k1, k2, k3, k4, k5⟩ := hkp (by simpa using h3)
    rw [k1] at hvB
    have hlow : ¬ B.l < R.l := by omega
    have hshort : ¬ B.hs.length < R.hs.length := by omega
    refine aw_seq ?_
    refine aw_seq (aw_draw [(0, []), (1, []), (2, []), (3, []), (4, []), (6, []), (7, []), (8, []), (9, []), (5, []), (10, []), (11, []), (12, []), (13, []), (14, []), (16, []), (15, []), (17, []), (18, []), (19, []), (20, []), (21, []), (24, []), (22, []), (23, []), (25, []), (26, []), (27, []), (28, [])] hmix (by kernel_rfl) ?_)   -- law.go:173
    refine awo_go 1 (by simp <;> rfl) ?_
    refine awo_call (fun hg => hvB) Try.func14 rfl (by kernel_rfl) rfl rfl (by simp <;> rfl) rfl rfl (by simp <;> rfl) (by simp) (by simp <;> rfl) ?_
    refine awo_end [0, 3, 4, 5, 71] [3, 5] (by simp [hget, hlt', H3.v, k2, hlow, k3, hshort, hbl, hrl] <;> rfl) ?_
    refine aw_cond rfl (fun h4 => by simp at h4; omega) (fun h4 => aw_skip ?_)   -- if t71
    refine aw_seq ?_
    refine aw_step [0, 3, 4, 5, 7] [3, 5] (by simp <;> rfl) ?_   -- law.go:176
    refine aw_block ?_
    refine aw_count (fun j nx1 => ⟨[(0, .ro 3 dv), (3, .bp 3 2 4 0 0), (4, .int .i64 k), (5, .bp 5 (nx + 8 + 9) 4 0 0), (7, .int .i64 j)], [(3, ⟨2, 4, 24, [.agg [.int .i64 R.s, .int .i64 R.v, .int .i64 R.l, .ro 3 rr]]⟩), (5, ⟨nx + 8 + 9, 4, 24, [.agg [.int .i64 B.s, .int .i64 B.v, .int .i64 d.u, .ro 3 rb]]⟩)], nx1, 108⟩) (fun _ => True) R.hs.length _ trivial (AS.le_refl _) ?_
    intro j nx1 hj _
    refine aw_seq ?_
    refine aw_step [0, 3, 4, 5, 7, 76] [3, 5] (by simp [hrl] <;> rfl) ?_   -- law.go:176
    refine aw_cond rfl (fun h5 => aw_skip ?_) (fun h5 => ?_)   -- if t76
    · have hjl : j < R.hs.length := by simp at h5; omega
      obtain ⟨h', e1, e2, e3⟩ := k5 j hjl
      have hjb : j < B.hs.length := by omega
      have g1 := hrg j hjl
      have g2 := hbg j h' e1
      have hwj := wrap_succ (k := j) (by omega)
      generalize R.hs[j] = g at g1 e2 e3
      refine aw_seq ?_
      refine aw_block ?_
      refine aw_dstep [(0, []), (2, []), (6, []), (8, []), (1, []), (3, []), (4, []), (5, []), (7, []), (9, []), (10, []), (11, []), (12, []), (13, []), (14, []), (16, []), (20, []), (22, []), (15, []), (17, []), (18, []), (19, []), (21, []), (23, []), (24, []), (25, []), (26, []), (27, [])] [0, 3, 4, 5, 7, 106] [3, 5] hmix (by kernel_rfl) (by simp [g1, g2, hrl, hbl, hjl, hjb, H3.v, e2, e3] <;> rfl) ?_   -- law.go:177
      refine aw_cond rfl (fun h6 => by simp at h6) (fun h6 => aw_skip ?_)   -- if t106
      refine aw_one [0, 3, 4, 5, 7] [3, 5] (by simp [hwj] <;> rfl) ?_   -- law.go:176
      exact ⟨hjl, trivial, _, AS.le_refl _⟩
    · refine aw_exit ?_
      refine aw_one [0, 3, 4] [3] (by simp <;> rfl) ?_   -- law.go:181
      refine aw_one [0, 3, 4] [3] (by simp [hw] <;> rfl) ?_   -- law.go:168
      exact ⟨(k + 1, B, _), ⟨hlt.1, k1⟩, by simp only; omega, by simp only [← hrb, k2]; exact AS.le_refl _⟩
  · refine aw_exit ?_
    refine aw_step [2] [] (by simp <;> rfl) ?_   -- law.go:183
    exact aw_ret (ends_ret (by simp [Try.results8] <;> rfl) rfl)
end Go.Proofs.Ytjgngffbmfbdkaa
