/- Hold: a deed, and what it leads to. No condition. -/
import Derived.Test.YtjgngffbmfbdkaaHoldL
set_option linter.unusedSimpArgs false
namespace Go.Proofs.Ytjgngffbmfbdkaa
open Go.Eng

/-- A record and an error as pure results. -/
def recP (R : Rec) (e : Int) : V := .tup [rel R.s R.v R.l (.ro 3 (R.hs.map H3.v)), .int .i64 e]
theorem toP {f : FuncId} {args : List V} {R : Rec} {e : Int} (h : ACO Try.prog f args 3 30 (fun F es' => F = recF R e ∧ es' = R.hs.map H3.v)) : AC Try.prog f args (fun x => x = recP R e) :=
  h.ac fun F es' ⟨h1, h2⟩ => by
    subst h1; subst h2
    have hp := pureH R.hs
    have hl : (R.hs.map H3.v).length = R.hs.length := by simp
    unfold recP
    generalize R.hs.map H3.v = rb at hp hl
    exact ⟨_, by simp [recF, rel, hp, hl] <;> rfl, rfl⟩

def doE (R : Rec) (k r t : Int) : Int :=
  if decide (k = 0) = true then placeE R.s R.v R.l r t R.hs else if decide (k = 1) = true then liftE R.s R.v R.l r t R.hs else if decide (k = 2) = true then pubE R.s R.v R.l t R.hs else preE R.s R.v R.l t R.hs
def doR (R : Rec) (k r t : Int) : Rec :=
  if decide (k = 0) = true then placeR R.s R.v R.l r t R.hs else if decide (k = 1) = true then liftR R.s R.v R.l r t R.hs else if decide (k = 2) = true then pubR R.s R.v R.l t R.hs else voidR R.s R.v R.l t R.hs

set_option maxHeartbeats 1000000 in
theorem do_ac (R : Rec) (k r t : Int) (es : List V) (hes : es = R.hs.map H3.v) (hsm : es.length ≤ 200) : AC Try.prog 25 [rel R.s R.v R.l (.ro 3 es), .agg [.int .i64 k, .int .i64 r, .int .i64 t]] (fun x => x = recP (doR R k r t) (doE R k r t)) := by
  refine ac_intro Try.func25 rfl (by show (2 : Nat) ≤ 42; omega) (fun w0 N0 => ?_)
  refine aw_step [2, 3, 4] [2, 3, 4] (by simp [Try.ntmps25, rel] <;> rfl) ?_   -- law.go:83
  refine aw_seq ?_
  refine aw_step [2, 3, 4, 7] [2, 3, 4] (by simp <;> rfl) ?_   -- law.go:84
  refine aw_block ?_
  refine aw_step [2, 3, 4, 7, 8] [2, 3, 4] (by simp <;> rfl) ?_   -- law.go:85
  refine aw_cond rfl (fun h1 => ?_) (fun h1 => ?_)   -- if t8
  · have hc := toP (place_ac R.s R.v R.l r t R.hs es hes hsm)
    rw [show placeR R.s R.v R.l r t R.hs = doR R k r t by rw [doR, if_pos h1], show placeE R.s R.v R.l r t R.hs = doE R k r t by rw [doE, if_pos h1]] at hc
    generalize doR R k r t = B at hc
    generalize doE R k r t = eb at hc
    simp only [recP, rel] at hc ⊢
    refine aw_seq (aw_region ?_)   -- law.go:86
    refine awl_go 5 (by simp <;> rfl) ?_
    refine awl_call1 hc Try.func9 rfl (by kernel_rfl) rfl rfl rfl rfl rfl (by simp <;> rfl) ?_
    refine awl_end [4, 5] [4] (by simp <;> rfl) ?_
    exact aw_ret (ends_ret (by simp [Try.results25] <;> rfl) rfl)
  · refine aw_step [2, 3, 4, 7, 18] [2, 3, 4] (by simp <;> rfl) ?_   -- law.go:87
    refine aw_cond rfl (fun h2 => ?_) (fun h2 => ?_)   -- if t18
    · have hc := toP (lift_ac R.s R.v R.l r t R.hs es hes hsm)
      rw [show liftR R.s R.v R.l r t R.hs = doR R k r t by rw [doR, if_neg (by rw [h1]; simp), if_pos h2], show liftE R.s R.v R.l r t R.hs = doE R k r t by rw [doE, if_neg (by rw [h1]; simp), if_pos h2]] at hc
      generalize doR R k r t = B at hc
      generalize doE R k r t = eb at hc
      simp only [recP, rel] at hc ⊢
      refine aw_seq (aw_region ?_)   -- law.go:88
      refine awl_go 5 (by simp <;> rfl) ?_
      refine awl_call1 hc Try.func12 rfl (by kernel_rfl) rfl rfl rfl rfl rfl (by simp <;> rfl) ?_
      refine awl_end [4, 5] [4] (by simp <;> rfl) ?_
      exact aw_ret (ends_ret (by simp [Try.results25] <;> rfl) rfl)
    · refine aw_step [2, 3, 4, 28] [2, 3, 4] (by simp <;> rfl) ?_   -- law.go:89
      refine aw_cond rfl (fun h3 => ?_) (fun h3 => aw_skip ?_)   -- if t28
      · have hc := toP (publish_ac R.s R.v R.l t R.hs es hes hsm)
        rw [show pubR R.s R.v R.l t R.hs = doR R k r t by rw [doR, if_neg (by rw [h1]; simp), if_neg (by rw [h2]; simp), if_pos h3], show pubE R.s R.v R.l t R.hs = doE R k r t by rw [doE, if_neg (by rw [h1]; simp), if_neg (by rw [h2]; simp), if_pos h3]] at hc
        generalize doR R k r t = B at hc
        generalize doE R k r t = eb at hc
        simp only [recP, rel] at hc ⊢
        refine aw_seq (aw_region ?_)   -- law.go:90
        refine awl_go 3 (by simp <;> rfl) ?_
        refine awl_call1 hc Try.func21 rfl (by kernel_rfl) rfl rfl rfl rfl rfl (by simp <;> rfl) ?_
        refine awl_end [4, 5] [4] (by simp <;> rfl) ?_
        exact aw_ret (ends_ret (by simp [Try.results25] <;> rfl) rfl)
      have hc := toP (void_ac R.s R.v R.l t R.hs es hes hsm)
      rw [show voidR R.s R.v R.l t R.hs = doR R k r t by rw [doR, if_neg (by rw [h1]; simp), if_neg (by rw [h2]; simp), if_neg (by rw [h3]; simp)], show preE R.s R.v R.l t R.hs = doE R k r t by rw [doE, if_neg (by rw [h1]; simp), if_neg (by rw [h2]; simp), if_neg (by rw [h3]; simp)]] at hc
      generalize doR R k r t = B at hc
      generalize doE R k r t = eb at hc
      simp only [recP, rel] at hc ⊢
      refine aw_seq (aw_region ?_)   -- law.go:92
      refine awl_go 3 (by simp <;> rfl) ?_
      refine awl_call1 hc Try.func23 rfl (by kernel_rfl) rfl rfl rfl rfl rfl (by simp <;> rfl) ?_
      refine awl_end [4, 5] [4] (by simp <;> rfl) ?_
      exact aw_ret (ends_ret (by simp [Try.results25] <;> rfl) rfl)
end Go.Proofs.Ytjgngffbmfbdkaa
