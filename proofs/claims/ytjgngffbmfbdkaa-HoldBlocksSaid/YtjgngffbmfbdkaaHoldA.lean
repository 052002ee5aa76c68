/- Hold: the types, and the contracts of the small functions. No condition. -/
import Derived.Test.YtjgngffbmfbdkaaEng20
import Derived.Test.YtjgngffbmfbdkaaProg
import Derived.KernelRfl
import Derived.IntWalk
set_option linter.unusedSimpArgs false
namespace Go.Proofs.Ytjgngffbmfbdkaa
open Go.Eng
@[simp] theorem tyZ3 : tsz Try.prog 3 = some 1 := by kernel_rfl
@[simp] theorem tyA3 : tagg Try.prog 3 = some false := by kernel_rfl
@[simp] theorem tyU3 : (Try.prog.underlying 3).isSome = true := by kernel_rfl
@[simp] theorem tyO3 : tzero Try.prog 3 = some (.int .i64 0) := by kernel_rfl
@[simp] theorem tyK3 : tok Try.prog 3 = some 1 := by kernel_rfl
@[simp] theorem tyY3 : tbytes Try.prog 3 = some 8 := by kernel_rfl
@[simp] theorem tyI3 : tint Try.prog 3 = some .i64 := by kernel_rfl
@[simp] theorem tyZ22 : tsz Try.prog 22 = some 1 := by kernel_rfl
@[simp] theorem tyA22 : tagg Try.prog 22 = some false := by kernel_rfl
@[simp] theorem tyU22 : (Try.prog.underlying 22).isSome = true := by kernel_rfl
@[simp] theorem tyO22 : tzero Try.prog 22 = some (.nils) := by kernel_rfl
@[simp] theorem tyK22 : tok Try.prog 22 = some 1 := by kernel_rfl
@[simp] theorem tyY22 : tbytes Try.prog 22 = some 24 := by kernel_rfl
@[simp] theorem tyE22 : telem Try.prog 22 = some 30 := by kernel_rfl
@[simp] theorem tyZ24 : tsz Try.prog 24 = some 4 := by kernel_rfl
@[simp] theorem tyA24 : tagg Try.prog 24 = some true := by kernel_rfl
@[simp] theorem tyU24 : (Try.prog.underlying 24).isSome = true := by kernel_rfl
@[simp] theorem tyO24 : tzero Try.prog 24 = some (.agg [.int .i64 0, .int .i64 0, .int .i64 0, .nils]) := by kernel_rfl
@[simp] theorem tyK24 : tok Try.prog 24 = some 4 := by kernel_rfl
@[simp] theorem tyY24 : tbytes Try.prog 24 = some 48 := by kernel_rfl
@[simp] theorem tyF24_0 : tfield Try.prog 24 0 = some (0, 1, false) := by kernel_rfl
@[simp] theorem tyF24_1 : tfield Try.prog 24 1 = some (1, 1, false) := by kernel_rfl
@[simp] theorem tyF24_2 : tfield Try.prog 24 2 = some (2, 1, false) := by kernel_rfl
@[simp] theorem tyF24_3 : tfield Try.prog 24 3 = some (3, 1, false) := by kernel_rfl
@[simp] theorem tyD24 : tfields Try.prog 24 = true := by kernel_rfl
@[simp] theorem tyZ25 : tsz Try.prog 25 = some 1 := by kernel_rfl
@[simp] theorem tyA25 : tagg Try.prog 25 = some false := by kernel_rfl
@[simp] theorem tyU25 : (Try.prog.underlying 25).isSome = true := by kernel_rfl
@[simp] theorem tyO25 : tzero Try.prog 25 = some (.int .i64 0) := by kernel_rfl
@[simp] theorem tyK25 : tok Try.prog 25 = some 1 := by kernel_rfl
@[simp] theorem tyY25 : tbytes Try.prog 25 = some 8 := by kernel_rfl
@[simp] theorem tyI25 : tint Try.prog 25 = some .i64 := by kernel_rfl
@[simp] theorem tyZ30 : tsz Try.prog 30 = some 3 := by kernel_rfl
@[simp] theorem tyA30 : tagg Try.prog 30 = some true := by kernel_rfl
@[simp] theorem tyU30 : (Try.prog.underlying 30).isSome = true := by kernel_rfl
@[simp] theorem tyO30 : tzero Try.prog 30 = some (.agg [.int .i64 0, .int .i64 0, .int .i64 0]) := by kernel_rfl
@[simp] theorem tyK30 : tok Try.prog 30 = some 3 := by kernel_rfl
@[simp] theorem tyY30 : tbytes Try.prog 30 = some 24 := by kernel_rfl
@[simp] theorem tyF30_0 : tfield Try.prog 30 0 = some (0, 1, false) := by kernel_rfl
@[simp] theorem tyF30_1 : tfield Try.prog 30 1 = some (1, 1, false) := by kernel_rfl
@[simp] theorem tyF30_2 : tfield Try.prog 30 2 = some (2, 1, false) := by kernel_rfl
@[simp] theorem tyD30 : tfields Try.prog 30 = true := by kernel_rfl
@[simp] theorem tyL30 : tflat Try.prog 30 = some [0, 0, 0] := by kernel_rfl
@[simp] theorem tyZ34 : tsz Try.prog 34 = some 1 := by kernel_rfl
@[simp] theorem tyA34 : tagg Try.prog 34 = some false := by kernel_rfl
@[simp] theorem tyU34 : (Try.prog.underlying 34).isSome = true := by kernel_rfl
@[simp] theorem tyO34 : tzero Try.prog 34 = some (.nils) := by kernel_rfl
@[simp] theorem tyK34 : tok Try.prog 34 = some 1 := by kernel_rfl
@[simp] theorem tyY34 : tbytes Try.prog 34 = some 24 := by kernel_rfl
@[simp] theorem tyE34 : telem Try.prog 34 = some 3 := by kernel_rfl
@[simp] theorem tyZ43 : tsz Try.prog 43 = some 3 := by kernel_rfl
@[simp] theorem tyA43 : tagg Try.prog 43 = some true := by kernel_rfl
@[simp] theorem tyU43 : (Try.prog.underlying 43).isSome = true := by kernel_rfl
@[simp] theorem tyO43 : tzero Try.prog 43 = some (.agg [.int .i64 0, .int .i64 0, .int .i64 0]) := by kernel_rfl
@[simp] theorem tyK43 : tok Try.prog 43 = some 3 := by kernel_rfl
@[simp] theorem tyY43 : tbytes Try.prog 43 = some 24 := by kernel_rfl
@[simp] theorem tyF43_0 : tfield Try.prog 43 0 = some (0, 1, false) := by kernel_rfl
@[simp] theorem tyF43_1 : tfield Try.prog 43 1 = some (1, 1, false) := by kernel_rfl
@[simp] theorem tyF43_2 : tfield Try.prog 43 2 = some (2, 1, false) := by kernel_rfl
@[simp] theorem tyD43 : tfields Try.prog 43 = true := by kernel_rfl
@[simp] theorem tyL43 : tflat Try.prog 43 = some [0, 0, 0] := by kernel_rfl
structure H3 where
  r : Int
  f : Int
  u : Int
def H3.v (h : H3) : V := .agg [.int .i64 h.r, .int .i64 h.f, .int .i64 h.u]
def rsn (n : Int) : Bool := decide (1 ≤ n) && decide (n ≤ 5)
theorem reasoned_ac (n : Int) : AC Try.prog 30 [.int .i64 n] (fun r => r = .bool (rsn n)) := by
  refine ac_intro Try.func30 rfl (by show (1 : Nat) ≤ 9; omega) (fun w0 N0 => ?_)
  refine aw_step [0] [] (by simp [Try.ntmps30] <;> rfl) ?_
  refine aw_step [2] [] (by simp <;> rfl) ?_
  exact aw_ret (ends_ret (by simp [Try.results30] <;> rfl) rfl)

def hErr (l : Int) (h : H3) : Int :=
  if rsn h.r = false then 1
  else if (decide (h.f < 0) || decide (l < h.f) || decide (h.u < 0) || decide (l < h.u)) = true then 3
  else if (decide (0 < h.u) && decide (h.u < h.f)) = true then 15 else 0
def hsErr (l : Int) : List H3 → Int
  | [] => 0
  | h :: t => if hErr l h = 0 then hsErr l t else hErr l h
def validF (s v l : Int) (hs : List H3) : Int :=
  if (decide (s < 1) || decide (4 < s)) = true then 1
  else if (decide (v < 0) || decide (9999999 < v) || decide (l < 0) || decide (1099511627776 < l)) = true then 3
  else if decide ((20 : Int) < hs.length) = true then 5
  else if hsErr l hs ≠ 0 then hsErr l hs
  else if ((decide (s = 1) && !decide (v = 0)) || (decide (s = 2) && !decide (v = 1)) || (decide (s = 3) && decide (v < 2))) = true then 8 else 0
theorem wrap_succ {k : Nat} (h : (k : Int) < 9223372036854775807) : IntKind.i64.wrap ((k : Int) + 1) = ((k + 1 : Nat) : Int) := by
  rw [IntKind.wrap_i64]; omega

set_option maxHeartbeats 1000000 in
theorem valid_ac (s v l : Int) (hs : List H3) (es : List V) (hes : es = hs.map H3.v) : AC Try.prog 14 [.agg [.int .i64 s, .int .i64 v, .int .i64 l, .ro 3 es]] (fun r => r = .int .i64 (validF s v l hs)) := by
  have hlen : es.length = hs.length := by rw [hes]; simp
  refine ac_intro Try.func14 rfl (by show (1 : Nat) ≤ 107; omega) (fun w0 N0 => ?_)
  refine aw_step [1, 2] [1] (by simp [Try.ntmps14] <;> rfl) ?_
  refine aw_seq (aw_step [1, 2, 12] [1] (by simp <;> rfl) ?_)
  refine aw_cond rfl (fun h1 => ?_) (fun h1 => aw_skip ?_)
  · refine aw_step [2] [] (by simp <;> rfl) ?_
    exact aw_ret (ends_ret (by simp [Try.results14] <;> rfl) (by simp only [validF, h1, if_true]))
  refine aw_seq (aw_step [1, 2, 30] [1] (by simp <;> rfl) ?_)
  refine aw_cond rfl (fun h2 => ?_) (fun h2 => aw_skip ?_)
  · refine aw_step [2] [] (by simp <;> rfl) ?_
    exact aw_ret (ends_ret (by simp [Try.results14] <;> rfl) (by simp only [validF, h1, h2, if_true, Bool.false_eq_true, if_false]))
  refine aw_seq (aw_step [1, 2, 34] [1] (by simp <;> rfl) ?_)
  refine aw_cond rfl (fun h3 => ?_) (fun h3 => aw_skip ?_)
  · refine aw_step [2] [] (by simp <;> rfl) ?_
    exact aw_ret (ends_ret (by simp [Try.results14] <;> rfl) (by rw [hlen] at h3; simp only [validF, h1, h2, h3, if_true, Bool.false_eq_true, if_false]))
  have hsmall : hs.length ≤ 20 := by rw [hlen] at h3; simp at h3; omega
  refine aw_seq (aw_step [1, 2, 36, 37, 38] [1] (by simp <;> rfl) ?_)
  refine aw_block ?_
  refine aw_loop (fun x : Nat × Nat => ⟨[(1, .bp 1 0 4 0 0), (2, .int .i64 0), (36, .ro 3 es), (37, .int .i64 es.length), (38, .int .i64 x.1)], [(1, ⟨0, 4, 24, [.agg [.int .i64 s, .int .i64 v, .int .i64 l, .ro 3 es]]⟩)], x.2, 107⟩)
    (fun x => x.1 ≤ hs.length ∧ hsErr l hs = hsErr l (hs.drop x.1)) (fun x => hs.length - x.1) (0, 36) ⟨Nat.zero_le _, by simp⟩ (AS.le_refl _) ?_
  rintro ⟨k, nx⟩ ⟨hk, hsp⟩
  simp only at hk hsp
  refine aw_step [1, 2, 36, 37, 38, 39] [1] (by simp <;> rfl) ?_
  refine aw_seq (aw_cond rfl (fun h4 => aw_skip ?_) (fun h4 => aw_exit ?_))
  · have hlt : k < hs.length := by simp at h4; omega
    have hlt' : k < es.length := by omega
    have hget : nth es k = some (H3.v hs[k]) := by rw [nth_eq, hes]; simp [hlt]
    have hw := wrap_succ (k := k) (by omega)
    have hd : hs.drop k = hs[k] :: hs.drop (k + 1) := List.drop_eq_getElem_cons hlt
    generalize hs[k] = h at hget hd
    rw [hd] at hsp
    refine aw_seq (aw_block ?_)
    refine aw_step [1, 2, 36, 37, 38, 4] [1, 4] (by simp [hget, hlt', H3.v] <;> rfl) ?_
    refine aw_seq (aw_seq (aw_region ?_))
    refine awl_go 2 (by simp <;> rfl) ?_
    refine awl_call1 (reasoned_ac _) Try.func30 rfl (by kernel_rfl) rfl rfl rfl rfl rfl (by simp <;> rfl) ?_
    refine awl_end [1, 2, 36, 37, 38, 4, 45] [1, 4] (by simp <;> rfl) ?_
    refine aw_cond rfl (fun h5 => ?_) (fun h5 => aw_skip ?_)
    · refine aw_step [2] [] (by simp <;> rfl) ?_
      refine aw_ret (ends_ret (by simp [Try.results14] <;> rfl) ?_)
      have e1 : hErr l h = 1 := by simp only [hErr]; rw [if_pos (by simpa using h5)]
      simp only [validF, h1, h2, hlen ▸ h3, hsp, hsErr, e1, Bool.false_eq_true, if_false]; rfl
    refine aw_seq (aw_step [1, 2, 36, 37, 38, 4, 67] [1, 4] (by simp <;> rfl) ?_)
    refine aw_cond rfl (fun h6 => ?_) (fun h6 => aw_skip ?_)
    · refine aw_step [2] [] (by simp <;> rfl) ?_
      refine aw_ret (ends_ret (by simp [Try.results14] <;> rfl) ?_)
      have e1 : hErr l h = 3 := by simp only [hErr]; rw [if_neg (by simpa using h5), if_pos h6]
      simp only [validF, h1, h2, hlen ▸ h3, hsp, hsErr, e1, Bool.false_eq_true, if_false]; rfl
    refine aw_step [1, 2, 36, 37, 38, 77] [1] (by simp <;> rfl) ?_
    refine aw_cond rfl (fun h7 => ?_) (fun h7 => aw_skip ?_)
    · refine aw_step [2] [] (by simp <;> rfl) ?_
      refine aw_ret (ends_ret (by simp [Try.results14] <;> rfl) ?_)
      have e1 : hErr l h = 15 := by simp only [hErr]; rw [if_neg (by simpa using h5), if_neg (by rw [h6]; simp), if_pos h7]
      simp only [validF, h1, h2, hlen ▸ h3, hsp, hsErr, e1, Bool.false_eq_true, if_false]; rfl
    refine aw_one [1, 2, 36, 37, 38] [1] (by simp [hw] <;> rfl) ?_
    have e1 : hErr l h = 0 := by simp only [hErr]; rw [if_neg (by simpa using h5), if_neg (by rw [h6]; simp), if_neg (by rw [h7]; simp)]
    refine ⟨(k + 1, _), ⟨by simp only; omega, ?_⟩, by simp only; omega, AS.le_refl _⟩
    simp only [hsp, hsErr, e1, if_true]
  · have hk' : k = hs.length := by simp at h4; omega
    subst hk'
    simp only [List.drop_length, hsErr] at hsp
    refine aw_seq (aw_step [2, 106] [] (by simp <;> rfl) ?_)
    refine aw_cond rfl (fun h5 => ?_) (fun h5 => aw_skip ?_)
    · refine aw_step [2] [] (by simp <;> rfl) ?_
      refine aw_ret (ends_ret (by simp [Try.results14] <;> rfl) ?_)
      simp only [validF, h1, h2, hlen ▸ h3, hsp, h5, Bool.false_eq_true, if_false, if_true, ne_eq, not_true_eq_false]
    · refine aw_step [2] [] (by simp <;> rfl) ?_
      refine aw_ret (ends_ret (by simp [Try.results14] <;> rfl) ?_)
      simp only [validF, h1, h2, hlen ▸ h3, hsp, h5, Bool.false_eq_true, if_false, ne_eq, not_true_eq_false]
theorem hmix : Try.prog.follows .mixedOrders = true := by kernel_rfl

/-- A release record. -/
def rel (s v l : Int) (x : V) : V := .agg [.int .i64 s, .int .i64 v, .int .i64 l, x]
theorem flatH (hs : List H3) : (hs.map H3.v).all flatE = true := by
  rw [List.all_eq_true]
  intro x hx
  simp only [List.mem_map] at hx
  obtain ⟨h, _, rfl⟩ := hx
  rfl
theorem pureH (hs : List H3) : (hs.map H3.v).all V.pureE = true := by
  rw [List.all_eq_true]
  intro x hx
  simp only [List.mem_map] at hx
  obtain ⟨h, _, rfl⟩ := hx
  rfl

theorem roomy {n : Nat} (h : n ≤ 1000) : n ≤ maxLen ∧ n * 24 ≤ 140737488355328 := by
  constructor
  · exact Nat.le_trans h (by decide)
  · omega
theorem clone_ac (es : List V) (hfl : es.all flatE = true) (hsm : es.length ≤ 1000) : ACO Try.prog 36 [.ro 3 es] 3 30 (fun F es' => (F = fun d v => .sl d v 3 es.length) ∧ es' = es) := by
  have hro := roomy hsm
  refine aco_intro Try.func36 rfl (by show (1 : Nat) ≤ 8; omega) (fun w0 N0 => ?_)
  refine aw_step [0] [] (by simp [Try.ntmps36] <;> rfl) ?_   -- slices.go:355
  refine aw_seq ?_
  refine aw_seq (aw_region ?_)
  refine awl_go 1 (by simp <;> rfl) ?_
  refine awl_isnil rfl rfl (by simp <;> rfl) rfl (by kernel_rfl) (fun b hb => ⟨_, by simp <;> rfl, ?_⟩)
  refine awl_end [0, 4] [] (by simp <;> rfl) ?_
  refine aw_cond rfl (fun h1 => ?_) (fun h1 => aw_skip ?_)   -- if t4
  · refine aw_step [2] [] (by simp <;> rfl) ?_   -- slices.go:358
    have h0 := List.length_eq_zero_iff.1 (hb h1)
    subst h0
    refine aw_adoptS 2 2 3 30 [2] [2] (by simp <;> rfl) (by simp <;> rfl) ?_
    exact aw_ret (endso_row 2 (by simp <;> rfl) rfl rfl (by simp) (by simp [Try.results36] <;> rfl) ⟨rfl, rfl⟩)
  refine aw_step [2] [5] (by simp [hro] <;> rfl) ?_   -- slices.go:362
  exact aw_ret (endso_row 5 (by simp <;> rfl) rfl rfl (by simpa using hfl) (by simp [Try.results36] <;> rfl) ⟨rfl, rfl⟩)

theorem copyRelease_ac (s v l : Int) (es : List V) (hfl : es.all flatE = true) (hsm : es.length ≤ 1000) : ACO Try.prog 27 [rel s v l (.ro 3 es)] 3 30 (fun F es' => (F = fun d q => rel s v l (.sl d q 3 es.length)) ∧ es' = es) := by
  refine aco_intro Try.func27 rfl (by show (1 : Nat) ≤ 8; omega) (fun w0 N0 => ?_)
  refine aw_step [1, 2] [1, 2] (by simp [Try.ntmps27, rel] <;> rfl) ?_   -- hold.go:21
  refine aw_seq (aw_region ?_)   -- hold.go:22
  refine awl_go 2 (by simp <;> rfl) ?_
  refine awl_callO1 5 (clone_ac es hfl hsm) Try.func36 rfl (by kernel_rfl) rfl rfl rfl rfl (by simp <;> rfl) (by simp <;> rfl) ?_
  refine awl_end [1, 2] [1, 2, 5] (by simp <;> rfl) ?_
  refine aw_step [2] [2, 5] (by simp <;> rfl) ?_   -- hold.go:23
  exact aw_ret (endso_row 5 (by simp <;> rfl) rfl rfl hfl (by simp [Try.results27] <;> rfl) ⟨rfl, rfl⟩)

/-- Why a change at a time is not possible. -/
def readyF (s l t : Int) : Int :=
  if (decide (t ≤ 0) || decide (t < l) || decide (1099511627776 < t)) = true then 15
  else if decide (s = 4) = true then 21 else 0
theorem ready_ac (s v l t : Int) (es : List V) : AC Try.prog 34 [rel s v l (.ro 3 es), .int .i64 t] (fun r => r = .int .i64 (readyF s l t)) := by
  refine ac_intro Try.func34 rfl (by show (2 : Nat) ≤ 20; omega) (fun w0 N0 => ?_)
  refine aw_step [1, 2] [2] (by simp [Try.ntmps34, rel] <;> rfl) ?_   -- hold.go:27
  refine aw_seq ?_
  refine aw_step [2, 16] [2] (by simp <;> rfl) ?_   -- hold.go:28
  refine aw_cond rfl (fun h1 => ?_) (fun h1 => aw_skip ?_)   -- if t16
  · refine aw_step [4] [] (by simp <;> rfl) ?_   -- hold.go:29
    refine aw_ret (ends_ret (by simp [Try.results34] <;> rfl) ?_)
    simp only [readyF, h1, if_true]
  refine aw_seq ?_
  refine aw_step [19] [] (by simp <;> rfl) ?_   -- hold.go:31
  refine aw_cond rfl (fun h2 => ?_) (fun h2 => aw_skip ?_)   -- if t19
  · refine aw_step [4] [] (by simp <;> rfl) ?_   -- hold.go:32
    refine aw_ret (ends_ret (by simp [Try.results34] <;> rfl) ?_)
    simp only [readyF, h1, h2, if_true, Bool.false_eq_true, if_false]
  refine aw_step [4] [] (by simp <;> rfl) ?_   -- hold.go:34
  refine aw_ret (ends_ret (by simp [Try.results34] <;> rfl) ?_)
  simp only [readyF, h1, h2, if_true, Bool.false_eq_true, if_false]

/-- What Place and Lift check in common. -/
def checkF (s v l r t : Int) (hs : List H3) : Int :=
  if validF s v l hs ≠ 0 then validF s v l hs else if rsn r = false then 1 else readyF s l t
theorem check_ac (s v l r t : Int) (hs : List H3) (es : List V) (hes : es = hs.map H3.v) : AC Try.prog 26 [rel s v l (.ro 3 es), .int .i64 r, .int .i64 t] (fun x => x = .int .i64 (checkF s v l r t hs)) := by
  refine ac_intro Try.func26 rfl (by show (3 : Nat) ≤ 19; omega) (fun w0 N0 => ?_)
  refine aw_step [1, 2, 3] [3] (by simp [Try.ntmps26, rel] <;> rfl) ?_   -- hold.go:38
  refine aw_seq ?_
  refine aw_seq (aw_region ?_)   -- hold.go:39
  refine awl_go 1 (by simp <;> rfl) ?_
  refine awl_call1 (valid_ac s v l hs es hes) Try.func14 rfl (by kernel_rfl) rfl rfl rfl rfl rfl (by simp <;> rfl) ?_
  refine awl_end [1, 2, 3, 7] [3] (by simp <;> rfl) ?_
  refine aw_step [1, 2, 3, 7, 11] [3] (by simp <;> rfl) ?_   -- hold.go:39
  refine aw_cond rfl (fun h1 => ?_) (fun h1 => aw_skip ?_)   -- if t11
  · refine aw_step [6] [] (by simp <;> rfl) ?_   -- hold.go:40
    refine aw_ret (ends_ret (by simp [Try.results26] <;> rfl) ?_)
    rw [checkF, if_pos (by simpa using h1)]
  have h1' : validF s v l hs = 0 := by simpa using h1
  refine aw_seq ?_
  refine aw_seq (aw_region ?_)   -- hold.go:42
  refine awl_go 1 (by simp <;> rfl) ?_
  refine awl_call1 (reasoned_ac r) Try.func30 rfl (by kernel_rfl) rfl rfl rfl rfl rfl (by simp <;> rfl) ?_
  refine awl_end [2, 3, 15] [3] (by simp <;> rfl) ?_
  refine aw_cond rfl (fun h2 => ?_) (fun h2 => aw_skip ?_)   -- if t15
  · refine aw_step [6] [] (by simp <;> rfl) ?_   -- hold.go:43
    refine aw_ret (ends_ret (by simp [Try.results26] <;> rfl) ?_)
    rw [checkF, if_neg (by simpa using h1'), if_pos (by simpa using h2)]
  refine aw_seq (aw_region ?_)   -- hold.go:45
  refine awl_go 2 (by simp <;> rfl) ?_
  refine awl_call1 (ready_ac s v l t es) Try.func34 rfl (by kernel_rfl) rfl rfl rfl rfl rfl (by simp <;> rfl) ?_
  refine awl_end [6] [] (by simp <;> rfl) ?_
  refine aw_ret (ends_ret (by simp [Try.results26] <;> rfl) ?_)
  rw [checkF, if_neg (by simpa using h1'), if_neg (by simpa using h2)]
end Go.Proofs.Ytjgngffbmfbdkaa
