/- Hold: Place and Lift. No condition. -/
import Derived.Test.YtjgngffbmfbdkaaHoldA
set_option linter.unusedSimpArgs false
namespace Go.Proofs.Ytjgngffbmfbdkaa
open Go.Eng

/-- A release record. -/
structure Rec where
  s : Int
  v : Int
  l : Int
  hs : List H3
def zeroR : Rec := ⟨0, 0, 0, []⟩
/-- A record and an error as results. -/
def recF (R : Rec) (e : Int) : Nat → Nat → V := fun d q => .tup [rel R.s R.v R.l (.sl d q 3 R.hs.length), .int .i64 e]

def placeE (s v l r t : Int) (hs : List H3) : Int := if checkF s v l r t hs ≠ 0 then checkF s v l r t hs else if decide ((20 : Int) ≤ hs.length) = true then 5 else 0
def placeR (s v l r t : Int) (hs : List H3) : Rec := if placeE s v l r t hs ≠ 0 then zeroR else ⟨s, v, t, hs ++ [⟨r, t, 0⟩]⟩

theorem place_ac (s v l r t : Int) (hs : List H3) (es : List V) (hes : es = hs.map H3.v) (hsm : es.length ≤ 200) :
    ACO Try.prog 9 [rel s v l (.ro 3 es), .int .i64 r, .int .i64 t] 3 30 (fun F es' => F = recF (placeR s v l r t hs) (placeE s v l r t hs) ∧ es' = (placeR s v l r t hs).hs.map H3.v) := by
  have hlen : es.length = hs.length := by rw [hes]; simp
  have hfl : es.all flatE = true := by rw [hes]; exact flatH hs
  have hro : es.length + 1 ≤ maxLen ∧ (es.length + 1) * 24 ≤ 140737488355328 := roomy (by omega)
  refine aco_intro Try.func9 rfl (by show (3 : Nat) ≤ 36; omega) (fun w0 N0 => ?_)
  refine aw_step [1, 2, 3, 6] [3, 6] (by simp [Try.ntmps9, rel] <;> rfl) ?_   -- hold.go:49
  refine aw_seq ?_
  refine aw_seq (aw_region ?_)   -- hold.go:50
  refine awl_go 3 (by simp <;> rfl) ?_
  refine awl_call1 (check_ac s v l r t hs es hes) Try.func26 rfl (by kernel_rfl) rfl rfl rfl rfl rfl (by simp <;> rfl) ?_
  refine awl_end [1, 2, 3, 6, 8] [3, 6] (by simp <;> rfl) ?_
  refine aw_step [1, 2, 3, 6, 8, 15] [3, 6] (by simp <;> rfl) ?_   -- hold.go:50
  refine aw_cond rfl (fun h1 => ?_) (fun h1 => aw_skip ?_)   -- if t15
  · refine aw_step [6, 7] [6] (by simp <;> rfl) ?_   -- hold.go:51
    refine aw_adoptC 6 3 100 3 30 [6, 7] [6, 100] (by simp <;> rfl) ?_
    have h1' : checkF s v l r t hs ≠ 0 := by simpa using h1
    have hE : placeE s v l r t hs = checkF s v l r t hs := by rw [placeE, if_pos h1']
    have hR : placeR s v l r t hs = zeroR := by rw [placeR, if_pos (by rw [hE]; exact h1')]
    refine aw_ret (endso_row 100 (by simp <;> rfl) rfl rfl (by simp) (by simp [Try.results9] <;> rfl) ?_)
    rw [hE, hR]
    exact ⟨rfl, rfl⟩
  have h1' : checkF s v l r t hs = 0 := by simpa using h1
  refine aw_seq ?_
  refine aw_step [1, 2, 3, 6, 21] [3, 6] (by simp <;> rfl) ?_   -- hold.go:53
  refine aw_cond rfl (fun h2 => ?_) (fun h2 => aw_skip ?_)   -- if t21
  · refine aw_step [6, 7] [6] (by simp <;> rfl) ?_   -- hold.go:54
    refine aw_adoptC 6 3 100 3 30 [6, 7] [6, 100] (by simp <;> rfl) ?_
    have hE : placeE s v l r t hs = 5 := by rw [placeE, if_neg (by simpa using h1'), if_pos (by rw [← hlen]; exact h2)]
    have hR : placeR s v l r t hs = zeroR := by rw [placeR, if_pos (by rw [hE]; simp)]
    refine aw_ret (endso_row 100 (by simp <;> rfl) rfl rfl (by simp) (by simp [Try.results9] <;> rfl) ?_)
    rw [hE, hR]
    exact ⟨rfl, rfl⟩
  have hE : placeE s v l r t hs = 0 := by rw [placeE, if_neg (by simpa using h1'), if_neg (by rw [← hlen, h2]; simp)]
  have hR : placeR s v l r t hs = ⟨s, v, t, hs ++ [⟨r, t, 0⟩]⟩ := by rw [placeR, if_neg (by rw [hE]; simp)]
  refine aw_seq (aw_region ?_)   -- hold.go:56
  refine awl_go 1 (by simp <;> rfl) ?_
  refine awl_callO1 100 (copyRelease_ac s v l es hfl (by omega)) Try.func27 rfl (by kernel_rfl) rfl rfl rfl rfl (by simp <;> rfl) (by simp [rel] <;> rfl) ?_
  refine awl_end [1, 2, 6, 9] [6, 9, 100] (by simp <;> rfl) ?_
  refine aw_step [2, 6, 9] [6, 9, 100] (by simp [hro] <;> rfl) ?_   -- hold.go:57
  refine aw_step [6, 9] [6, 9, 100] (by simp <;> rfl) ?_   -- hold.go:58
  refine aw_step [6, 7] [6, 100] (by simp <;> rfl) ?_   -- hold.go:59
  refine aw_ret (endso_row 100 (by simp <;> rfl) rfl rfl (by simp [hfl]) (by simp [Try.results9] <;> rfl) ?_)
  rw [hE, hR]
  exact ⟨by funext d q; simp [recF, hlen, rel], by simp [hes, H3.v]⟩

/-- A hold that is lifted if it stands for the reason. -/
def lift1 (r t : Int) (h : H3) : H3 := if (decide (h.r = r) && decide (h.u = 0)) = true then ⟨h.r, h.f, t⟩ else h
def hit (r : Int) (h : H3) : Bool := decide (h.r = r) && decide (h.u = 0)
def liftK (r t : Int) (hs : List H3) (k : Nat) : List H3 := (hs.take k).map (lift1 r t) ++ hs.drop k
def liftE (s v l r t : Int) (hs : List H3) : Int := if checkF s v l r t hs ≠ 0 then checkF s v l r t hs else if hs.any (hit r) = false then 6 else 0
def liftR (s v l r t : Int) (hs : List H3) : Rec := if liftE s v l r t hs ≠ 0 then zeroR else ⟨s, v, t, hs.map (lift1 r t)⟩

theorem liftK_len (r t : Int) (hs : List H3) (k : Nat) : (liftK r t hs k).length = hs.length := by
  simp [liftK]; omega
theorem liftK_get (r t : Int) (hs : List H3) (k : Nat) (h : k < hs.length) : (liftK r t hs k)[k]? = some hs[k] := by
  unfold liftK
  rw [List.getElem?_append_right (by simp; omega)]
  simp [Nat.min_eq_left (Nat.le_of_lt h), h]
theorem liftK_succ (r t : Int) (hs : List H3) (k : Nat) (h : k < hs.length) : liftK r t hs (k + 1) = (liftK r t hs k).set k (lift1 r t hs[k]) := by
  unfold liftK
  rw [List.take_succ_eq_append_getElem h, List.map_append, List.set_append_right _ _ (by simp; omega)]
  simp only [List.length_map, List.length_take, Nat.min_eq_left (Nat.le_of_lt h), Nat.sub_self]
  rw [List.drop_eq_getElem_cons h, List.set_cons_zero]
  simp
theorem any_succ (p : H3 → Bool) (hs : List H3) (k : Nat) (h : k < hs.length) : (hs.take (k + 1)).any p = ((hs.take k).any p || p hs[k]) := by
  rw [List.take_succ_eq_append_getElem h, List.any_append]; simp

set_option maxHeartbeats 1000000 in
theorem lift_ac (s v l r t : Int) (hs : List H3) (es : List V) (hes : es = hs.map H3.v) (hsm : es.length ≤ 200) :
    ACO Try.prog 12 [rel s v l (.ro 3 es), .int .i64 r, .int .i64 t] 3 30 (fun F es' => F = recF (liftR s v l r t hs) (liftE s v l r t hs) ∧ es' = (liftR s v l r t hs).hs.map H3.v) := by
  have hlen : es.length = hs.length := by rw [hes]; simp
  have hfl : es.all flatE = true := by rw [hes]; exact flatH hs
  refine aco_intro Try.func12 rfl (by show (3 : Nat) ≤ 53; omega) (fun w0 N0 => ?_)
  refine aw_step [1, 2, 3, 6] [3, 6] (by simp [Try.ntmps12, rel] <;> rfl) ?_   -- hold.go:63
  refine aw_seq ?_
  refine aw_seq (aw_region ?_)   -- hold.go:64
  refine awl_go 3 (by simp <;> rfl) ?_
  refine awl_call1 (check_ac s v l r t hs es hes) Try.func26 rfl (by kernel_rfl) rfl rfl rfl rfl rfl (by simp <;> rfl) ?_
  refine awl_end [1, 2, 3, 6, 8] [3, 6] (by simp <;> rfl) ?_
  refine aw_step [1, 2, 3, 6, 8, 18] [3, 6] (by simp <;> rfl) ?_   -- hold.go:64
  refine aw_cond rfl (fun h1 => ?_) (fun h1 => aw_skip ?_)   -- if t18
  · refine aw_step [6, 7] [6] (by simp <;> rfl) ?_   -- hold.go:65
    refine aw_adoptC 6 3 100 3 30 [6, 7] [6, 100] (by simp <;> rfl) ?_
    have h1' : checkF s v l r t hs ≠ 0 := by simpa using h1
    have hE : liftE s v l r t hs = checkF s v l r t hs := by rw [liftE, if_pos h1']
    have hR : liftR s v l r t hs = zeroR := by rw [liftR, if_pos (by rw [hE]; exact h1')]
    refine aw_ret (endso_row 100 (by simp <;> rfl) rfl rfl (by simp) (by simp [Try.results12] <;> rfl) ?_)
    rw [hE, hR]
    exact ⟨rfl, rfl⟩
  have h1' : checkF s v l r t hs = 0 := by simpa using h1
  refine aw_seq (aw_region ?_)   -- hold.go:67
  refine awl_go 1 (by simp <;> rfl) ?_
  refine awl_callO1 100 (copyRelease_ac s v l es hfl (by omega)) Try.func27 rfl (by kernel_rfl) rfl rfl rfl rfl (by simp <;> rfl) (by simp [rel] <;> rfl) ?_
  refine awl_end [1, 2, 6, 9] [6, 9, 100] (by simp <;> rfl) ?_
  refine aw_step [1, 2, 6, 9, 10] [6, 9, 100] (by simp <;> rfl) ?_   -- hold.go:68
  refine aw_seq ?_
  refine aw_step [1, 2, 6, 9, 10, 24, 25, 26] [6, 9, 100] (by simp <;> rfl) ?_   -- hold.go:69
  refine aw_block ?_
  refine aw_count (fun k nx => ⟨[(1, .int .i64 r), (2, .int .i64 t), (6, .bp 6 1 4 0 0), (9, .bp 9 12 4 0 0), (10, .bool ((hs.take k).any (hit r))), (24, .sl 100 11 3 es.length), (25, .int .i64 es.length), (26, .int .i64 k)],
    [(6, ⟨1, 4, 24, [.agg [.int .i64 0, .int .i64 0, .int .i64 0, .nils]]⟩), (9, ⟨12, 4, 24, [.agg [.int .i64 s, .int .i64 v, .int .i64 l, .sl 100 11 3 es.length]]⟩), (100, ⟨11, 3, 30, (liftK r t hs k).map H3.v⟩)], nx, 53⟩) (fun _ => True) hs.length 19 trivial (by rw [show (liftK r t hs 0).map H3.v = es by rw [hes]; simp [liftK]]; exact AS.le_refl _) ?_
  intro k nx hk _
  refine aw_step [1, 2, 6, 9, 10, 24, 25, 26, 27] [6, 9, 100] (by simp <;> rfl) ?_   -- hold.go:69
  refine aw_seq ?_
  refine aw_cond rfl (fun h2 => aw_skip ?_) (fun h2 => ?_)   -- if t27
  · have hlt : k < hs.length := by simp at h2; omega
    have hw := wrap_succ (k := k) (by omega)
    have hget := liftK_get r t hs k hlt
    have hsucc := liftK_succ r t hs k hlt
    have hany := any_succ (hit r) hs k hlt
    have hkl := liftK_len r t hs k
    generalize hs[k] = h at hget hsucc hany
    generalize hek : (liftK r t hs k).map H3.v = ek
    have hel : ek.length = es.length := by rw [← hek, List.length_map, hkl, hlen]
    have hel' : k < es.length := by omega
    have heg : nth ek k = some (H3.v h) := by rw [nth_eq, ← hek]; simp [hget]
    have hes' : (liftK r t hs (k + 1)).map H3.v = ek.set k (H3.v (lift1 r t h)) := by rw [hsucc, ← hek, List.map_set]
    refine aw_seq ?_
    refine aw_block ?_
    refine aw_step [1, 2, 6, 9, 10, 11, 12, 24, 25, 26] [6, 9, 12, 100] (by simp [hel, hel', heg, H3.v] <;> rfl) ?_   -- hold.go:69
    refine aw_step [1, 2, 6, 9, 10, 11, 24, 25, 26, 39] [6, 9, 100] (by simp <;> rfl) ?_   -- hold.go:70
    refine aw_cond rfl (fun h3 => ?_) (fun h3 => aw_skip ?_)   -- if t39
    · refine aw_step [1, 2, 6, 9, 24, 25, 26] [6, 9, 100] (by simp [hel, hel', heg, H3.v] <;> rfl) ?_   -- hold.go:71
      refine aw_one [1, 2, 6, 9, 10, 24, 25, 26] [6, 9, 100] (by simp <;> rfl) ?_   -- hold.go:72
      refine aw_one [1, 2, 6, 9, 10, 24, 25, 26] [6, 9, 100] (by simp [hw] <;> rfl) ?_   -- hold.go:69
      exact ⟨hlt, trivial, _, by
        rw [hes', hany, show lift1 r t h = ⟨h.r, h.f, t⟩ by rw [lift1, if_pos h3], show hit r h = true from h3, Bool.or_true]
        exact AS.le_refl _⟩
    refine aw_one [1, 2, 6, 9, 10, 24, 25, 26] [6, 9, 100] (by simp [hw] <;> rfl) ?_   -- hold.go:69
    have hid : ek.set k (H3.v h) = ek := by
      apply List.ext_getElem?
      intro i
      rw [List.getElem?_set]
      split
      · rename_i e
        subst e
        rw [nth_eq] at heg
        rw [heg, if_pos (by omega)]
      · rfl
    exact ⟨hlt, trivial, _, by
      rw [hes', hany, show lift1 r t h = h by rw [lift1, if_neg (by rw [h3]; simp)], show hit r h = false from h3, Bool.or_false, hid]
      exact AS.le_refl _⟩
  · refine aw_exit ?_
    have hk' : k = hs.length := by simp at h2; omega
    subst hk'
    have hall : liftK r t hs hs.length = hs.map (lift1 r t) := by simp [liftK]
    obtain ⟨ef, hef⟩ : ∃ ef, ef = (hs.map (lift1 r t)).map H3.v := ⟨_, rfl⟩
    have hefl : ef.all flatE = true := by rw [hef]; exact flatH _
    rw [hall, List.take_length, ← hef]
    refine aw_seq ?_
    refine aw_step [2, 6, 9, 48] [6, 9, 100] (by simp <;> rfl) ?_   -- hold.go:75
    refine aw_cond rfl (fun h4 => ?_) (fun h4 => aw_skip ?_)   -- if t48
    · refine aw_step [6, 7] [6] (by simp <;> rfl) ?_   -- hold.go:76
      refine aw_adoptC 6 3 100 3 30 [6, 7] [6, 100] (by simp <;> rfl) ?_
      have hE : liftE s v l r t hs = 6 := by rw [liftE, if_neg (by simpa using h1'), if_pos (by simpa using h4)]
      have hR : liftR s v l r t hs = zeroR := by rw [liftR, if_pos (by rw [hE]; simp)]
      refine aw_ret (endso_row 100 (by simp <;> rfl) rfl rfl (by simp) (by simp [Try.results12] <;> rfl) ?_)
      rw [hE, hR]
      exact ⟨rfl, rfl⟩
    have hE : liftE s v l r t hs = 0 := by rw [liftE, if_neg (by simpa using h1'), if_neg (by simpa using h4)]
    have hR : liftR s v l r t hs = ⟨s, v, t, hs.map (lift1 r t)⟩ := by rw [liftR, if_neg (by rw [hE]; simp)]
    refine aw_step [6, 9] [6, 9, 100] (by simp <;> rfl) ?_   -- hold.go:78
    refine aw_step [6, 7] [6, 100] (by simp <;> rfl) ?_   -- hold.go:79
    refine aw_ret (endso_row 100 (by simp <;> rfl) rfl rfl hefl (by simp [Try.results12] <;> rfl) ?_)
    rw [hE, hR]
    exact ⟨by funext d q; simp [recF, hlen, rel], hef⟩
end Go.Proofs.Ytjgngffbmfbdkaa
