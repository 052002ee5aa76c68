/- Hold: Publish and Void, and the reference's. No condition. -/
import Derived.Test.YtjgngffbmfbdkaaHoldW
set_option linter.unusedSimpArgs false
namespace Go.Proofs.Ytjgngffbmfbdkaa
open Go.Eng

theorem valid_zero {s v l : Int} {hs : List H3} (h : validF s v l hs = 0) : 1 ≤ s ∧ s ≤ 4 ∧ 0 ≤ v ∧ v ≤ 9999999 ∧ 0 ≤ l ∧ l ≤ 1099511627776 ∧ hs.length ≤ 20 ∧ hsErr l hs = 0 ∧ (s = 1 → v = 0) ∧ (s = 2 → v = 1) ∧ (s = 3 → 2 ≤ v) := by
  unfold validF at h
  split at h
  · cases h
  rename_i h1
  split at h
  · cases h
  rename_i h2
  split at h
  · cases h
  rename_i h3
  split at h
  · rename_i h4; exact absurd h h4
  rename_i h4
  split at h
  · cases h
  rename_i h5
  simp at h1 h2 h3 h4 h5
  refine ⟨by omega, by omega, by omega, by omega, by omega, by omega, by omega, h4, ?_, ?_, ?_⟩
  · intro h; exact h5.1.1 h
  · intro h; exact h5.1.2 h
  · intro h; exact h5.2 h

def preE (s v l t : Int) (hs : List H3) : Int := if validF s v l hs ≠ 0 then validF s v l hs else readyF s l t
def voidR (s v l t : Int) (hs : List H3) : Rec := if preE s v l t hs ≠ 0 then zeroR else ⟨4, v, t, hs⟩
def pubE (s v l t : Int) (hs : List H3) : Int := if preE s v l t hs ≠ 0 then preE s v l t hs else if decide ((0 : Int) < (openF hs).length) = true then 16 else if decide (v = 9999999) = true then 3 else 0
def pubR (s v l t : Int) (hs : List H3) : Rec := if pubE s v l t hs ≠ 0 then zeroR else ⟨if decide (s = 1) = true then 2 else 3, v + 1, t, hs⟩

set_option maxHeartbeats 1000000 in
theorem void_ac (s v l t : Int) (hs : List H3) (es : List V) (hes : es = hs.map H3.v) (hsm : es.length ≤ 200) :
    ACO Try.prog 23 [rel s v l (.ro 3 es), .int .i64 t] 3 30 (fun F es' => F = recF (voidR s v l t hs) (preE s v l t hs) ∧ es' = (voidR s v l t hs).hs.map H3.v) := by
  have hlen : es.length = hs.length := by rw [hes]; simp
  have hfl : es.all flatE = true := by rw [hes]; exact flatH hs
  refine aco_intro Try.func23 rfl (by show (2 : Nat) ≤ 28; omega) (fun w0 N0 => ?_)
  refine aw_step [1, 2, 4] [2, 4] (by simp [Try.ntmps23, rel] <;> rfl) ?_   -- hold.go:108
  refine aw_seq ?_
  refine aw_seq (aw_region ?_)   -- hold.go:109
  refine awl_go 1 (by simp <;> rfl) ?_
  refine awl_call1 (valid_ac s v l hs es hes) Try.func14 rfl (by kernel_rfl) rfl rfl rfl rfl rfl (by simp <;> rfl) ?_
  refine awl_end [1, 2, 4, 6] [2, 4] (by simp <;> rfl) ?_
  refine aw_step [1, 2, 4, 6, 12] [2, 4] (by simp <;> rfl) ?_   -- hold.go:109
  refine aw_cond rfl (fun h1 => ?_) (fun h1 => aw_skip ?_)   -- if t12
  · refine aw_step [4, 5] [4] (by simp <;> rfl) ?_   -- hold.go:110
    refine aw_adoptC 4 3 100 3 30 [4, 5] [4, 100] (by simp <;> rfl) ?_
    have h1' : validF s v l hs ≠ 0 := by simpa using h1
    have hE : preE s v l t hs = validF s v l hs := by rw [preE, if_pos h1']
    have hR : voidR s v l t hs = zeroR := by rw [voidR, if_pos (by rw [hE]; exact h1')]
    refine aw_ret (endso_row 100 (by simp <;> rfl) rfl rfl (by simp) (by simp [Try.results23] <;> rfl) ?_)
    rw [hE, hR]
    exact ⟨rfl, rfl⟩
  have h1' : validF s v l hs = 0 := by simpa using h1
  have hE : preE s v l t hs = readyF s l t := by rw [preE, if_neg (by simpa using h1')]
  refine aw_seq ?_
  refine aw_seq (aw_region ?_)   -- hold.go:112
  refine awl_go 2 (by simp <;> rfl) ?_
  refine awl_call1 (ready_ac s v l t es) Try.func34 rfl (by kernel_rfl) rfl rfl rfl rfl rfl (by simp <;> rfl) ?_
  refine awl_end [1, 2, 4, 7] [2, 4] (by simp <;> rfl) ?_
  refine aw_step [1, 2, 4, 7, 19] [2, 4] (by simp <;> rfl) ?_   -- hold.go:112
  refine aw_cond rfl (fun h2 => ?_) (fun h2 => aw_skip ?_)   -- if t19
  · refine aw_step [4, 5] [4] (by simp <;> rfl) ?_   -- hold.go:113
    refine aw_adoptC 4 3 100 3 30 [4, 5] [4, 100] (by simp <;> rfl) ?_
    have hR : voidR s v l t hs = zeroR := by rw [voidR, if_pos (by rw [hE]; simpa using h2)]
    refine aw_ret (endso_row 100 (by simp <;> rfl) rfl rfl (by simp) (by simp [Try.results23] <;> rfl) ?_)
    rw [hE, hR]
    exact ⟨rfl, rfl⟩
  have h2' : readyF s l t = 0 := by simpa using h2
  have hR : voidR s v l t hs = ⟨4, v, t, hs⟩ := by rw [voidR, if_neg (by rw [hE]; simpa using h2')]
  refine aw_seq (aw_region ?_)   -- hold.go:115
  refine awl_go 1 (by simp <;> rfl) ?_
  refine awl_callO1 100 (copyRelease_ac s v l es hfl (by omega)) Try.func27 rfl (by kernel_rfl) rfl rfl rfl rfl (by simp <;> rfl) (by simp [rel] <;> rfl) ?_
  refine awl_end [1, 4, 8] [4, 8, 100] (by simp <;> rfl) ?_
  refine aw_step [1, 4, 8] [4, 8, 100] (by simp <;> rfl) ?_   -- hold.go:116
  refine aw_step [4, 8] [4, 8, 100] (by simp <;> rfl) ?_   -- hold.go:117
  refine aw_step [4, 5] [4, 100] (by simp <;> rfl) ?_   -- hold.go:118
  refine aw_ret (endso_row 100 (by simp <;> rfl) rfl rfl hfl (by simp [Try.results23] <;> rfl) ?_)
  rw [hE, hR, h2']
  exact ⟨by funext d q; simp [recF, hlen, rel], hes⟩

set_option maxHeartbeats 1000000 in
theorem refVoid_ac (s v l t : Int) (hs : List H3) (es : List V) (hes : es = hs.map H3.v) (hsm : es.length ≤ 200) :
    ACO Try.prog 24 [rel s v l (.ro 3 es), .int .i64 t] 3 30 (fun F es' => F = recF (voidR s v l t hs) (preE s v l t hs) ∧ es' = (voidR s v l t hs).hs.map H3.v) := by
  have hlen : es.length = hs.length := by rw [hes]; simp
  have hfl : es.all flatE = true := by rw [hes]; exact flatH hs
  refine aco_intro Try.func24 rfl (by show (2 : Nat) ≤ 24; omega) (fun w0 N0 => ?_)
  refine aw_step [1, 2, 4] [2, 4] (by simp [Try.ntmps24, rel] <;> rfl) ?_   -- ref.go:140
  refine aw_seq (aw_region ?_)   -- ref.go:141
  refine awl_go 1 (by simp <;> rfl) ?_
  refine awl_call1 (refValid_ac s v l hs es hes) Try.func15 rfl (by kernel_rfl) rfl rfl rfl rfl rfl (by simp <;> rfl) ?_
  refine awl_end [1, 2, 4, 6] [2, 4] (by simp <;> rfl) ?_
  refine aw_seq ?_
  refine aw_step [1, 2, 4, 6, 11] [2, 4] (by simp <;> rfl) ?_   -- ref.go:142
  refine aw_cond rfl (fun h1 => ?_) (fun h1 => aw_skip ?_)   -- if t11
  · have h1' : validF s v l hs = 0 := by simpa using h1
    have hE : preE s v l t hs = readyF s l t := by rw [preE, if_neg (by simpa using h1')]
    refine aw_region ?_   -- ref.go:143
    refine awl_go 2 (by simp <;> rfl) ?_
    refine awl_call1 (change_ac s v l t es) Try.func35 rfl (by kernel_rfl) rfl rfl rfl rfl rfl (by simp <;> rfl) ?_
    refine awl_end [1, 2, 4, 6] [2, 4] (by simp <;> rfl) ?_
    refine aw_seq ?_
    refine aw_step [1, 2, 4, 6, 16] [2, 4] (by simp <;> rfl) ?_   -- ref.go:145
    refine aw_cond rfl (fun h2 => ?_) (fun h2 => aw_skip ?_)   -- if t16
    · refine aw_step [4, 5] [4] (by simp <;> rfl) ?_   -- ref.go:146
      refine aw_adoptC 4 3 100 3 30 [4, 5] [4, 100] (by simp <;> rfl) ?_
      have hR : voidR s v l t hs = zeroR := by rw [voidR, if_pos (by rw [hE]; simpa using h2)]
      refine aw_ret (endso_row 100 (by simp <;> rfl) rfl rfl (by simp) (by simp [Try.results24] <;> rfl) ?_)
      rw [hE, hR]
      exact ⟨rfl, rfl⟩
    have h2' : readyF s l t = 0 := by simpa using h2
    have hR : voidR s v l t hs = ⟨4, v, t, hs⟩ := by rw [voidR, if_neg (by rw [hE]; simpa using h2')]
    refine aw_seq (aw_region ?_)   -- ref.go:148
    refine awl_go 2 (by simp <;> rfl) ?_
    refine awl_callO1 100 (at_ac s v l t es hfl (cellH hes) hsm) Try.func29 rfl (by kernel_rfl) rfl rfl rfl rfl (by simp <;> rfl) (by simp [rel] <;> rfl) ?_
    refine awl_end [4, 7] [4, 7, 100] (by simp <;> rfl) ?_
    refine aw_step [4, 7] [4, 7, 100] (by simp <;> rfl) ?_   -- ref.go:149
    refine aw_step [4, 5] [4, 100] (by simp <;> rfl) ?_   -- ref.go:150
    refine aw_ret (endso_row 100 (by simp <;> rfl) rfl rfl hfl (by simp [Try.results24] <;> rfl) ?_)
    rw [hE, hR, h2']
    exact ⟨by funext d q; simp [recF, hlen, rel], hes⟩
  have h1' : validF s v l hs ≠ 0 := by simpa using h1
  have hE : preE s v l t hs = validF s v l hs := by rw [preE, if_pos h1']
  have hR : voidR s v l t hs = zeroR := by rw [voidR, if_pos (by rw [hE]; exact h1')]
  refine aw_seq ?_
  refine aw_step [1, 2, 4, 6, 16] [2, 4] (by simp <;> rfl) ?_   -- ref.go:145
  refine aw_cond rfl (fun h3 => ?_) (fun h3 => absurd (by simpa using h3) h1')   -- if t16
  refine aw_step [4, 5] [4] (by simp <;> rfl) ?_   -- ref.go:146
  refine aw_adoptC 4 3 100 3 30 [4, 5] [4, 100] (by simp <;> rfl) ?_
  refine aw_ret (endso_row 100 (by simp <;> rfl) rfl rfl (by simp) (by simp [Try.results24] <;> rfl) ?_)
  rw [hE, hR]
  exact ⟨rfl, rfl⟩

theorem wrap_up {v : Int} (h0 : 0 ≤ v) (h1 : v ≤ 9999999) : IntKind.i64.wrap (v + 1) = v + 1 := by
  rw [IntKind.wrap_i64]; omega

set_option maxHeartbeats 2000000 in
theorem publish_ac (s v l t : Int) (hs : List H3) (es : List V) (hes : es = hs.map H3.v) (hsm : es.length ≤ 200) :
    ACO Try.prog 21 [rel s v l (.ro 3 es), .int .i64 t] 3 30 (fun F es' => F = recF (pubR s v l t hs) (pubE s v l t hs) ∧ es' = (pubR s v l t hs).hs.map H3.v) := by
  have hlen : es.length = hs.length := by rw [hes]; simp
  have hfl : es.all flatE = true := by rw [hes]; exact flatH hs
  refine aco_intro Try.func21 rfl (by show (2 : Nat) ≤ 45; omega) (fun w0 N0 => ?_)
  refine aw_step [1, 2, 4] [2, 4] (by simp [Try.ntmps21, rel] <;> rfl) ?_   -- hold.go:83
  refine aw_seq ?_
  refine aw_seq (aw_region ?_)   -- hold.go:84
  refine awl_go 1 (by simp <;> rfl) ?_
  refine awl_call1 (valid_ac s v l hs es hes) Try.func14 rfl (by kernel_rfl) rfl rfl rfl rfl rfl (by simp <;> rfl) ?_
  refine awl_end [1, 2, 4, 6] [2, 4] (by simp <;> rfl) ?_
  refine aw_step [1, 2, 4, 6, 12] [2, 4] (by simp <;> rfl) ?_   -- hold.go:84
  refine aw_cond rfl (fun h1 => ?_) (fun h1 => aw_skip ?_)   -- if t12
  · refine aw_step [4, 5] [4] (by simp <;> rfl) ?_   -- hold.go:85
    refine aw_adoptC 4 3 100 3 30 [4, 5] [4, 100] (by simp <;> rfl) ?_
    have h1' : validF s v l hs ≠ 0 := by simpa using h1
    have hP : preE s v l t hs = validF s v l hs := by rw [preE, if_pos h1']
    have hE : pubE s v l t hs = validF s v l hs := by rw [pubE, if_pos (by rw [hP]; exact h1'), hP]
    have hR : pubR s v l t hs = zeroR := by rw [pubR, if_pos (by rw [hE]; exact h1')]
    refine aw_ret (endso_row 100 (by simp <;> rfl) rfl rfl (by simp) (by simp [Try.results21] <;> rfl) ?_)
    rw [hE, hR]
    exact ⟨rfl, rfl⟩
  have h1' : validF s v l hs = 0 := by simpa using h1
  have hP : preE s v l t hs = readyF s l t := by rw [preE, if_neg (by simpa using h1')]
  obtain ⟨v1, v2, v3, v4, v5, v6, v7, _⟩ := valid_zero h1'
  refine aw_seq ?_
  refine aw_seq (aw_region ?_)   -- hold.go:87
  refine awl_go 2 (by simp <;> rfl) ?_
  refine awl_call1 (ready_ac s v l t es) Try.func34 rfl (by kernel_rfl) rfl rfl rfl rfl rfl (by simp <;> rfl) ?_
  refine awl_end [1, 2, 4, 7] [2, 4] (by simp <;> rfl) ?_
  refine aw_step [1, 2, 4, 7, 19] [2, 4] (by simp <;> rfl) ?_   -- hold.go:87
  refine aw_cond rfl (fun h2 => ?_) (fun h2 => aw_skip ?_)   -- if t19
  · refine aw_step [4, 5] [4] (by simp <;> rfl) ?_   -- hold.go:88
    refine aw_adoptC 4 3 100 3 30 [4, 5] [4, 100] (by simp <;> rfl) ?_
    have h2' : readyF s l t ≠ 0 := by simpa using h2
    have hE : pubE s v l t hs = readyF s l t := by rw [pubE, if_pos (by rw [hP]; exact h2'), hP]
    have hR : pubR s v l t hs = zeroR := by rw [pubR, if_pos (by rw [hE]; exact h2')]
    refine aw_ret (endso_row 100 (by simp <;> rfl) rfl rfl (by simp) (by simp [Try.results21] <;> rfl) ?_)
    rw [hE, hR]
    exact ⟨rfl, rfl⟩
  have h2' : readyF s l t = 0 := by simpa using h2
  have hP0 : ¬ preE s v l t hs ≠ 0 := by rw [hP, h2']; simp
  have hol := nums_len (openF hs)
  have hop := openP_ac s v l hs es hes hsm
  generalize hro : nums (openF hs) = ro at hol hop
  refine aw_seq ?_
  refine aw_seq (aw_region ?_)   -- hold.go:90
  refine awl_go 1 (by simp <;> rfl) ?_
  refine awl_call1 hop Try.func17 rfl (by kernel_rfl) rfl rfl rfl rfl rfl (by simp <;> rfl) ?_
  refine awl_end [1, 2, 4, 25] [2, 4] (by simp [hol] <;> rfl) ?_
  refine aw_cond rfl (fun h3 => ?_) (fun h3 => aw_skip ?_)   -- if t25
  · refine aw_step [4, 5] [4] (by simp <;> rfl) ?_   -- hold.go:91
    refine aw_adoptC 4 3 100 3 30 [4, 5] [4, 100] (by simp <;> rfl) ?_
    have hE : pubE s v l t hs = 16 := by rw [pubE, if_neg hP0, if_pos (by simpa using h3)]
    have hR : pubR s v l t hs = zeroR := by rw [pubR, if_pos (by rw [hE]; simp)]
    refine aw_ret (endso_row 100 (by simp <;> rfl) rfl rfl (by simp) (by simp [Try.results21] <;> rfl) ?_)
    rw [hE, hR]
    exact ⟨rfl, rfl⟩
  refine aw_seq ?_
  refine aw_step [1, 2, 4, 29] [2, 4] (by simp <;> rfl) ?_   -- hold.go:93
  refine aw_cond rfl (fun h4 => ?_) (fun h4 => aw_skip ?_)   -- if t29
  · refine aw_step [4, 5] [4] (by simp <;> rfl) ?_   -- hold.go:94
    refine aw_adoptC 4 3 100 3 30 [4, 5] [4, 100] (by simp <;> rfl) ?_
    have hE : pubE s v l t hs = 3 := by rw [pubE, if_neg hP0, if_neg (by simpa using h3), if_pos h4]
    have hR : pubR s v l t hs = zeroR := by rw [pubR, if_pos (by rw [hE]; simp)]
    refine aw_ret (endso_row 100 (by simp <;> rfl) rfl rfl (by simp) (by simp [Try.results21] <;> rfl) ?_)
    rw [hE, hR]
    exact ⟨rfl, rfl⟩
  have hE : pubE s v l t hs = 0 := by rw [pubE, if_neg hP0, if_neg (by simpa using h3), if_neg (by rw [h4]; simp)]
  have hw := wrap_up v3 v4
  refine aw_seq (aw_region ?_)   -- hold.go:96
  refine awl_go 1 (by simp <;> rfl) ?_
  refine awl_callO1 100 (copyRelease_ac s v l es hfl (by omega)) Try.func27 rfl (by kernel_rfl) rfl rfl rfl rfl (by simp <;> rfl) (by simp [rel] <;> rfl) ?_
  refine awl_end [1, 2, 4, 8] [2, 4, 8, 100] (by simp <;> rfl) ?_
  refine aw_seq ?_
  refine aw_step [1, 4, 8, 35] [4, 8, 100] (by simp <;> rfl) ?_   -- hold.go:97
  refine aw_cond rfl (fun h5 => ?_) (fun h5 => ?_)   -- if t35
  · refine aw_one [1, 4, 8] [4, 8, 100] (by simp <;> rfl) ?_   -- hold.go:98
    refine aw_step [1, 4, 8] [4, 8, 100] (by simp [hw] <;> rfl) ?_   -- hold.go:102
    refine aw_step [4, 8] [4, 8, 100] (by simp <;> rfl) ?_   -- hold.go:103
    refine aw_step [4, 5] [4, 100] (by simp <;> rfl) ?_   -- hold.go:104
    refine aw_ret (endso_row 100 (by simp <;> rfl) rfl rfl hfl (by simp [Try.results21] <;> rfl) ?_)
    have hR : pubR s v l t hs = ⟨2, v + 1, t, hs⟩ := by rw [pubR, if_neg (by rw [hE]; simp), if_pos h5]
    rw [hE, hR]
    exact ⟨by funext d q; simp [recF, hlen, rel], hes⟩
  · refine aw_one [1, 4, 8] [4, 8, 100] (by simp <;> rfl) ?_   -- hold.go:100
    refine aw_step [1, 4, 8] [4, 8, 100] (by simp [hw] <;> rfl) ?_   -- hold.go:102
    refine aw_step [4, 8] [4, 8, 100] (by simp <;> rfl) ?_   -- hold.go:103
    refine aw_step [4, 5] [4, 100] (by simp <;> rfl) ?_   -- hold.go:104
    refine aw_ret (endso_row 100 (by simp <;> rfl) rfl rfl hfl (by simp [Try.results21] <;> rfl) ?_)
    have hR : pubR s v l t hs = ⟨3, v + 1, t, hs⟩ := by rw [pubR, if_neg (by rw [hE]; simp), if_neg (by rw [h5]; simp)]
    rw [hE, hR]
    exact ⟨by funext d q; simp [recF, hlen, rel], hes⟩

set_option maxHeartbeats 2000000 in
theorem refPublish_ac (s v l t : Int) (hs : List H3) (es : List V) (hes : es = hs.map H3.v) (hsm : es.length ≤ 200) :
    ACO Try.prog 22 [rel s v l (.ro 3 es), .int .i64 t] 3 30 (fun F es' => F = recF (pubR s v l t hs) (pubE s v l t hs) ∧ es' = (pubR s v l t hs).hs.map H3.v) := by
  have hlen : es.length = hs.length := by rw [hes]; simp
  have hfl : es.all flatE = true := by rw [hes]; exact flatH hs
  refine aco_intro Try.func22 rfl (by show (2 : Nat) ≤ 41; omega) (fun w0 N0 => ?_)
  refine aw_step [1, 2, 4] [2, 4] (by simp [Try.ntmps22, rel] <;> rfl) ?_   -- ref.go:116
  refine aw_seq (aw_region ?_)   -- ref.go:117
  refine awl_go 1 (by simp <;> rfl) ?_
  refine awl_call1 (refValid_ac s v l hs es hes) Try.func15 rfl (by kernel_rfl) rfl rfl rfl rfl rfl (by simp <;> rfl) ?_
  refine awl_end [1, 2, 4, 6] [2, 4] (by simp <;> rfl) ?_
  refine aw_seq ?_
  refine aw_step [1, 2, 4, 6, 11] [2, 4] (by simp <;> rfl) ?_   -- ref.go:118
  refine aw_cond rfl (fun h1 => ?_) (fun h1 => aw_skip ?_)   -- if t11
  · have h1' : validF s v l hs = 0 := by simpa using h1
    have hP : preE s v l t hs = readyF s l t := by rw [preE, if_neg (by simpa using h1')]
    obtain ⟨v1, v2, v3, v4, v5, v6, v7, _⟩ := valid_zero h1'
    refine aw_region ?_   -- ref.go:119
    refine awl_go 2 (by simp <;> rfl) ?_
    refine awl_call1 (change_ac s v l t es) Try.func35 rfl (by kernel_rfl) rfl rfl rfl rfl rfl (by simp <;> rfl) ?_
    refine awl_end [1, 2, 4, 6] [2, 4] (by simp <;> rfl) ?_
    refine aw_seq ?_
    refine aw_step [1, 2, 4, 6, 16] [2, 4] (by simp <;> rfl) ?_   -- ref.go:121
    refine aw_cond rfl (fun h2 => ?_) (fun h2 => aw_skip ?_)   -- if t16
    · refine aw_step [4, 5] [4] (by simp <;> rfl) ?_   -- ref.go:122
      refine aw_adoptC 4 3 100 3 30 [4, 5] [4, 100] (by simp <;> rfl) ?_
      have h2' : readyF s l t ≠ 0 := by simpa using h2
      have hE : pubE s v l t hs = readyF s l t := by rw [pubE, if_pos (by rw [hP]; exact h2'), hP]
      have hR : pubR s v l t hs = zeroR := by rw [pubR, if_pos (by rw [hE]; exact h2')]
      refine aw_ret (endso_row 100 (by simp <;> rfl) rfl rfl (by simp) (by simp [Try.results22] <;> rfl) ?_)
      rw [hE, hR]
      exact ⟨rfl, rfl⟩
    have h2' : readyF s l t = 0 := by simpa using h2
    have hP0 : ¬ preE s v l t hs ≠ 0 := by rw [hP, h2']; simp
    have hol := nums_len (openF hs)
    have hop := refOpenP_ac s v l hs es hes hsm
    generalize hro : nums (openF hs) = ro at hol hop
    refine aw_seq ?_
    refine aw_seq (aw_region ?_)   -- ref.go:124
    refine awl_go 1 (by simp <;> rfl) ?_
    refine awl_call1 hop Try.func18 rfl (by kernel_rfl) rfl rfl rfl rfl rfl (by simp <;> rfl) ?_
    refine awl_end [1, 2, 4, 22] [2, 4] (by simp [hol] <;> rfl) ?_
    refine aw_cond rfl (fun h3 => ?_) (fun h3 => aw_skip ?_)   -- if t22
    · refine aw_step [4, 5] [4] (by simp <;> rfl) ?_   -- ref.go:125
      refine aw_adoptC 4 3 100 3 30 [4, 5] [4, 100] (by simp <;> rfl) ?_
      have hE : pubE s v l t hs = 16 := by rw [pubE, if_neg hP0, if_pos (by simpa using h3)]
      have hR : pubR s v l t hs = zeroR := by rw [pubR, if_pos (by rw [hE]; simp)]
      refine aw_ret (endso_row 100 (by simp <;> rfl) rfl rfl (by simp) (by simp [Try.results22] <;> rfl) ?_)
      rw [hE, hR]
      exact ⟨rfl, rfl⟩
    refine aw_seq ?_
    refine aw_step [1, 2, 4, 26] [2, 4] (by simp <;> rfl) ?_   -- ref.go:127
    refine aw_cond rfl (fun h4 => ?_) (fun h4 => aw_skip ?_)   -- if t26
    · refine aw_step [4, 5] [4] (by simp <;> rfl) ?_   -- ref.go:128
      refine aw_adoptC 4 3 100 3 30 [4, 5] [4, 100] (by simp <;> rfl) ?_
      have hE : pubE s v l t hs = 3 := by rw [pubE, if_neg hP0, if_neg (by simpa using h3), if_pos (by simp at h4 ⊢; omega)]
      have hR : pubR s v l t hs = zeroR := by rw [pubR, if_pos (by rw [hE]; simp)]
      refine aw_ret (endso_row 100 (by simp <;> rfl) rfl rfl (by simp) (by simp [Try.results22] <;> rfl) ?_)
      rw [hE, hR]
      exact ⟨rfl, rfl⟩
    have hE : pubE s v l t hs = 0 := by rw [pubE, if_neg hP0, if_neg (by simpa using h3), if_neg (by simp at h4 ⊢; omega)]
    have hw := wrap_up v3 v4
    refine aw_seq (aw_region ?_)   -- ref.go:130
    refine awl_go 2 (by simp <;> rfl) ?_
    refine awl_callO1 100 (at_ac s v l t es hfl (cellH hes) hsm) Try.func29 rfl (by kernel_rfl) rfl rfl rfl rfl (by simp <;> rfl) (by simp [rel] <;> rfl) ?_
    refine awl_end [2, 4, 7] [2, 4, 7, 100] (by simp <;> rfl) ?_
    refine aw_step [2, 4, 7] [2, 4, 7, 100] (by simp [hw] <;> rfl) ?_   -- ref.go:131
    refine aw_step [2, 4, 7] [2, 4, 7, 100] (by simp <;> rfl) ?_   -- ref.go:132
    refine aw_seq ?_
    refine aw_step [4, 7, 38] [4, 7, 100] (by simp <;> rfl) ?_   -- ref.go:133
    refine aw_cond rfl (fun h5 => ?_) (fun h5 => aw_skip ?_)   -- if t38
    · refine aw_one [4, 7] [4, 7, 100] (by simp <;> rfl) ?_   -- ref.go:134
      refine aw_step [4, 5] [4, 100] (by simp <;> rfl) ?_   -- ref.go:136
      refine aw_ret (endso_row 100 (by simp <;> rfl) rfl rfl hfl (by simp [Try.results22] <;> rfl) ?_)
      have hR : pubR s v l t hs = ⟨2, v + 1, t, hs⟩ := by rw [pubR, if_neg (by rw [hE]; simp), if_pos h5]
      rw [hE, hR]
      exact ⟨by funext d q; simp [recF, hlen, rel], hes⟩
    refine aw_step [4, 5] [4, 100] (by simp <;> rfl) ?_   -- ref.go:136
    refine aw_ret (endso_row 100 (by simp <;> rfl) rfl rfl hfl (by simp [Try.results22] <;> rfl) ?_)
    have hR : pubR s v l t hs = ⟨3, v + 1, t, hs⟩ := by rw [pubR, if_neg (by rw [hE]; simp), if_neg (by rw [h5]; simp)]
    rw [hE, hR]
    exact ⟨by funext d q; simp [recF, hlen, rel], hes⟩
  have h1' : validF s v l hs ≠ 0 := by simpa using h1
  have hP : preE s v l t hs = validF s v l hs := by rw [preE, if_pos h1']
  have hE : pubE s v l t hs = validF s v l hs := by rw [pubE, if_pos (by rw [hP]; exact h1'), hP]
  have hR : pubR s v l t hs = zeroR := by rw [pubR, if_pos (by rw [hE]; exact h1')]
  refine aw_seq ?_
  refine aw_step [1, 2, 4, 6, 16] [2, 4] (by simp <;> rfl) ?_   -- ref.go:121
  refine aw_cond rfl (fun h3 => ?_) (fun h3 => absurd (by simpa using h3) h1')   -- if t16
  refine aw_step [4, 5] [4] (by simp <;> rfl) ?_   -- ref.go:122
  refine aw_adoptC 4 3 100 3 30 [4, 5] [4, 100] (by simp <;> rfl) ?_
  refine aw_ret (endso_row 100 (by simp <;> rfl) rfl rfl (by simp) (by simp [Try.results22] <;> rfl) ?_)
  rw [hE, hR]
  exact ⟨rfl, rfl⟩
end Go.Proofs.Ytjgngffbmfbdkaa
