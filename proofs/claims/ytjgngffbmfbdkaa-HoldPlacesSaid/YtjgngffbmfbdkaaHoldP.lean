/- Hold: the law HoldPlaces. No condition. -/
import Derived.Test.YtjgngffbmfbdkaaHoldD
import Derived.Test.YtjgngffbmfbdkaaEng21
set_option linter.unusedSimpArgs false
namespace Go.Proofs.Ytjgngffbmfbdkaa
open Go.Eng

theorem placeR_len (s v l r t : Int) (hs : List H3) : (placeR s v l r t hs).hs.length ≤ hs.length + 1 := by
  unfold placeR; split
  · exact Nat.zero_le _
  · simp
theorem liftR_len (s v l r t : Int) (hs : List H3) : (liftR s v l r t hs).hs.length ≤ hs.length := by
  unfold liftR; split
  · exact Nat.zero_le _
  · simp

def nine : V := .agg [.int .i64 9, .int .i64 9, .int .i64 9]
def nines (es : List V) (k : Nat) : List V := List.replicate k nine ++ es.drop k
theorem nines_len (es : List V) (k : Nat) (h : k ≤ es.length) : (nines es k).length = es.length := by simp [nines]; omega
theorem nines_set (es : List V) (k : Nat) (h : k < es.length) : (nines es k).set k nine = nines es (k + 1) := by
  unfold nines
  rw [List.set_append_right _ _ (by simp), List.length_replicate, Nat.sub_self, List.drop_eq_getElem_cons h, List.set_cons_zero, List.replicate_succ', List.append_assoc]
  rfl

theorem nines_get (es : List V) (k : Nat) : nth (nines es k) k = nth es k := by
  rw [nth_eq, nth_eq]
  unfold nines
  rw [List.getElem?_append_right (by simp)]
  simp

set_option maxHeartbeats 2000000 in
theorem holdPlaces_ac (s v l r t : Int) (hs : List H3) (es : List V) (hes : es = hs.map H3.v) : AC Try.prog 3 [rel s v l (.ro 3 es), .int .i64 r, .int .i64 t] (fun x => x = .bool true) := by
  have hlen : es.length = hs.length := by rw [hes]; simp
  refine ac_intro Try.func3 rfl (by show (3 : Nat) ≤ 89; omega) (fun w0 N0 => ?_)
  refine aw_step [1, 2, 3] [3] (by simp [Try.ntmps3, rel] <;> rfl) ?_   -- law.go:43
  refine aw_seq ?_
  refine aw_step [1, 2, 3, 15] [3] (by simp <;> rfl) ?_   -- law.go:44
  refine aw_cond rfl (fun h1 => ?_) (fun h1 => aw_skip ?_)   -- if t15
  · refine aw_step [6] [] (by simp <;> rfl) ?_   -- law.go:45
    exact aw_ret (ends_ret (by simp [Try.results3] <;> rfl) rfl)
  have hsm : es.length ≤ 200 := by simp at h1; omega
  have hc1 := place_ac s v l r t hs es hes hsm
  have hc2 := refPlace_ac s v l r t hs es hes hsm
  have hc3 := lift_ac s v l r t hs es hes hsm
  have hc4 := refLift_ac s v l r t hs es hes hsm
  have hpl := placeR_len s v l r t hs
  have hll := liftR_len s v l r t hs
  generalize placeR s v l r t hs = A at hc1 hc2 hpl
  generalize placeE s v l r t hs = ea at hc1 hc2
  generalize liftR s v l r t hs = B at hc3 hc4 hll
  generalize liftE s v l r t hs = eb at hc3 hc4
  have hsA := same_ac A.s A.v A.l A.hs _ rfl (by omega)
  have hsB := same_ac B.s B.v B.l B.hs _ rfl (by omega)
  have hpa := pureH A.hs
  have hpb := pureH B.hs
  have hla : (A.hs.map H3.v).length = A.hs.length := by simp
  have hlb : (B.hs.map H3.v).length = B.hs.length := by simp
  have hBn : B.hs.length ≤ 200 := by omega
  generalize A.hs.map H3.v = ra at hc1 hc2 hsA hpa hla
  have hcb : ∀ k e, nth (B.hs.map H3.v) k = some e → ∃ a b c, e = .agg [.int .i64 a, .int .i64 b, .int .i64 c] := cellH rfl
  generalize B.hs.map H3.v = rb at hc3 hc4 hsB hpb hlb hcb
  refine aw_seq (aw_region ?_)   -- law.go:47
  refine awl_go 3 (by simp <;> rfl) ?_
  refine awl_callO1 101 hc1 Try.func9 rfl (by kernel_rfl) rfl rfl rfl rfl (by simp <;> rfl) (by simp [recF, rel] <;> rfl) ?_
  refine awl_end [1, 2, 3, 7, 8] [3, 7, 101] (by simp <;> rfl) ?_
  refine aw_seq (aw_region ?_)   -- law.go:48
  refine awl_go 3 (by simp <;> rfl) ?_
  refine awl_callO1 102 hc2 Try.func10 rfl (by kernel_rfl) rfl rfl rfl rfl (by simp <;> rfl) (by simp [recF, rel] <;> rfl) ?_
  refine awl_end [1, 2, 3, 7, 8, 9, 10] [3, 7, 9, 101, 102] (by simp <;> rfl) ?_
  refine aw_seq ?_
  refine aw_seq (aw_region ?_)   -- law.go:49
  refine awl_go 6 (by simp <;> rfl) ?_
  refine awl_gcallv hsA Try.func11 rfl (by kernel_rfl) (by simp <;> rfl) rfl rfl (by simp <;> rfl) (by simp [hpa, hla, rel] <;> rfl) rfl (by simp <;> rfl) ?_
  refine awl_end [1, 2, 3, 7, 9, 38] [3, 7, 9] (by simp <;> rfl) ?_
  refine aw_cond rfl (fun h2 => by simp at h2) (fun h2 => aw_skip ?_)   -- if t38
  refine aw_seq (aw_region ?_)   -- law.go:52
  refine awl_go 3 (by simp <;> rfl) ?_
  refine awl_callO1 103 hc3 Try.func12 rfl (by kernel_rfl) rfl rfl rfl rfl (by simp <;> rfl) (by simp [recF, rel] <;> rfl) ?_
  refine awl_end [1, 2, 3, 7, 8, 9] [3, 7, 9, 103] (by simp <;> rfl) ?_
  refine aw_seq (aw_region ?_)   -- law.go:53
  refine awl_go 3 (by simp <;> rfl) ?_
  refine awl_callO1 104 hc4 Try.func13 rfl (by kernel_rfl) rfl rfl rfl rfl (by simp <;> rfl) (by simp [recF, rel] <;> rfl) ?_
  refine awl_end [1, 2, 3, 7, 8, 9, 10] [3, 7, 9, 103, 104] (by simp <;> rfl) ?_
  refine aw_seq ?_
  refine aw_seq (aw_region ?_)   -- law.go:54
  refine awl_go 6 (by simp <;> rfl) ?_
  refine awl_gcallv hsB Try.func11 rfl (by kernel_rfl) (by simp <;> rfl) rfl rfl (by simp <;> rfl) (by simp [hpb, hlb, rel] <;> rfl) rfl (by simp <;> rfl) ?_
  refine awl_end [1, 2, 3, 7, 9, 10, 61] [3, 7, 9, 103, 104] (by simp <;> rfl) ?_
  refine aw_cond rfl (fun h3 => by simp at h3) (fun h3 => aw_skip ?_)   -- if t61
  refine aw_seq ?_
  refine aw_step [1, 2, 3, 7, 9, 10, 11] [3, 7, 9, 103, 104] (by simp <;> rfl) ?_   -- law.go:57
  refine aw_block ?_
  refine aw_count (fun k nx => ⟨[(1, .int .i64 r), (2, .int .i64 t), (3, .bp 3 0 4 0 0), (7, .bp 7 13 4 0 0), (9, .bp 9 23 4 0 0), (10, .int .i64 eb), (11, .int .i64 k)],
    [(3, ⟨0, 4, 24, [.agg [.int .i64 s, .int .i64 v, .int .i64 l, .ro 3 es]]⟩), (7, ⟨13, 4, 24, [.agg [.int .i64 B.s, .int .i64 B.v, .int .i64 B.l, .sl 103 38 3 B.hs.length]]⟩), (9, ⟨23, 4, 24, [.agg [.int .i64 B.s, .int .i64 B.v, .int .i64 B.l, .sl 104 47 3 B.hs.length]]⟩), (103, ⟨38, 3, 30, nines rb k⟩), (104, ⟨47, 3, 30, rb⟩)], nx, 89⟩) (fun _ => True) B.hs.length 63 trivial (AS.le_refl _) ?_
  intro k nx hk _
  refine aw_seq ?_
  refine aw_step [1, 2, 3, 7, 9, 10, 11, 66] [3, 7, 9, 103, 104] (by simp <;> rfl) ?_   -- law.go:57
  refine aw_cond rfl (fun h4 => aw_skip ?_) (fun h4 => ?_)   -- if t66
  · have hlt : k < B.hs.length := by simp at h4; omega
    have hw := wrap_succ (k := k) (by omega)
    have hnl := nines_len rb k (by omega)
    have hset := nines_set rb k (by omega)
    obtain ⟨x, y, z, ha⟩ : ∃ x y z, nth (nines rb k) k = some (.agg [.int .i64 x, .int .i64 y, .int .i64 z]) := by
      have h0 : nth rb k = some rb[k] := by rw [nth_eq]; exact List.getElem?_eq_getElem (by omega)
      obtain ⟨x, y, z, e⟩ := hcb k _ h0
      exact ⟨x, y, z, by rw [nines_get, h0, e]⟩
    generalize nines rb k = rk at hnl hset ha
    rw [hlb] at hnl
    refine aw_seq ?_
    refine aw_block ?_
    refine aw_one [1, 2, 3, 7, 9, 10, 11] [3, 7, 9, 103, 104] (by simp [hnl, hlt, ha] <;> rfl) ?_   -- law.go:58
    refine aw_one [1, 2, 3, 7, 9, 10, 11] [3, 7, 9, 103, 104] (by simp [hw] <;> rfl) ?_   -- law.go:57
    exact ⟨hlt, trivial, _, by rw [← hset]; exact AS.le_refl _⟩
  · refine aw_exit ?_
    refine aw_seq (aw_region ?_)   -- law.go:60
    refine awl_go 3 (by simp <;> rfl) ?_
    refine awl_callO1 105 hc3 Try.func12 rfl (by kernel_rfl) rfl rfl rfl rfl (by simp <;> rfl) (by simp [recF, rel] <;> rfl) ?_
    refine awl_end [7, 8, 9, 10] [7, 9, 104, 105] (by simp <;> rfl) ?_
    refine aw_seq (aw_region ?_)   -- law.go:61
    refine awl_go 6 (by simp <;> rfl) ?_
    refine awl_gcallv hsB Try.func11 rfl (by kernel_rfl) (by simp <;> rfl) rfl rfl (by simp <;> rfl) (by simp [hpb, hlb, rel] <;> rfl) rfl (by simp <;> rfl) ?_
    refine awl_end [6] [] (by simp <;> rfl) ?_
    exact aw_ret (ends_ret (by simp [Try.results3] <;> rfl) (by simp))
end Go.Proofs.Ytjgngffbmfbdkaa
