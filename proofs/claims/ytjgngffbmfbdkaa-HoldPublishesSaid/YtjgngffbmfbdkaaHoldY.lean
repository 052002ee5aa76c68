/- Hold: the law HoldPublishes. No condition. -/
import Derived.Test.YtjgngffbmfbdkaaHoldX
set_option linter.unusedSimpArgs false
namespace Go.Proofs.Ytjgngffbmfbdkaa
open Go.Eng

theorem voidR_len (s v l t : Int) (hs : List H3) : (voidR s v l t hs).hs.length ≤ hs.length := by
  unfold voidR; split
  · exact Nat.zero_le _
  · exact Nat.le_refl _
theorem pubR_len (s v l t : Int) (hs : List H3) : (pubR s v l t hs).hs.length ≤ hs.length := by
  unfold pubR; split
  · exact Nat.zero_le _
  · exact Nat.le_refl _

set_option maxHeartbeats 2000000 in
theorem holdPublishes_ac (s v l t : Int) (hs : List H3) (es : List V) (hes : es = hs.map H3.v) : AC Try.prog 6 [rel s v l (.ro 3 es), .int .i64 t] (fun x => x = .bool true) := by
  have hlen : es.length = hs.length := by rw [hes]; simp
  refine ac_intro Try.func6 rfl (by show (2 : Nat) ≤ 54; omega) (fun w0 N0 => ?_)
  refine aw_step [1, 2] [2] (by simp [Try.ntmps6, rel] <;> rfl) ?_   -- law.go:65
  refine aw_seq ?_
  refine aw_step [1, 2, 12] [2] (by simp <;> rfl) ?_   -- law.go:66
  refine aw_cond rfl (fun h1 => ?_) (fun h1 => aw_skip ?_)   -- if t12
  · refine aw_step [4] [] (by simp <;> rfl) ?_   -- law.go:67
    exact aw_ret (ends_ret (by simp [Try.results6] <;> rfl) rfl)
  have hsm : es.length ≤ 200 := by simp at h1; omega
  have hc1 := publish_ac s v l t hs es hes hsm
  have hc2 := refPublish_ac s v l t hs es hes hsm
  have hc3 := void_ac s v l t hs es hes hsm
  have hc4 := refVoid_ac s v l t hs es hes hsm
  have hpl := pubR_len s v l t hs
  have hll := voidR_len s v l t hs
  generalize pubR s v l t hs = A at hc1 hc2 hpl
  generalize pubE s v l t hs = ea at hc1 hc2
  generalize voidR s v l t hs = B at hc3 hc4 hll
  generalize preE s v l t hs = eb at hc3 hc4
  have hsA := same_ac A.s A.v A.l A.hs _ rfl (by omega)
  have hsB := same_ac B.s B.v B.l B.hs _ rfl (by omega)
  have hpa := pureH A.hs
  have hpb := pureH B.hs
  have hla : (A.hs.map H3.v).length = A.hs.length := by simp
  have hlb : (B.hs.map H3.v).length = B.hs.length := by simp
  generalize A.hs.map H3.v = ra at hc1 hc2 hsA hpa hla
  generalize B.hs.map H3.v = rb at hc3 hc4 hsB hpb hlb
  refine aw_seq (aw_region ?_)   -- law.go:69
  refine awl_go 2 (by simp <;> rfl) ?_
  refine awl_callO1 101 hc1 Try.func21 rfl (by kernel_rfl) rfl rfl rfl rfl (by simp <;> rfl) (by simp [recF, rel] <;> rfl) ?_
  refine awl_end [1, 2, 5, 6] [2, 5, 101] (by simp <;> rfl) ?_
  refine aw_seq (aw_region ?_)   -- law.go:70
  refine awl_go 2 (by simp <;> rfl) ?_
  refine awl_callO1 102 hc2 Try.func22 rfl (by kernel_rfl) rfl rfl rfl rfl (by simp <;> rfl) (by simp [recF, rel] <;> rfl) ?_
  refine awl_end [1, 2, 5, 6, 7, 8] [2, 5, 7, 101, 102] (by simp <;> rfl) ?_
  refine aw_seq ?_
  refine aw_seq (aw_region ?_)   -- law.go:71
  refine awl_go 6 (by simp <;> rfl) ?_
  refine awl_gcallv hsA Try.func11 rfl (by kernel_rfl) (by simp <;> rfl) rfl rfl (by simp <;> rfl) (by simp [hpa, hla, rel] <;> rfl) rfl (by simp <;> rfl) ?_
  refine awl_end [1, 2, 5, 7, 33] [2, 5, 7] (by simp <;> rfl) ?_
  refine aw_cond rfl (fun h2 => by simp at h2) (fun h2 => aw_skip ?_)   -- if t33
  refine aw_seq (aw_region ?_)   -- law.go:74
  refine awl_go 2 (by simp <;> rfl) ?_
  refine awl_callO1 103 hc3 Try.func23 rfl (by kernel_rfl) rfl rfl rfl rfl (by simp <;> rfl) (by simp [recF, rel] <;> rfl) ?_
  refine awl_end [1, 2, 5, 6, 7] [2, 5, 7, 103] (by simp <;> rfl) ?_
  refine aw_seq (aw_region ?_)   -- law.go:75
  refine awl_go 2 (by simp <;> rfl) ?_
  refine awl_callO1 104 hc4 Try.func24 rfl (by kernel_rfl) rfl rfl rfl rfl (by simp <;> rfl) (by simp [recF, rel] <;> rfl) ?_
  refine awl_end [5, 6, 7, 8] [5, 7, 103, 104] (by simp <;> rfl) ?_
  refine aw_seq (aw_region ?_)   -- law.go:76
  refine awl_go 6 (by simp <;> rfl) ?_
  refine awl_gcallv hsB Try.func11 rfl (by kernel_rfl) (by simp <;> rfl) rfl rfl (by simp <;> rfl) (by simp [hpb, hlb, rel] <;> rfl) rfl (by simp <;> rfl) ?_
  refine awl_end [4] [] (by simp <;> rfl) ?_
  exact aw_ret (ends_ret (by simp [Try.results6] <;> rfl) (by simp))
end Go.Proofs.Ytjgngffbmfbdkaa
