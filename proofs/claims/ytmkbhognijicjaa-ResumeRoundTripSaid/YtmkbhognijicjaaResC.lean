/- Resume: copies of trees, and the functions that make nodes. No condition. -/
import Derived.Test.YtmkbhognijicjaaResB
set_option linter.unusedSimpArgs false
namespace Go.Proofs.Ytmkbhognijicjaa
open Go.Eng

/-- Trees of few children. -/
inductive Sm : Nd → Prop
  | mk {t k n : Int} {s : List UInt8} {ks : List Nd} (h : ks.length ≤ 1000) (hk : ∀ x ∈ ks, Sm x) : Sm (.mk t k n s ks)
def zN : V := .agg [.int .i64 0, .int .i64 0, .int .i64 0, .str [], .nils]

set_option maxHeartbeats 1000000 in
theorem copies_ac : ∀ (m : Nat) (l : List Nd), SizeOf.sizeOf l < m → l.length ≤ 1000 → (∀ x ∈ l, Sm x) → AC Try.prog 28 [.ro 5 (l.map Nd.v)] (fun r => r = .ro 5 (l.map Nd.v)) := by
  intro m
  induction m with
  | zero => intro l h; omega
  | succ m ih =>
  intro l hm hl hs
  have ih' : ∀ x ∈ l, AC Try.prog 28 [.ro 5 (x.kids.map Nd.v)] (fun r => r = .ro 5 (x.kids.map Nd.v)) := by
    intro x hx
    have := List.sizeOf_lt_of_mem hx
    have hsx := hs x hx
    obtain ⟨h1, h2⟩ := hsx
    rename_i t k n s ks
    have h3 : SizeOf.sizeOf ks < SizeOf.sizeOf (Nd.mk t k n s ks) := by simp only [Nd.mk.sizeOf_spec]; omega
    exact ih ks (by omega) h1 h2
  have hga := fun (k : Nat) (h : k < l.length) => nthN h
  have hla : (l.map Nd.v).length = l.length := by simp
  have hp := pureN l
  generalize l.map Nd.v = lv at hga hla hp
  by_cases he : lv.length = 0
  · have he' : lv = [] := List.length_eq_zero_iff.1 he
    subst he'
    refine AC.relax (v := .nils) ?_ (Relax.nils 5)
    refine ac_intro Try.func28 rfl (by show (1 : Nat) ≤ 32; omega) (fun w0 N0 => ?_)
    refine aw_step [0] [] (by simp [Try.ntmps28] <;> rfl) ?_   -- codec.go:27
    refine aw_seq ?_
    refine aw_step [0, 8] [] (by simp <;> rfl) ?_   -- codec.go:28
    refine aw_cond rfl (fun h1 => ?_) (fun h1 => by simp at h1)   -- if t8
    refine aw_step [2] [] (by simp <;> rfl) ?_   -- codec.go:29
    exact aw_ret (ends_ret (by simp [Try.results28] <;> rfl) rfl)
  have he2 : ¬ lv = [] := fun h => he (by rw [h]; rfl)
  refine ac_intro Try.func28 rfl (by show (1 : Nat) ≤ 32; omega) (fun w0 N0 => ?_)
  refine aw_step [0] [] (by simp [Try.ntmps28] <;> rfl) ?_   -- codec.go:27
  refine aw_seq ?_
  refine aw_step [0, 8] [] (by simp <;> rfl) ?_   -- codec.go:28
  refine aw_cond rfl (fun h1 => by simp [he2] at h1) (fun h1 => aw_skip ?_)   -- if t8
  have hb1 : (lv.length : Int) ≤ 9223372036854775807 := by omega
  have hb2 : 64 * (lv.length : Int) ≤ 281474976710656 := by omega
  refine aw_step [0, 3] [11] (by simp [hb1, hb2] <;> rfl) ?_   -- codec.go:31
  refine aw_seq ?_
  refine aw_step [3, 12, 13, 14] [11] (by simp <;> rfl) ?_   -- codec.go:32
  refine aw_block ?_
  refine aw_count (fun k nx => ⟨[(3, .sl 11 6 5 lv.length), (12, .ro 5 lv), (13, .int .i64 lv.length), (14, .int .i64 k)], [(11, ⟨6, 5, 24, fillK lv zN k⟩)], nx, 32⟩) (fun k => True) l.length _ trivial (by rw [fillK_zero]; exact AS.le_refl _) ?_
  intro k nx hk hI
  have hfl := fillK_len lv zN k (by omega)
  refine aw_step [3, 12, 13, 14, 15] [11] (by simp <;> rfl) ?_   -- codec.go:32
  refine aw_seq ?_
  refine aw_cond rfl (fun h2 => aw_skip ?_) (fun h2 => ?_)   -- if t15
  · have hlt : k < l.length := by simp at h2; omega
    have hlt' : k < lv.length := by omega
    have ga := hga k hlt
    have hc := ih' l[k] (List.getElem_mem hlt)
    have hpk := pureN l[k].kids
    have hset := fillK_set lv zN k hlt' (x := l[k].v) (by rw [← nth_eq]; exact ga)
    have hz : nth (fillK lv zN k) k = some (.agg [.int .i64 0, .int .i64 0, .int .i64 0, .str [], .nils]) := fillK_nth lv zN k hlt'
    have hw := wrap_succ (k := k) (by omega)
    rcases hka : l[k] with ⟨t2, k2, n2, s2, ks2⟩
    rw [hka] at ga hc hset hpk
    rw [Nd.v] at ga hset
    simp only [Nd.kids] at hc hpk
    generalize ks2.map Nd.v = kv2 at ga hc hset hpk
    have hn1 := nth_set (l := fillK lv zN k) (k := k) (x := .agg [.int .i64 t2, .int .i64 k2, .int .i64 n2, .str s2, .ro 5 kv2]) (by omega)
    generalize fillK lv zN k = row at hz hset hfl hn1 ⊢
    rw [hset] at hn1
    have hset2 : (fillK lv zN (k + 1)).set k (.agg [.int .i64 t2, .int .i64 k2, .int .i64 n2, .str s2, .ro 5 kv2]) = fillK lv zN (k + 1) := by rw [← hset]; simp
    refine aw_seq ?_
    refine aw_block ?_
    refine aw_step [3, 4, 5, 12, 13, 14] [11, 5] (by simp [ga, hlt'] <;> rfl) ?_   -- codec.go:32
    refine aw_step [3, 4, 5, 12, 13, 14] [11, 5] (by simp [hlt', hz, hfl] <;> rfl) ?_   -- codec.go:33
    refine aw_region ?_   -- codec.go:34
    refine awl_go 4 (by simp <;> rfl) ?_
    refine awl_call1 hc Try.func28 rfl (by kernel_rfl) rfl rfl rfl rfl rfl (by simp <;> rfl) ?_
    refine awl_end [3, 12, 13, 14] [11] (by simp [hlt', hfl, hset, hn1, hset2] <;> rfl) ?_
    refine aw_one [3, 12, 13, 14] [11] (by simp [hw] <;> rfl) ?_   -- codec.go:32
    exact ⟨hlt, trivial, _, AS.le_refl _⟩
  · refine aw_exit ?_
    have hkl : k = lv.length := by simp at h2; omega
    rw [fillK_all lv zN k (by omega)]
    refine aw_step [2] [11] (by simp <;> rfl) ?_   -- codec.go:36
    exact aw_ret (ends_ret (by simp [Try.results28, hp] <;> rfl) rfl)
end Go.Proofs.Ytmkbhognijicjaa
