import Derived.Test.YtliogkkhofhfcaaGreatDoorGP
import Derived.Test.YtliogkkhofhfcaaGreatDoorGK
/- Query: QueryBlanks, the walk. No condition. -/
set_option linter.unusedSimpArgs false
set_option maxRecDepth 10000
namespace Go.Proofs.YtliogkkhofhfcaaGreatDoor
open Go.Eng

theorem parseV_ok {s : List UInt8} {x : Qy} (h : parseP s = .ok x) : parseV s = .tup [x.v, .int .i64 0, .int .i64 0] := by unfold parseV; rw [h]
theorem parseV_err {s : List UInt8} {a : Nat} {e : Int} (h : parseP s = .error (a, e)) : parseV s = .tup [q0.v, .int .i64 (a : Nat), .int .i64 e] := by unfold parseV; rw [h]
/-- What the three readings of the law are. -/
theorem blanks_key (s : List UInt8) (n : Nat) (hs : s.length ≤ 700) (hn : n < 256) : ∃ (p : Qy) (a b e : Int), parseV s = .tup [p.v, .int .i64 a, .int .i64 e] ∧ parseV (List.replicate n 32 ++ s ++ [32]) = .tup [p.v, .int .i64 b, .int .i64 e] ∧
    0 ≤ a ∧ a ≤ 1000 ∧ 0 ≤ b ∧ b ≤ 1000 ∧ ((e = 0 ∧ a = 0 ∧ b = 0 ∧ parseV ([40, 40] ++ s ++ [41, 41]) = .tup [p.v, .int .i64 0, .int .i64 0]) ∨ (e ≠ 0 ∧ (e = 5 ∨ b = a + n ∨ (a = s.length ∧ b = s.length + n + 1)))) := by
  have h := parse_blanks s n (by omega)
  cases hp : parseP s with
  | ok x =>
    rw [hp] at h
    simp only at h
    exact ⟨x, 0, 0, 0, parseV_ok hp, parseV_ok h, by omega, by omega, by omega, by omega, .inl ⟨rfl, rfl, rfl, parseV_ok (parse_bracks s (by omega) hp)⟩⟩
  | error y =>
    obtain ⟨a, e⟩ := y
    rw [hp] at h
    simp only at h
    obtain ⟨⟨b, hb, hc⟩, he⟩ := h
    have ha := parse_place hp
    have hbp := parse_place hb
    simp only [List.length_append, List.length_replicate, List.length_cons, List.length_nil] at hbp
    refine ⟨q0, a, b, e, parseV_err hp, parseV_err hb, by omega, by omega, by omega, by omega, .inr ⟨he, ?_⟩⟩
    rcases hc with hc | hc | hc
    · exact .inl hc
    · exact .inr (.inl (by omega))
    · exact .inr (.inr ⟨by omega, by omega⟩)

set_option maxHeartbeats 8000000 in
theorem blanks_acq (s : List UInt8) (n : Nat) (hn : n < 256) : ACQ gv Tryz.prog 7 [.str s, .int .u8 n] (fun r => r = .bool true) := by
  have hAw := awake_acq
  refine acq_intro Tryz.func7 rfl (by show (2 : Nat) ≤ 113; omega) (fun w0 N0 hG => ?_)
  refine aw_step [0, 1] [] (by simp [Tryz.ntmps7] <;> rfl) ?_   -- law.go:169
  refine aw_seq ?_
  refine aw_step [0, 1, 18] [] (by simp <;> rfl) ?_   -- law.go:170
  refine aw_cond rfl (fun h1 => ?_) (fun h1 => aw_skip ?_)   -- if t18
  · refine aw_seq (aw_region ?_)   -- law.go:171
    refine awl_callQ hG hAw Tryz.func12 rfl (by kernel_rfl) (by simp) rfl rfl rfl (by simp <;> rfl) (by simp) (by simp <;> rfl) ?_
    refine awl_end [4] [] (by simp <;> rfl) ?_
    exact aw_ret (ends_ret (by simp [Tryz.results7] <;> rfl) rfl)
  have hs : s.length ≤ 700 := by simp at h1; omega
  obtain ⟨p, a, b, e, vP, vQ, ha0, ha1, hb0, hb1, hK⟩ := blanks_key s n hs hn
  have hp := parse_acq s
  have hq := parse_acq (List.replicate n 32 ++ s ++ [32])
  have hx := parse_acq ([40, 40] ++ s ++ [41, 41])
  have hsm := same_ac _ p p (Nat.lt_succ_self _)
  rw [sameQ_self] at hsm
  rw [vP] at hp
  rw [vQ] at hq
  obtain ⟨pk, pc, pn, pf, ps, pv, vv⟩ : ∃ k c n f s kv, p.v = .agg [.int .i64 k, .int .i64 c, .int .i64 n, .str f, .str s, .ro 6 kv] := by
    obtain ⟨k, c, n, f, s, ks⟩ := p
    exact ⟨k, c, n, f, s, _, by rw [Qy.v]⟩
  rw [vv] at hp hq hsm hK
  have hnn : IntKind.i64.wrap (n : Int) = n := wrap_in (by omega) (by omega)
  have hlb : (List.replicate n (32 : UInt8)).length = n := by simp
  refine aw_step [0, 1, 5] [] (by simp <;> rfl) ?_   -- law.go:173
  refine aw_seq ?_
  refine aw_step [0, 1, 5, 6] [] (by simp <;> rfl) ?_   -- law.go:174
  refine aw_block ?_
  refine aw_count (fun k nx => ⟨[(0, .str s), (1, .int .u8 n), (5, .str (List.replicate k 32)), (6, .int .i64 k)], [], nx, 113⟩) (fun _ => True) n _ trivial (AS.le_refl _) ?_
  intro k nx hk hI
  refine aw_seq ?_
  refine aw_step [0, 1, 5, 6, 23] [] (by simp [hnn] <;> rfl) ?_   -- law.go:174
  refine aw_cond rfl (fun h2 => aw_skip ?_) (fun h2 => ?_)   -- if t23
  · have hlt : k < n := by simp at h2; omega
    have hw := wrap_succ (k := k) (by omega)
    have hrep : List.replicate k (32 : UInt8) ++ [32] = List.replicate (k + 1) 32 := by rw [List.replicate_succ']
    have hkl : k + 1 ≤ 9223372036854775807 := by omega
    refine aw_seq ?_
    refine aw_block ?_
    refine aw_one [0, 1, 5, 6] [] (by simp [hkl] <;> rfl) ?_   -- law.go:175
    refine aw_one [0, 1, 5, 6] [] (by simp [hw] <;> rfl) ?_   -- law.go:174
    simp only [hrep]
    exact ⟨hlt, trivial, _, AS.le_refl _⟩
  have hke : k = n := by simp at h2; omega
  subst hke
  have e1 : k + s.length ≤ 9223372036854775807 := by omega
  have e2 : k + s.length + 1 ≤ 9223372036854775807 := by omega
  have e3 : 2 + s.length ≤ 9223372036854775807 := by omega
  have e4 : s.length + 2 + 2 ≤ 9223372036854775807 := by omega
  generalize hrl : List.replicate k (32 : UInt8) = bl at hq hlb ⊢
  refine aw_exit ?_
  refine aw_seq (aw_region ?_)   -- law.go:177
  refine awl_go 1 (by simp <;> rfl) ?_
  refine awl_callQ hG hp Tryz.func13 rfl (by kernel_rfl) (by simp) rfl rfl rfl (by simp <;> rfl) (by simp) (by simp <;> rfl) ?_
  refine awl_end [0, 1, 5, 7, 8, 9] [7] (by simp <;> rfl) ?_
  refine aw_seq (aw_region ?_)   -- law.go:178
  refine awl_go 4 (by simp [hlb, e1, e2] <;> rfl) ?_
  refine awl_callQ hG hq Tryz.func13 rfl (by kernel_rfl) (by simp) rfl rfl rfl (by simp <;> rfl) (by simp) (by simp <;> rfl) ?_
  refine awl_end [0, 1, 7, 8, 9, 10, 11, 12] [7, 10] (by simp <;> rfl) ?_
  refine aw_seq ?_
  refine aw_seq (aw_region ?_)   -- law.go:179
  refine awl_go 2 (by simp <;> rfl) ?_
  refine awl_call1 hsm Tryz.func14 rfl (by kernel_rfl) rfl rfl rfl (by simp <;> rfl) (by simp [V.pureV, V.pureE]) (by simp <;> rfl) ?_
  refine awl_end [0, 1, 7, 8, 9, 11, 51] [7] (by simp <;> rfl) ?_
  refine aw_cond rfl (fun h3 => by simp at h3) (fun h3 => aw_skip ?_)   -- if t51
  refine aw_seq ?_
  refine aw_step [0, 1, 7, 8, 9, 11, 53] [7] (by simp <;> rfl) ?_   -- law.go:182
  refine aw_cond rfl (fun h4 => ?_) (fun h4 => aw_skip ?_)   -- if t53
  · have he : e = 0 := by simpa using h4
    rcases hK with ⟨_, rfl, rfl, vX⟩ | ⟨h, _⟩
    rotate_left
    · exact absurd he h
    rw [vX] at hx
    refine aw_seq (aw_region ?_)   -- law.go:183
    refine awl_go 3 (by simp [e3, e4] <;> rfl) ?_
    refine awl_callQ hG hx Tryz.func13 rfl (by kernel_rfl) (by simp) rfl rfl rfl (by simp <;> rfl) (by simp) (by simp <;> rfl) ?_
    refine awl_end [7, 8, 11, 13, 14, 15] [7, 13] (by simp <;> rfl) ?_
    refine aw_seq (aw_region ?_)   -- law.go:184
    refine awl_go 9 (by simp <;> rfl) ?_
    refine awl_gcall (fun hg => hsm) Tryz.func14 rfl (by kernel_rfl) (by simp <;> rfl) rfl rfl (by simp <;> rfl) (by simp [V.pureV, V.pureE]) (by simp <;> rfl) ?_
    refine awl_go 10 (by simp <;> rfl) ?_
    refine awl_gcallQ hG (fun hg => hAw) Tryz.func12 rfl (by kernel_rfl) (by simp <;> rfl) rfl rfl (by simp <;> rfl) (by simp) (by simp <;> rfl) ?_
    refine awl_end [4] [] (by simp <;> rfl) ?_
    exact aw_ret (ends_ret (by simp [Tryz.results7] <;> rfl) rfl)
  have he : e ≠ 0 := by simpa using h4
  rcases hK with ⟨h, _⟩ | ⟨_, hK⟩
  · exact absurd h he
  obtain ⟨bn, hbn, hbn'⟩ : ∃ x : Int, IntKind.i64.wrap (b - k) = x ∧ x = b - k := ⟨_, rfl, wrap_in (by omega) (by omega)⟩
  obtain ⟨ln, hln, hln'⟩ : ∃ x : Int, IntKind.i64.wrap ((s.length : Int) + k) = x ∧ x = s.length + k := ⟨_, rfl, wrap_in (by omega) (by omega)⟩
  obtain ⟨lm, hlm, hlm'⟩ : ∃ x : Int, IntKind.i64.wrap (ln + 1) = x ∧ x = s.length + k + 1 := ⟨_, rfl, by rw [wrap_in (by omega) (by omega)]; omega⟩
  refine aw_seq (aw_region ?_)   -- law.go:186
  by_cases c1 : e = 5
  · refine awl_go 27 (by simp [c1] <;> rfl) ?_
    refine awl_gcallQ hG (fun hg => hAw) Tryz.func12 rfl (by kernel_rfl) (by simp <;> rfl) rfl rfl (by simp <;> rfl) (by simp) (by simp <;> rfl) ?_
    refine awl_end [4] [] (by simp <;> rfl) ?_
    exact aw_ret (ends_ret (by simp [Tryz.results7] <;> rfl) rfl)
  by_cases c2 : bn = a
  · refine awl_go 27 (by simp [c1, hnn, hbn, c2] <;> rfl) ?_
    refine awl_gcallQ hG (fun hg => hAw) Tryz.func12 rfl (by kernel_rfl) (by simp <;> rfl) rfl rfl (by simp <;> rfl) (by simp) (by simp <;> rfl) ?_
    refine awl_end [4] [] (by simp <;> rfl) ?_
    exact aw_ret (ends_ret (by simp [Tryz.results7] <;> rfl) rfl)
  have c3 : a = s.length ∧ b = s.length + k + 1 := by
    rcases hK with h | h | h
    · exact absurd h c1
    · exact absurd (by omega) c2
    · exact h
  have c4 : b = lm := by omega
  refine awl_go 27 (by simp [c1, hnn, hbn, c2, c3.1, hln, hlm, c4] <;> rfl) ?_
  refine awl_gcallQ hG (fun hg => hAw) Tryz.func12 rfl (by kernel_rfl) (by simp <;> rfl) rfl rfl (by simp <;> rfl) (by simp) (by simp <;> rfl) ?_
  refine awl_end [4] [] (by simp <;> rfl) ?_
  exact aw_ret (ends_ret (by simp [Tryz.results7] <;> rfl) rfl)
end Go.Proofs.YtliogkkhofhfcaaGreatDoor
