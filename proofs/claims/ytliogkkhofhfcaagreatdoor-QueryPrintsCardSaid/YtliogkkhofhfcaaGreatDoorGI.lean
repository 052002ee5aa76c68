import Derived.Test.YtliogkkhofhfcaaGreatDoorGH
import Derived.Test.YtliogkkhofhfcaaGreatDoorE10
/- Query: the parser's small steps. No condition. -/
set_option linter.unusedSimpArgs false
set_option maxRecDepth 4000
namespace Go.Proofs.YtliogkkhofhfcaaGreatDoor
open Go.Eng

@[simp] theorem de1 (d e k : Nat) : (d + e + 1 + k = d) = False := by simp; omega
@[simp] theorem de2 (d e k : Nat) : (d = d + e + 1 + k) = False := by simp; omega
@[simp] theorem de3 (d e k : Nat) : (d + e + 1 + k = e) = False := by simp; omega
@[simp] theorem de4 (d e k : Nat) : (e = d + e + 1 + k) = False := by simp; omega
/-- The token at a place. -/
def tkAt (ts : List Tok) (i : Nat) : Tok := (ts[i]?).getD (0, 0, [])
/-- A parser. -/
abbrev pOb (v : Nat) (tv : List V) (i : Nat) (at_ er : Int) : Ob := ⟨v, 4, 75, [.agg [.ro 3 tv, .int .i64 i, .int .i64 at_, .int .i64 er]]⟩
theorem tok_nth {ts : List Tok} {i : Nat} (h : i < ts.length) : nth (tokVs ts) i = some (.agg [.int .i64 (tkAt ts i).1, .int .i64 ((tkAt ts i).2.1 : Nat), .str (tkAt ts i).2.2]) := by
  rw [nth_eq, tokVs, List.getElem?_map, tkAt, List.getElem?_eq_getElem h]; rfl
/-- The tokens end in one that is never passed. -/
structure Gd (ts : List Tok) : Prop where
  few : ts.length ≤ 100000
  more : ∀ i, i < ts.length → (tkAt ts i).1 ≠ 0 → (tkAt ts i).1 ≠ 1 → i + 1 < ts.length
  small : ∀ i, (tkAt ts i).2.2.length ≤ 1000

theorem token_acs (ts : List Tok) (d v i : Nat) (at_ er : Int) (hi : i < ts.length) :
    ACS Tryz.prog 29 [.bp d v 4 0 0] [(d, pOb v (tokVs ts) i at_ er)] (fun r q => r = .agg [.int .i64 (tkAt ts i).1, .int .i64 ((tkAt ts i).2.1 : Nat), .str (tkAt ts i).2.2] ∧ q = [(d, pOb v (tokVs ts) i at_ er)]) (fun _ => False) := by
  have hg := tok_nth hi
  have hl := tokVs_len ts
  generalize tokVs ts = tv at hg hl
  have hlt : i < tv.length := by omega
  refine acs_intro Tryz.func29 rfl (by show (1 : Nat) ≤ 13; omega) (fun w0 N0 nx0 => ?_)
  refine awk_step (d + 1) [0, 2] [d, d + 1 + 2] (by simp [Tryz.ntmps29] <;> rfl) ?_   -- parse.go:130
  refine awk_dstep (d + 1) [(0, []), (1, []), (2, []), (4, []), (5, []), (6, []), (3, []), (7, []), (8, []), (9, []), (10, [])] [2] [d, d + 1 + 2] hmix (by kernel_rfl) (by simp [hg, hlt] <;> rfl) ?_   -- parse.go:131
  exact aw_ret (endsS (by simp only; omega) (by simp [Tryz.results29]) (fun k o hk => get_one (by simp [Eng.get]) hk))
theorem fail_acs (ts : List Tok) (d v i : Nat) (at_ er er' : Int) (hi : i < ts.length) :
    ACS Tryz.prog 30 [.bp d v 4 0 0, .int .i64 er'] [(d, pOb v (tokVs ts) i at_ er)] (fun r q => r = .bool false ∧ q = [(d, pOb v (tokVs ts) i ((tkAt ts i).2.1 : Nat) er')]) (fun _ => False) := by
  have ht := token_acs ts d v i at_ er hi
  generalize tokVs ts = tv at ht
  generalize tkAt ts i = tk at ht
  refine acs_intro Tryz.func30 rfl (by show (2 : Nat) ≤ 15; omega) (fun w0 N0 nx0 => ?_)
  refine awk_step (d + 1) [0, 1] [d] (by simp [Tryz.ntmps30] <;> rfl) ?_   -- parse.go:135
  refine aw_seq (aw_region ?_)   -- parse.go:136
  refine awlk_go (d + 1) 3 (by simp <;> rfl) ?_
  refine awl_callS1 ht Tryz.func29 rfl (by kernel_rfl) (by simp [Eng.get]) (by simp) (by decide) rfl rfl rfl (by simp <;> rfl) (fun k o hk => get_one (by simp [Eng.get]) hk) (by simp <;> rfl) ?_
  refine awlk_end (d + 1) [] [d] (by simp <;> rfl) ?_
  refine awk_step (d + 1) [4] [d] (by simp <;> rfl) ?_   -- parse.go:137
  exact aw_ret (endsS (by simp only; omega) (by simp [Tryz.results30]) (fun k o hk => get_one (by simp [Eng.get]) hk))
/-- Whether a token is a certain word. -/
def isW (t : Tok) (w : List UInt8) : Bool := decide (t.1 = 6) && decide (t.2.2 = w)
theorem accept_acs (ts : List Tok) (hg : ts.length ≤ 100000) (d v i : Nat) (at_ er : Int) (w : List UInt8) (hi : i < ts.length) :
    ACS Tryz.prog 69 [.bp d v 4 0 0, .str w] [(d, pOb v (tokVs ts) i at_ er)] (fun r q => r = .bool (isW (tkAt ts i) w) ∧ q = [(d, pOb v (tokVs ts) (if isW (tkAt ts i) w = true then i + 1 else i) at_ er)]) (fun _ => False) := by
  have ht := token_acs ts d v i at_ er hi
  have hw1 := wrap_succ (k := i) (by omega)
  generalize tokVs ts = tv at ht
  generalize tkAt ts i = tk at ht
  refine acs_intro Tryz.func69 rfl (by show (2 : Nat) ≤ 24; omega) (fun w0 N0 nx0 => ?_)
  refine awk_step (d + 1) [0, 1] [d] (by simp [Tryz.ntmps69] <;> rfl) ?_   -- parse.go:142
  refine aw_seq (aw_region ?_)   -- parse.go:143
  refine awlk_go (d + 1) 1 (by simp <;> rfl) ?_
  refine awl_callS1 ht Tryz.func29 rfl (by kernel_rfl) (by simp [Eng.get]) (by simp) (by decide) rfl rfl rfl (by simp <;> rfl) (fun k o hk => get_one (by simp [Eng.get]) hk) (by simp <;> rfl) ?_
  refine awlk_end (d + 1) [0, 1, 5] [d, d + 1 + 5] (by simp <;> rfl) ?_
  refine aw_seq ?_
  refine awk_step (d + 1) [0, 16] [d] (by simp <;> rfl) ?_   -- parse.go:144
  refine aw_cond rfl (fun h1 => ?_) (fun h1 => aw_skip ?_)   -- if t16
  · refine awk_step (d + 1) [4] [d] (by simp <;> rfl) ?_   -- parse.go:145
    have hf : isW tk w = false := by simp [isW] at h1 ⊢; intro a b; rcases h1 with h1 | h1 <;> exact h1 (by assumption)
    simp only [hf]
    exact aw_ret (endsS (by simp only; omega) (by simp [Tryz.results69]) (fun k o hk => get_one (by simp [Eng.get]) hk))
  have hf : isW tk w = true := by simp [isW] at h1 ⊢; exact h1
  simp only [hf, if_true]
  refine awk_step (d + 1) [] [d] (by simp [hw1] <;> rfl) ?_   -- parse.go:147
  refine awk_step (d + 1) [4] [d] (by simp <;> rfl) ?_   -- parse.go:148
  exact aw_ret (endsS (by simp only; omega) (by simp [Tryz.results69]) (fun k o hk => get_one (by simp [Eng.get]) hk))
end Go.Proofs.YtliogkkhofhfcaaGreatDoor

/- Query: the parser's reading of names, comparisons, numbers, strings. No condition. -/
set_option linter.unusedSimpArgs false
set_option maxRecDepth 4000
namespace Go.Proofs.YtliogkkhofhfcaaGreatDoor
open Go.Eng

theorem get_twoE {d e k : Nat} {x y o : Ob} {l : List (Nat × Ob)} (h : Eng.get l d = some x) (h' : Eng.get l e = some y) (hk : Eng.get [(d, x), (e, y)] k = some o) : Eng.get l k = some o := by
  simp only [Eng.get] at hk
  split at hk
  · rename_i e; subst e; rw [h]; exact hk
  · split at hk
    · rename_i e; subst e; rw [h']; exact hk
    · cases hk
theorem expect_acs (ts : List Tok) (hg : ts.length ≤ 100000) (d v i : Nat) (at_ er : Int) (w : List UInt8) (hi : i < ts.length) :
    ACS Tryz.prog 115 [.bp d v 4 0 0, .str w] [(d, pOb v (tokVs ts) i at_ er)] (fun r q => r = .bool (isW (tkAt ts i) w) ∧ q = [(d, if isW (tkAt ts i) w = true then pOb v (tokVs ts) (i + 1) at_ er else pOb v (tokVs ts) i ((tkAt ts i).2.1 : Nat) 2)]) (fun _ => False) := by
  have ha := accept_acs ts hg d v i at_ er w hi
  have hf := fail_acs ts d v i at_ er 2 hi
  generalize tokVs ts = tv at ha hf ⊢
  generalize isW (tkAt ts i) w = b at ha ⊢
  generalize tkAt ts i = tk at hf ⊢
  refine acs_intro Tryz.func115 rfl (by show (2 : Nat) ≤ 12; omega) (fun w0 N0 nx0 => ?_)
  refine awk_step (d + 1) [0, 1] [d] (by simp [Tryz.ntmps115] <;> rfl) ?_   -- parse.go:153
  refine aw_seq (aw_region ?_)   -- parse.go:154
  refine awlk_go (d + 1) 2 (by simp <;> rfl) ?_
  cases b with
  | true =>
    simp only [if_true] at ha ⊢
    refine awl_callS1 ha Tryz.func69 rfl (by kernel_rfl) (by simp [Eng.get]) (by simp) (by decide) rfl rfl rfl (by simp <;> rfl) (fun k o hk => get_one (by simp [Eng.get]) hk) (by simp <;> rfl) ?_
    refine awlk_go (d + 1) 1 (by simp <;> rfl) ?_
    refine awl_skips 2 (by simp <;> rfl) ?_
    refine awlk_end (d + 1) [4] [d] (by simp <;> rfl) ?_
    exact aw_ret (endsS (by simp only; omega) (by simp [Tryz.results115]) (fun k o hk => get_one (by simp [Eng.get]) hk))
  | false =>
    simp only [Bool.false_eq_true, if_false] at ha ⊢
    refine awl_callS1 ha Tryz.func69 rfl (by kernel_rfl) (by simp [Eng.get]) (by simp) (by decide) rfl rfl rfl (by simp <;> rfl) (fun k o hk => get_one (by simp [Eng.get]) hk) (by simp <;> rfl) ?_
    refine awlk_go (d + 1) 2 (by simp <;> rfl) ?_
    refine awl_callS1 hf Tryz.func30 rfl (by kernel_rfl) (by simp [Eng.get]) (by simp) (by decide) (by simp <;> rfl) rfl rfl (by simp <;> rfl) (fun k o hk => get_one (by simp [Eng.get]) hk) (by simp <;> rfl) ?_
    refine awlk_end (d + 1) [4] [d] (by simp <;> rfl) ?_
    exact aw_ret (endsS (by simp only; omega) (by simp [Tryz.results115]) (fun k o hk => get_one (by simp [Eng.get]) hk))

/-- A query that is being read. -/
abbrev qOb (ve : Nat) (k c n : Int) (f s : List UInt8) (kv : V) : Ob := ⟨ve, 6, 24, [.agg [.int .i64 k, .int .i64 c, .int .i64 n, .str f, .str s, kv]]⟩
def nameB (k : Int) (t : Tok) : Bool := decide (t.1 = 6) && (if k = 5 then cValid t.2.2 else hasS (namesL k) t.2.2)
set_option maxHeartbeats 2000000 in
theorem name_acs (ts : List Tok) (hg : ts.length ≤ 100000) (d v i e ve : Nat) (at_ er : Int) (hi : i < ts.length) (hde : ¬ d = e) (k c n : Int) (f s : List UInt8) (kv : V) (hkv : kv.isCell = true) :
    ACSQ gv Tryz.prog 116 [.bp d v 4 0 0, .bp e ve 6 0 0] [(d, pOb v (tokVs ts) i at_ er), (e, qOb ve k c n f s kv)]
      (fun r q => r = .bool (nameB k (tkAt ts i)) ∧ q = if nameB k (tkAt ts i) = true then [(d, pOb v (tokVs ts) (i + 1) at_ er), (e, qOb ve k c n f (tkAt ts i).2.2 kv)] else [(d, pOb v (tokVs ts) i ((tkAt ts i).2.1 : Nat) 2), (e, qOb ve k c n f s kv)]) := by
  have hed : ¬ e = d := fun h => hde h.symm
  have ht := token_acs ts d v i at_ er hi
  have hf := fail_acs ts d v i at_ er 2 hi
  have hw1 := wrap_succ (k := i) (by omega)
  generalize tokVs ts = tv at ht hf ⊢
  generalize tkAt ts i = tk at ht hf ⊢
  obtain ⟨tkk, tka, tx⟩ := tk
  have hcv := cValid_acq tx
  have hnm := names_ac k
  have hco := contains_ac (namesL k) tx
  have hpN := strs_pure (namesL k)
  have hnb : nameB k (tkk, tka, tx) = (decide (tkk = 6) && (if k = 5 then cValid tx else hasS (namesL k) tx)) := rfl
  generalize nameB k (tkk, tka, tx) = nb at hnb ⊢
  generalize cValid tx = cv at hcv hnb
  generalize strs (namesL k) = sv at hnm hco hpN
  generalize hasS (namesL k) tx = hb at hco hnb
  simp only at ht hf ⊢
  refine acsq_intro Tryz.func116 rfl (by show (2 : Nat) ≤ 50; omega) (fun w0 N0 nx0 hG => ?_)
  refine awk_step (d + e + 1) [0, 1] [d, e] (by simp [Tryz.ntmps116, hde, hed] <;> rfl) ?_   -- parse.go:251
  refine aw_seq (aw_region ?_)   -- parse.go:252
  refine awlk_go (d + e + 1) 1 (by simp <;> rfl) ?_
  refine awl_callS1 ht Tryz.func29 rfl (by kernel_rfl) (by simp [Eng.get]) (by simp) (by decide) rfl rfl rfl (by simp <;> rfl) (fun k o hk => get_one (by simp [Eng.get]) hk) (by simp <;> rfl) ?_
  refine awlk_end (d + e + 1) [0, 1, 5] [d, e, d + e + 1 + 5] (by simp [hde, hed] <;> rfl) ?_
  refine awk_step (d + e + 1) [0, 1, 5, 6] [d, e, d + e + 1 + 5] (by simp [hde, hed] <;> rfl) ?_   -- parse.go:253
  refine aw_viale ⟨[(0, .bp d v 4 0 0), (1, .bp e ve 6 0 0), (5, .bp (d + e + 1 + 5) (nx0 + 1 + 2) 3 0 0), (6, .bool nb)], [(d, pOb v tv i at_ er), (e, qOb ve k c n f s kv), (d + e + 1 + 5, ⟨nx0 + 1 + 2, 3, 79, [.agg [.int .i64 tkk, .int .i64 tka, .str tx]]⟩)], nx0 + 300, 50⟩ ?_ ?_
  · refine awk_step (d + e + 1) [0, 1, 5, 6, 16] [d, e, d + e + 1 + 5] (by simp [hde, hed] <;> rfl) ?_   -- parse.go:254
    refine aw_cond rfl (fun h1 => ?_) (fun h1 => ?_)   -- if t16
    · have hk5 : k = 5 := by simpa using h1
      rw [if_pos hk5] at hnb
      refine aw_region ?_   -- parse.go:255
      refine awlk_go (d + e + 1) 4 (by simp [hde, hed] <;> rfl) ?_
      refine awl_gcallQ hG (fun hg => hcv) Tryz.func87 rfl (by kernel_rfl) (by simp <;> rfl) rfl rfl (by simp <;> rfl) (by simp) (by simp <;> rfl) ?_
      refine awlk_end (d + e + 1) [0, 1, 5, 6] [d, e, d + e + 1 + 5] (by simp [hde, hed] <;> rfl) ?_
      rw [hnb]
      exact ⟨rfl, le_to [0, 1, 5, 6] [d, e, d + e + 1 + 5] (by simp) (by simp [hde, hed]) rfl (by simp only; omega)⟩
    · have hk5 : ¬ k = 5 := by simpa using h1
      rw [if_neg hk5] at hnb
      refine aw_draw [(0, []), (1, []), (2, []), (3, []), (4, []), (7, []), (5, []), (6, []), (8, []), (9, []), (10, []), (11, [])] hmix (by kernel_rfl) ?_   -- parse.go:257
      refine awo_go 7 (by simp [hde, hed] <;> rfl) ?_
      refine awo_call (fun hg => hnm) Tryz.func35 rfl (by kernel_rfl) rfl rfl (by simp <;> rfl) rfl rfl (by simp <;> rfl) (by simp) (by simp <;> rfl) ?_
      refine awo_go 1 (by simp [hde, hed] <;> rfl) ?_
      refine awo_call (fun hg => hco) Tryz.func67 rfl (by kernel_rfl) rfl rfl (by simp <;> rfl) rfl rfl (by simp <;> rfl) (by simp [hpN]) (by simp <;> rfl) ?_
      refine awo_end [0, 1, 5, 6] [d, e, d + e + 1 + 5] (by simp [hde, hed] <;> rfl) ?_
      rw [hnb]
      exact ⟨rfl, le_to [0, 1, 5, 6] [d, e, d + e + 1 + 5] (by simp) (by simp [hde, hed]) rfl (by simp only; omega)⟩
  refine aw_seq ?_
  refine awk_step (d + e + 1) [0, 1, 5, 35] [d, e, d + e + 1 + 5] (by simp [hde, hed] <;> rfl) ?_   -- parse.go:259
  refine aw_cond rfl (fun h2 => ?_) (fun h2 => aw_skip ?_)   -- if t35
  · have hf0 : nb = false := by simpa using h2
    rw [if_neg (by rw [hf0]; simp), hf0]
    refine aw_seq (aw_region ?_)   -- parse.go:260
    refine awlk_go (d + e + 1) 1 (by simp <;> rfl) ?_
    refine awl_callS1 hf Tryz.func30 rfl (by kernel_rfl) (by simp [Eng.get]) (by simp) (by decide) rfl rfl rfl (by simp <;> rfl) (fun k o hk => get_one (by simp [Eng.get]) hk) (by simp <;> rfl) ?_
    refine awlk_end (d + e + 1) [4] [d, e] (by simp [hde, hed] <;> rfl) ?_
    exact aw_ret (endsS (by simp only; omega) (by simp [Tryz.results116]) (fun k o hk => get_twoE (by simp [Eng.get]) (by simp [Eng.get, hde]) hk))
  have hf0 : nb = true := by simpa using h2
  rw [if_pos hf0, hf0]
  refine awk_step (d + e + 1) [0] [d, e] (by simp [hde, hed] <;> rfl) ?_   -- parse.go:262
  refine awk_step (d + e + 1) [] [d, e] (by simp [hde, hed, hw1] <;> rfl) ?_   -- parse.go:263
  refine awk_step (d + e + 1) [4] [d, e] (by simp [hde, hed] <;> rfl) ?_   -- parse.go:264
  exact aw_ret (endsS (by simp only; omega) (by simp [Tryz.results116]) (fun k o hk => get_twoE (by simp [Eng.get]) (by simp [Eng.get, hde, hkv]) hk))
end Go.Proofs.YtliogkkhofhfcaaGreatDoor

/- Query: the parser's reading of comparisons, numbers, strings. No condition. -/
set_option linter.unusedSimpArgs false
set_option maxRecDepth 4000
namespace Go.Proofs.YtliogkkhofhfcaaGreatDoor
open Go.Eng

set_option maxHeartbeats 2000000 in
theorem sign_acs (ts : List Tok) (hg : ts.length ≤ 100000) (d v i e ve : Nat) (at_ er : Int) (hi : i < ts.length) (hde : ¬ d = e) (k c n : Int) (f s : List UInt8) (kv : V) (hkv : kv.isCell = true) :
    ACS Tryz.prog 119 [.bp d v 4 0 0, .bp e ve 6 0 0] [(d, pOb v (tokVs ts) i at_ er), (e, qOb ve k c n f s kv)]
      (fun r q => r = .bool (decide ((tkAt ts i).1 = 4)) ∧ q = if (tkAt ts i).1 = 4 then [(d, pOb v (tokVs ts) (i + 1) at_ er), (e, qOb ve k (1 + idxS signsL (tkAt ts i).2.2) n f s kv)] else [(d, pOb v (tokVs ts) i ((tkAt ts i).2.1 : Nat) 2), (e, qOb ve k c n f s kv)]) (fun _ => False) := by
  have hed : ¬ e = d := fun h => hde h.symm
  have ht := token_acs ts d v i at_ er hi
  have hf := fail_acs ts d v i at_ er 2 hi
  have hw1 := wrap_succ (k := i) (by omega)
  generalize tokVs ts = tv at ht hf ⊢
  generalize tkAt ts i = tk at ht hf ⊢
  obtain ⟨tkk, tka, tx⟩ := tk
  have hix := index_ac signsL tx
  have hbd := idxS_bound signsL tx
  rw [show signsL.length = 6 from rfl] at hbd
  have hsg := signs_ac
  have hpS := strs_pure signsL
  simp only at ht hf ⊢
  generalize idxS signsL tx = j at hix hbd ⊢
  generalize strs signsL = sv at hsg hix hpS
  have hwj : IntKind.i64.wrap (1 + j) = 1 + j := wrap_in (by omega) (by omega)
  refine acs_intro Tryz.func119 rfl (by show (2 : Nat) ≤ 28; omega) (fun w0 N0 nx0 => ?_)
  refine awk_step (d + e + 1) [0, 1] [d, e] (by simp [Tryz.ntmps119, hde, hed] <;> rfl) ?_
  refine aw_seq (aw_region ?_)
  refine awlk_go (d + e + 1) 1 (by simp <;> rfl) ?_
  refine awl_callS1 ht Tryz.func29 rfl (by kernel_rfl) (by simp [Eng.get]) (by simp) (by decide) rfl rfl rfl (by simp <;> rfl) (fun k o hk => get_one (by simp [Eng.get]) hk) (by simp <;> rfl) ?_
  refine awlk_end (d + e + 1) [0, 1, 5] [d, e, d + e + 1 + 5] (by simp [hde, hed] <;> rfl) ?_
  refine aw_seq ?_
  refine awk_step (d + e + 1) [0, 1, 5, 10] [d, e, d + e + 1 + 5] (by simp [hde, hed] <;> rfl) ?_
  refine aw_cond rfl (fun h1 => ?_) (fun h1 => aw_skip ?_)
  · have hn4 : ¬ tkk = 4 := by simpa using h1
    rw [if_neg hn4, show decide (tkk = 4) = false by simpa using hn4]
    refine aw_seq (aw_region ?_)
    refine awlk_go (d + e + 1) 1 (by simp <;> rfl) ?_
    refine awl_callS1 hf Tryz.func30 rfl (by kernel_rfl) (by simp [Eng.get]) (by simp) (by decide) rfl rfl rfl (by simp <;> rfl) (fun k o hk => get_one (by simp [Eng.get]) hk) (by simp <;> rfl) ?_
    refine awlk_end (d + e + 1) [4] [d, e] (by simp [hde, hed] <;> rfl) ?_
    exact aw_ret (endsS (by simp only; omega) (by simp [Tryz.results119]) (fun k o hk => get_twoE (by simp [Eng.get]) (by simp [Eng.get, hde]) hk))
  have h4 : tkk = 4 := by simpa using h1
  rw [if_pos h4, show decide (tkk = 4) = true by simpa using h4]
  refine aw_seq (aw_draw [(0, []), (1, []), (2, []), (3, []), (4, []), (5, []), (6, []), (7, []), (8, [])] hmix (by kernel_rfl) ?_)
  refine awo_go 1 (by simp <;> rfl) ?_
  refine awo_call (fun hg => hsg) Tryz.func68 rfl (by kernel_rfl) rfl rfl (by simp <;> rfl) rfl rfl (by simp <;> rfl) (by simp) (by simp <;> rfl) ?_
  refine awo_go 2 (by simp [hde, hed] <;> rfl) ?_
  refine awo_call (fun hg => hix) Tryz.func34 rfl (by kernel_rfl) rfl rfl (by simp <;> rfl) rfl rfl (by simp <;> rfl) (by simp [hpS]) (by simp <;> rfl) ?_
  refine awo_end [0] [d, e] (by simp [hde, hed, hwj, hkv] <;> rfl) ?_
  refine awk_step (d + e + 1) [] [d, e] (by simp [hde, hed, hw1] <;> rfl) ?_
  refine awk_step (d + e + 1) [4] [d, e] (by simp [hde, hed] <;> rfl) ?_
  exact aw_ret (endsS (by simp only; omega) (by simp [Tryz.results119]) (fun k o hk => get_twoE (by simp [Eng.get]) (by simp [Eng.get, hde, hkv]) hk))
set_option maxHeartbeats 2000000 in
theorem text_acs (ts : List Tok) (hg : ts.length ≤ 100000) (d v i e ve : Nat) (at_ er : Int) (hi : i < ts.length) (hde : ¬ d = e) (k c n : Int) (f s : List UInt8) (kv : V) (hkv : kv.isCell = true) :
    ACS Tryz.prog 118 [.bp d v 4 0 0, .bp e ve 6 0 0] [(d, pOb v (tokVs ts) i at_ er), (e, qOb ve k c n f s kv)]
      (fun r q => r = .bool (decide ((tkAt ts i).1 = 5)) ∧ q = if (tkAt ts i).1 = 5 then [(d, pOb v (tokVs ts) (i + 1) at_ er), (e, qOb ve k c n f (tkAt ts i).2.2 kv)] else [(d, pOb v (tokVs ts) i ((tkAt ts i).2.1 : Nat) 2), (e, qOb ve k c n f s kv)]) (fun _ => False) := by
  have hed : ¬ e = d := fun h => hde h.symm
  have ht := token_acs ts d v i at_ er hi
  have hf := fail_acs ts d v i at_ er 2 hi
  have hw1 := wrap_succ (k := i) (by omega)
  generalize tokVs ts = tv at ht hf ⊢
  generalize tkAt ts i = tk at ht hf ⊢
  obtain ⟨tkk, tka, tx⟩ := tk
  simp only at ht hf ⊢
  refine acs_intro Tryz.func118 rfl (by show (2 : Nat) ≤ 25; omega) (fun w0 N0 nx0 => ?_)
  refine awk_step (d + e + 1) [0, 1] [d, e] (by simp [Tryz.ntmps118, hde, hed] <;> rfl) ?_
  refine aw_seq (aw_region ?_)
  refine awlk_go (d + e + 1) 1 (by simp <;> rfl) ?_
  refine awl_callS1 ht Tryz.func29 rfl (by kernel_rfl) (by simp [Eng.get]) (by simp) (by decide) rfl rfl rfl (by simp <;> rfl) (fun k o hk => get_one (by simp [Eng.get]) hk) (by simp <;> rfl) ?_
  refine awlk_end (d + e + 1) [0, 1, 5] [d, e, d + e + 1 + 5] (by simp [hde, hed] <;> rfl) ?_
  refine aw_seq ?_
  refine awk_step (d + e + 1) [0, 1, 5, 10] [d, e, d + e + 1 + 5] (by simp [hde, hed] <;> rfl) ?_
  refine aw_cond rfl (fun h1 => ?_) (fun h1 => aw_skip ?_)
  · have hn4 : ¬ tkk = 5 := by simpa using h1
    rw [if_neg hn4, show decide (tkk = 5) = false by simpa using hn4]
    refine aw_seq (aw_region ?_)
    refine awlk_go (d + e + 1) 1 (by simp <;> rfl) ?_
    refine awl_callS1 hf Tryz.func30 rfl (by kernel_rfl) (by simp [Eng.get]) (by simp) (by decide) rfl rfl rfl (by simp <;> rfl) (fun k o hk => get_one (by simp [Eng.get]) hk) (by simp <;> rfl) ?_
    refine awlk_end (d + e + 1) [4] [d, e] (by simp [hde, hed] <;> rfl) ?_
    exact aw_ret (endsS (by simp only; omega) (by simp [Tryz.results118]) (fun k o hk => get_twoE (by simp [Eng.get]) (by simp [Eng.get, hde]) hk))
  have h4 : tkk = 5 := by simpa using h1
  rw [if_pos h4, show decide (tkk = 5) = true by simpa using h4]
  refine awk_step (d + e + 1) [0] [d, e] (by simp [hde, hed, hkv] <;> rfl) ?_
  refine awk_step (d + e + 1) [] [d, e] (by simp [hde, hed, hw1] <;> rfl) ?_
  refine awk_step (d + e + 1) [4] [d, e] (by simp [hde, hed] <;> rfl) ?_
  exact aw_ret (endsS (by simp only; omega) (by simp [Tryz.results118]) (fun k o hk => get_twoE (by simp [Eng.get]) (by simp [Eng.get, hde, hkv]) hk))

/-- What a token says as a number: the number, or the error. -/
def numR (t : Tok) : Except Int Nat :=
  if t.1 ≠ 6 then .error 2 else if decOk t.2.2 = false then .error 2 else if 400 < t.2.2.length then .error 3 else if 999999999 < decF t.2.2 0 then .error 3 else .ok (decF t.2.2 0)
set_option maxHeartbeats 4000000 in
theorem number_acs (ts : List Tok) (hg : ts.length ≤ 100000) (d v i e ve : Nat) (at_ er : Int) (hi : i < ts.length) (hde : ¬ d = e) (hsm : (tkAt ts i).2.2.length ≤ 1000) (k c n : Int) (f s : List UInt8) (kv : V) (hkv : kv.isCell = true) :
    ACS Tryz.prog 117 [.bp d v 4 0 0, .bp e ve 6 0 0] [(d, pOb v (tokVs ts) i at_ er), (e, qOb ve k c n f s kv)]
      (fun r q => match numR (tkAt ts i) with
        | .ok m => r = .bool true ∧ q = [(d, pOb v (tokVs ts) (i + 1) at_ er), (e, qOb ve k c m f s kv)]
        | .error x => r = .bool false ∧ q = [(d, pOb v (tokVs ts) i ((tkAt ts i).2.1 : Nat) x), (e, qOb ve k c n f s kv)]) (fun _ => False) := by
  have hed : ¬ e = d := fun h => hde h.symm
  have ht := token_acs ts d v i at_ er hi
  have hf := fun x => fail_acs ts d v i at_ er x hi
  have hw1 := wrap_succ (k := i) (by omega)
  generalize tokVs ts = tv at ht hf ⊢
  generalize tkAt ts i = tk at ht hf hsm ⊢
  obtain ⟨tkk, tka, tx⟩ := tk
  simp only at ht hf hsm ⊢
  have hnp := natParse_ac tx (by omega)
  refine acs_intro Tryz.func117 rfl (by show (2 : Nat) ≤ 56; omega) (fun w0 N0 nx0 => ?_)
  refine awk_step (d + e + 1) [0, 1] [d, e] (by simp [Tryz.ntmps117, hde, hed] <;> rfl) ?_
  refine aw_seq (aw_region ?_)
  refine awlk_go (d + e + 1) 1 (by simp <;> rfl) ?_
  refine awl_callS1 ht Tryz.func29 rfl (by kernel_rfl) (by simp [Eng.get]) (by simp) (by decide) rfl rfl rfl (by simp <;> rfl) (fun k o hk => get_one (by simp [Eng.get]) hk) (by simp <;> rfl) ?_
  refine awlk_end (d + e + 1) [0, 1, 5] [d, e, d + e + 1 + 5] (by simp [hde, hed] <;> rfl) ?_
  refine aw_seq ?_
  refine awk_step (d + e + 1) [0, 1, 5, 14] [d, e, d + e + 1 + 5] (by simp [hde, hed] <;> rfl) ?_
  refine aw_cond rfl (fun h1 => ?_) (fun h1 => aw_skip ?_)
  · have hn6 : tkk ≠ 6 := by simpa using h1
    have hR : numR (tkk, tka, tx) = .error 2 := by unfold numR; rw [if_pos hn6]
    rw [hR]
    refine aw_seq (aw_region ?_)
    refine awlk_go (d + e + 1) 1 (by simp <;> rfl) ?_
    refine awl_callS1 (hf 2) Tryz.func30 rfl (by kernel_rfl) (by simp [Eng.get]) (by simp) (by decide) rfl rfl rfl (by simp <;> rfl) (fun k o hk => get_one (by simp [Eng.get]) hk) (by simp <;> rfl) ?_
    refine awlk_end (d + e + 1) [4] [d, e] (by simp [hde, hed] <;> rfl) ?_
    exact aw_ret (endsS (by simp only; omega) (by simp [Tryz.results117]) (fun k o hk => get_twoE (by simp [Eng.get]) (by simp [Eng.get, hde]) hk))
  have h6 : ¬ tkk ≠ 6 := by simpa using h1
  have hR : numR (tkk, tka, tx) = if decOk tx = false then .error 2 else if 400 < tx.length then .error 3 else if 999999999 < decF tx 0 then .error 3 else .ok (decF tx 0) := by unfold numR; rw [if_neg h6]
  generalize numR (tkk, tka, tx) = R at hR ⊢
  -- the number as limbs
  obtain ⟨m, x, hnpv, hmx⟩ : ∃ (m : Nat) (x : Int), natPV tx = .tup [.ro 1 (u32s (natL m)), .int .i64 x] ∧ ((x = 2 ∧ R = .error 2) ∨ (x = 5 ∧ R = .error 3) ∨ (x = 0 ∧ R = if 999999999 < m then .error 3 else .ok m)) := by
    unfold natPV
    by_cases q1 : decOk tx = false
    · rw [if_pos q1] at hR ⊢
      exact ⟨0, 2, by rw [natL_zero]; rfl, .inl ⟨rfl, hR⟩⟩
    · rw [if_neg q1] at hR ⊢
      by_cases q2 : 400 < tx.length
      · rw [if_pos q2] at hR ⊢
        exact ⟨0, 5, by rw [natL_zero]; rfl, .inr (.inl ⟨rfl, hR⟩)⟩
      · rw [if_neg q2] at hR ⊢
        exact ⟨decF tx 0, 0, rfl, .inr (.inr ⟨rfl, hR⟩)⟩
  rw [hnpv] at hnp
  have hui := uint_ac m
  have hpl := u32s_pure (natL m)
  generalize u32s (natL m) = lv at hnp hui hpl
  refine aw_seq (aw_region ?_)
  refine awlk_go (d + e + 1) 2 (by simp [hde, hed] <;> rfl) ?_
  refine awl_call1 hnp Tryz.func125 rfl (by kernel_rfl) rfl rfl rfl rfl rfl (by simp <;> rfl) ?_
  refine awlk_end (d + e + 1) [0, 1, 6, 7] [d, e] (by simp [hde, hed] <;> rfl) ?_
  refine aw_seq ?_
  refine awk_step (d + e + 1) [0, 1, 6, 7, 24] [d, e] (by simp [hde, hed] <;> rfl) ?_
  refine aw_cond rfl (fun h2 => ?_) (fun h2 => aw_skip ?_)
  · have hx2 : x = 2 := by simpa using h2
    have hR2 : R = .error 2 := by rcases hmx with h | h | h <;> first | exact h.2 | (have := h.1; omega)
    rw [hR2]
    refine aw_seq (aw_region ?_)
    refine awlk_go (d + e + 1) 1 (by simp <;> rfl) ?_
    refine awl_callS1 (hf 2) Tryz.func30 rfl (by kernel_rfl) (by simp [Eng.get]) (by simp) (by decide) rfl rfl rfl (by simp <;> rfl) (fun k o hk => get_one (by simp [Eng.get]) hk) (by simp <;> rfl) ?_
    refine awlk_end (d + e + 1) [4] [d, e] (by simp [hde, hed] <;> rfl) ?_
    exact aw_ret (endsS (by simp only; omega) (by simp [Tryz.results117]) (fun k o hk => get_twoE (by simp [Eng.get]) (by simp [Eng.get, hde]) hk))
  have hx2 : ¬ x = 2 := by simpa using h2
  refine aw_seq (aw_region ?_)
  refine awlk_go (d + e + 1) 1 (by simp <;> rfl) ?_
  obtain ⟨um, ub, hum, hub⟩ : ∃ (um : Nat) (ub : Bool), (if m < 18446744073709551616 then [V.int .u64 m, .bool true] else [.int .u64 0, .bool false]) = [.int .u64 um, .bool ub] ∧ ((ub = true ∧ um = m ∧ m < 18446744073709551616) ∨ (ub = false ∧ um = 0 ∧ ¬ m < 18446744073709551616)) := by
    by_cases h : m < 18446744073709551616
    · rw [if_pos h]; exact ⟨m, true, rfl, .inl ⟨rfl, rfl, h⟩⟩
    · rw [if_neg h]; exact ⟨0, false, rfl, .inr ⟨rfl, rfl, h⟩⟩
  rw [hum] at hui
  refine awl_call1 hui Tryz.func126 rfl (by kernel_rfl) rfl rfl rfl (by simp <;> rfl) (by simp [hpl]) (by simp <;> rfl) ?_
  refine awlk_end (d + e + 1) [0, 1, 7, 8, 9] [d, e] (by simp [hde, hed] <;> rfl) ?_
  refine aw_seq ?_
  refine awk_step (d + e + 1) [0, 1, 8, 41] [d, e] (by simp [hde, hed] <;> rfl) ?_
  refine aw_cond rfl (fun h3 => ?_) (fun h3 => aw_skip ?_)
  · have hR3 : R = .error 3 := by
      rcases hmx with h | h | h
      · omega
      · exact h.2
      · rw [h.2]
        rw [h.1] at h3
        rcases hub with ⟨rfl, rfl, q⟩ | ⟨rfl, rfl, q⟩
        · simp at h3
          rw [if_pos (by omega)]
        · rw [if_pos (by omega)]
    rw [hR3]
    refine aw_seq (aw_region ?_)
    refine awlk_go (d + e + 1) 1 (by simp <;> rfl) ?_
    refine awl_callS1 (hf 3) Tryz.func30 rfl (by kernel_rfl) (by simp [Eng.get]) (by simp) (by decide) rfl rfl rfl (by simp <;> rfl) (fun k o hk => get_one (by simp [Eng.get]) hk) (by simp <;> rfl) ?_
    refine awlk_end (d + e + 1) [4] [d, e] (by simp [hde, hed] <;> rfl) ?_
    exact aw_ret (endsS (by simp only; omega) (by simp [Tryz.results117]) (fun k o hk => get_twoE (by simp [Eng.get]) (by simp [Eng.get, hde]) hk))
  have hgood : um = m ∧ m ≤ 999999999 ∧ R = .ok m := by
    simp at h3
    rcases hub with ⟨rfl, rfl, q⟩ | ⟨rfl, rfl, q⟩
    · have hx0 : x = 0 := by simpa using h3.1
      rcases hmx with h | h | h
      · omega
      · omega
      · have hm : um ≤ 999999999 := by have := h3.2; omega
        exact ⟨rfl, hm, by rw [h.2, if_neg (by omega)]⟩
    · simp at h3
  obtain ⟨rfl, hm9, hRm⟩ := hgood
  rw [hRm]
  have hwm : IntKind.i64.wrap (um : Int) = um := wrap_in (by omega) (by omega)
  refine awk_step (d + e + 1) [0] [d, e] (by simp [hde, hed, hkv, hwm] <;> rfl) ?_
  refine awk_step (d + e + 1) [] [d, e] (by simp [hde, hed, hw1] <;> rfl) ?_
  refine awk_step (d + e + 1) [4] [d, e] (by simp [hde, hed] <;> rfl) ?_
  exact aw_ret (endsS (by simp only; omega) (by simp [Tryz.results117]) (fun k o hk => get_twoE (by simp [Eng.get]) (by simp [Eng.get, hde, hkv]) hk))
end Go.Proofs.YtliogkkhofhfcaaGreatDoor

/- Query: the parser's conditions. No condition. -/
set_option linter.unusedSimpArgs false
set_option maxRecDepth 4000
namespace Go.Proofs.YtliogkkhofhfcaaGreatDoor
open Go.Eng

/-- A condition that is read at a place: the condition and the place behind it, or the place of the error and the error. -/
def condP (ts : List Tok) (i : Nat) : Except (Nat × Int) (Qy × Nat) :=
  if isW (tkAt ts i) [99, 111, 110, 116, 101, 110, 116] = true then
    (if isW (tkAt ts (i + 1)) [117, 110, 100, 101, 114] = true then (if nameB 5 (tkAt ts (i + 2)) = true then .ok (.mk 5 0 0 [] (tkAt ts (i + 2)).2.2 [], i + 3) else .error (i + 2, 2)) else .error (i + 1, 2))
  else if isW (tkAt ts i) [115, 116, 97, 116, 101] = true then (if nameB 6 (tkAt ts (i + 1)) = true then .ok (.mk 6 0 0 [] (tkAt ts (i + 1)).2.2 [], i + 2) else .error (i + 1, 2))
  else if isW (tkAt ts i) [107, 105, 110, 100] = true then (if nameB 7 (tkAt ts (i + 1)) = true then .ok (.mk 7 0 0 [] (tkAt ts (i + 1)).2.2 [], i + 2) else .error (i + 1, 2))
  else if isW (tkAt ts i) [101, 110, 101, 109, 121] = true then
    (if isW (tkAt ts (i + 1)) [111, 102] = true then (match numR (tkAt ts (i + 2)) with | .ok m => .ok (.mk 8 0 m [] [] [], i + 3) | .error e => .error (i + 2, e)) else .error (i + 1, 2))
  else if isW (tkAt ts i) [115, 116, 101, 109] = true then
    (if isW (tkAt ts (i + 1)) [104, 97, 115] = true then (if (tkAt ts (i + 2)).1 = 5 then .ok (.mk 9 0 0 [] (tkAt ts (i + 2)).2.2 [], i + 3) else .error (i + 2, 2)) else .error (i + 1, 2))
  else if (decide ((tkAt ts i).1 = 6) && hasS fieldsL (tkAt ts i).2.2) = true then
    (if (tkAt ts (i + 1)).1 = 4 then (match numR (tkAt ts (i + 2)) with | .ok m => .ok (.mk 4 (1 + idxS signsL (tkAt ts (i + 1)).2.2) m (tkAt ts i).2.2 [] [], i + 3) | .error e => .error (i + 2, e)) else .error (i + 1, 2))
  else .error (i, 2)
/-- No query. -/
def zQ : V := .agg [.int .i64 0, .int .i64 0, .int .i64 0, .str [], .str [], .nils]
@[simp] theorem zQ_eq : zQ = .agg [.int .i64 0, .int .i64 0, .int .i64 0, .str [], .str [], .nils] := rfl
/-- How a parser stands behind a reading that went well, or did not. -/
def PRes (ts : List Tok) (d v : Nat) (res : Except (Nat × Int) (Qy × Nat)) : V → List (Nat × Ob) → Prop := fun r q => match res with
  | .ok (x, j) => r = .tup [x.v, .bool true] ∧ q = [(d, pOb v (tokVs ts) j 0 0)] ∧ j < ts.length
  | .error (j, e) => r = .tup [zQ, .bool false] ∧ q = [(d, pOb v (tokVs ts) j ((tkAt ts j).2.1 : Nat) e)] ∧ j < ts.length
theorem isW_kind {t : Tok} {w : List UInt8} (h : isW t w = true) : t.1 = 6 := by simp [isW] at h; exact h.1
theorem nameB_kind {k : Int} {t : Tok} (h : nameB k t = true) : t.1 = 6 := by simp [nameB] at h; exact h.1
theorem numR_kind {t : Tok} {m : Nat} (h : numR t = .ok m) : t.1 = 6 := by
  unfold numR at h
  split at h
  · cases h
  · rename_i h1; simpa using h1
def CondI (ts : List Tok) (i : Nat) (p : Bool × Nat × Int × Int × Int × Int × Int × List UInt8 × List UInt8 × Nat) : Prop := match condP ts i with
  | .ok (x, j) => p.1 = true ∧ p.2.1 = j ∧ p.2.2.1 = 0 ∧ p.2.2.2.1 = 0 ∧ x = .mk p.2.2.2.2.1 p.2.2.2.2.2.1 p.2.2.2.2.2.2.1 p.2.2.2.2.2.2.2.1 p.2.2.2.2.2.2.2.2.1 [] ∧ j < ts.length
  | .error (j, e) => p.1 = false ∧ p.2.1 = j ∧ p.2.2.1 = ((tkAt ts j).2.1 : Nat) ∧ p.2.2.2.1 = e ∧ j < ts.length

theorem has_twoE {d e k : Nat} {x y x' y' : Ob} (h : Eng.get [(d, x), (e, y)] k = none) : Eng.get [(d, x'), (e, y')] k = none := by
  simp only [Eng.get] at h ⊢
  split at h
  · cases h
  · rename_i h1
    split at h
    · cases h
    · rename_i h2; rw [if_neg h1, if_neg h2]
set_option maxHeartbeats 16000000 in
theorem condition_acs (ts : List Tok) (hgd : Gd ts) (d v i : Nat) (hi : i < ts.length) :
    ACSQ gv Tryz.prog 109 [.bp d v 4 0 0] [(d, pOb v (tokVs ts) i 0 0)] (PRes ts d v (condP ts i)) := by
  have hfew := hgd.few
  have hm1 : (tkAt ts i).1 = 6 → i + 1 < ts.length := fun h => hgd.more i hi (by omega) (by omega)
  have hm2 : (tkAt ts i).1 = 6 → (tkAt ts (i + 1)).1 = 6 ∨ (tkAt ts (i + 1)).1 = 4 → i + 2 < ts.length := fun h h' => hgd.more (i + 1) (hm1 h) (by omega) (by omega)
  have hm3 : (tkAt ts i).1 = 6 → (tkAt ts (i + 1)).1 = 6 ∨ (tkAt ts (i + 1)).1 = 4 → (tkAt ts (i + 2)).1 = 6 ∨ (tkAt ts (i + 2)).1 = 5 → i + 3 < ts.length := fun h h' h'' => hgd.more (i + 2) (hm2 h h') (by omega) (by omega)
  have hkb : ∀ k : Nat, ¬ d = d + 1 + k := fun k => by omega
  have hkb' : ∀ k : Nat, ¬ d + 1 + k = d := fun k => by omega
  have hfin : ∀ (j : Nat) (a e : Int), pOb v (tokVs ts) j a e = pOb v (tokVs ts) j a e := fun _ _ _ => rfl
  have htok := token_acs ts d v i 0 0 hi
  have hacc := fun w => accept_acs ts hfew d v i 0 0 w hi
  have hexp := fun (h : i + 1 < ts.length) w => expect_acs ts hfew d v (i + 1) 0 0 w h
  have hfail := fail_acs ts d v i 0 0 2 hi
  have hnam := fun (j : Nat) (h : j < ts.length) (e ve : Nat) (he : ¬ d = e) k => name_acs ts hfew d v j e ve 0 0 h he k 0 0 [] [] .nils rfl
  have hnum := fun (j : Nat) (h : j < ts.length) (e ve : Nat) (he : ¬ d = e) k c f => number_acs ts hfew d v j e ve 0 0 h he (hgd.small j) k c 0 f [] .nils rfl
  have htxt := fun (j : Nat) (h : j < ts.length) (e ve : Nat) (he : ¬ d = e) => text_acs ts hfew d v j e ve 0 0 h he 9 0 0 [] [] .nils rfl
  have hsig := fun (j : Nat) (h : j < ts.length) (e ve : Nat) (he : ¬ d = e) f => sign_acs ts hfew d v j e ve 0 0 h he 4 0 0 f [] .nils rfl
  have hn4 := names_ac 4
  rw [show namesL 4 = fieldsL from rfl] at hn4
  have hcoF := contains_ac fieldsL (tkAt ts i).2.2
  have hpF := strs_pure fieldsL
  generalize strs fieldsL = fv at hn4 hcoF hpF
  have hw1 := wrap_succ (k := i) (by omega)
  refine acsq_intro Tryz.func109 rfl (by show (1 : Nat) ≤ 84; omega) (fun w0 N0 nx0 hG => ?_)
  refine awk_step (d + 1) [0, 2] [d, d + 1 + 2] (by simp [Tryz.ntmps109] <;> rfl) ?_   -- parse.go:218
  refine awk_step (d + 1) [0, 2, 4] [d, d + 1 + 2, d + 1 + 4] (by simp <;> rfl) ?_   -- parse.go:219
  refine awk_step (d + 1) [0, 2, 4, 5] [d, d + 1 + 2, d + 1 + 4] (by simp <;> rfl) ?_   -- parse.go:220
  refine aw_viaE (fun p : Bool × Nat × Int × Int × Int × Int × Int × List UInt8 × List UInt8 × Nat => ⟨[(2, .bp (d + 1 + 2) nx0 6 0 0), (4, .bp (d + 1 + 4) (nx0 + 2) 6 0 0), (5, .bool p.1)], [(d, pOb v (tokVs ts) p.2.1 p.2.2.1 p.2.2.2.1), (d + 1 + 2, qOb nx0 0 0 0 [] [] .nils), (d + 1 + 4, qOb (nx0 + 2) p.2.2.2.2.1 p.2.2.2.2.2.1 p.2.2.2.2.2.2.1 p.2.2.2.2.2.2.2.1 p.2.2.2.2.2.2.2.2.1 .nils)], p.2.2.2.2.2.2.2.2.2, 84⟩)
    (fun p => nx0 ≤ p.2.2.2.2.2.2.2.2.2 ∧ CondI ts i p) ?_ ?_
  · refine aw_seq (aw_region ?_)
    refine awlk_go (d + 1) 1 (by simp <;> rfl) ?_
    refine awl_callS1 htok Tryz.func29 rfl (by kernel_rfl) (by simp [Eng.get]) (by simp) (by decide) rfl rfl rfl (by simp <;> rfl) (fun k o hk => get_one (by simp [Eng.get, hkb]) hk) (by simp <;> rfl) ?_
    refine awlk_end (d + 1) [0, 2, 4, 5, 6] [d, d + 1 + 2, d + 1 + 4, d + 1 + 6] (by simp [hkb, hkb'] <;> rfl) ?_
    refine aw_block ?_
    have ha0 := hacc [99, 111, 110, 116, 101, 110, 116]
    cases hb0 : isW (tkAt ts i) [99, 111, 110, 116, 101, 110, 116] with
    | true =>
      simp only [hb0, Bool.false_eq_true, if_false, if_true, reduceIte, reduceCtorEq] at ha0
      have h6 := isW_kind hb0
      have hj1 := hm1 h6
      refine aw_seq (aw_region ?_)
      refine awlk_go (d + 1) 1 (by simp <;> rfl) ?_
      refine awl_callS1 ha0 Tryz.func69 rfl (by kernel_rfl) (by simp [Eng.get]) (by simp) (by decide) rfl rfl rfl (by simp <;> rfl) (fun k o hk => get_one (by simp [Eng.get, hkb]) hk) (by simp <;> rfl) ?_
      refine awlk_end (d + 1) [0, 2, 4, 5, 6, 11] [d, d + 1 + 2, d + 1 + 4, d + 1 + 6] (by simp [hkb, hkb'] <;> rfl) ?_
      refine aw_cond rfl (fun _ => ?_) (fun h => by simp at h)
      refine awk_step (d + 1) [0, 2, 4] [d, d + 1 + 2, d + 1 + 4] (by simp [hkb, hkb'] <;> rfl) ?_
      refine aw_region ?_
      refine awlk_go (d + 1) 1 (by simp <;> rfl) ?_
      have he := hexp hj1 [117, 110, 100, 101, 114]
      cases hs : isW (tkAt ts (i + 1)) [117, 110, 100, 101, 114] with
      | true =>
        simp only [hs, Bool.false_eq_true, if_false, if_true, reduceIte, reduceCtorEq] at he
        have hj : i + 2 < ts.length := hm2 h6 (.inl (isW_kind hs))
        refine awl_callS1 he Tryz.func115 rfl (by kernel_rfl) (by simp [Eng.get]) (by simp) (by decide) rfl rfl rfl (by simp <;> rfl) (fun k o hk => get_one (by simp [Eng.get, hkb]) hk) (by simp <;> rfl) ?_
        refine awlk_go (d + 1) 2 (by simp <;> rfl) ?_
        have hcall := hnam (i + 2) hj (d + 1 + 4) (nx0 + 2) (hkb 4) 5
        cases hN : nameB 5 (tkAt ts (i + 2)) with
        | true =>
          simp only [hN, Bool.false_eq_true, if_false, if_true, reduceIte, reduceCtorEq] at hcall
          have hj3 : i + 3 < ts.length := by have := nameB_kind hN; exact hgd.more (i + 2) hj (by omega) (by omega)
          refine awl_callSQ hG hcall Tryz.func116 rfl (by kernel_rfl) (by simp <;> rfl) rfl rfl (by simp <;> rfl) (fun k o hk => get_twoE (by simp [Eng.get, hkb, hkb']) (by simp [Eng.get, hkb, hkb']) hk) ?_
          rintro r outs nx ⟨rfl, rfl⟩ hnx
          have hnx' : nx0 ≤ nx := by simp at hnx; omega
          refine ⟨fun k hk => has_twoE hk, _, by simp [hkb, hkb'] <;> rfl, ?_⟩
          refine awlk_end (d + 1) [2, 4, 5] [d, d + 1 + 2, d + 1 + 4] (by simp [hkb, hkb'] <;> rfl) ?_
          refine ⟨(true, i + 3, 0, 0, 5, 0, 0, [], (tkAt ts (i + 2)).2.2, nx + 1000), ⟨by simp only; omega, ?_⟩, le_to [2, 4, 5] [d, d + 1 + 2, d + 1 + 4] (by simp) (by simp [hkb, hkb']) rfl (by simp only; omega)⟩
          simp only [CondI, condP, hb0, hs, hN, Bool.false_eq_true, if_false, if_true, reduceIte, reduceCtorEq]
          exact ⟨by trivial, by trivial, by trivial, by trivial, by trivial, by first | assumption | omega⟩
        | false =>
          simp only [hN, Bool.false_eq_true, if_false, if_true, reduceIte, reduceCtorEq] at hcall
          refine awl_callSQ hG hcall Tryz.func116 rfl (by kernel_rfl) (by simp <;> rfl) rfl rfl (by simp <;> rfl) (fun k o hk => get_twoE (by simp [Eng.get, hkb, hkb']) (by simp [Eng.get, hkb, hkb']) hk) ?_
          rintro r outs nx ⟨rfl, rfl⟩ hnx
          have hnx' : nx0 ≤ nx := by simp at hnx; omega
          refine ⟨fun k hk => has_twoE hk, _, by simp [hkb, hkb'] <;> rfl, ?_⟩
          refine awlk_end (d + 1) [2, 4, 5] [d, d + 1 + 2, d + 1 + 4] (by simp [hkb, hkb'] <;> rfl) ?_
          refine ⟨(false, i + 2, ((tkAt ts (i + 2)).2.1 : Nat), 2, 5, 0, 0, [], [], nx + 1000), ⟨by simp only; omega, ?_⟩, le_to [2, 4, 5] [d, d + 1 + 2, d + 1 + 4] (by simp) (by simp [hkb, hkb']) rfl (by simp only; omega)⟩
          simp only [CondI, condP, hb0, hs, hN, Bool.false_eq_true, if_false, if_true, reduceIte, reduceCtorEq]
          exact ⟨by trivial, by trivial, by trivial, by trivial, by first | assumption | omega⟩
      | false =>
        simp only [hs, Bool.false_eq_true, if_false, if_true, reduceIte, reduceCtorEq] at he
        refine awl_callS1 he Tryz.func115 rfl (by kernel_rfl) (by simp [Eng.get]) (by simp) (by decide) rfl rfl rfl (by simp <;> rfl) (fun k o hk => get_one (by simp [Eng.get, hkb]) hk) (by simp <;> rfl) ?_
        refine awlk_go (d + 1) 1 (by simp <;> rfl) ?_
        refine awl_skips 2 (by simp <;> rfl) ?_
        refine awlk_end (d + 1) [2, 4, 5] [d, d + 1 + 2, d + 1 + 4] (by simp [hkb, hkb'] <;> rfl) ?_
        refine ⟨(false, i + 1, ((tkAt ts (i + 1)).2.1 : Nat), 2, 5, 0, 0, [], [], nx0 + 1000), ⟨by simp only; omega, ?_⟩, le_to [2, 4, 5] [d, d + 1 + 2, d + 1 + 4] (by simp) (by simp [hkb, hkb']) rfl (by simp only; omega)⟩
        simp only [CondI, condP, hb0, hs, Bool.false_eq_true, if_false, if_true, reduceIte, reduceCtorEq]
        exact ⟨by trivial, by trivial, by trivial, by trivial, by first | assumption | omega⟩
    | false =>
      simp only [hb0, Bool.false_eq_true, if_false, if_true, reduceIte, reduceCtorEq] at ha0
      refine aw_seq (aw_region ?_)
      refine awlk_go (d + 1) 1 (by simp <;> rfl) ?_
      refine awl_callS1 ha0 Tryz.func69 rfl (by kernel_rfl) (by simp [Eng.get]) (by simp) (by decide) rfl rfl rfl (by simp <;> rfl) (fun k o hk => get_one (by simp [Eng.get, hkb]) hk) (by simp <;> rfl) ?_
      refine awlk_end (d + 1) [0, 2, 4, 5, 6, 11] [d, d + 1 + 2, d + 1 + 4, d + 1 + 6] (by simp [hkb, hkb'] <;> rfl) ?_
      refine aw_cond rfl (fun h => by simp at h) (fun _ => ?_)
      have ha1 := hacc [115, 116, 97, 116, 101]
      cases hb1 : isW (tkAt ts i) [115, 116, 97, 116, 101] with
      | true =>
        simp only [hb1, Bool.false_eq_true, if_false, if_true, reduceIte, reduceCtorEq] at ha1
        have h6 := isW_kind hb1
        have hj1 := hm1 h6
        refine aw_seq (aw_region ?_)
        refine awlk_go (d + 1) 1 (by simp <;> rfl) ?_
        refine awl_callS1 ha1 Tryz.func69 rfl (by kernel_rfl) (by simp [Eng.get]) (by simp) (by decide) rfl rfl rfl (by simp <;> rfl) (fun k o hk => get_one (by simp [Eng.get, hkb]) hk) (by simp <;> rfl) ?_
        refine awlk_end (d + 1) [0, 2, 4, 5, 6, 21] [d, d + 1 + 2, d + 1 + 4, d + 1 + 6] (by simp [hkb, hkb'] <;> rfl) ?_
        refine aw_cond rfl (fun _ => ?_) (fun h => by simp at h)
        refine awk_step (d + 1) [0, 2, 4] [d, d + 1 + 2, d + 1 + 4] (by simp [hkb, hkb'] <;> rfl) ?_
        refine aw_region ?_
        refine awlk_go (d + 1) 1 (by simp <;> rfl) ?_
        have hj := hj1
        have hcall := hnam (i + 1) hj (d + 1 + 4) (nx0 + 2) (hkb 4) 6
        cases hN : nameB 6 (tkAt ts (i + 1)) with
        | true =>
          simp only [hN, Bool.false_eq_true, if_false, if_true, reduceIte, reduceCtorEq] at hcall
          have hj3 : i + 2 < ts.length := by have := nameB_kind hN; exact hgd.more (i + 1) hj (by omega) (by omega)
          refine awl_callSQ hG hcall Tryz.func116 rfl (by kernel_rfl) rfl rfl rfl (by simp <;> rfl) (fun k o hk => get_twoE (by simp [Eng.get, hkb, hkb']) (by simp [Eng.get, hkb, hkb']) hk) ?_
          rintro r outs nx ⟨rfl, rfl⟩ hnx
          have hnx' : nx0 ≤ nx := by simp at hnx; omega
          refine ⟨fun k hk => has_twoE hk, _, by simp [hkb, hkb'] <;> rfl, ?_⟩
          refine awlk_end (d + 1) [2, 4, 5] [d, d + 1 + 2, d + 1 + 4] (by simp [hkb, hkb'] <;> rfl) ?_
          refine ⟨(true, i + 2, 0, 0, 6, 0, 0, [], (tkAt ts (i + 1)).2.2, nx + 1000), ⟨by simp only; omega, ?_⟩, le_to [2, 4, 5] [d, d + 1 + 2, d + 1 + 4] (by simp) (by simp [hkb, hkb']) rfl (by simp only; omega)⟩
          simp only [CondI, condP, hb0, hb1, hN, Bool.false_eq_true, if_false, if_true, reduceIte, reduceCtorEq]
          exact ⟨by trivial, by trivial, by trivial, by trivial, by trivial, by first | assumption | omega⟩
        | false =>
          simp only [hN, Bool.false_eq_true, if_false, if_true, reduceIte, reduceCtorEq] at hcall
          refine awl_callSQ hG hcall Tryz.func116 rfl (by kernel_rfl) rfl rfl rfl (by simp <;> rfl) (fun k o hk => get_twoE (by simp [Eng.get, hkb, hkb']) (by simp [Eng.get, hkb, hkb']) hk) ?_
          rintro r outs nx ⟨rfl, rfl⟩ hnx
          have hnx' : nx0 ≤ nx := by simp at hnx; omega
          refine ⟨fun k hk => has_twoE hk, _, by simp [hkb, hkb'] <;> rfl, ?_⟩
          refine awlk_end (d + 1) [2, 4, 5] [d, d + 1 + 2, d + 1 + 4] (by simp [hkb, hkb'] <;> rfl) ?_
          refine ⟨(false, i + 1, ((tkAt ts (i + 1)).2.1 : Nat), 2, 6, 0, 0, [], [], nx + 1000), ⟨by simp only; omega, ?_⟩, le_to [2, 4, 5] [d, d + 1 + 2, d + 1 + 4] (by simp) (by simp [hkb, hkb']) rfl (by simp only; omega)⟩
          simp only [CondI, condP, hb0, hb1, hN, Bool.false_eq_true, if_false, if_true, reduceIte, reduceCtorEq]
          exact ⟨by trivial, by trivial, by trivial, by trivial, by first | assumption | omega⟩
      | false =>
        simp only [hb1, Bool.false_eq_true, if_false, if_true, reduceIte, reduceCtorEq] at ha1
        refine aw_seq (aw_region ?_)
        refine awlk_go (d + 1) 1 (by simp <;> rfl) ?_
        refine awl_callS1 ha1 Tryz.func69 rfl (by kernel_rfl) (by simp [Eng.get]) (by simp) (by decide) rfl rfl rfl (by simp <;> rfl) (fun k o hk => get_one (by simp [Eng.get, hkb]) hk) (by simp <;> rfl) ?_
        refine awlk_end (d + 1) [0, 2, 4, 5, 6, 21] [d, d + 1 + 2, d + 1 + 4, d + 1 + 6] (by simp [hkb, hkb'] <;> rfl) ?_
        refine aw_cond rfl (fun h => by simp at h) (fun _ => ?_)
        have ha2 := hacc [107, 105, 110, 100]
        cases hb2 : isW (tkAt ts i) [107, 105, 110, 100] with
        | true =>
          simp only [hb2, Bool.false_eq_true, if_false, if_true, reduceIte, reduceCtorEq] at ha2
          have h6 := isW_kind hb2
          have hj1 := hm1 h6
          refine aw_seq (aw_region ?_)
          refine awlk_go (d + 1) 1 (by simp <;> rfl) ?_
          refine awl_callS1 ha2 Tryz.func69 rfl (by kernel_rfl) (by simp [Eng.get]) (by simp) (by decide) rfl rfl rfl (by simp <;> rfl) (fun k o hk => get_one (by simp [Eng.get, hkb]) hk) (by simp <;> rfl) ?_
          refine awlk_end (d + 1) [0, 2, 4, 5, 6, 27] [d, d + 1 + 2, d + 1 + 4, d + 1 + 6] (by simp [hkb, hkb'] <;> rfl) ?_
          refine aw_cond rfl (fun _ => ?_) (fun h => by simp at h)
          refine awk_step (d + 1) [0, 2, 4] [d, d + 1 + 2, d + 1 + 4] (by simp [hkb, hkb'] <;> rfl) ?_
          refine aw_region ?_
          refine awlk_go (d + 1) 1 (by simp <;> rfl) ?_
          have hj := hj1
          have hcall := hnam (i + 1) hj (d + 1 + 4) (nx0 + 2) (hkb 4) 7
          cases hN : nameB 7 (tkAt ts (i + 1)) with
          | true =>
            simp only [hN, Bool.false_eq_true, if_false, if_true, reduceIte, reduceCtorEq] at hcall
            have hj3 : i + 2 < ts.length := by have := nameB_kind hN; exact hgd.more (i + 1) hj (by omega) (by omega)
            refine awl_callSQ hG hcall Tryz.func116 rfl (by kernel_rfl) rfl rfl rfl (by simp <;> rfl) (fun k o hk => get_twoE (by simp [Eng.get, hkb, hkb']) (by simp [Eng.get, hkb, hkb']) hk) ?_
            rintro r outs nx ⟨rfl, rfl⟩ hnx
            have hnx' : nx0 ≤ nx := by simp at hnx; omega
            refine ⟨fun k hk => has_twoE hk, _, by simp [hkb, hkb'] <;> rfl, ?_⟩
            refine awlk_end (d + 1) [2, 4, 5] [d, d + 1 + 2, d + 1 + 4] (by simp [hkb, hkb'] <;> rfl) ?_
            refine ⟨(true, i + 2, 0, 0, 7, 0, 0, [], (tkAt ts (i + 1)).2.2, nx + 1000), ⟨by simp only; omega, ?_⟩, le_to [2, 4, 5] [d, d + 1 + 2, d + 1 + 4] (by simp) (by simp [hkb, hkb']) rfl (by simp only; omega)⟩
            simp only [CondI, condP, hb0, hb1, hb2, hN, Bool.false_eq_true, if_false, if_true, reduceIte, reduceCtorEq]
            exact ⟨by trivial, by trivial, by trivial, by trivial, by trivial, by first | assumption | omega⟩
          | false =>
            simp only [hN, Bool.false_eq_true, if_false, if_true, reduceIte, reduceCtorEq] at hcall
            refine awl_callSQ hG hcall Tryz.func116 rfl (by kernel_rfl) rfl rfl rfl (by simp <;> rfl) (fun k o hk => get_twoE (by simp [Eng.get, hkb, hkb']) (by simp [Eng.get, hkb, hkb']) hk) ?_
            rintro r outs nx ⟨rfl, rfl⟩ hnx
            have hnx' : nx0 ≤ nx := by simp at hnx; omega
            refine ⟨fun k hk => has_twoE hk, _, by simp [hkb, hkb'] <;> rfl, ?_⟩
            refine awlk_end (d + 1) [2, 4, 5] [d, d + 1 + 2, d + 1 + 4] (by simp [hkb, hkb'] <;> rfl) ?_
            refine ⟨(false, i + 1, ((tkAt ts (i + 1)).2.1 : Nat), 2, 7, 0, 0, [], [], nx + 1000), ⟨by simp only; omega, ?_⟩, le_to [2, 4, 5] [d, d + 1 + 2, d + 1 + 4] (by simp) (by simp [hkb, hkb']) rfl (by simp only; omega)⟩
            simp only [CondI, condP, hb0, hb1, hb2, hN, Bool.false_eq_true, if_false, if_true, reduceIte, reduceCtorEq]
            exact ⟨by trivial, by trivial, by trivial, by trivial, by first | assumption | omega⟩
        | false =>
          simp only [hb2, Bool.false_eq_true, if_false, if_true, reduceIte, reduceCtorEq] at ha2
          refine aw_seq (aw_region ?_)
          refine awlk_go (d + 1) 1 (by simp <;> rfl) ?_
          refine awl_callS1 ha2 Tryz.func69 rfl (by kernel_rfl) (by simp [Eng.get]) (by simp) (by decide) rfl rfl rfl (by simp <;> rfl) (fun k o hk => get_one (by simp [Eng.get, hkb]) hk) (by simp <;> rfl) ?_
          refine awlk_end (d + 1) [0, 2, 4, 5, 6, 27] [d, d + 1 + 2, d + 1 + 4, d + 1 + 6] (by simp [hkb, hkb'] <;> rfl) ?_
          refine aw_cond rfl (fun h => by simp at h) (fun _ => ?_)
          have ha3 := hacc [101, 110, 101, 109, 121]
          cases hb3 : isW (tkAt ts i) [101, 110, 101, 109, 121] with
          | true =>
            simp only [hb3, Bool.false_eq_true, if_false, if_true, reduceIte, reduceCtorEq] at ha3
            have h6 := isW_kind hb3
            have hj1 := hm1 h6
            refine aw_seq (aw_region ?_)
            refine awlk_go (d + 1) 1 (by simp <;> rfl) ?_
            refine awl_callS1 ha3 Tryz.func69 rfl (by kernel_rfl) (by simp [Eng.get]) (by simp) (by decide) rfl rfl rfl (by simp <;> rfl) (fun k o hk => get_one (by simp [Eng.get, hkb]) hk) (by simp <;> rfl) ?_
            refine awlk_end (d + 1) [0, 2, 4, 5, 6, 33] [d, d + 1 + 2, d + 1 + 4, d + 1 + 6] (by simp [hkb, hkb'] <;> rfl) ?_
            refine aw_cond rfl (fun _ => ?_) (fun h => by simp at h)
            refine awk_step (d + 1) [0, 2, 4] [d, d + 1 + 2, d + 1 + 4] (by simp [hkb, hkb'] <;> rfl) ?_
            refine aw_region ?_
            refine awlk_go (d + 1) 1 (by simp <;> rfl) ?_
            have he := hexp hj1 [111, 102]
            cases hs : isW (tkAt ts (i + 1)) [111, 102] with
            | true =>
              simp only [hs, Bool.false_eq_true, if_false, if_true, reduceIte, reduceCtorEq] at he
              have hj : i + 2 < ts.length := hm2 h6 (.inl (isW_kind hs))
              refine awl_callS1 he Tryz.func115 rfl (by kernel_rfl) (by simp [Eng.get]) (by simp) (by decide) rfl rfl rfl (by simp <;> rfl) (fun k o hk => get_one (by simp [Eng.get, hkb]) hk) (by simp <;> rfl) ?_
              refine awlk_go (d + 1) 2 (by simp <;> rfl) ?_
              have hcall := hnum (i + 2) hj (d + 1 + 4) (nx0 + 2) (hkb 4) 8 0 []
              cases hN : numR (tkAt ts (i + 2)) with
              | ok m =>
                simp only [hN] at hcall
                have hj3 : i + 3 < ts.length := by have := numR_kind hN; exact hgd.more (i + 2) hj (by omega) (by omega)
                refine awl_callS1 hcall Tryz.func117 rfl (by kernel_rfl) (by simp [Eng.get, hkb, hkb']) (by simp) (by decide) (by simp <;> rfl) rfl rfl (by simp <;> rfl) (fun k o hk => get_twoE (by simp [Eng.get, hkb, hkb']) (by simp [Eng.get, hkb, hkb']) hk) (by simp [hkb, hkb'] <;> rfl) ?_
                refine awlk_end (d + 1) [2, 4, 5] [d, d + 1 + 2, d + 1 + 4] (by simp [hkb, hkb'] <;> rfl) ?_
                refine ⟨(true, i + 3, 0, 0, 8, 0, m, [], [], nx0 + 1000), ⟨by simp only; omega, ?_⟩, le_to [2, 4, 5] [d, d + 1 + 2, d + 1 + 4] (by simp) (by simp [hkb, hkb']) rfl (by simp only; omega)⟩
                simp only [CondI, condP, hb0, hb1, hb2, hb3, hs, hN, Bool.false_eq_true, if_false, if_true, reduceIte, reduceCtorEq]
                exact ⟨by trivial, by trivial, by trivial, by trivial, by trivial, by first | assumption | omega⟩
              | error x =>
                simp only [hN] at hcall
                refine awl_callS1 hcall Tryz.func117 rfl (by kernel_rfl) (by simp [Eng.get, hkb, hkb']) (by simp) (by decide) (by simp <;> rfl) rfl rfl (by simp <;> rfl) (fun k o hk => get_twoE (by simp [Eng.get, hkb, hkb']) (by simp [Eng.get, hkb, hkb']) hk) (by simp [hkb, hkb'] <;> rfl) ?_
                refine awlk_end (d + 1) [2, 4, 5] [d, d + 1 + 2, d + 1 + 4] (by simp [hkb, hkb'] <;> rfl) ?_
                refine ⟨(false, i + 2, ((tkAt ts (i + 2)).2.1 : Nat), x, 8, 0, 0, [], [], nx0 + 1000), ⟨by simp only; omega, ?_⟩, le_to [2, 4, 5] [d, d + 1 + 2, d + 1 + 4] (by simp) (by simp [hkb, hkb']) rfl (by simp only; omega)⟩
                simp only [CondI, condP, hb0, hb1, hb2, hb3, hs, hN, Bool.false_eq_true, if_false, if_true, reduceIte, reduceCtorEq]
                exact ⟨by trivial, by trivial, by trivial, by trivial, by first | assumption | omega⟩
            | false =>
              simp only [hs, Bool.false_eq_true, if_false, if_true, reduceIte, reduceCtorEq] at he
              refine awl_callS1 he Tryz.func115 rfl (by kernel_rfl) (by simp [Eng.get]) (by simp) (by decide) rfl rfl rfl (by simp <;> rfl) (fun k o hk => get_one (by simp [Eng.get, hkb]) hk) (by simp <;> rfl) ?_
              refine awlk_go (d + 1) 1 (by simp <;> rfl) ?_
              refine awl_skips 2 (by simp <;> rfl) ?_
              refine awlk_end (d + 1) [2, 4, 5] [d, d + 1 + 2, d + 1 + 4] (by simp [hkb, hkb'] <;> rfl) ?_
              refine ⟨(false, i + 1, ((tkAt ts (i + 1)).2.1 : Nat), 2, 8, 0, 0, [], [], nx0 + 1000), ⟨by simp only; omega, ?_⟩, le_to [2, 4, 5] [d, d + 1 + 2, d + 1 + 4] (by simp) (by simp [hkb, hkb']) rfl (by simp only; omega)⟩
              simp only [CondI, condP, hb0, hb1, hb2, hb3, hs, Bool.false_eq_true, if_false, if_true, reduceIte, reduceCtorEq]
              exact ⟨by trivial, by trivial, by trivial, by trivial, by first | assumption | omega⟩
          | false =>
            simp only [hb3, Bool.false_eq_true, if_false, if_true, reduceIte, reduceCtorEq] at ha3
            refine aw_seq (aw_region ?_)
            refine awlk_go (d + 1) 1 (by simp <;> rfl) ?_
            refine awl_callS1 ha3 Tryz.func69 rfl (by kernel_rfl) (by simp [Eng.get]) (by simp) (by decide) rfl rfl rfl (by simp <;> rfl) (fun k o hk => get_one (by simp [Eng.get, hkb]) hk) (by simp <;> rfl) ?_
            refine awlk_end (d + 1) [0, 2, 4, 5, 6, 33] [d, d + 1 + 2, d + 1 + 4, d + 1 + 6] (by simp [hkb, hkb'] <;> rfl) ?_
            refine aw_cond rfl (fun h => by simp at h) (fun _ => ?_)
            have ha4 := hacc [115, 116, 101, 109]
            cases hb4 : isW (tkAt ts i) [115, 116, 101, 109] with
            | true =>
              simp only [hb4, Bool.false_eq_true, if_false, if_true, reduceIte, reduceCtorEq] at ha4
              have h6 := isW_kind hb4
              have hj1 := hm1 h6
              refine aw_seq (aw_region ?_)
              refine awlk_go (d + 1) 1 (by simp <;> rfl) ?_
              refine awl_callS1 ha4 Tryz.func69 rfl (by kernel_rfl) (by simp [Eng.get]) (by simp) (by decide) rfl rfl rfl (by simp <;> rfl) (fun k o hk => get_one (by simp [Eng.get, hkb]) hk) (by simp <;> rfl) ?_
              refine awlk_end (d + 1) [0, 2, 4, 5, 6, 43] [d, d + 1 + 2, d + 1 + 4, d + 1 + 6] (by simp [hkb, hkb'] <;> rfl) ?_
              refine aw_cond rfl (fun _ => ?_) (fun h => by simp at h)
              refine awk_step (d + 1) [0, 2, 4] [d, d + 1 + 2, d + 1 + 4] (by simp [hkb, hkb'] <;> rfl) ?_
              refine aw_region ?_
              refine awlk_go (d + 1) 1 (by simp <;> rfl) ?_
              have he := hexp hj1 [104, 97, 115]
              cases hs : isW (tkAt ts (i + 1)) [104, 97, 115] with
              | true =>
                simp only [hs, Bool.false_eq_true, if_false, if_true, reduceIte, reduceCtorEq] at he
                have hj : i + 2 < ts.length := hm2 h6 (.inl (isW_kind hs))
                refine awl_callS1 he Tryz.func115 rfl (by kernel_rfl) (by simp [Eng.get]) (by simp) (by decide) rfl rfl rfl (by simp <;> rfl) (fun k o hk => get_one (by simp [Eng.get, hkb]) hk) (by simp <;> rfl) ?_
                refine awlk_go (d + 1) 2 (by simp <;> rfl) ?_
                have hcall := htxt (i + 2) hj (d + 1 + 4) (nx0 + 2) (hkb 4)
                by_cases hN : (tkAt ts (i + 2)).1 = 5
                · simp only [hN, Bool.false_eq_true, if_false, if_true, reduceIte, reduceCtorEq, decide_true, decide_false] at hcall
                  have hj3 : i + 3 < ts.length := hgd.more (i + 2) hj (by omega) (by omega)
                  refine awl_callS1 hcall Tryz.func118 rfl (by kernel_rfl) (by simp [Eng.get, hkb, hkb']) (by simp) (by decide) (by simp <;> rfl) rfl rfl (by simp <;> rfl) (fun k o hk => get_twoE (by simp [Eng.get, hkb, hkb']) (by simp [Eng.get, hkb, hkb']) hk) (by simp [hkb, hkb'] <;> rfl) ?_
                  refine awlk_end (d + 1) [2, 4, 5] [d, d + 1 + 2, d + 1 + 4] (by simp [hkb, hkb'] <;> rfl) ?_
                  refine ⟨(true, i + 3, 0, 0, 9, 0, 0, [], (tkAt ts (i + 2)).2.2, nx0 + 1000), ⟨by simp only; omega, ?_⟩, le_to [2, 4, 5] [d, d + 1 + 2, d + 1 + 4] (by simp) (by simp [hkb, hkb']) rfl (by simp only; omega)⟩
                  simp only [CondI, condP, hb0, hb1, hb2, hb3, hb4, hs, hN, Bool.false_eq_true, if_false, if_true, reduceIte, reduceCtorEq]
                  exact ⟨by trivial, by trivial, by trivial, by trivial, by trivial, by first | assumption | omega⟩
                · simp only [hN, Bool.false_eq_true, if_false, if_true, reduceIte, reduceCtorEq, decide_true, decide_false] at hcall
                  refine awl_callS1 hcall Tryz.func118 rfl (by kernel_rfl) (by simp [Eng.get, hkb, hkb']) (by simp) (by decide) (by simp <;> rfl) rfl rfl (by simp <;> rfl) (fun k o hk => get_twoE (by simp [Eng.get, hkb, hkb']) (by simp [Eng.get, hkb, hkb']) hk) (by simp [hkb, hkb'] <;> rfl) ?_
                  refine awlk_end (d + 1) [2, 4, 5] [d, d + 1 + 2, d + 1 + 4] (by simp [hkb, hkb'] <;> rfl) ?_
                  refine ⟨(false, i + 2, ((tkAt ts (i + 2)).2.1 : Nat), 2, 9, 0, 0, [], [], nx0 + 1000), ⟨by simp only; omega, ?_⟩, le_to [2, 4, 5] [d, d + 1 + 2, d + 1 + 4] (by simp) (by simp [hkb, hkb']) rfl (by simp only; omega)⟩
                  simp only [CondI, condP, hb0, hb1, hb2, hb3, hb4, hs, hN, Bool.false_eq_true, if_false, if_true, reduceIte, reduceCtorEq]
                  exact ⟨by trivial, by trivial, by trivial, by trivial, by first | assumption | omega⟩
              | false =>
                simp only [hs, Bool.false_eq_true, if_false, if_true, reduceIte, reduceCtorEq] at he
                refine awl_callS1 he Tryz.func115 rfl (by kernel_rfl) (by simp [Eng.get]) (by simp) (by decide) rfl rfl rfl (by simp <;> rfl) (fun k o hk => get_one (by simp [Eng.get, hkb]) hk) (by simp <;> rfl) ?_
                refine awlk_go (d + 1) 1 (by simp <;> rfl) ?_
                refine awl_skips 2 (by simp <;> rfl) ?_
                refine awlk_end (d + 1) [2, 4, 5] [d, d + 1 + 2, d + 1 + 4] (by simp [hkb, hkb'] <;> rfl) ?_
                refine ⟨(false, i + 1, ((tkAt ts (i + 1)).2.1 : Nat), 2, 9, 0, 0, [], [], nx0 + 1000), ⟨by simp only; omega, ?_⟩, le_to [2, 4, 5] [d, d + 1 + 2, d + 1 + 4] (by simp) (by simp [hkb, hkb']) rfl (by simp only; omega)⟩
                simp only [CondI, condP, hb0, hb1, hb2, hb3, hb4, hs, Bool.false_eq_true, if_false, if_true, reduceIte, reduceCtorEq]
                exact ⟨by trivial, by trivial, by trivial, by trivial, by first | assumption | omega⟩
            | false =>
              simp only [hb4, Bool.false_eq_true, if_false, if_true, reduceIte, reduceCtorEq] at ha4
              refine aw_seq (aw_region ?_)
              refine awlk_go (d + 1) 1 (by simp <;> rfl) ?_
              refine awl_callS1 ha4 Tryz.func69 rfl (by kernel_rfl) (by simp [Eng.get]) (by simp) (by decide) rfl rfl rfl (by simp <;> rfl) (fun k o hk => get_one (by simp [Eng.get, hkb]) hk) (by simp <;> rfl) ?_
              refine awlk_end (d + 1) [0, 2, 4, 5, 6, 43] [d, d + 1 + 2, d + 1 + 4, d + 1 + 6] (by simp [hkb, hkb'] <;> rfl) ?_
              refine aw_cond rfl (fun h => by simp at h) (fun _ => ?_)
              refine aw_seq (aw_draw [(0, []), (1, []), (2, []), (3, []), (4, []), (5, []), (6, []), (7, []), (8, []), (9, [])] hmix (by kernel_rfl) ?_)
              refine awo_go 4 (by simp <;> rfl) ?_
              refine awo_call (fun hg => hn4) Tryz.func35 rfl (by kernel_rfl) rfl rfl (by simp <;> rfl) rfl rfl (by simp <;> rfl) (by simp) (by simp <;> rfl) ?_
              refine awo_go 2 (by simp <;> rfl) ?_
              refine awo_call (fun hg => hcoF) Tryz.func67 rfl (by kernel_rfl) rfl rfl (by simp <;> rfl) rfl rfl (by simp <;> rfl) (by simp [hpF]) (by simp <;> rfl) ?_
              refine awo_end [0, 2, 4, 5, 6, 53] [d, d + 1 + 2, d + 1 + 4, d + 1 + 6] (by simp [hkb, hkb'] <;> rfl) ?_
              refine aw_cond rfl (fun h1 => ?_) (fun h1 => ?_)
              · have hF : (decide ((tkAt ts i).1 = 6) && hasS fieldsL (tkAt ts i).2.2) = true := by simpa using h1
                have h6 : (tkAt ts i).1 = 6 := by simp at hF; exact hF.1
                have hj1 := hm1 h6
                refine awk_step (d + 1) [0, 2, 4, 6] [d, d + 1 + 2, d + 1 + 4, d + 1 + 6] (by simp [hkb, hkb', hw1] <;> rfl) ?_
                refine aw_seqE ⟨[(0, .bp d v 4 0 0), (2, .bp (d + 1 + 2) nx0 6 0 0), (4, .bp (d + 1 + 4) (nx0 + 2) 6 0 0)], [(d, pOb v (tokVs ts) (i + 1) 0 0), (d + 1 + 2, qOb nx0 0 0 0 [] [] .nils), (d + 1 + 4, qOb (nx0 + 2) 4 0 0 (tkAt ts i).2.2 [] .nils)], nx0 + 2 + 1 + 1 + 4 + 3 + 3 + 3 + 3 + 3 + 10 + 8 + 6, 84⟩ (awk_drawX (d + 1) [] hmix ?_) ?_
                · refine at_go [(0, []), (2, [])] (by kernel_rfl) (by simp [hkb, hkb', hw1] <;> rfl) ?_
                  refine at_fork [1, 3] (by kernel_rfl) (fun j hj => ?_)
                  simp only [List.mem_cons, List.not_mem_nil, or_false] at hj
                  rcases hj with rfl | rfl
                  · refine ⟨_, _, rfl, sx_go (by simp [hkb, hkb'] <;> rfl), ?_⟩
                    refine at_go [(3, []), (4, []), (5, [])] (by kernel_rfl) (by simp [hkb, hkb'] <;> rfl) ?_
                    exact at_end [0, 2, 4] [d, d + 1 + 2, d + 1 + 4] (by kernel_rfl) (by simp [hkb, hkb'] <;> rfl) rfl
                  · refine ⟨_, _, rfl, sx_go (by simp [hkb, hkb'] <;> rfl), ?_⟩
                    refine at_go [(1, []), (4, []), (5, [])] (by kernel_rfl) (by simp [hkb, hkb'] <;> rfl) ?_
                    exact at_end [0, 2, 4] [d, d + 1 + 2, d + 1 + 4] (by kernel_rfl) (by simp [hkb, hkb'] <;> rfl) rfl
                refine aw_region ?_
                refine awlk_go (d + 1) 1 (by simp <;> rfl) ?_
                have hsg := hsig (i + 1) hj1 (d + 1 + 4) (nx0 + 2) (hkb 4) (tkAt ts i).2.2
                by_cases hs : (tkAt ts (i + 1)).1 = 4
                · simp only [hs, Bool.false_eq_true, if_false, if_true, reduceIte, reduceCtorEq, decide_true, decide_false] at hsg
                  have hj : i + 2 < ts.length := hm2 h6 (.inr hs)
                  refine awl_callS1 hsg Tryz.func119 rfl (by kernel_rfl) (by simp [Eng.get, hkb, hkb']) (by simp) (by decide) rfl rfl rfl (by simp <;> rfl) (fun k o hk => get_twoE (by simp [Eng.get, hkb, hkb']) (by simp [Eng.get, hkb, hkb']) hk) (by simp [hkb, hkb'] <;> rfl) ?_
                  refine awlk_go (d + 1) 2 (by simp <;> rfl) ?_
                  have hcall := hnum (i + 2) hj (d + 1 + 4) (nx0 + 2) (hkb 4) 4 (1 + idxS signsL (tkAt ts (i + 1)).2.2) (tkAt ts i).2.2
                  cases hN : numR (tkAt ts (i + 2)) with
                  | ok m =>
                    simp only [hN] at hcall
                    have hj3 : i + 3 < ts.length := by have := numR_kind hN; exact hgd.more (i + 2) hj (by omega) (by omega)
                    refine awl_callS1 hcall Tryz.func117 rfl (by kernel_rfl) (by simp [Eng.get, hkb, hkb']) (by simp) (by decide) (by simp <;> rfl) rfl rfl (by simp <;> rfl) (fun k o hk => get_twoE (by simp [Eng.get, hkb, hkb']) (by simp [Eng.get, hkb, hkb']) hk) (by simp [hkb, hkb'] <;> rfl) ?_
                    refine awlk_end (d + 1) [2, 4, 5] [d, d + 1 + 2, d + 1 + 4] (by simp [hkb, hkb'] <;> rfl) ?_
                    refine ⟨(true, i + 3, 0, 0, 4, (1 + idxS signsL (tkAt ts (i + 1)).2.2), m, (tkAt ts i).2.2, [], nx0 + 1000), ⟨by simp only; omega, ?_⟩, le_to [2, 4, 5] [d, d + 1 + 2, d + 1 + 4] (by simp) (by simp [hkb, hkb']) rfl (by simp only; omega)⟩
                    simp only [CondI, condP, hb0, hb1, hb2, hb3, hb4, hF, hs, hN, Bool.false_eq_true, if_false, if_true, reduceIte, reduceCtorEq]
                    exact ⟨by trivial, by trivial, by trivial, by trivial, by trivial, by first | assumption | omega⟩
                  | error x =>
                    simp only [hN] at hcall
                    refine awl_callS1 hcall Tryz.func117 rfl (by kernel_rfl) (by simp [Eng.get, hkb, hkb']) (by simp) (by decide) (by simp <;> rfl) rfl rfl (by simp <;> rfl) (fun k o hk => get_twoE (by simp [Eng.get, hkb, hkb']) (by simp [Eng.get, hkb, hkb']) hk) (by simp [hkb, hkb'] <;> rfl) ?_
                    refine awlk_end (d + 1) [2, 4, 5] [d, d + 1 + 2, d + 1 + 4] (by simp [hkb, hkb'] <;> rfl) ?_
                    refine ⟨(false, i + 2, ((tkAt ts (i + 2)).2.1 : Nat), x, 4, (1 + idxS signsL (tkAt ts (i + 1)).2.2), 0, (tkAt ts i).2.2, [], nx0 + 1000), ⟨by simp only; omega, ?_⟩, le_to [2, 4, 5] [d, d + 1 + 2, d + 1 + 4] (by simp) (by simp [hkb, hkb']) rfl (by simp only; omega)⟩
                    simp only [CondI, condP, hb0, hb1, hb2, hb3, hb4, hF, hs, hN, Bool.false_eq_true, if_false, if_true, reduceIte, reduceCtorEq]
                    exact ⟨by trivial, by trivial, by trivial, by trivial, by first | assumption | omega⟩
                · simp only [hs, Bool.false_eq_true, if_false, if_true, reduceIte, reduceCtorEq, decide_true, decide_false] at hsg
                  refine awl_callS1 hsg Tryz.func119 rfl (by kernel_rfl) (by simp [Eng.get, hkb, hkb']) (by simp) (by decide) rfl rfl rfl (by simp <;> rfl) (fun k o hk => get_twoE (by simp [Eng.get, hkb, hkb']) (by simp [Eng.get, hkb, hkb']) hk) (by simp [hkb, hkb'] <;> rfl) ?_
                  refine awlk_go (d + 1) 1 (by simp <;> rfl) ?_
                  refine awl_skips 2 (by simp <;> rfl) ?_
                  refine awlk_end (d + 1) [2, 4, 5] [d, d + 1 + 2, d + 1 + 4] (by simp [hkb, hkb'] <;> rfl) ?_
                  refine ⟨(false, i + 1, ((tkAt ts (i + 1)).2.1 : Nat), 2, 4, 0, 0, (tkAt ts i).2.2, [], nx0 + 1000), ⟨by simp only; omega, ?_⟩, le_to [2, 4, 5] [d, d + 1 + 2, d + 1 + 4] (by simp) (by simp [hkb, hkb']) rfl (by simp only; omega)⟩
                  simp only [CondI, condP, hb0, hb1, hb2, hb3, hb4, hF, hs, Bool.false_eq_true, if_false, if_true, reduceIte, reduceCtorEq]
                  exact ⟨by trivial, by trivial, by trivial, by trivial, by first | assumption | omega⟩
              · have hF : (decide ((tkAt ts i).1 = 6) && hasS fieldsL (tkAt ts i).2.2) = false := by simpa using h1
                refine aw_region ?_
                refine awlk_go (d + 1) 1 (by simp <;> rfl) ?_
                refine awl_callS1 hfail Tryz.func30 rfl (by kernel_rfl) (by simp [Eng.get]) (by simp) (by decide) rfl rfl rfl (by simp <;> rfl) (fun k o hk => get_one (by simp [Eng.get, hkb]) hk) (by simp <;> rfl) ?_
                refine awlk_end (d + 1) [2, 4, 5] [d, d + 1 + 2, d + 1 + 4] (by simp [hkb, hkb'] <;> rfl) ?_
                refine ⟨(false, i, ((tkAt ts i).2.1 : Nat), 2, 0, 0, 0, [], [], nx0 + 1000), ⟨by simp only; omega, ?_⟩, le_to [2, 4, 5] [d, d + 1 + 2, d + 1 + 4] (by simp) (by simp [hkb, hkb']) rfl (by simp only; omega)⟩
                simp only [CondI, condP, hb0, hb1, hb2, hb3, hb4, hF, Bool.false_eq_true, if_false, if_true, reduceIte, reduceCtorEq]
                exact ⟨by trivial, by trivial, by trivial, by trivial, by first | assumption | omega⟩
  rintro ⟨b, j, a, e, k, c, n, f, s, nx⟩ ⟨hnx, hI⟩
  simp only at hnx hI ⊢
  simp only [CondI] at hI
  refine aw_seq ?_
  refine awk_step (d + 1) [2, 4, 81] [d, d + 1 + 2, d + 1 + 4] (by simp [hkb, hkb'] <;> rfl) ?_
  refine aw_cond rfl (fun h1 => ?_) (fun h1 => aw_skip ?_)
  · have hb : b = false := by simpa using h1
    refine awk_step (d + 1) [2, 3] [d, d + 1 + 2] (by simp [hkb, hkb'] <;> rfl) ?_
    cases hC : condP ts i with
    | ok x => rw [hC] at hI; obtain ⟨x, j'⟩ := x; simp only at hI; rw [hb] at hI; cases hI.1
    | error x =>
      rw [hC] at hI; obtain ⟨j', e'⟩ := x; simp only at hI
      obtain ⟨-, rfl, rfl, rfl, hj⟩ := hI
      exact aw_ret (endsSR (by simp only; omega) (by simp [Tryz.results109] <;> rfl) ⟨rfl, rfl, hj⟩ (fun k o hk => get_one (by simp [Eng.get, hkb]) hk))
  have hb : b = true := by simpa using h1
  cases hC : condP ts i with
  | error x => rw [hC] at hI; obtain ⟨j', e'⟩ := x; simp only at hI; rw [hb] at hI; cases hI.1
  | ok x =>
    rw [hC] at hI; obtain ⟨x, j'⟩ := x; simp only at hI
    obtain ⟨-, rfl, rfl, rfl, rfl, hj⟩ := hI
    refine aw_adoptC (d + 1 + 4) 5 (d + 200) 6 24 [2, 4] [d, d + 1 + 2, d + 1 + 4, d + 200] (by simp [hkb, hkb', Eng.get] <;> rfl) ?_
    refine aw_freeze (d + 200) [2, 4] [d, d + 1 + 2, d + 1 + 4] (by simp [hkb, hkb', Eng.get] <;> rfl) ?_
    refine awk_step (d + 1) [2, 3] [d, d + 1 + 2] (by simp [hkb, hkb'] <;> rfl) ?_
    exact aw_ret (endsSR (by simp only; omega) (by simp [Tryz.results109] <;> rfl) ⟨by simp [Qy.v], rfl, hj⟩ (fun k o hk => get_one (by simp [Eng.get, hkb]) hk))
end Go.Proofs.YtliogkkhofhfcaaGreatDoor
