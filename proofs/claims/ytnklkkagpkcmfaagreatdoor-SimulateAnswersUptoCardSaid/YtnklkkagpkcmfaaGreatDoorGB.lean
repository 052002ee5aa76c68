import Derived.Test.YtnklkkagpkcmfaaGreatDoorGA
import Derived.Lib.SplitLaws
set_option linter.all false
set_option maxRecDepth 4000
namespace Go.Proofs.YtnklkkagpkcmfaaGreatDoor
open Go.Eng Go.Eng.Limb
theorem win44_ac (n lo hi : Int) : AC Tryz.prog 44 [.int .i64 n, .int .i64 lo, .int .i64 hi] (fun r => r = .bool (inB3 n lo hi)) := by
  unfold inB3
  refine ac_intro Tryz.func44 rfl (by show (3 : Nat) ≤ 15; omega) (fun w0 N0 => ?_)
  refine aw_step [0, 1, 2] [] (by simp [Tryz.ntmps44] <;> rfl) ?_
  refine aw_step [6] [] (by simp <;> rfl) ?_
  exact aw_ret (ends_ret (by simp [Tryz.results44] <;> rfl) (rfl))
set_option maxHeartbeats 4000000 in
theorem nums43_ac (it : It) : AC Tryz.prog 43 [it.v] (fun r => r = .bool (numsB it)) := by
  have c93 := win44_ac
  unfold numsB
  have eit : it.v = V.agg [.int .i64 it.id, .int .i64 it.ver, .int .i64 it.kind, .str it.stem, .ro 1 (strsV it.opts), .ro 1 (ints it.ch), .int .i64 it.val, .int .i64 it.tol, .ro 1 (strsV it.txts), .int .i64 it.pts, .str it.code, .int .i64 it.fam, .int .i64 it.set, .int .i64 it.wo, .int .i64 it.se, .ro 1 (ints it.ass), .int .i64 it.rub] := rfl
  rw [eit]
  have i1 := strsV_pure it.opts
  have i2 := ints_pure it.ch
  have i3 := strsV_pure it.txts
  have i4 := ints_pure it.ass
  have li1 := strsV_len it.opts
  have li2 := ints_len it.ch
  have li3 := strsV_len it.txts
  have li4 := ints_len it.ass
  generalize strsV it.opts = ov at *
  generalize ints it.ch = cv at *
  generalize strsV it.txts = xv at *
  generalize ints it.ass = av at *
  have ei1 : ov = [] ↔ it.opts = [] := by rw [← List.length_eq_zero_iff, li1, List.length_eq_zero_iff]
  have ei2 : cv = [] ↔ it.ch = [] := by rw [← List.length_eq_zero_iff, li2, List.length_eq_zero_iff]
  have ei3 : xv = [] ↔ it.txts = [] := by rw [← List.length_eq_zero_iff, li3, List.length_eq_zero_iff]
  generalize inB3 = wi at *
  refine ac_intro Tryz.func43 rfl (by show (1 : Nat) ≤ 41; omega) (fun w0 N0 => ?_)
  refine aw_step [1] [1] (by simp [Tryz.ntmps43] <;> rfl) ?_
  refine aw_seq (aw_region ?_)
  refine awl_go 2 (by simp <;> rfl) ?_
  refine awl_call1 (c93 it.id 1 9999999) Tryz.func44 rfl (by kernel_rfl) rfl rfl rfl (by simp <;> rfl) (by simp) (by simp <;> rfl) ?_
  refine awl_go 3 (by simp <;> rfl) ?_
  refine awl_gcall (fun hg => c93 it.ver 1 50) Tryz.func44 rfl (by kernel_rfl) (by simp <;> rfl) rfl rfl (by simp <;> rfl) (by simp) (by simp <;> rfl) ?_
  refine awl_go 4 (by simp <;> rfl) ?_
  refine awl_gcall (fun hg => c93 it.pts 1 5) Tryz.func44 rfl (by kernel_rfl) (by simp <;> rfl) rfl rfl (by simp <;> rfl) (by simp) (by simp <;> rfl) ?_
  refine awl_go 4 (by simp <;> rfl) ?_
  refine awl_gcall (fun hg => c93 it.wo 0 2000) Tryz.func44 rfl (by kernel_rfl) (by simp <;> rfl) rfl rfl (by simp <;> rfl) (by simp) (by simp <;> rfl) ?_
  refine awl_go 4 (by simp <;> rfl) ?_
  refine awl_gcall (fun hg => c93 it.se 1 2000) Tryz.func44 rfl (by kernel_rfl) (by simp <;> rfl) rfl rfl (by simp <;> rfl) (by simp) (by simp <;> rfl) ?_
  refine awl_go 4 (by simp <;> rfl) ?_
  refine awl_gcall (fun hg => c93 it.fam 0 9999999) Tryz.func44 rfl (by kernel_rfl) (by simp <;> rfl) rfl rfl (by simp <;> rfl) (by simp) (by simp <;> rfl) ?_
  refine awl_go 4 (by simp <;> rfl) ?_
  refine awl_gcall (fun hg => c93 it.set 0 9999999) Tryz.func44 rfl (by kernel_rfl) (by simp <;> rfl) rfl rfl (by simp <;> rfl) (by simp) (by simp <;> rfl) ?_
  refine awl_go 4 (by simp <;> rfl) ?_
  refine awl_gcall (fun hg => c93 it.rub 0 9999999) Tryz.func44 rfl (by kernel_rfl) (by simp <;> rfl) rfl rfl (by simp <;> rfl) (by simp) (by simp <;> rfl) ?_
  refine awl_end [2] [] (by simp <;> rfl) ?_
  exact aw_ret (ends_ret (by simp [Tryz.results43] <;> rfl) (rfl))
set_option maxHeartbeats 8000000 in
theorem ris47_ac (l : List Int) (lo hi : Int) (hl : l.length ≤ 4000000000) : AC Tryz.prog 47 [.ro 1 (ints l), .int .i64 lo, .int .i64 hi] (fun r => r = .bool (risB l lo hi)) := by
  have c93 := fun n => win44_ac n lo hi
  have qe := fun (k : Nat) (h : k < l.length) => ints_gD h
  have le := ints_len l
  have pl := ints_pure l
  unfold risB
  have hbe : ∀ k, badR3 l lo hi k = (!inB3 (l.getD k 0) lo hi || (decide (0 < k) && decide (l.getD k 0 ≤ l.getD (k - 1) 0))) := fun k => rfl
  generalize ints l = lv at *
  generalize badR3 l lo hi = be at *
  refine ac_intro Tryz.func47 rfl (by show (3 : Nat) ≤ 35; omega) (fun w0 N0 => ?_)
  refine aw_step [0, 1, 2] [] (by simp [Tryz.ntmps47] <;> rfl) ?_
  refine aw_seq ?_
  refine aw_step [0, 1, 2, 9, 10, 11] [] (by simp <;> rfl) ?_
  refine aw_block ?_
  refine aw_count (fun k nx => ⟨[(0, V.ro 1 lv), (1, V.int .i64 lo), (2, V.int .i64 hi), (9, V.ro 1 lv), (10, V.int .i64 lv.length), (11, V.int .i64 k)], [], nx, 35⟩) (fun k => ((List.range l.length).take k).any be = false) l.length _ (by simp) (AS.le_refl _) ?_
  intro k nx hk hI
  refine aw_step [0, 1, 2, 9, 10, 11, 12] [] (by simp <;> rfl) ?_
  refine aw_seq ?_
  refine aw_cond rfl (fun h1 => aw_skip ?_) (fun h1 => ?_)   -- if t12
  · have hlt : k < l.length := by simp at h1; omega
    have hltq : k < lv.length := by omega
    have ga := qe k hlt
    have hb := hbe k
    have hw1 := wrap_succ (k := k) (by omega)
    have hst := fun h => range_take_all l.length k be hlt hI h
    have hhi := fun h => range_hit (f := be) hlt h
    have hpv : ∀ j, k = j + 1 → be k = (!inB3 (l.getD k 0) lo hi || decide (l.getD k 0 ≤ l.getD j 0)) := fun j hj => by rw [hb, hj]; simp
    generalize l.getD k 0 = x at *
    have c93x := c93 x
    refine aw_seq ?_
    refine aw_block ?_
    refine aw_step [0, 1, 2, 7, 8, 9, 10, 11] [] (by simp [ga, hltq] <;> rfl) ?_
    cases hfd : inB3 x lo hi
    · rw [hfd] at c93x
      refine aw_seq (aw_region ?_)
      refine awl_go 3 (by simp <;> rfl) ?_
      refine awl_call1 c93x Tryz.func44 rfl (by kernel_rfl) rfl rfl rfl (by simp <;> rfl) (by simp) (by simp <;> rfl) ?_
      refine awl_go 2 (by simp <;> rfl) ?_
      refine awl_skips 11 (by simp <;> rfl) ?_
      refine awl_end [0, 1, 2, 9, 10, 11, 33] [] (by simp <;> rfl) ?_
      refine aw_cond rfl (fun h2 => ?_) (fun h2 => by simp at h2)
      refine aw_step [6] [] (by simp <;> rfl) ?_
      exact aw_ret (ends_ret (by simp [Tryz.results47] <;> rfl) (by rw [hhi (by rw [hb, hfd]; rfl)]; rfl))
    rw [hfd] at c93x
    rcases k with _ | j
    · refine aw_seq (aw_region ?_)
      refine awl_go 3 (by simp <;> rfl) ?_
      refine awl_call1 c93x Tryz.func44 rfl (by kernel_rfl) rfl rfl rfl (by simp <;> rfl) (by simp) (by simp <;> rfl) ?_
      refine awl_go 5 (by simp <;> rfl) ?_
      refine awl_skips 7 (by simp <;> rfl) ?_
      refine awl_end [0, 1, 2, 9, 10, 11, 33] [] (by simp <;> rfl) ?_
      refine aw_cond rfl (fun h2 => by simp at h2) (fun h2 => aw_skip ?_)
      refine aw_one [0, 1, 2, 9, 10, 11] [] (by simp [hw1] <;> rfl) ?_
      exact ⟨hlt, hst (by rw [hb, hfd]; simp), _, AS.le_refl _⟩
    · have gp := qe j (by omega)
      have hlj : j < lv.length := by omega
      have hwj : IntKind.i64.wrap (((j + 1 : Nat) : Int) - 1) = (j : Int) := by rw [wrap_in (by omega) (by omega)]; omega
      have hwj2 : IntKind.i64.wrap (j : Int) = (j : Int) := wrap_in (by omega) (by omega)
      have hb2 := hpv j rfl
      generalize l.getD j 0 = y at *
      refine aw_seq (aw_region ?_)
      refine awl_go 3 (by simp <;> rfl) ?_
      refine awl_call1 c93x Tryz.func44 rfl (by kernel_rfl) rfl rfl rfl (by simp <;> rfl) (by simp) (by simp <;> rfl) ?_
      refine awl_end [0, 1, 2, 9, 10, 11, 33] [] (by simp [gp, hlj, hwj, hwj2, -Int.natCast_add] <;> rfl) ?_
      refine aw_cond rfl (fun h2 => ?_) (fun h2 => aw_skip ?_)
      · refine aw_step [6] [] (by simp <;> rfl) ?_
        exact aw_ret (ends_ret (by simp [Tryz.results47] <;> rfl) (by rw [hhi (by rw [hb2, hfd]; simpa using h2)]; rfl))
      have hw2 : IntKind.i64.wrap ((j : Int) + 1 + 1) = ((j + 1 + 1 : Nat) : Int) := by rw [wrap_in (by omega) (by omega)]; omega
      refine aw_one [0, 1, 2, 9, 10, 11] [] (by simp [hw2, -Int.natCast_add] <;> rfl) ?_
      exact ⟨hlt, hst (by rw [hb2, hfd]; simpa using h2), _, AS.le_refl _⟩
  · refine aw_exit ?_
    have hke : k = l.length := by simp at h1; omega
    rw [hke, List.take_of_length_le (by simp)] at hI
    refine aw_step [6] [] (by simp <;> rfl) ?_
    exact aw_ret (ends_ret (by simp [Tryz.results47] <;> rfl) (by rw [hI]; rfl))
def prf (fe : Bool) (b : UInt8) : Bool := prb b || (fe && decide (b.toNat = 10))
def prF (s : List UInt8) (most : Int) (fe : Bool) : Bool := decide ((1 : Int) ≤ s.length) && decide ((s.length : Int) ≤ most) && s.all (prf fe)
set_option maxHeartbeats 4000000 in
theorem prF_ac (s : List UInt8) (most : Int) (fe : Bool) (hs : s.length ≤ 4000000000) : AC Tryz.prog 74 [.str s, .int .i64 most, .bool fe] (fun r => r = .bool (prF s most fe)) := by
  unfold prF
  refine ac_intro Tryz.func74 rfl (by show (3 : Nat) ≤ 43; omega) (fun w0 N0 => ?_)
  refine aw_step [0, 1, 2] [] (by simp [Tryz.ntmps74] <;> rfl) ?_
  refine aw_seq ?_
  refine aw_step [0, 2, 16] [] (by simp <;> rfl) ?_
  refine aw_cond rfl (fun h1 => ?_) (fun h1 => aw_skip ?_)
  · refine aw_step [6] [] (by simp <;> rfl) ?_
    exact aw_ret (ends_ret (by simp [Tryz.results74] <;> rfl) (by simp at h1 ⊢; omega))
  have hlen : (1 : Int) ≤ s.length ∧ (s.length : Int) ≤ most := by simp at h1; omega
  refine aw_seq ?_
  refine aw_step [0, 2, 7] [] (by simp <;> rfl) ?_
  refine aw_block ?_
  refine aw_count (fun k nx => ⟨[(0, V.str s), (2, V.bool fe), (7, V.int .i64 k)], [], nx, 43⟩) (fun k => (s.take k).all (prf fe) = true) s.length _ (by simp) (AS.le_refl _) ?_
  intro k nx hk hI
  refine aw_seq ?_
  refine aw_step [0, 2, 7, 20] [] (by simp <;> rfl) ?_
  refine aw_cond rfl (fun h2 => aw_skip ?_) (fun h2 => ?_)
  · have hlt : k < s.length := by simp at h2; omega
    have hw1 := wrap_succ (k := k) (by omega)
    have gb : nth s k = some s[k] := by rw [nth_eq]; simp [hlt]
    have hst : prf fe s[k] = true → (s.take (k + 1)).all (prf fe) = true := fun h => by rw [List.take_succ_eq_append_getElem hlt, List.all_append, hI]; simp [h]
    have hno : prf fe s[k] = false → s.all (prf fe) = false := fun h => by rw [List.all_eq_false]; exact ⟨s[k], List.getElem_mem hlt, by rw [h]; simp⟩
    have hpb : prf fe s[k] = ((decide (32 ≤ s[k].toNat) && decide (s[k].toNat ≤ 126)) || (fe && decide (s[k].toNat = 10))) := rfl
    generalize s[k] = b at *
    refine aw_seq ?_
    refine aw_block ?_
    refine aw_step [0, 2, 7, 42] [] (by simp [hlt, gb] <;> rfl) ?_
    refine aw_cond rfl (fun h3 => ?_) (fun h3 => aw_skip ?_)
    · refine aw_step [6] [] (by simp <;> rfl) ?_
      exact aw_ret (ends_ret (by simp [Tryz.results74] <;> rfl) (by rw [hno (by rw [hpb]; cases fe <;> simp at h3 ⊢ <;> omega)]; simp))
    refine aw_one [0, 2, 7] [] (by simp [hw1] <;> rfl) ?_
    exact ⟨hlt, hst (by rw [hpb]; cases fe <;> simp at h3 ⊢ <;> omega), _, AS.le_refl _⟩
  · refine aw_exit ?_
    have hke : k = s.length := by simp at h2; omega
    rw [hke, List.take_length] at hI
    refine aw_step [6] [] (by simp <;> rfl) ?_
    exact aw_ret (ends_ret (by simp [Tryz.results74] <;> rfl) (by rw [hI]; simp [hlen.1, hlen.2]))
end Go.Proofs.YtnklkkagpkcmfaaGreatDoor

set_option maxRecDepth 4000
namespace Go.Proofs.YtnklkkagpkcmfaaGreatDoor
open Go.Eng Go.Eng.Limb
def lettR (b : UInt8) : Bool := (decide (97 ≤ b.toNat) && decide (b.toNat ≤ 122)) || (decide (48 ≤ b.toNat) && decide (b.toNat ≤ 57))
def badN (s : List UInt8) (k : Nat) : Bool :=
  (!lettR (s.getD k 0) && !decide ((s.getD k 0).toNat = 32)) || (decide ((s.getD k 0).toNat = 32) && (decide (k = 0) || decide (k + 1 = s.length) || decide ((s.getD (k - 1) 0).toNat = 32)))
def nrR (s : List UInt8) : Bool := !(List.range s.length).any (badN s) && decide (0 < s.length)
theorem str_gD {s : List UInt8} {k : Nat} (h : k < s.length) : nth s k = some (s.getD k 0) := by rw [nth_eq, getD_lt h]; simp [h]
set_option maxHeartbeats 8000000 in
theorem nrR_ac (s : List UInt8) (hs : s.length ≤ 4000000000) : AC Tryz.prog 77 [.str s] (fun r => r = .bool (nrR s)) := by
  have qe := fun (k : Nat) (h : k < s.length) => str_gD h
  unfold nrR
  have hbe : ∀ k, badN s k = ((!lettR (s.getD k 0) && !decide ((s.getD k 0).toNat = 32)) || (decide ((s.getD k 0).toNat = 32) && (decide (k = 0) || decide (k + 1 = s.length) || decide ((s.getD (k - 1) 0).toNat = 32)))) := fun k => rfl
  generalize badN s = be at *
  refine ac_intro Tryz.func77 rfl (by show (1 : Nat) ≤ 58; omega) (fun w0 N0 => ?_)
  refine aw_step [0] [] (by simp [Tryz.ntmps77] <;> rfl) ?_
  refine aw_seq ?_
  refine aw_step [0, 3] [] (by simp <;> rfl) ?_
  refine aw_block ?_
  refine aw_count (fun k nx => ⟨[(0, V.str s), (3, V.int .i64 k)], [], nx, 58⟩) (fun k => ((List.range s.length).take k).any be = false) s.length _ (by simp) (AS.le_refl _) ?_
  intro k nx hk hI
  refine aw_seq ?_
  refine aw_step [0, 3, 9] [] (by simp <;> rfl) ?_
  refine aw_cond rfl (fun h1 => aw_skip ?_) (fun h1 => ?_)
  · have hlt : k < s.length := by simp at h1; omega
    have ga := qe k hlt
    have hb := hbe k
    have hw1 := wrap_succ (k := k) (by omega)
    have hwl : IntKind.i64.wrap ((s.length : Int) - 1) = (s.length : Int) - 1 := wrap_in (by omega) (by omega)
    have hst := fun h => range_take_all s.length k be hlt hI h
    have hhi := fun h => range_hit (f := be) hlt h
    have hlr : ∀ b, lettR b = ((decide (97 ≤ b.toNat) && decide (b.toNat ≤ 122)) || (decide (48 ≤ b.toNat) && decide (b.toNat ≤ 57))) := fun b => rfl
    generalize s.getD k 0 = b at *
    refine aw_seq ?_
    refine aw_block ?_
    refine aw_step [0, 3, 4] [] (by simp [ga, hlt] <;> rfl) ?_
    refine aw_step [0, 3, 4, 5] [] (by simp <;> rfl) ?_
    refine aw_seq ?_
    refine aw_step [0, 3, 4, 34] [] (by simp <;> rfl) ?_
    refine aw_cond rfl (fun h2 => ?_) (fun h2 => aw_skip ?_)
    · refine aw_step [2] [] (by simp <;> rfl) ?_
      exact aw_ret (ends_ret (by simp [Tryz.results77] <;> rfl) (by rw [hhi (by rw [hb, hlr]; simp at h2 ⊢; omega)]; simp))
    have hn2 : lettR b = true ∨ b.toNat = 32 := by rw [hlr]; simp at h2 ⊢; omega
    rcases k with _ | j
    · have hwm : IntKind.i64.wrap (-1) = -1 := rfl
      refine aw_step [0, 3, 54] [] (by simp [hwl, hwm] <;> rfl) ?_
      refine aw_cond rfl (fun h3 => ?_) (fun h3 => aw_skip ?_)
      · refine aw_step [2] [] (by simp <;> rfl) ?_
        exact aw_ret (ends_ret (by simp [Tryz.results77] <;> rfl) (by rw [hhi (by rw [hb]; simp at h3 ⊢; omega)]; simp))
      refine aw_one [0, 3] [] (by simp [hw1] <;> rfl) ?_
      exact ⟨hlt, hst (by rw [hb]; simp at h3 ⊢; rcases hn2 with e | e; simp [e]; omega; omega), _, AS.le_refl _⟩
    · have gp := qe j (by omega)
      have hlj : j < s.length := by omega
      have hwj : IntKind.i64.wrap (((j + 1 : Nat) : Int) - 1) = (j : Int) := by rw [wrap_in (by omega) (by omega)]; omega
      rw [show j + 1 - 1 = j from rfl] at hb
      generalize s.getD j 0 = y at *
      refine aw_step [0, 3, 54] [] (by simp [hwl, gp, hlj, hwj, -Int.natCast_add] <;> rfl) ?_
      refine aw_cond rfl (fun h3 => ?_) (fun h3 => aw_skip ?_)
      · refine aw_step [2] [] (by simp <;> rfl) ?_
        exact aw_ret (ends_ret (by simp [Tryz.results77] <;> rfl) (by rw [hhi (by rw [hb]; simp at h3 ⊢; omega)]; simp))
      have hw2 : IntKind.i64.wrap (((j + 1 : Nat) : Int) + 1) = ((j + 1 + 1 : Nat) : Int) := by rw [wrap_in (by omega) (by omega)]; omega
      refine aw_one [0, 3] [] (by simp [hw2, -Int.natCast_add] <;> rfl) ?_
      exact ⟨hlt, hst (by rw [hb]; simp at h3 ⊢; rcases hn2 with e | e; simp [e]; omega; omega), _, AS.le_refl _⟩
  · refine aw_exit ?_
    have hke : k = s.length := by simp at h1; omega
    rw [hke, List.take_of_length_le (by simp)] at hI
    refine aw_step [2] [] (by simp <;> rfl) ?_
    exact aw_ret (ends_ret (by simp [Tryz.results77] <;> rfl) (by rw [hI]; simp))
def cntP (l : List Int) (k : Int) (j : Nat) : Nat := (l.take j).countP fun x => decide (x = k)
theorem cntP_le (l : List Int) (k : Int) (j : Nat) : cntP l k j ≤ j := Nat.le_trans List.countP_le_length (by simp; omega)
theorem cntP_succ {l : List Int} (k : Int) {j : Nat} (h : j < l.length) : cntP l k (j + 1) = cntP l k j + if l.getD j 0 = k then 1 else 0 := by
  unfold cntP
  rw [List.take_succ_eq_append_getElem h, List.countP_append, getD_lt h]
  simp [List.countP_cons]
def perN (l : List Int) (k : Nat) : Bool := !decide (cntP l k l.length = 1)
def perB (l : List Int) (n : Nat) : Bool := decide (l.length = n) && !(List.range n).any (perN l)
set_option maxHeartbeats 8000000 in
theorem perB_ac (l : List Int) (n : Nat) (hl : l.length ≤ 4000000000) : AC Tryz.prog 76 [.ro 1 (ints l), .int .i64 n] (fun r => r = .bool (perB l n)) := by
  have qe := fun (k : Nat) (h : k < l.length) => ints_gD h
  have le := ints_len l
  have pl := ints_pure l
  unfold perB
  have hbe : ∀ k, perN l k = !decide (cntP l k l.length = 1) := fun k => rfl
  have hcl := fun (k : Int) j => cntP_le l k j
  have hcs := fun (k : Int) (j : Nat) (h : j < l.length) => cntP_succ k h
  have hc0 : ∀ k : Int, cntP l k 0 = 0 := fun k => rfl
  generalize cntP l = cn at *
  generalize ints l = lv at *
  generalize perN l = be at *
  refine ac_intro Tryz.func76 rfl (by show (2 : Nat) ≤ 32; omega) (fun w0 N0 => ?_)
  refine aw_step [0, 1] [] (by simp [Tryz.ntmps76] <;> rfl) ?_
  refine aw_seq ?_
  refine aw_step [0, 1, 12] [] (by simp <;> rfl) ?_
  refine aw_cond rfl (fun h1 => ?_) (fun h1 => aw_skip ?_)
  · refine aw_step [4] [] (by simp <;> rfl) ?_
    exact aw_ret (ends_ret (by simp [Tryz.results76] <;> rfl) (by simp at h1 ⊢; omega))
  have hn : n = l.length := by simp at h1; omega
  subst hn
  refine aw_seq ?_
  refine aw_step [0, 1, 5] [] (by simp <;> rfl) ?_
  refine aw_block ?_
  refine aw_count (fun k nx => ⟨[(0, V.ro 1 lv), (1, V.int .i64 l.length), (5, V.int .i64 k)], [], nx, 32⟩) (fun k => ((List.range l.length).take k).any be = false) l.length _ (by simp) (AS.le_refl _) ?_
  intro k nx hk hI
  refine aw_seq ?_
  refine aw_step [0, 1, 5, 15] [] (by simp <;> rfl) ?_
  refine aw_cond rfl (fun h2 => aw_skip ?_) (fun h2 => ?_)
  · have hlt : k < l.length := by simp at h2; omega
    have hb := hbe k
    have hw1 := wrap_succ (k := k) (by omega)
    have hst := fun h => range_take_all l.length k be hlt hI h
    have hhi := fun h => range_hit (f := be) hlt h
    refine aw_seq ?_
    refine aw_block ?_
    refine aw_step [0, 1, 5, 6] [] (by simp <;> rfl) ?_
    refine aw_seq ?_
    refine aw_step [0, 1, 5, 6, 18, 19, 20] [] (by simp <;> rfl) ?_
    refine aw_block ?_
    refine aw_count (fun j nx => ⟨[(0, V.ro 1 lv), (1, V.int .i64 l.length), (5, V.int .i64 k), (6, V.int .i64 (cn k j)), (18, V.ro 1 lv), (19, V.int .i64 lv.length), (20, V.int .i64 j)], [], nx, 32⟩) (fun j => True) l.length _ trivial (by simp only [hc0]; exact AS.le_refl _) ?_
    intro j nx2 hj hI2
    refine aw_step [0, 1, 5, 6, 18, 19, 20, 21] [] (by simp <;> rfl) ?_
    refine aw_seq ?_
    refine aw_cond rfl (fun h3 => aw_skip ?_) (fun h3 => ?_)
    · have hjt : j < l.length := by simp at h3; omega
      have hjq : j < lv.length := by omega
      have ga := qe j hjt
      have hwj := wrap_succ (k := j) (by omega)
      have hs := hcs k j hjt
      have hle := hcl k j
      have hwc : IntKind.i64.wrap ((cn k j : Int) + 1) = ((cn k j + 1 : Nat) : Int) := by rw [wrap_in (by omega) (by omega)]; omega
      generalize l.getD j 0 = x at *
      generalize cn k j = c at *
      refine aw_seq ?_
      refine aw_block ?_
      refine aw_step [0, 1, 5, 6, 8, 18, 19, 20] [] (by simp [ga, hjq] <;> rfl) ?_
      refine aw_step [0, 1, 5, 6, 18, 19, 20, 26] [] (by simp <;> rfl) ?_
      refine aw_cond rfl (fun h4 => ?_) (fun h4 => aw_skip ?_)
      · have e4 : cn k (j + 1) = c + 1 := by rw [hs, if_pos (by simpa using h4)]
        refine aw_one [0, 1, 5, 6, 18, 19, 20] [] (by simp [hwc, -Int.natCast_add] <;> rfl) ?_
        refine aw_one [0, 1, 5, 6, 18, 19, 20] [] (by simp [hwj, -Int.natCast_add] <;> rfl) ?_
        exact ⟨hjt, trivial, _, by rw [e4]; exact AS.le_refl _⟩
      have e4 : cn k (j + 1) = c := by rw [hs, if_neg (by simpa using h4)]; rfl
      refine aw_one [0, 1, 5, 6, 18, 19, 20] [] (by simp [hwj, -Int.natCast_add] <;> rfl) ?_
      exact ⟨hjt, trivial, _, by rw [e4]; exact AS.le_refl _⟩
    · refine aw_exit ?_
      have hje : j = l.length := by simp at h3; omega
      subst hje
      refine aw_step [0, 1, 5, 31] [] (by simp <;> rfl) ?_
      refine aw_cond rfl (fun h5 => ?_) (fun h5 => aw_skip ?_)
      · refine aw_step [4] [] (by simp <;> rfl) ?_
        exact aw_ret (ends_ret (by simp [Tryz.results76] <;> rfl) (by rw [hhi (by rw [hb]; simp at h5 ⊢; omega)]; simp))
      refine aw_one [0, 1, 5] [] (by simp [hw1] <;> rfl) ?_
      exact ⟨hlt, hst (by rw [hb]; simp at h5 ⊢; omega), _, AS.le_refl _⟩
  · refine aw_exit ?_
    have hke : k = l.length := by simp at h2; omega
    rw [hke, List.take_of_length_le (by simp)] at hI
    refine aw_step [4] [] (by simp <;> rfl) ?_
    exact aw_ret (ends_ret (by simp [Tryz.results76] <;> rfl) (by rw [hI]; simp))
end Go.Proofs.YtnklkkagpkcmfaaGreatDoor

set_option maxRecDepth 4000
namespace Go.Proofs.YtnklkkagpkcmfaaGreatDoor
open Go.Eng Go.Eng.Limb
def okR (c : UInt8) : Bool := (decide (65 ≤ c.toNat) && decide (c.toNat ≤ 90)) || (decide (48 ≤ c.toNat) && decide (c.toNat ≤ 57))
def segR (p : Nat × Nat) (c : UInt8) : Option (Nat × Nat) :=
  if c.toNat = 46 then (if p.2 = 0 then none else some (p.1 + 1, 0)) else if okR c = false then none else if 8 < p.2 + 1 then none else some (p.1, p.2 + 1)
def segK (s : List UInt8) : Nat → Option (Nat × Nat)
  | 0 => some (1, 0)
  | k + 1 => (segK s k).bind fun p => segR p (s.getD k 0)
def codR (s : List UInt8) : Bool := if 24 < s.length then false else match segK s s.length with
  | some p => decide (0 < p.2) && decide (p.1 ≤ 5)
  | none => false
theorem segK_none {s : List UInt8} {k : Nat} (h : segK s k = none) : ∀ j, segK s (k + j) = none
  | 0 => h
  | j + 1 => by rw [← Nat.add_assoc, segK, segK_none h j]; rfl
theorem segK_bd {s : List UInt8} : ∀ {k : Nat} {p : Nat × Nat}, segK s k = some p → p.1 ≤ k + 1 ∧ p.2 ≤ k
  | 0, p, h => by cases h; simp
  | k + 1, p, h => by
    rw [segK] at h
    cases hq : segK s k with
    | none => rw [hq] at h; cases h
    | some q =>
      have b := segK_bd hq
      rw [hq] at h
      have h' : segR q (s.getD k 0) = some p := h
      unfold segR at h'
      (repeat' split at h') <;> first | (cases h'; done) | (cases h'; simp; omega)
set_option maxHeartbeats 8000000 in
theorem codR_ac (s : List UInt8) (hs : s.length ≤ 4000000000) : AC Tryz.prog 75 [.str s] (fun r => r = .bool (codR s)) := by
  have qe := fun (k : Nat) (h : k < s.length) => str_gD h
  unfold codR
  have hbd := fun (k : Nat) p (h : segK s k = some p) => segK_bd h
  have hno := fun (k : Nat) (h : segK s (k + 1) = none) (hk : k < s.length) => show segK s s.length = none by have := segK_none h (s.length - (k + 1)); rwa [show k + 1 + (s.length - (k + 1)) = s.length by omega] at this
  have hsu : ∀ k p, segK s k = some p → segK s (k + 1) = segR p (s.getD k 0) := fun k p h => by rw [segK, h]; rfl
  have h0 : segK s 0 = some (1, 0) := rfl
  generalize segK s = sk at *
  refine ac_intro Tryz.func75 rfl (by show (1 : Nat) ≤ 49; omega) (fun w0 N0 => ?_)
  refine aw_step [0] [] (by simp [Tryz.ntmps75] <;> rfl) ?_
  refine aw_seq ?_
  refine aw_step [0, 9] [] (by simp <;> rfl) ?_
  refine aw_cond rfl (fun h1 => ?_) (fun h1 => aw_skip ?_)
  · refine aw_step [2] [] (by simp <;> rfl) ?_
    exact aw_ret (ends_ret (by simp [Tryz.results75] <;> rfl) (by rw [if_pos (by simp at h1; omega)]))
  rw [if_neg (by simp at h1; omega)]
  refine aw_step [0, 3, 4] [] (by simp <;> rfl) ?_
  refine aw_seq ?_
  refine aw_step [0, 3, 4, 5] [] (by simp <;> rfl) ?_
  refine aw_block ?_
  refine aw_count (fun k nx => ⟨[(0, V.str s), (3, V.int .i64 (((sk k).getD (1, 0)).1 : Nat)), (4, V.int .i64 (((sk k).getD (1, 0)).2 : Nat)), (5, V.int .i64 k)], [], nx, 49⟩) (fun k => ∃ p, sk k = some p) s.length _ ⟨_, h0⟩ (by rw [h0]; exact AS.le_refl _) ?_
  intro k nx hk hI
  obtain ⟨⟨g, z⟩, hp⟩ := hI
  have hb := hbd k _ hp
  have hsk := hsu k _ hp
  rw [hp]
  simp only [Option.getD_some] at hb ⊢
  refine aw_seq ?_
  refine aw_step [0, 3, 4, 5, 13] [] (by simp <;> rfl) ?_
  refine aw_cond rfl (fun h2 => aw_skip ?_) (fun h2 => ?_)
  · have hlt : k < s.length := by simp at h2; omega
    have ga := qe k hlt
    have hnk := fun h => hno k h hlt
    have hw1 := wrap_succ (k := k) (by omega)
    have hwg : IntKind.i64.wrap ((g : Int) + 1) = ((g + 1 : Nat) : Int) := wrap_succ (by omega)
    have hwz : IntKind.i64.wrap ((z : Int) + 1) = ((z + 1 : Nat) : Int) := wrap_succ (by omega)
    have hok : ∀ c : UInt8, okR c = ((decide (65 ≤ c.toNat) && decide (c.toNat ≤ 90)) || (decide (48 ≤ c.toNat) && decide (c.toNat ≤ 57))) := fun c => rfl
    unfold segR at hsk
    generalize s.getD k 0 = c at *
    simp only [] at hsk
    refine aw_seq ?_
    refine aw_block ?_
    refine aw_step [0, 3, 4, 5, 6] [] (by simp [ga, hlt] <;> rfl) ?_
    refine aw_seq ?_
    refine aw_step [0, 3, 4, 5, 6, 20] [] (by simp <;> rfl) ?_
    refine aw_cond rfl (fun h3 => ?_) (fun h3 => aw_skip ?_)
    · rw [if_pos (by simp at h3; omega)] at hsk
      refine aw_seq ?_
      refine aw_step [0, 3, 5, 22] [] (by simp <;> rfl) ?_
      refine aw_cond rfl (fun h4 => ?_) (fun h4 => aw_skip ?_)
      · rw [if_pos (by simp at h4; omega)] at hsk
        refine aw_step [2] [] (by simp <;> rfl) ?_
        exact aw_ret (ends_ret (by simp [Tryz.results75] <;> rfl) (by rw [hnk hsk]))
      rw [if_neg (by simp at h4; omega)] at hsk
      refine aw_step [0, 3, 5] [] (by simp [hwg, -Int.natCast_add] <;> rfl) ?_
      refine aw_step [0, 3, 4, 5] [] (by simp <;> rfl) ?_
      refine aw_exit ?_
      refine aw_one [0, 3, 4, 5] [] (by simp [hw1, -Int.natCast_add] <;> rfl) ?_
      exact ⟨hlt, ⟨_, hsk⟩, _, by rw [hsk]; exact AS.le_refl _⟩
    rw [if_neg (by simp at h3; omega)] at hsk
    refine aw_seq ?_
    refine aw_step [0, 3, 4, 5, 38] [] (by simp <;> rfl) ?_
    refine aw_cond rfl (fun h5 => ?_) (fun h5 => aw_skip ?_)
    · rw [if_pos (by rw [hok]; simp at h5 ⊢; omega)] at hsk
      refine aw_step [2] [] (by simp <;> rfl) ?_
      exact aw_ret (ends_ret (by simp [Tryz.results75] <;> rfl) (by rw [hnk hsk]))
    rw [if_neg (by rw [hok]; simp at h5 ⊢; omega)] at hsk
    refine aw_step [0, 3, 4, 5] [] (by simp [hwz, -Int.natCast_add] <;> rfl) ?_
    refine aw_step [0, 3, 4, 5, 42] [] (by simp [-Int.natCast_add] <;> rfl) ?_
    refine aw_cond rfl (fun h6 => ?_) (fun h6 => aw_skip ?_)
    · rw [if_pos (by simp [-Int.natCast_add] at h6; omega)] at hsk
      refine aw_step [2] [] (by simp <;> rfl) ?_
      exact aw_ret (ends_ret (by simp [Tryz.results75] <;> rfl) (by rw [hnk hsk]))
    rw [if_neg (by simp [-Int.natCast_add] at h6; omega)] at hsk
    refine aw_one [0, 3, 4, 5] [] (by simp [hw1, -Int.natCast_add] <;> rfl) ?_
    exact ⟨hlt, ⟨_, hsk⟩, _, by rw [hsk]; exact AS.le_refl _⟩
  · refine aw_exit ?_
    have hke : k = s.length := by simp at h2; omega
    subst hke
    rw [hp]
    have e5 : decide ((g : Int) ≤ 5) = decide (g ≤ 5) := decide_eq_decide.2 (by omega)
    refine aw_step [2] [] (by simp <;> rfl) ?_
    exact aw_ret (ends_ret (by simp [Tryz.results75] <;> rfl) (by simp [e5]))
end Go.Proofs.YtnklkkagpkcmfaaGreatDoor

set_option maxRecDepth 4000
namespace Go.Proofs.YtnklkkagpkcmfaaGreatDoor
open Go.Eng Go.Eng.Limb
def strR (it : It) : Bool :=
  if prF it.stem 2000 true = false then false
  else if it.opts.all (fun s => prF s 200 false) = false then false
  else if it.txts.all (fun s => prF s 200 false) = false then false else codR it.code
set_option maxHeartbeats 8000000 in
theorem strR_ac (it : It) (hi : it.small) (hco : it.code.length ≤ 4000000000) : AC Tryz.prog 45 [it.v] (fun r => r = .bool (strR it)) := by
  have hst := hi.stem
  have ho := hi.opts.1
  have ht := hi.txts.1
  have c137 := prF_ac it.stem 2000 true (by omega)
  have c137o := fun (k : Nat) (h : k < it.opts.length) => prF_ac (it.opts.getD k []) 200 false (Nat.le_trans (all_gD hi.opts.2 h []) (by decide))
  have c137t := fun (k : Nat) (h : k < it.txts.length) => prF_ac (it.txts.getD k []) 200 false (Nat.le_trans (all_gD hi.txts.2 h []) (by decide))
  have c90 := codR_ac it.code hco
  have qo := fun (k : Nat) (h : k < it.opts.length) => strsV_gD h
  have qt := fun (k : Nat) (h : k < it.txts.length) => strsV_gD h
  unfold strR
  generalize prF it.stem 2000 true = b1 at *
  generalize codR it.code = b4 at *
  generalize hpf : (fun s : List UInt8 => prF s 200 false) = pf at *
  have hpf2 : ∀ s, prF s 200 false = pf s := fun s => by rw [← hpf]
  have eit : it.v = V.agg [.int .i64 it.id, .int .i64 it.ver, .int .i64 it.kind, .str it.stem, .ro 1 (strsV it.opts), .ro 1 (ints it.ch), .int .i64 it.val, .int .i64 it.tol, .ro 1 (strsV it.txts), .int .i64 it.pts, .str it.code, .int .i64 it.fam, .int .i64 it.set, .int .i64 it.wo, .int .i64 it.se, .ro 1 (ints it.ass), .int .i64 it.rub] := rfl
  rw [eit]
  have i1 := strsV_pure it.opts
  have i2 := ints_pure it.ch
  have i3 := strsV_pure it.txts
  have i4 := ints_pure it.ass
  have li1 := strsV_len it.opts
  have li2 := ints_len it.ch
  have li3 := strsV_len it.txts
  have li4 := ints_len it.ass
  generalize strsV it.opts = ov at *
  generalize ints it.ch = cv at *
  generalize strsV it.txts = xv at *
  generalize ints it.ass = av at *
  have ei1 : ov = [] ↔ it.opts = [] := by rw [← List.length_eq_zero_iff, li1, List.length_eq_zero_iff]
  have ei2 : cv = [] ↔ it.ch = [] := by rw [← List.length_eq_zero_iff, li2, List.length_eq_zero_iff]
  have ei3 : xv = [] ↔ it.txts = [] := by rw [← List.length_eq_zero_iff, li3, List.length_eq_zero_iff]
  refine ac_intro Tryz.func45 rfl (by show (1 : Nat) ≤ 36; omega) (fun w0 N0 => ?_)
  refine aw_step [1] [1] (by simp [Tryz.ntmps45] <;> rfl) ?_
  refine aw_seq ?_
  refine aw_seq (aw_region ?_)
  refine awl_go 2 (by simp <;> rfl) ?_
  refine awl_call1 c137 Tryz.func74 rfl (by kernel_rfl) rfl rfl rfl (by simp <;> rfl) (by simp) (by simp <;> rfl) ?_
  refine awl_end [1, 10] [1] (by simp <;> rfl) ?_
  refine aw_cond rfl (fun h1 => ?_) (fun h1 => aw_skip ?_)
  · refine aw_step [2] [] (by simp <;> rfl) ?_
    exact aw_ret (ends_ret (by simp [Tryz.results45] <;> rfl) (by rw [if_pos (by simpa using h1)]))
  rw [if_neg (by simpa using h1)]
  refine aw_seq ?_
  refine aw_step [1, 12, 13, 14] [1] (by simp <;> rfl) ?_
  refine aw_block ?_
  refine aw_count (fun k nx => ⟨[(1, V.bp 1 0 17 0 0), (12, V.ro 1 ov), (13, V.int .i64 ov.length), (14, V.int .i64 k)], [(1, ⟨0, 17, 39, [V.agg [.int .i64 it.id, .int .i64 it.ver, .int .i64 it.kind, .str it.stem, .ro 1 ov, .ro 1 cv, .int .i64 it.val, .int .i64 it.tol, .ro 1 xv, .int .i64 it.pts, .str it.code, .int .i64 it.fam, .int .i64 it.set, .int .i64 it.wo, .int .i64 it.se, .ro 1 av, .int .i64 it.rub]]⟩)], nx, 36⟩) (fun k => (it.opts.take k).all pf = true) it.opts.length _ (by simp) (AS.le_refl _) ?_
  intro k nx hk hI
  refine aw_step [1, 12, 13, 14, 15] [1] (by simp <;> rfl) ?_
  refine aw_seq ?_
  refine aw_cond rfl (fun h2 => aw_skip ?_) (fun h2 => ?_)
  · have hlt : k < it.opts.length := by simp at h2; omega
    have hltq : k < ov.length := by omega
    have ga := qo k hlt
    have hw1 := wrap_succ (k := k) (by omega)
    have c1 := c137o k hlt
    rw [hpf2] at c1
    have hst1 : pf (it.opts.getD k []) = true → (it.opts.take (k + 1)).all pf = true := fun h => by rw [List.take_succ_eq_append_getElem hlt, List.all_append, hI]; rw [getD_lt hlt] at h; simp [h]
    have hno : pf (it.opts.getD k []) = false → it.opts.all pf = false := fun h => by rw [getD_lt hlt] at h; rw [List.all_eq_false]; exact ⟨_, List.getElem_mem hlt, by rw [h]; simp⟩
    generalize it.opts.getD k [] = s at *
    refine aw_seq ?_
    refine aw_block ?_
    refine aw_step [1, 4, 12, 13, 14] [1] (by simp [ga, hltq] <;> rfl) ?_
    refine aw_seq (aw_region ?_)
    refine awl_go 1 (by simp <;> rfl) ?_
    refine awl_call1 c1 Tryz.func74 rfl (by kernel_rfl) rfl rfl rfl (by simp <;> rfl) (by simp) (by simp <;> rfl) ?_
    refine awl_end [1, 12, 13, 14, 20] [1] (by simp <;> rfl) ?_
    refine aw_cond rfl (fun h3 => ?_) (fun h3 => aw_skip ?_)
    · refine aw_step [2] [] (by simp <;> rfl) ?_
      exact aw_ret (ends_ret (by simp [Tryz.results45] <;> rfl) (by rw [if_pos (hno (by simpa using h3))]))
    refine aw_one [1, 12, 13, 14] [1] (by simp [hw1] <;> rfl) ?_
    exact ⟨hlt, hst1 (by simpa using h3), _, AS.le_refl _⟩
  · refine aw_exit ?_
    have hke : k = it.opts.length := by simp at h2; omega
    rw [hke, List.take_length] at hI
    rw [if_neg (by rw [hI]; simp)]
    refine aw_seq ?_
    refine aw_step [1, 23, 24, 25] [1] (by simp <;> rfl) ?_
    refine aw_block ?_
    refine aw_count (fun k nx => ⟨[(1, V.bp 1 0 17 0 0), (23, V.ro 1 xv), (24, V.int .i64 xv.length), (25, V.int .i64 k)], [(1, ⟨0, 17, 39, [V.agg [.int .i64 it.id, .int .i64 it.ver, .int .i64 it.kind, .str it.stem, .ro 1 ov, .ro 1 cv, .int .i64 it.val, .int .i64 it.tol, .ro 1 xv, .int .i64 it.pts, .str it.code, .int .i64 it.fam, .int .i64 it.set, .int .i64 it.wo, .int .i64 it.se, .ro 1 av, .int .i64 it.rub]]⟩)], nx, 36⟩) (fun k => (it.txts.take k).all pf = true) it.txts.length _ (by simp) (AS.le_refl _) ?_
    intro k nx hk hI2
    refine aw_step [1, 23, 24, 25, 26] [1] (by simp <;> rfl) ?_
    refine aw_seq ?_
    refine aw_cond rfl (fun h4 => aw_skip ?_) (fun h4 => ?_)
    · have hlt : k < it.txts.length := by simp at h4; omega
      have hltq : k < xv.length := by omega
      have ga := qt k hlt
      have hw1 := wrap_succ (k := k) (by omega)
      have c1 := c137t k hlt
      rw [hpf2] at c1
      have hst1 : pf (it.txts.getD k []) = true → (it.txts.take (k + 1)).all pf = true := fun h => by rw [List.take_succ_eq_append_getElem hlt, List.all_append, hI2]; rw [getD_lt hlt] at h; simp [h]
      have hno : pf (it.txts.getD k []) = false → it.txts.all pf = false := fun h => by rw [getD_lt hlt] at h; rw [List.all_eq_false]; exact ⟨_, List.getElem_mem hlt, by rw [h]; simp⟩
      generalize it.txts.getD k [] = s at *
      refine aw_seq ?_
      refine aw_block ?_
      refine aw_step [1, 6, 23, 24, 25] [1] (by simp [ga, hltq] <;> rfl) ?_
      refine aw_seq (aw_region ?_)
      refine awl_go 1 (by simp <;> rfl) ?_
      refine awl_call1 c1 Tryz.func74 rfl (by kernel_rfl) rfl rfl rfl (by simp <;> rfl) (by simp) (by simp <;> rfl) ?_
      refine awl_end [1, 23, 24, 25, 31] [1] (by simp <;> rfl) ?_
      refine aw_cond rfl (fun h5 => ?_) (fun h5 => aw_skip ?_)
      · refine aw_step [2] [] (by simp <;> rfl) ?_
        exact aw_ret (ends_ret (by simp [Tryz.results45] <;> rfl) (by rw [if_pos (hno (by simpa using h5))]))
      refine aw_one [1, 23, 24, 25] [1] (by simp [hw1] <;> rfl) ?_
      exact ⟨hlt, hst1 (by simpa using h5), _, AS.le_refl _⟩
    · refine aw_exit ?_
      have hke : k = it.txts.length := by simp at h4; omega
      rw [hke, List.take_length] at hI2
      rw [if_neg (by rw [hI2]; simp)]
      refine aw_seq (aw_region ?_)
      refine awl_go 2 (by simp <;> rfl) ?_
      refine awl_call1 c90 Tryz.func75 rfl (by kernel_rfl) rfl rfl rfl (by simp <;> rfl) (by simp) (by simp <;> rfl) ?_
      refine awl_end [2] [] (by simp <;> rfl) ?_
      exact aw_ret (ends_ret (by simp [Tryz.results45] <;> rfl) (rfl))
end Go.Proofs.YtnklkkagpkcmfaaGreatDoor

set_option maxRecDepth 4000
namespace Go.Proofs.YtnklkkagpkcmfaaGreatDoor
open Go.Eng Go.Eng.Limb
def badTR (l : List (List UInt8)) (k : Nat) : Bool := !nrR (l.getD k []) || (decide (0 < k) && leS (l.getD k []) (l.getD (k - 1) []))
def opR (it : It) : Bool := decide (it.opts = []) && decide (it.ch = [])
def nuR (it : It) : Bool := decide (it.val = 0) && decide (it.tol = 0)
def keyR (it : It) : Bool :=
  if it.kind = 1 then nuR it && decide (it.txts = []) && decide (it.rub = 0) && decide ((2 : Int) ≤ it.opts.length) && decide ((it.ch.length : Int) = 1) && risB it.ch 0 ((it.opts.length : Int) - 1)
  else if it.kind = 2 then nuR it && decide (it.txts = []) && decide (it.rub = 0) && decide ((2 : Int) ≤ it.opts.length) && decide ((1 : Int) ≤ it.ch.length) && risB it.ch 0 ((it.opts.length : Int) - 1)
  else if it.kind = 3 then nuR it && decide (it.txts = []) && decide (it.rub = 0) && decide ((2 : Int) ≤ it.opts.length) && perB it.ch it.opts.length
  else if it.kind = 4 then opR it && decide (it.txts = []) && decide (it.rub = 0) && inB3 it.val (-9999999) 9999999 && inB3 it.tol 0 9999999
  else if it.kind = 5 then (if (List.range it.txts.length).any (badTR it.txts) = true then false else opR it && nuR it && decide (it.rub = 0) && decide ((1 : Int) ≤ it.txts.length))
  else opR it && nuR it && decide (it.txts = []) && decide (1 ≤ it.rub)
set_option maxHeartbeats 16000000 in
theorem keyR_ac (it : It) (hi : it.small) : AC Tryz.prog 46 [it.v] (fun r => r = .bool (keyR it)) := by
  have ho := hi.opts.1
  have ht := hi.txts.1
  have hc := hi.ch
  have c93 := win44_ac
  have c97 := ris47_ac it.ch 0 ((it.opts.length : Int) - 1) (by omega)
  have c76 := perB_ac it.ch it.opts.length (by omega)
  have c77 := fun (k : Nat) (h : k < it.txts.length) => nrR_ac (it.txts.getD k []) (Nat.le_trans (all_gD hi.txts.2 h []) (by decide))
  have qt := fun (k : Nat) (h : k < it.txts.length) => strsV_gD h
  have hbe : ∀ k, badTR it.txts k = (!nrR (it.txts.getD k []) || (decide (0 < k) && leS (it.txts.getD k []) (it.txts.getD (k - 1) []))) := fun k => rfl
  have hwl : IntKind.i64.wrap ((it.opts.length : Int) - 1) = (it.opts.length : Int) - 1 := wrap_in (by omega) (by omega)
  unfold keyR opR nuR
  generalize perB it.ch it.opts.length = rs at *
  generalize risB it.ch 0 ((it.opts.length : Int) - 1) = rc at *
  generalize badTR it.txts = be at *
  have eit : it.v = V.agg [.int .i64 it.id, .int .i64 it.ver, .int .i64 it.kind, .str it.stem, .ro 1 (strsV it.opts), .ro 1 (ints it.ch), .int .i64 it.val, .int .i64 it.tol, .ro 1 (strsV it.txts), .int .i64 it.pts, .str it.code, .int .i64 it.fam, .int .i64 it.set, .int .i64 it.wo, .int .i64 it.se, .ro 1 (ints it.ass), .int .i64 it.rub] := rfl
  rw [eit]
  have i1 := strsV_pure it.opts
  have i2 := ints_pure it.ch
  have i3 := strsV_pure it.txts
  have i4 := ints_pure it.ass
  have li1 := strsV_len it.opts
  have li2 := ints_len it.ch
  have li3 := strsV_len it.txts
  have li4 := ints_len it.ass
  generalize strsV it.opts = ov at *
  generalize ints it.ch = cv at *
  generalize strsV it.txts = xv at *
  generalize ints it.ass = av at *
  have ei1 : ov = [] ↔ it.opts = [] := by rw [← List.length_eq_zero_iff, li1, List.length_eq_zero_iff]
  have ei2 : cv = [] ↔ it.ch = [] := by rw [← List.length_eq_zero_iff, li2, List.length_eq_zero_iff]
  have ei3 : xv = [] ↔ it.txts = [] := by rw [← List.length_eq_zero_iff, li3, List.length_eq_zero_iff]
  refine ac_intro Tryz.func46 rfl (by show (1 : Nat) ≤ 183; omega) (fun w0 N0 => ?_)
  refine aw_step [1] [1] (by simp [Tryz.ntmps46] <;> rfl) ?_
  refine aw_step [1, 3] [1] (by simp <;> rfl) ?_
  refine aw_step [1, 3, 4] [1] (by simp <;> rfl) ?_
  refine aw_step [1, 3, 4, 5] [1] (by simp <;> rfl) ?_
  refine aw_step [1, 3, 4, 5, 6] [1] (by simp <;> rfl) ?_
  refine aw_step [1, 3, 4, 5, 6, 7] [1] (by simp <;> rfl) ?_
  refine aw_seq ?_
  refine aw_step [1, 3, 4, 5, 6, 7, 39] [1] (by simp <;> rfl) ?_
  refine aw_block ?_
  refine aw_step [1, 3, 4, 5, 6, 7, 39, 40] [1] (by simp <;> rfl) ?_
  refine aw_cond rfl (fun h1 => ?_) (fun h1 => ?_)
  · rw [if_pos (by simpa using h1)]
    refine aw_seq (aw_region ?_)
    refine awl_go 22 (by simp [li1, hwl] <;> rfl) ?_
    refine awl_gcall (fun hg => c97) Tryz.func47 rfl (by kernel_rfl) (by simp <;> rfl) rfl rfl (by simp <;> rfl) (by simp [i1, i2, i3, i4]) (by simp <;> rfl) ?_
    refine awl_end [2] [] (by simp <;> rfl) ?_
    exact aw_ret (ends_ret (by simp [Tryz.results46] <;> rfl) (by simp [li1, li2, ei1, ei2, ei3, Bool.and_assoc]))
  · rw [if_neg (by simpa using h1)]
    refine aw_step [1, 3, 4, 5, 6, 7, 39, 66] [1] (by simp <;> rfl) ?_
    refine aw_cond rfl (fun h2 => ?_) (fun h2 => ?_)
    · rw [if_pos (by simpa using h2)]
      refine aw_seq (aw_region ?_)
      refine awl_go 22 (by simp [li1, hwl] <;> rfl) ?_
      refine awl_gcall (fun hg => c97) Tryz.func47 rfl (by kernel_rfl) (by simp <;> rfl) rfl rfl (by simp <;> rfl) (by simp [i1, i2, i3, i4]) (by simp <;> rfl) ?_
      refine awl_end [2] [] (by simp <;> rfl) ?_
      exact aw_ret (ends_ret (by simp [Tryz.results46] <;> rfl) (by simp [li1, li2, ei1, ei2, ei3, Bool.and_assoc]))
    · rw [if_neg (by simpa using h2)]
      refine aw_step [1, 3, 4, 5, 6, 7, 39, 92] [1] (by simp <;> rfl) ?_
      refine aw_cond rfl (fun h3 => ?_) (fun h3 => ?_)
      · rw [if_pos (by simpa using h3)]
        refine aw_seq (aw_region ?_)
        refine awl_go 15 (by simp [li1] <;> rfl) ?_
        refine awl_gcall (fun hg => c76) Tryz.func76 rfl (by kernel_rfl) (by simp <;> rfl) rfl rfl (by simp <;> rfl) (by simp [i1, i2, i3, i4]) (by simp <;> rfl) ?_
        refine awl_end [2] [] (by simp <;> rfl) ?_
        exact aw_ret (ends_ret (by simp [Tryz.results46] <;> rfl) (by simp [li1, li2, ei1, ei2, ei3, Bool.and_assoc]))
      · rw [if_neg (by simpa using h3)]
        refine aw_step [1, 3, 4, 5, 6, 39, 111] [1] (by simp <;> rfl) ?_
        refine aw_cond rfl (fun h4 => ?_) (fun h4 => ?_)
        · rw [if_pos (by simpa using h4)]
          refine aw_seq (aw_region ?_)
          refine awl_go 10 (by simp <;> rfl) ?_
          refine awl_gcall (fun hg => c93 it.val (-9999999) 9999999) Tryz.func44 rfl (by kernel_rfl) (by simp <;> rfl) rfl rfl (by simp <;> rfl) (by simp) (by simp <;> rfl) ?_
          refine awl_go 4 (by simp <;> rfl) ?_
          refine awl_gcall (fun hg => c93 it.tol 0 9999999) Tryz.func44 rfl (by kernel_rfl) (by simp <;> rfl) rfl rfl (by simp <;> rfl) (by simp) (by simp <;> rfl) ?_
          refine awl_end [2] [] (by simp <;> rfl) ?_
          exact aw_ret (ends_ret (by simp [Tryz.results46] <;> rfl) (by simp [li1, li2, ei1, ei2, ei3, Bool.and_assoc]))
        · rw [if_neg (by simpa using h4)]
          refine aw_step [1, 3, 4, 5, 6, 130] [1] (by simp <;> rfl) ?_
          refine aw_cond rfl (fun h5 => ?_) (fun h5 => aw_skip ?_)
          · rw [if_pos (by simpa using h5)]
            refine aw_seq ?_
            refine aw_step [1, 3, 4, 6, 133, 134, 135] [1] (by simp <;> rfl) ?_
            refine aw_block ?_
            refine aw_count (fun k nx => ⟨[(1, V.bp 1 0 17 0 0), (3, V.bool (decide (ov = []) && decide (cv = []))), (4, V.bool (decide (it.val = 0) && decide (it.tol = 0))), (6, V.bool (decide (it.rub = 0))), (133, V.ro 1 xv), (134, V.int .i64 xv.length), (135, V.int .i64 k)], [(1, ⟨0, 17, 39, [V.agg [.int .i64 it.id, .int .i64 it.ver, .int .i64 it.kind, .str it.stem, .ro 1 ov, .ro 1 cv, .int .i64 it.val, .int .i64 it.tol, .ro 1 xv, .int .i64 it.pts, .str it.code, .int .i64 it.fam, .int .i64 it.set, .int .i64 it.wo, .int .i64 it.se, .ro 1 av, .int .i64 it.rub]]⟩)], nx, 183⟩) (fun k => ((List.range it.txts.length).take k).any be = false) it.txts.length _ (by simp) (AS.le_refl _) ?_
            intro k nx hk hI
            refine aw_step [1, 3, 4, 6, 133, 134, 135, 136] [1] (by simp <;> rfl) ?_
            refine aw_seq ?_
            refine aw_cond rfl (fun h6 => aw_skip ?_) (fun h6 => ?_)
            · have hlt : k < it.txts.length := by simp at h6; omega
              have hltq : k < xv.length := by omega
              have ga := qt k hlt
              have hb := hbe k
              have hw1 := wrap_succ (k := k) (by omega)
              have hst := fun h => range_take_all it.txts.length k be hlt hI h
              have hhi := fun h => range_hit (f := be) hlt h
              have hpv : ∀ j, k = j + 1 → be k = (!nrR (it.txts.getD k []) || leS (it.txts.getD k []) (it.txts.getD j [])) := fun j hj => by rw [hb, hj]; simp
              have c77x := c77 k hlt
              generalize it.txts.getD k [] = x at *
              refine aw_seq ?_
              refine aw_block ?_
              refine aw_step [1, 3, 4, 6, 8, 9, 133, 134, 135] [1] (by simp [ga, hltq] <;> rfl) ?_
              cases hfd : nrR x
              · rw [hfd] at c77x
                refine aw_seq (aw_region ?_)
                refine awl_go 1 (by simp <;> rfl) ?_
                refine awl_call1 c77x Tryz.func77 rfl (by kernel_rfl) rfl rfl rfl (by simp <;> rfl) (by simp) (by simp <;> rfl) ?_
                refine awl_go 2 (by simp <;> rfl) ?_
                refine awl_skips 12 (by simp <;> rfl) ?_
                refine awl_end [1, 3, 4, 6, 133, 134, 135, 156] [1] (by simp <;> rfl) ?_
                refine aw_cond rfl (fun h7 => ?_) (fun h7 => by simp at h7)
                refine aw_step [2] [] (by simp <;> rfl) ?_
                exact aw_ret (ends_ret (by simp [Tryz.results46] <;> rfl) (by rw [if_pos (hhi (by rw [hb, hfd]; rfl))]))
              rw [hfd] at c77x
              rcases k with _ | j
              · refine aw_seq (aw_region ?_)
                refine awl_go 1 (by simp <;> rfl) ?_
                refine awl_call1 c77x Tryz.func77 rfl (by kernel_rfl) rfl rfl rfl (by simp <;> rfl) (by simp) (by simp <;> rfl) ?_
                refine awl_go 5 (by simp <;> rfl) ?_
                refine awl_skips 8 (by simp <;> rfl) ?_
                refine awl_end [1, 3, 4, 6, 133, 134, 135, 156] [1] (by simp <;> rfl) ?_
                refine aw_cond rfl (fun h7 => by simp at h7) (fun h7 => aw_skip ?_)
                refine aw_one [1, 3, 4, 6, 133, 134, 135] [1] (by simp [hw1] <;> rfl) ?_
                exact ⟨hlt, hst (by rw [hb, hfd]; simp), _, AS.le_refl _⟩
              · have gp := qt j (by omega)
                have hlj : j < xv.length := by omega
                have hwj : IntKind.i64.wrap (((j + 1 : Nat) : Int) - 1) = (j : Int) := by rw [wrap_in (by omega) (by omega)]; omega
                have hwj2 : IntKind.i64.wrap (j : Int) = (j : Int) := wrap_in (by omega) (by omega)
                have hw2 : IntKind.i64.wrap ((j : Int) + 1 + 1) = ((j + 1 + 1 : Nat) : Int) := by rw [wrap_in (by omega) (by omega)]; omega
                have hb2 := hpv j rfl
                generalize it.txts.getD j [] = y at *
                refine aw_seq (aw_region ?_)
                refine awl_go 1 (by simp <;> rfl) ?_
                refine awl_call1 c77x Tryz.func77 rfl (by kernel_rfl) rfl rfl rfl (by simp <;> rfl) (by simp) (by simp <;> rfl) ?_
                refine awl_end [1, 3, 4, 6, 133, 134, 135, 156] [1] (by simp [gp, hlj, hwj, hwj2, -Int.natCast_add] <;> rfl) ?_
                refine aw_cond rfl (fun h7 => ?_) (fun h7 => aw_skip ?_)
                · refine aw_step [2] [] (by simp <;> rfl) ?_
                  exact aw_ret (ends_ret (by simp [Tryz.results46] <;> rfl) (by rw [if_pos (hhi (by rw [hb2, hfd]; unfold leS; simpa using h7))]))
                refine aw_one [1, 3, 4, 6, 133, 134, 135] [1] (by simp [hw2, -Int.natCast_add] <;> rfl) ?_
                exact ⟨hlt, hst (by rw [hb2, hfd]; unfold leS; simpa using h7), _, AS.le_refl _⟩
            · refine aw_exit ?_
              have hke : k = it.txts.length := by simp at h6; omega
              rw [hke, List.take_of_length_le (by simp)] at hI
              rw [if_neg (by rw [hI]; simp)]
              refine aw_step [2] [] (by simp <;> rfl) ?_
              exact aw_ret (ends_ret (by simp [Tryz.results46] <;> rfl) (by simp [li3, ei1, ei2, Bool.and_assoc]))
          rw [if_neg (by simpa using h5)]
          refine aw_step [2] [] (by simp <;> rfl) ?_
          exact aw_ret (ends_ret (by simp [Tryz.results46] <;> rfl) (by simp [ei1, ei2, ei3, Bool.and_assoc]))
end Go.Proofs.YtnklkkagpkcmfaaGreatDoor

set_option maxRecDepth 4000
namespace Go.Proofs.YtnklkkagpkcmfaaGreatDoor
open Go.Eng Go.Eng.Limb
def itemR (it : It) : Int :=
  if numsB it = false then 3 else if inB3 it.kind 1 6 = false then 1 else if strR it = false then 2
  else if (10 : Int) < it.opts.length ∨ (10 : Int) < it.txts.length ∨ (8 : Int) < it.ass.length then 5
  else if keyR it = false then 19 else if risB it.ass 1 9999999 = false then 23 else 0
set_option maxHeartbeats 8000000 in
theorem itemR_ac (it : It) (hi : it.small) (hco : it.code.length ≤ 4000000000) : AC Tryz.prog 24 [it.v] (fun r => r = .int .i64 (itemR it)) := by
  have ha := hi.ass
  have c92 := nums43_ac it
  have c93 := win44_ac it.kind 1 6
  have c94 := strR_ac it hi hco
  have c96 := keyR_ac it hi
  have c97 := ris47_ac it.ass 1 9999999 (by omega)
  unfold itemR
  generalize numsB it = b1 at *
  generalize inB3 it.kind 1 6 = b2 at *
  generalize strR it = b3 at *
  generalize keyR it = b5 at *
  generalize risB it.ass 1 9999999 = b6 at *
  have eit : it.v = V.agg [.int .i64 it.id, .int .i64 it.ver, .int .i64 it.kind, .str it.stem, .ro 1 (strsV it.opts), .ro 1 (ints it.ch), .int .i64 it.val, .int .i64 it.tol, .ro 1 (strsV it.txts), .int .i64 it.pts, .str it.code, .int .i64 it.fam, .int .i64 it.set, .int .i64 it.wo, .int .i64 it.se, .ro 1 (ints it.ass), .int .i64 it.rub] := rfl
  rw [eit] at c92 c94 c96 ⊢
  have i1 := strsV_pure it.opts
  have i2 := ints_pure it.ch
  have i3 := strsV_pure it.txts
  have i4 := ints_pure it.ass
  have li1 := strsV_len it.opts
  have li2 := ints_len it.ch
  have li3 := strsV_len it.txts
  have li4 := ints_len it.ass
  generalize strsV it.opts = ov at *
  generalize ints it.ch = cv at *
  generalize strsV it.txts = xv at *
  generalize ints it.ass = av at *
  have ei1 : ov = [] ↔ it.opts = [] := by rw [← List.length_eq_zero_iff, li1, List.length_eq_zero_iff]
  have ei2 : cv = [] ↔ it.ch = [] := by rw [← List.length_eq_zero_iff, li2, List.length_eq_zero_iff]
  have ei3 : xv = [] ↔ it.txts = [] := by rw [← List.length_eq_zero_iff, li3, List.length_eq_zero_iff]
  refine ac_intro Tryz.func24 rfl (by show (1 : Nat) ≤ 36; omega) (fun w0 N0 => ?_)
  refine aw_step [1] [1] (by simp [Tryz.ntmps24] <;> rfl) ?_
  refine aw_seq ?_
  refine aw_seq (aw_region ?_)
  refine awl_go 1 (by simp <;> rfl) ?_
  refine awl_call1 c92 Tryz.func43 rfl (by kernel_rfl) rfl rfl rfl (by simp <;> rfl) (by simp [i1, i2, i3, i4]) (by simp <;> rfl) ?_
  refine awl_end [1, 5] [1] (by simp <;> rfl) ?_
  refine aw_cond rfl (fun h1 => ?_) (fun h1 => aw_skip ?_)
  · refine aw_step [2] [] (by simp <;> rfl) ?_
    exact aw_ret (ends_ret (by simp [Tryz.results24] <;> rfl) (by rw [if_pos (by simpa using h1)]))
  rw [if_neg (by simpa using h1)]
  refine aw_seq ?_
  refine aw_seq (aw_region ?_)
  refine awl_go 2 (by simp <;> rfl) ?_
  refine awl_call1 c93 Tryz.func44 rfl (by kernel_rfl) rfl rfl rfl (by simp <;> rfl) (by simp [i1, i2, i3, i4]) (by simp <;> rfl) ?_
  refine awl_end [1, 9] [1] (by simp <;> rfl) ?_
  refine aw_cond rfl (fun h2 => ?_) (fun h2 => aw_skip ?_)
  · refine aw_step [2] [] (by simp <;> rfl) ?_
    exact aw_ret (ends_ret (by simp [Tryz.results24] <;> rfl) (by rw [if_pos (by simpa using h2)]))
  rw [if_neg (by simpa using h2)]
  refine aw_seq ?_
  refine aw_seq (aw_region ?_)
  refine awl_go 1 (by simp <;> rfl) ?_
  refine awl_call1 c94 Tryz.func45 rfl (by kernel_rfl) rfl rfl rfl (by simp <;> rfl) (by simp [i1, i2, i3, i4]) (by simp <;> rfl) ?_
  refine awl_end [1, 12] [1] (by simp <;> rfl) ?_
  refine aw_cond rfl (fun h3 => ?_) (fun h3 => aw_skip ?_)
  · refine aw_step [2] [] (by simp <;> rfl) ?_
    exact aw_ret (ends_ret (by simp [Tryz.results24] <;> rfl) (by rw [if_pos (by simpa using h3)]))
  rw [if_neg (by simpa using h3)]
  refine aw_seq ?_
  refine aw_step [1, 28] [1] (by simp [li1, li3, li4] <;> rfl) ?_
  refine aw_cond rfl (fun h4 => ?_) (fun h4 => aw_skip ?_)
  · refine aw_step [2] [] (by simp <;> rfl) ?_
    exact aw_ret (ends_ret (by simp [Tryz.results24] <;> rfl) (by rw [if_pos (by simpa [or_assoc] using h4)]))
  rw [if_neg (by simpa [or_assoc, and_assoc] using h4)]
  refine aw_seq ?_
  refine aw_seq (aw_region ?_)
  refine awl_go 1 (by simp <;> rfl) ?_
  refine awl_call1 c96 Tryz.func46 rfl (by kernel_rfl) rfl rfl rfl (by simp <;> rfl) (by simp [i1, i2, i3, i4]) (by simp <;> rfl) ?_
  refine awl_end [1, 31] [1] (by simp <;> rfl) ?_
  refine aw_cond rfl (fun h5 => ?_) (fun h5 => aw_skip ?_)
  · refine aw_step [2] [] (by simp <;> rfl) ?_
    exact aw_ret (ends_ret (by simp [Tryz.results24] <;> rfl) (by rw [if_pos (by simpa using h5)]))
  rw [if_neg (by simpa using h5)]
  refine aw_seq ?_
  refine aw_seq (aw_region ?_)
  refine awl_go 2 (by simp <;> rfl) ?_
  refine awl_call1 c97 Tryz.func47 rfl (by kernel_rfl) rfl rfl rfl (by simp <;> rfl) (by simp [i1, i2, i3, i4]) (by simp <;> rfl) ?_
  refine awl_end [35] [] (by simp <;> rfl) ?_
  refine aw_cond rfl (fun h6 => ?_) (fun h6 => aw_skip ?_)
  · refine aw_step [2] [] (by simp <;> rfl) ?_
    exact aw_ret (ends_ret (by simp [Tryz.results24] <;> rfl) (by rw [if_pos (by simpa using h6)]))
  rw [if_neg (by simpa using h6)]
  refine aw_step [2] [] (by simp <;> rfl) ?_
  exact aw_ret (ends_ret (by simp [Tryz.results24] <;> rfl) rfl)
end Go.Proofs.YtnklkkagpkcmfaaGreatDoor

set_option maxRecDepth 4000
namespace Go.Proofs.YtnklkkagpkcmfaaGreatDoor
open Go.Eng Go.Eng.Limb
theorem ac_relaxP {P : Program} {f : FuncId} {args : List V} {v' : V} (h : AC P f args (fun r => Relax r v')) : AC P f args (fun r => r = v') :=
  fun w N xs h1 h2 h3 => (h w N xs h1 h2 h3).mono fun _ _ ⟨x, _, he, hR, hp, hb⟩ => ⟨x, v', he, rfl, hR.1 _ _ _ hp, hb⟩
def cpy (l : List Int) (k : Nat) : List Int := l.take k
theorem cpy_succ {l : List Int} {k : Nat} (h : k < l.length) : cpy l (k + 1) = cpy l k ++ [l.getD k 0] := by unfold cpy; rw [List.take_succ_eq_append_getElem h, getD_lt h]
theorem cpy_len (l : List Int) (k : Nat) : (cpy l k).length ≤ l.length := by simp [cpy]; omega
theorem ints_app (a b : List Int) : ints (a ++ b) = ints a ++ ints b := by simp [ints]
theorem ints_one (a : Int) : ints [a] = [V.int .i64 a] := rfl
set_option maxHeartbeats 4000000 in
theorem copied_ac (l : List Int) (hl : l.length ≤ 2000000) : AC Tryz.prog 48 [.ro 1 (ints l)] (fun x => x = .ro 1 (ints l)) := by
  have hq := fun (k : Nat) (h : k < l.length) => ints_gD h
  have lq := ints_len l
  have hpL := ints_pure l
  obtain ⟨pv, hpv⟩ : ∃ pv, pv = ints l := ⟨_, rfl⟩
  rw [show ([V.ro 1 (ints l)] : List V) = [V.ro 1 pv] by rw [hpv]]
  rw [← hpv] at hq lq
  refine ac_intro Tryz.func48 rfl (by show (1 : Nat) ≤ 18; omega) (fun w0 N0 => ?_)
  refine aw_step [0] [] (by simp [Tryz.ntmps48] <;> rfl) ?_
  refine aw_step [0, 3] [] (by simp <;> rfl) ?_
  refine aw_seq ?_
  refine aw_step [3, 6, 7, 8] [] (by simp <;> rfl) ?_
  refine aw_adoptS 3 100 1 3 [3, 6, 7, 8] [100] (by simp <;> rfl) (by simp <;> rfl) ?_
  refine aw_block ?_
  refine aw_loop (fun x : Nat × Nat × Nat => ⟨[(3, .sl 100 x.2.1 1 (cpy l x.1).length), (6, V.ro 1 pv), (7, V.int .i64 pv.length), (8, V.int .i64 (x.1 : Nat))], [(100, ⟨x.2.1, 1, 3, ints (cpy l x.1)⟩)], x.2.2, 18⟩)
    (fun x => x.1 ≤ l.length) (fun x => l.length - x.1) (0, _, _) (Nat.zero_le _) (AS.le_refl _) ?_
  rintro ⟨k, qv, nx⟩ hk
  simp only at hk ⊢
  refine aw_step [3, 6, 7, 8, 9] [100] (by simp <;> rfl) ?_
  refine aw_seq ?_
  refine aw_cond rfl (fun h1 => aw_skip ?_) (fun h1 => ?_)
  · have hlt : k < l.length := by simp at h1; omega
    have hltq : k < pv.length := by omega
    have ga := hq k hlt
    have hw1 := wrap_succ (k := k) (by omega)
    have hsu := cpy_succ hlt
    have hil : (cpy l k).length ≤ 2000000 := Nat.le_trans (cpy_len l k) hl
    generalize l.getD k 0 = p at ga hsu
    generalize cpy l k = Lk at hsu hil ⊢
    have hro : Lk.length + 1 ≤ maxLen ∧ (Lk.length + 1) * 8 ≤ 140737488355328 := ⟨Nat.le_trans (show Lk.length + 1 ≤ 2000001 by omega) (by decide), by omega⟩
    refine aw_seq ?_
    refine aw_block ?_
    refine aw_step [3, 5, 6, 7, 8] [100] (by simp [ga, hltq] <;> rfl) ?_
    refine aw_one [3, 6, 7, 8] [100] (by simp [hro] <;> rfl) ?_
    refine aw_one [3, 6, 7, 8] [100] (by simp [hw1] <;> rfl) ?_
    exact ⟨(k + 1, _, _), hlt, by simp only; omega, by simp only [hsu, ints_app, ints_one, List.length_append, List.length_cons, List.length_nil]; exact AS.le_refl _⟩
  · refine aw_exit ?_
    have hke : k = l.length := by simp at h1; omega
    subst hke
    rw [show cpy l l.length = l from List.take_length]
    refine aw_step [2] [100] (by simp <;> rfl) ?_
    exact aw_ret (ends_ret (by simp [Tryz.results48, hpL] <;> rfl) rfl)
def an0 : An := ⟨0, [], 0, [], false⟩
def anE (p : An × Int) : V := .tup [p.1.v, .int .i64 p.2]
def riF (e : Int) (it : It) : An × Int := if e ≠ 0 then (an0, e) else if it.kind = 6 then (an0, 8) else (if it.kind = 4 then ⟨it.id, [], it.val, [], false⟩ else if it.kind = 5 then ⟨it.id, [], 0, it.txts.getD 0 [], false⟩ else ⟨it.id, it.ch, 0, [], false⟩, 0)
theorem rl_nil (i v : Int) (t : List UInt8) (o : Bool) (e : Int) : Relax (.tup [.agg [.int .i64 i, .nils, .int .i64 v, .str t, .bool o], .int .i64 e]) (anE (⟨i, [], v, t, o⟩, e)) :=
  Relax.tup (.cons (Relax.agg (.cons (Relax.refl _) (.cons (nils_ro 1) (RelaxL.refl _)))) (RelaxL.refl _))
theorem item_keyR {it : It} (h : itemR it = 0) : keyR it = true := by
  unfold itemR at h
  (repeat' split at h) <;> first | (cases h; done) | skip
  rename_i hk _
  simpa using hk
theorem key_fiveR {it : It} (h : itemR it = 0) (hk : it.kind = 5) : 0 < it.txts.length := by
  have hr := item_keyR h
  unfold keyR at hr
  rw [if_neg (by omega), if_neg (by omega), if_neg (by omega), if_neg (by omega), if_pos hk] at hr
  split at hr
  · cases hr
  · simp at hr; omega
theorem key_five {it : It} (h : itemE it = 0) (hk : it.kind = 5) : 0 < it.txts.length := by
  have hr := (item_key h).1
  unfold keyB at hr
  rw [if_neg (by omega), if_neg (by omega), if_neg (by omega), if_neg (by omega), if_pos hk] at hr
  split at hr
  · cases hr
  · simp at hr; omega
set_option maxHeartbeats 8000000 in
theorem right_acq (it : It) (hi : it.small) : ACQ gv Tryz.prog 22 [it.v] (fun r => r = anE (riF (itemE it) it)) := by
  have c21 := item_acq sortedC it hi
  have c23 := clone110b_ac (ints it.ch) (ints_pure it.ch) (flatI it.ch) (by rw [ints_len]; exact hi.ch)
  have h5 := fun h (hk : it.kind = 5) => key_five h hk
  have qt := fun (k : Nat) (h : k < it.txts.length) => strsV_gD h
  have l0 := fun i e => rl_nil i 0 [] false e
  have lv := rl_nil it.id it.val [] false 0
  have lt := rl_nil it.id 0 (it.txts.getD 0 []) false 0
  have lc : anE (⟨it.id, it.ch, 0, [], false⟩, 0) = V.tup [V.agg [.int .i64 it.id, .ro 1 (ints it.ch), .int .i64 0, .str [], .bool false], .int .i64 0] := rfl
  unfold riF
  generalize itemE it = e at *
  refine ACQ.relaxP ?_
  have eit : it.v = V.agg [.int .i64 it.id, .int .i64 it.ver, .int .i64 it.kind, .str it.stem, .ro 1 (strsV it.opts), .ro 1 (ints it.ch), .int .i64 it.val, .int .i64 it.tol, .ro 1 (strsV it.txts), .int .i64 it.pts, .str it.code, .int .i64 it.fam, .int .i64 it.set, .int .i64 it.wo, .int .i64 it.se, .ro 1 (ints it.ass), .int .i64 it.rub] := rfl
  rw [eit] at c21 ⊢
  have i1 := strsV_pure it.opts
  have i2 := ints_pure it.ch
  have i3 := strsV_pure it.txts
  have i4 := ints_pure it.ass
  have li1 := strsV_len it.opts
  have li2 := ints_len it.ch
  have li3 := strsV_len it.txts
  have li4 := ints_len it.ass
  generalize strsV it.opts = ov at *
  generalize ints it.ch = cv at *
  generalize strsV it.txts = xv at *
  generalize ints it.ass = av at *
  have ei1 : ov = [] ↔ it.opts = [] := by rw [← List.length_eq_zero_iff, li1, List.length_eq_zero_iff]
  have ei2 : cv = [] ↔ it.ch = [] := by rw [← List.length_eq_zero_iff, li2, List.length_eq_zero_iff]
  have ei3 : xv = [] ↔ it.txts = [] := by rw [← List.length_eq_zero_iff, li3, List.length_eq_zero_iff]
  refine acq_intro Tryz.func22 rfl (by show (1 : Nat) ≤ 37; omega) (fun w0 N0 hG => ?_)
  refine aw_step [1, 2] [1, 2] (by simp [Tryz.ntmps22] <;> rfl) ?_
  refine aw_seq ?_
  refine aw_seq (aw_region ?_)
  refine awl_go 1 (by simp <;> rfl) ?_
  refine awl_callQ hG c21 Tryz.func21 rfl (by kernel_rfl) (by simp) rfl rfl rfl (by simp <;> rfl) (by simp [i1, i2, i3, i4]) (by simp <;> rfl) ?_
  refine awl_end [1, 2, 4] [1, 2] (by simp <;> rfl) ?_
  refine aw_step [1, 2, 4, 9] [1, 2] (by simp <;> rfl) ?_
  refine aw_cond rfl (fun h1 => ?_) (fun h1 => aw_skip ?_)
  · refine aw_step [2, 3] [2] (by simp <;> rfl) ?_
    exact aw_ret (ends_ret (by simp [Tryz.results22] <;> rfl) (by rw [if_pos (by simpa using h1)]; exact l0 0 e))
  rw [if_neg (by simpa using h1)]
  have he : e = 0 := by simpa using h1
  refine aw_step [1, 2, 5] [1, 2, 5] (by simp <;> rfl) ?_
  refine aw_seq ?_
  refine aw_step [1, 2, 5, 16] [1, 2, 5] (by simp <;> rfl) ?_
  refine aw_block ?_
  refine aw_step [1, 2, 5, 16, 21] [1, 2, 5] (by simp <;> rfl) ?_
  refine aw_cond rfl (fun h2 => ?_) (fun h2 => ?_)
  · refine aw_step [2, 3] [2] (by simp <;> rfl) ?_
    exact aw_ret (ends_ret (by simp [Tryz.results22] <;> rfl) (by rw [if_pos (by simpa using h2)]; exact l0 0 8))
  · rw [if_neg (by simpa using h2)]
    refine aw_step [1, 2, 5, 16, 24] [1, 2, 5] (by simp <;> rfl) ?_
    refine aw_cond rfl (fun h3 => ?_) (fun h3 => ?_)
    · refine aw_one [2, 5] [2, 5] (by simp <;> rfl) ?_
      refine aw_step [2, 3] [2] (by simp <;> rfl) ?_
      exact aw_ret (ends_ret (by simp [Tryz.results22] <;> rfl) (by rw [if_pos (by simpa using h3)]; exact lv))
    · rw [if_neg (by simpa using h3)]
      refine aw_step [1, 2, 5, 29] [1, 2, 5] (by simp <;> rfl) ?_
      refine aw_cond rfl (fun h4 => ?_) (fun h4 => ?_)
      · have hl := h5 he (by simpa using h4)
        have g0 := qt 0 hl
        have hx0 : 0 < xv.length := by omega
        generalize it.txts.getD 0 [] = tx at *
        refine aw_one [2, 5] [2, 5] (by simp [g0, hx0] <;> rfl) ?_
        refine aw_step [2, 3] [2] (by simp <;> rfl) ?_
        exact aw_ret (ends_ret (by simp [Tryz.results22] <;> rfl) (by rw [if_pos (by simpa using h4)]; exact lt))
      · rw [if_neg (by simpa using h4)]
        refine aw_region ?_
        refine awl_go 2 (by simp <;> rfl) ?_
        refine awl_call1 c23 Tryz.func23 rfl (by kernel_rfl) rfl rfl rfl (by simp <;> rfl) (by simp [i1, i2, i3, i4]) (by simp <;> rfl) ?_
        refine awl_end [2, 5] [2, 5] (by simp <;> rfl) ?_
        refine aw_step [2, 3] [2] (by simp [i2] <;> rfl) ?_
        exact aw_ret (ends_ret (by simp [Tryz.results22, i2] <;> rfl) (by rw [lc]; exact Relax.refl _))
set_option maxHeartbeats 8000000 in
theorem rightR_ac (it : It) (hi : it.small) (hco : it.code.length ≤ 4000000000) : AC Tryz.prog 25 [it.v] (fun r => r = anE (riF (itemR it) it)) := by
  have c21 := itemR_ac it hi hco
  have c23 := copied_ac it.ch hi.ch
  have h5 := fun h (hk : it.kind = 5) => key_fiveR h hk
  have qt := fun (k : Nat) (h : k < it.txts.length) => strsV_gD h
  have l0 := fun i e => rl_nil i 0 [] false e
  have lv := rl_nil it.id it.val [] false 0
  have lt := rl_nil it.id 0 (it.txts.getD 0 []) false 0
  have lc : anE (⟨it.id, it.ch, 0, [], false⟩, 0) = V.tup [V.agg [.int .i64 it.id, .ro 1 (ints it.ch), .int .i64 0, .str [], .bool false], .int .i64 0] := rfl
  unfold riF
  generalize itemR it = e at *
  refine ac_relaxP ?_
  have eit : it.v = V.agg [.int .i64 it.id, .int .i64 it.ver, .int .i64 it.kind, .str it.stem, .ro 1 (strsV it.opts), .ro 1 (ints it.ch), .int .i64 it.val, .int .i64 it.tol, .ro 1 (strsV it.txts), .int .i64 it.pts, .str it.code, .int .i64 it.fam, .int .i64 it.set, .int .i64 it.wo, .int .i64 it.se, .ro 1 (ints it.ass), .int .i64 it.rub] := rfl
  rw [eit] at c21 ⊢
  have i1 := strsV_pure it.opts
  have i2 := ints_pure it.ch
  have i3 := strsV_pure it.txts
  have i4 := ints_pure it.ass
  have li1 := strsV_len it.opts
  have li2 := ints_len it.ch
  have li3 := strsV_len it.txts
  have li4 := ints_len it.ass
  generalize strsV it.opts = ov at *
  generalize ints it.ch = cv at *
  generalize strsV it.txts = xv at *
  generalize ints it.ass = av at *
  have ei1 : ov = [] ↔ it.opts = [] := by rw [← List.length_eq_zero_iff, li1, List.length_eq_zero_iff]
  have ei2 : cv = [] ↔ it.ch = [] := by rw [← List.length_eq_zero_iff, li2, List.length_eq_zero_iff]
  have ei3 : xv = [] ↔ it.txts = [] := by rw [← List.length_eq_zero_iff, li3, List.length_eq_zero_iff]
  refine ac_intro Tryz.func25 rfl (by show (1 : Nat) ≤ 37; omega) (fun w0 N0 => ?_)
  refine aw_step [1, 2] [1, 2] (by simp [Tryz.ntmps25] <;> rfl) ?_
  refine aw_seq ?_
  refine aw_seq (aw_region ?_)
  refine awl_go 1 (by simp <;> rfl) ?_
  refine awl_call1 c21 Tryz.func24 rfl (by kernel_rfl) rfl rfl rfl (by simp <;> rfl) (by simp [i1, i2, i3, i4]) (by simp <;> rfl) ?_
  refine awl_end [1, 2, 4] [1, 2] (by simp <;> rfl) ?_
  refine aw_step [1, 2, 4, 9] [1, 2] (by simp <;> rfl) ?_
  refine aw_cond rfl (fun h1 => ?_) (fun h1 => aw_skip ?_)
  · refine aw_step [2, 3] [2] (by simp <;> rfl) ?_
    exact aw_ret (ends_ret (by simp [Tryz.results25] <;> rfl) (by rw [if_pos (by simpa using h1)]; exact l0 0 e))
  rw [if_neg (by simpa using h1)]
  have he : e = 0 := by simpa using h1
  refine aw_step [1, 2, 5] [1, 2, 5] (by simp <;> rfl) ?_
  refine aw_seq ?_
  refine aw_step [1, 2, 5, 16] [1, 2, 5] (by simp <;> rfl) ?_
  refine aw_block ?_
  refine aw_step [1, 2, 5, 16, 21] [1, 2, 5] (by simp <;> rfl) ?_
  refine aw_cond rfl (fun h2 => ?_) (fun h2 => ?_)
  · refine aw_step [2, 3] [2] (by simp <;> rfl) ?_
    exact aw_ret (ends_ret (by simp [Tryz.results25] <;> rfl) (by rw [if_pos (by simpa using h2)]; exact l0 0 8))
  · rw [if_neg (by simpa using h2)]
    refine aw_step [1, 2, 5, 16, 24] [1, 2, 5] (by simp <;> rfl) ?_
    refine aw_cond rfl (fun h3 => ?_) (fun h3 => ?_)
    · refine aw_one [2, 5] [2, 5] (by simp <;> rfl) ?_
      refine aw_step [2, 3] [2] (by simp <;> rfl) ?_
      exact aw_ret (ends_ret (by simp [Tryz.results25] <;> rfl) (by rw [if_pos (by simpa using h3)]; exact lv))
    · rw [if_neg (by simpa using h3)]
      refine aw_step [1, 2, 5, 29] [1, 2, 5] (by simp <;> rfl) ?_
      refine aw_cond rfl (fun h4 => ?_) (fun h4 => ?_)
      · have hl := h5 he (by simpa using h4)
        have g0 := qt 0 hl
        have hx0 : 0 < xv.length := by omega
        generalize it.txts.getD 0 [] = tx at *
        refine aw_one [2, 5] [2, 5] (by simp [g0, hx0] <;> rfl) ?_
        refine aw_step [2, 3] [2] (by simp <;> rfl) ?_
        exact aw_ret (ends_ret (by simp [Tryz.results25] <;> rfl) (by rw [if_pos (by simpa using h4)]; exact lt))
      · rw [if_neg (by simpa using h4)]
        refine aw_region ?_
        refine awl_go 2 (by simp <;> rfl) ?_
        refine awl_call1 c23 Tryz.func48 rfl (by kernel_rfl) rfl rfl rfl (by simp <;> rfl) (by simp [i1, i2, i3, i4]) (by simp <;> rfl) ?_
        refine awl_end [2, 5] [2, 5] (by simp <;> rfl) ?_
        refine aw_step [2, 3] [2] (by simp [i2] <;> rfl) ?_
        exact aw_ret (ends_ret (by simp [Tryz.results25, i2] <;> rfl) (by rw [lc]; exact Relax.refl _))
end Go.Proofs.YtnklkkagpkcmfaaGreatDoor

set_option maxRecDepth 4000
namespace Go.Proofs.YtnklkkagpkcmfaaGreatDoor
open Go.Eng Go.Eng.Limb
def dnJ (p n c : Nat) : Nat → Nat
  | 0 => 0
  | j + 1 => if (j + 1) * p / n ≤ c then j + 1 else dnJ p n c j
theorem dnJ_le (p n c : Nat) : ∀ j, dnJ p n c j ≤ j
  | 0 => Nat.le_refl _
  | j + 1 => by
    rw [dnJ]
    split
    · omega
    · have := dnJ_le p n c j; omega
theorem dnJ_at (p n c : Nat) {j : Nat} (h : j = 0 ∨ j * p / n ≤ c) : dnJ p n c j = j := by
  cases j with
  | zero => rfl
  | succ j => rw [dnJ, if_pos (by rcases h with h | h; omega; exact h)]
theorem dnJ_down (p n c : Nat) {j : Nat} : ∀ {m : Nat}, j ≤ m → (∀ i, j < i → i ≤ m → c < i * p / n) → dnJ p n c m = dnJ p n c j
  | 0, h, _ => by rw [show j = 0 by omega]
  | m + 1, h, hs => by
    by_cases e : j = m + 1
    · rw [e]
    · have h1 := hs (m + 1) (by omega) (Nat.le_refl _)
      rw [dnJ, if_neg (by omega)]
      exact dnJ_down p n c (by omega) (fun i a b => hs i a (by omega))
theorem dnJ_up (p n c : Nat) {j m : Nat} (hj : j ≤ m) (h0 : j = 0 ∨ j * p / n ≤ c) (hs : j = m ∨ c < (j + 1) * p / n) : dnJ p n c m = j := by
  rw [dnJ_down p n c hj (fun i a b => by
    rcases hs with e | e
    · omega
    · exact Nat.lt_of_lt_of_le e (Nat.div_le_div_right (Nat.mul_le_mul_right _ a)))]
  exact dnJ_at p n c h0
def nJ (it : It) (c : Int) : Nat := dnJ it.pts.toNat it.ch.length c.toNat (it.ch.length - 1)
def aF (e : Int) (it : It) (c : Int) : An × Int :=
  if e ≠ 0 then (an0, e) else if it.kind = 6 then (an0, 8) else if c < 0 ∨ it.pts < c then (an0, 3) else if c = it.pts then riF e it
  else if it.kind ≠ 2 then (⟨it.id, [], 0, [], true⟩, 0) else (⟨it.id, it.ch.take (nJ it c), 0, [], false⟩, 0)
theorem item_nums {it : It} (h : itemE it = 0) : 1 ≤ it.pts ∧ it.pts ≤ 5 := by
  unfold itemE at h
  (repeat' split at h) <;> first | (cases h; done) | skip
  rename_i hn _ _ _ _ _
  unfold numsB inB3 at hn
  simp at hn
  omega
theorem item_numsR {it : It} (h : itemR it = 0) : 1 ≤ it.pts ∧ it.pts ≤ 5 := by
  unfold itemR at h
  (repeat' split at h) <;> first | (cases h; done) | skip
  rename_i hn _ _ _ _ _
  unfold numsB inB3 at hn
  simp at hn
  omega
theorem key_twoR {it : It} (h : itemR it = 0) (hk : it.kind = 2) : 0 < it.ch.length := by
  have hr := item_keyR h
  unfold keyR at hr
  rw [if_neg (by omega), if_pos hk] at hr
  simp at hr
  omega
theorem key_twoE {it : It} (h : itemE it = 0) (hk : it.kind = 2) : 0 < it.ch.length := List.length_pos_iff.2 (key_two (item_key h).1 hk)
theorem ints_take (l : List Int) (k : Nat) : ints (l.take k) = (ints l).take k := by simp [ints]
theorem all_take {α : Type} {p : α → Bool} {l : List α} (h : l.all p = true) (k : Nat) : (l.take k).all p = true := List.all_eq_true.2 fun x hx => List.all_eq_true.1 h x (List.mem_of_mem_take hx)
set_option maxHeartbeats 16000000 in
theorem answer_acq (it : It) (c : Int) (hi : it.small) : ACQ gv Tryz.prog 10 [it.v, .int .i64 c] (fun r => r = anE (aF (itemE it) it c)) := by
  have c21 := item_acq sortedC it hi
  have c22 := right_acq it hi
  have hnm := fun (h : itemE it = 0) => item_nums h
  have h2k := fun (h : itemE it = 0) hk => key_twoE h hk
  have hch := hi.ch
  have l0 := fun e => rl_nil 0 0 [] false e
  have lo := rl_nil it.id 0 [] true 0
  have lc : ∀ k, anE (⟨it.id, it.ch.take k, 0, [], false⟩, 0) = V.tup [V.agg [.int .i64 it.id, .ro 1 ((ints it.ch).take k), .int .i64 0, .str [], .bool false], .int .i64 0] := fun k => by rw [← ints_take]; rfl
  have fch := flatI it.ch
  unfold aF nJ
  generalize itemE it = e at *
  refine ACQ.relaxP ?_
  have eit : it.v = V.agg [.int .i64 it.id, .int .i64 it.ver, .int .i64 it.kind, .str it.stem, .ro 1 (strsV it.opts), .ro 1 (ints it.ch), .int .i64 it.val, .int .i64 it.tol, .ro 1 (strsV it.txts), .int .i64 it.pts, .str it.code, .int .i64 it.fam, .int .i64 it.set, .int .i64 it.wo, .int .i64 it.se, .ro 1 (ints it.ass), .int .i64 it.rub] := rfl
  rw [eit] at c21 c22 ⊢
  have i1 := strsV_pure it.opts
  have i2 := ints_pure it.ch
  have i3 := strsV_pure it.txts
  have i4 := ints_pure it.ass
  have li1 := strsV_len it.opts
  have li2 := ints_len it.ch
  have li3 := strsV_len it.txts
  have li4 := ints_len it.ass
  generalize strsV it.opts = ov at *
  generalize ints it.ch = cv at *
  generalize strsV it.txts = xv at *
  generalize ints it.ass = av at *
  have ei1 : ov = [] ↔ it.opts = [] := by rw [← List.length_eq_zero_iff, li1, List.length_eq_zero_iff]
  have ei2 : cv = [] ↔ it.ch = [] := by rw [← List.length_eq_zero_iff, li2, List.length_eq_zero_iff]
  have ei3 : xv = [] ↔ it.txts = [] := by rw [← List.length_eq_zero_iff, li3, List.length_eq_zero_iff]
  refine acq_intro Tryz.func10 rfl (by show (2 : Nat) ≤ 69; omega) (fun w0 N0 hG => ?_)
  refine aw_step [1, 2, 4] [2, 4] (by simp [Tryz.ntmps10] <;> rfl) ?_
  refine aw_seq ?_
  refine aw_seq (aw_region ?_)
  refine awl_go 1 (by simp <;> rfl) ?_
  refine awl_callQ hG c21 Tryz.func21 rfl (by kernel_rfl) (by simp) rfl rfl rfl (by simp <;> rfl) (by simp [i1, i2, i3, i4]) (by simp <;> rfl) ?_
  refine awl_end [1, 2, 4, 6] [2, 4] (by simp <;> rfl) ?_
  refine aw_step [1, 2, 4, 6, 12] [2, 4] (by simp <;> rfl) ?_
  refine aw_cond rfl (fun h1 => ?_) (fun h1 => aw_skip ?_)
  · refine aw_step [4, 5] [4] (by simp <;> rfl) ?_
    exact aw_ret (ends_ret (by simp [Tryz.results10] <;> rfl) (by rw [if_pos (by simpa using h1)]; exact l0 e))
  rw [if_neg (by simpa using h1)]
  have he : e = 0 := by simpa using h1
  refine aw_seq ?_
  refine aw_step [1, 2, 4, 17] [2, 4] (by simp <;> rfl) ?_
  refine aw_cond rfl (fun h2 => ?_) (fun h2 => aw_skip ?_)
  · refine aw_step [4, 5] [4] (by simp <;> rfl) ?_
    exact aw_ret (ends_ret (by simp [Tryz.results10] <;> rfl) (by rw [if_pos (by simpa using h2)]; exact l0 8))
  rw [if_neg (by simpa using h2)]
  refine aw_seq ?_
  refine aw_step [1, 2, 4, 26] [2, 4] (by simp <;> rfl) ?_
  refine aw_cond rfl (fun h3 => ?_) (fun h3 => aw_skip ?_)
  · refine aw_step [4, 5] [4] (by simp <;> rfl) ?_
    exact aw_ret (ends_ret (by simp [Tryz.results10] <;> rfl) (by rw [if_pos (by simpa using h3)]; exact l0 3))
  rw [if_neg (by simpa using h3)]
  refine aw_seq ?_
  refine aw_step [1, 2, 4, 31] [2, 4] (by simp <;> rfl) ?_
  refine aw_cond rfl (fun h4 => ?_) (fun h4 => aw_skip ?_)
  · rw [if_pos (by simpa using h4)]
    generalize riF e it = ra at *
    refine aw_seq (aw_region ?_)
    refine awl_go 1 (by simp <;> rfl) ?_
    refine awl_callQ hG c22 Tryz.func22 rfl (by kernel_rfl) (by simp) rfl rfl rfl (by simp <;> rfl) (by simp [i1, i2, i3, i4]) (by simp <;> rfl) ?_
    refine awl_end [4, 5] [4] (by simp <;> rfl) ?_
    exact aw_ret (ends_ret (by simp [Tryz.results10] <;> rfl) (Relax.refl _))
  rw [if_neg (by simpa using h4)]
  refine aw_seq ?_
  refine aw_step [1, 2, 4, 38] [2, 4] (by simp <;> rfl) ?_
  refine aw_cond rfl (fun h5 => ?_) (fun h5 => aw_skip ?_)
  · refine aw_step [4, 5] [4] (by simp <;> rfl) ?_
    exact aw_ret (ends_ret (by simp [Tryz.results10] <;> rfl) (by rw [if_pos (by simpa using h5)]; exact lo))
  rw [if_neg (by simpa using h5)]
  have hk2 : it.kind = 2 := by simpa using h5
  have hn0 := h2k he hk2
  obtain ⟨hp1, hp5⟩ := hnm he
  have hc0 : 0 ≤ c := by simp at h3; omega
  obtain ⟨pn, hpn⟩ : ∃ pn : Nat, it.pts = pn := ⟨it.pts.toNat, by omega⟩
  obtain ⟨cn, rfl⟩ : ∃ cn : Nat, c = cn := ⟨c.toNat, by omega⟩
  have hcv : cv.length = it.ch.length := li2
  rw [hpn, Int.toNat_natCast, Int.toNat_natCast, ← hcv]
  have hnv : 0 < cv.length := by omega
  have hnl : cv.length ≤ 2000000 := by omega
  have hwm : ∀ j : Nat, j ≤ 2000000 → IntKind.i64.wrap ((j : Int) * (pn : Int)) = ((j * pn : Nat) : Int) := fun j hj => by
    have hm : j * pn ≤ 2000000 * 5 := Nat.mul_le_mul hj (by omega)
    rw [wrap_in (by rw [← Int.natCast_mul]; omega) (by rw [← Int.natCast_mul]; omega)]; simp
  have hwd : ∀ j : Nat, j ≤ 2000000 → IntKind.i64.wrap (((j * pn : Nat) : Int).tdiv (cv.length : Int)) = ((j * pn / cv.length : Nat) : Int) := fun j hj => by
    have hm : j * pn ≤ 2000000 * 5 := Nat.mul_le_mul hj (by omega)
    have hd : j * pn / cv.length ≤ j * pn := Nat.div_le_self _ _
    rw [← Int.ofNat_tdiv]
    generalize j * pn / cv.length = q at *
    exact wrap_in (by omega) (by omega)
  have hwe : ∀ j : Nat, j ≤ 2000000 → IntKind.i64.wrap (((j * pn : Nat) : Int) / (cv.length : Int)) = ((j * pn / cv.length : Nat) : Int) := fun j hj => by
    rw [← hwd j hj, Int.tdiv_eq_ediv_of_nonneg (by omega)]
  have hne : cv ≠ [] := fun h => by rw [h] at hnv; exact absurd hnv (by decide)
  have hn1 : ((cv.length : Int) = 0) = False := eq_false (by omega)
  refine aw_step [1, 2, 4, 7] [2, 4] (by simp <;> rfl) ?_
  have hw1 : IntKind.i64.wrap ((cv.length : Int) - 1) = ((cv.length - 1 : Nat) : Int) := by rw [wrap_in (by omega) (by omega)]; omega
  generalize hmm : cv.length - 1 = m at *
  refine aw_step [1, 2, 4, 7, 8] [2, 4] (by simp [hw1] <;> rfl) ?_
  refine aw_seq ?_
  refine aw_block ?_
  refine aw_loop (fun x : Nat × Nat => ⟨[(1, V.int .i64 cn), (2, V.bp 2 0 17 0 0), (4, V.bp 4 1 5 0 0), (7, V.int .i64 cv.length), (8, V.int .i64 x.1)], [(2, ⟨0, 17, 39, [V.agg [.int .i64 it.id, .int .i64 it.ver, .int .i64 it.kind, .str it.stem, .ro 1 ov, .ro 1 cv, .int .i64 it.val, .int .i64 it.tol, .ro 1 xv, .int .i64 pn, .str it.code, .int .i64 it.fam, .int .i64 it.set, .int .i64 it.wo, .int .i64 it.se, .ro 1 av, .int .i64 it.rub]]⟩), (4, ⟨1, 5, 41, [.agg [.int .i64 0, .nils, .int .i64 0, .str [], .bool false]]⟩)], x.2, 69⟩)
    (fun x => x.1 ≤ m ∧ dnJ pn cv.length cn m = dnJ pn cv.length cn x.1) (fun x => x.1) (m, _) ⟨Nat.le_refl _, rfl⟩ (AS.le_refl _) ?_
  rintro ⟨j, nx⟩ ⟨hjm, hdj⟩
  simp only at hjm hdj ⊢
  have wm := hwm j (by omega)
  have wd := hwe j (by omega)
  refine aw_seq ?_
  refine aw_step [1, 2, 4, 7, 8, 58] [2, 4] (by simp [wm, wd, hne, -Int.natCast_mul, -Int.natCast_ediv] <;> rfl) ?_
  refine aw_cond rfl (fun h6 => aw_skip ?_) (fun h6 => ?_)
  · have h6' : 0 < j ∧ cn < j * pn / cv.length := by simp [-Int.natCast_mul, -Int.natCast_ediv] at h6; omega
    obtain ⟨i, rfl⟩ : ∃ i, j = i + 1 := ⟨j - 1, by omega⟩
    have hwi : IntKind.i64.wrap (((i + 1 : Nat) : Int) - 1) = (i : Int) := by rw [wrap_in (by omega) (by omega)]; omega
    refine aw_block ?_
    refine aw_one [1, 2, 4, 7, 8] [2, 4] (by simp [hwi, -Int.natCast_add] <;> rfl) ?_
    exact ⟨(i, _), ⟨by simp only; omega, by simp only; rw [hdj, dnJ, if_neg (by omega)]⟩, by simp only; omega, AS.le_refl _⟩
  · refine aw_exit ?_
    have h6' : j = 0 ∨ j * pn / cv.length ≤ cn := by simp [-Int.natCast_mul, -Int.natCast_ediv] at h6; omega
    have hjj : dnJ pn cv.length cn m = j := hdj.trans (dnJ_at _ _ _ h6')
    rw [hjj]
    have lcj := lc j
    have hlt : j ≤ cv.length := by omega
    have htl : (cv.take j).length = j := by simp; omega
    have itk : (cv.take j).all V.pureE = true := all_take i2 j
    have c23 := clone110b_ac (cv.take j) itk (all_take fch j) (by rw [htl]; omega)
    refine aw_seq (aw_draw [(0, []), (2, []), (4, []), (1, []), (3, []), (5, []), (6, []), (7, []), (8, []), (9, [])] hmixA (by kernel_rfl) ?_)
    refine awo_go 6 (by simp [hlt] <;> rfl) ?_
    refine awo_call (fun hg => c23) Tryz.func23 rfl (by kernel_rfl) rfl rfl (by simp <;> rfl) rfl rfl (by simp <;> rfl) (by simp) (by simp <;> rfl) ?_
    refine awo_end [4, 5] [4] (by simp <;> rfl) ?_
    exact aw_ret (ends_ret (by simp [Tryz.results10, itk] <;> rfl) (by rw [lcj]; exact Relax.refl _))
end Go.Proofs.YtnklkkagpkcmfaaGreatDoor

set_option maxRecDepth 4000
namespace Go.Proofs.YtnklkkagpkcmfaaGreatDoor
open Go.Eng Go.Eng.Limb
set_option maxHeartbeats 16000000 in
theorem answerR_ac (it : It) (c : Int) (hi : it.small) (hco : it.code.length ≤ 4000000000) : AC Tryz.prog 11 [it.v, .int .i64 c] (fun r => r = anE (aF (itemR it) it c)) := by
  have c21 := itemR_ac it hi hco
  have c22 := rightR_ac it hi hco
  have hnm := fun (h : itemR it = 0) => item_numsR h
  have h2k := fun (h : itemR it = 0) hk => key_twoR h hk
  have hch := hi.ch
  have l0 := fun e => rl_nil 0 0 [] false e
  have lo := rl_nil it.id 0 [] true 0
  have lc : ∀ k, anE (⟨it.id, it.ch.take k, 0, [], false⟩, 0) = V.tup [V.agg [.int .i64 it.id, .ro 1 ((ints it.ch).take k), .int .i64 0, .str [], .bool false], .int .i64 0] := fun k => by rw [← ints_take]; rfl
  have fch := flatI it.ch
  unfold aF nJ
  generalize itemR it = e at *
  refine ac_relaxP ?_
  have eit : it.v = V.agg [.int .i64 it.id, .int .i64 it.ver, .int .i64 it.kind, .str it.stem, .ro 1 (strsV it.opts), .ro 1 (ints it.ch), .int .i64 it.val, .int .i64 it.tol, .ro 1 (strsV it.txts), .int .i64 it.pts, .str it.code, .int .i64 it.fam, .int .i64 it.set, .int .i64 it.wo, .int .i64 it.se, .ro 1 (ints it.ass), .int .i64 it.rub] := rfl
  rw [eit] at c21 c22 ⊢
  have i1 := strsV_pure it.opts
  have i2 := ints_pure it.ch
  have i3 := strsV_pure it.txts
  have i4 := ints_pure it.ass
  have li1 := strsV_len it.opts
  have li2 := ints_len it.ch
  have li3 := strsV_len it.txts
  have li4 := ints_len it.ass
  generalize strsV it.opts = ov at *
  generalize ints it.ch = cv at *
  generalize strsV it.txts = xv at *
  generalize ints it.ass = av at *
  have ei1 : ov = [] ↔ it.opts = [] := by rw [← List.length_eq_zero_iff, li1, List.length_eq_zero_iff]
  have ei2 : cv = [] ↔ it.ch = [] := by rw [← List.length_eq_zero_iff, li2, List.length_eq_zero_iff]
  have ei3 : xv = [] ↔ it.txts = [] := by rw [← List.length_eq_zero_iff, li3, List.length_eq_zero_iff]
  refine ac_intro Tryz.func11 rfl (by show (2 : Nat) ≤ 71; omega) (fun w0 N0 => ?_)
  refine aw_step [1, 2, 4] [2, 4] (by simp [Tryz.ntmps11] <;> rfl) ?_
  refine aw_seq ?_
  refine aw_seq (aw_region ?_)
  refine awl_go 1 (by simp <;> rfl) ?_
  refine awl_call1 c21 Tryz.func24 rfl (by kernel_rfl) rfl rfl rfl (by simp <;> rfl) (by simp [i1, i2, i3, i4]) (by simp <;> rfl) ?_
  refine awl_end [1, 2, 4, 6] [2, 4] (by simp <;> rfl) ?_
  refine aw_step [1, 2, 4, 6, 12] [2, 4] (by simp <;> rfl) ?_
  refine aw_cond rfl (fun h1 => ?_) (fun h1 => aw_skip ?_)
  · refine aw_step [4, 5] [4] (by simp <;> rfl) ?_
    exact aw_ret (ends_ret (by simp [Tryz.results11] <;> rfl) (by rw [if_pos (by simpa using h1)]; exact l0 e))
  rw [if_neg (by simpa using h1)]
  have he : e = 0 := by simpa using h1
  refine aw_seq ?_
  refine aw_step [1, 2, 4, 17] [2, 4] (by simp <;> rfl) ?_
  refine aw_cond rfl (fun h2 => ?_) (fun h2 => aw_skip ?_)
  · refine aw_step [4, 5] [4] (by simp <;> rfl) ?_
    exact aw_ret (ends_ret (by simp [Tryz.results11] <;> rfl) (by rw [if_pos (by simpa using h2)]; exact l0 8))
  rw [if_neg (by simpa using h2)]
  refine aw_seq ?_
  refine aw_step [1, 2, 4, 26] [2, 4] (by simp <;> rfl) ?_
  refine aw_cond rfl (fun h3 => ?_) (fun h3 => aw_skip ?_)
  · refine aw_step [4, 5] [4] (by simp <;> rfl) ?_
    exact aw_ret (ends_ret (by simp [Tryz.results11] <;> rfl) (by rw [if_pos (by simpa using h3)]; exact l0 3))
  rw [if_neg (by simpa using h3)]
  refine aw_seq ?_
  refine aw_step [1, 2, 4, 31] [2, 4] (by simp <;> rfl) ?_
  refine aw_cond rfl (fun h4 => ?_) (fun h4 => aw_skip ?_)
  · rw [if_pos (by simpa using h4)]
    generalize riF e it = ra at *
    refine aw_seq (aw_region ?_)
    refine awl_go 1 (by simp <;> rfl) ?_
    refine awl_call1 c22 Tryz.func25 rfl (by kernel_rfl) rfl rfl rfl (by simp <;> rfl) (by simp [i1, i2, i3, i4]) (by simp <;> rfl) ?_
    refine awl_end [4, 5] [4] (by simp <;> rfl) ?_
    exact aw_ret (ends_ret (by simp [Tryz.results11] <;> rfl) (Relax.refl _))
  rw [if_neg (by simpa using h4)]
  refine aw_seq ?_
  refine aw_step [1, 2, 4, 38] [2, 4] (by simp <;> rfl) ?_
  refine aw_cond rfl (fun h5 => ?_) (fun h5 => aw_skip ?_)
  · refine aw_step [4, 5] [4] (by simp <;> rfl) ?_
    exact aw_ret (ends_ret (by simp [Tryz.results11] <;> rfl) (by rw [if_pos (by simpa using h5)]; exact lo))
  rw [if_neg (by simpa using h5)]
  have hk2 : it.kind = 2 := by simpa using h5
  have hn0 := h2k he hk2
  obtain ⟨hp1, hp5⟩ := hnm he
  have hc0 : 0 ≤ c := by simp at h3; omega
  obtain ⟨pn, hpn⟩ : ∃ pn : Nat, it.pts = pn := ⟨it.pts.toNat, by omega⟩
  obtain ⟨cn, rfl⟩ : ∃ cn : Nat, c = cn := ⟨c.toNat, by omega⟩
  have hcv : cv.length = it.ch.length := li2
  rw [hpn, Int.toNat_natCast, Int.toNat_natCast, ← hcv]
  have hnv : 0 < cv.length := by omega
  have hnl : cv.length ≤ 2000000 := by omega
  have hwm : ∀ j : Nat, j ≤ 2000000 → IntKind.i64.wrap ((j : Int) * (pn : Int)) = ((j * pn : Nat) : Int) := fun j hj => by
    have hm : j * pn ≤ 2000000 * 5 := Nat.mul_le_mul hj (by omega)
    rw [wrap_in (by rw [← Int.natCast_mul]; omega) (by rw [← Int.natCast_mul]; omega)]; simp
  have hwd : ∀ j : Nat, j ≤ 2000000 → IntKind.i64.wrap (((j * pn : Nat) : Int).tdiv (cv.length : Int)) = ((j * pn / cv.length : Nat) : Int) := fun j hj => by
    have hm : j * pn ≤ 2000000 * 5 := Nat.mul_le_mul hj (by omega)
    have hd : j * pn / cv.length ≤ j * pn := Nat.div_le_self _ _
    rw [← Int.ofNat_tdiv]
    generalize j * pn / cv.length = q at *
    exact wrap_in (by omega) (by omega)
  have hwe : ∀ j : Nat, j ≤ 2000000 → IntKind.i64.wrap (((j * pn : Nat) : Int) / (cv.length : Int)) = ((j * pn / cv.length : Nat) : Int) := fun j hj => by
    rw [← hwd j hj, Int.tdiv_eq_ediv_of_nonneg (by omega)]
  have hne : cv ≠ [] := fun h => by rw [h] at hnv; exact absurd hnv (by decide)
  have hn1 : ((cv.length : Int) = 0) = False := eq_false (by omega)
  refine aw_step [1, 2, 4, 7] [2, 4] (by simp <;> rfl) ?_
  generalize hmm : cv.length - 1 = m at *
  refine aw_step [1, 2, 4, 7, 8] [2, 4] (by simp <;> rfl) ?_
  refine aw_seq ?_
  refine aw_block ?_
  refine aw_count (fun k nx => ⟨[(1, V.int .i64 cn), (2, V.bp 2 0 17 0 0), (4, V.bp 4 1 5 0 0), (7, V.int .i64 cv.length), (8, V.int .i64 k)], [(2, ⟨0, 17, 39, [V.agg [.int .i64 it.id, .int .i64 it.ver, .int .i64 it.kind, .str it.stem, .ro 1 ov, .ro 1 cv, .int .i64 it.val, .int .i64 it.tol, .ro 1 xv, .int .i64 pn, .str it.code, .int .i64 it.fam, .int .i64 it.set, .int .i64 it.wo, .int .i64 it.se, .ro 1 av, .int .i64 it.rub]]⟩), (4, ⟨1, 5, 41, [.agg [.int .i64 0, .nils, .int .i64 0, .str [], .bool false]]⟩)], nx, 71⟩) (fun k => k = 0 ∨ k * pn / cv.length ≤ cn) m _ (.inl rfl) (AS.le_refl _) ?_
  intro j nx hjm hI
  have hwj : IntKind.i64.wrap ((j : Int) + 1) = ((j + 1 : Nat) : Int) := wrap_succ (by omega)
  have wm := hwm (j + 1) (by omega)
  have wd := hwe (j + 1) (by omega)
  refine aw_seq ?_
  refine aw_step [1, 2, 4, 7, 8, 59] [2, 4] (by simp [hwj, wm, wd, hne, -Int.natCast_add, -Int.natCast_mul, -Int.natCast_ediv] <;> rfl) ?_
  refine aw_cond rfl (fun h6 => aw_skip ?_) (fun h6 => ?_)
  · have h6' : j + 1 < cv.length ∧ (j + 1) * pn / cv.length ≤ cn := by simp [-Int.natCast_add, -Int.natCast_mul, -Int.natCast_ediv] at h6; omega
    refine aw_block ?_
    refine aw_one [1, 2, 4, 7, 8] [2, 4] (by simp [hwj, -Int.natCast_add] <;> rfl) ?_
    exact ⟨by omega, .inr h6'.2, _, AS.le_refl _⟩
  · refine aw_exit ?_
    have h6' : j = m ∨ cn < (j + 1) * pn / cv.length := by simp [-Int.natCast_add, -Int.natCast_mul, -Int.natCast_ediv] at h6; omega
    have hjj : dnJ pn cv.length cn m = j := dnJ_up _ _ _ hjm hI h6'
    rw [hjj]
    have lcj := lc j
    have hlt : j ≤ cv.length := by omega
    have htl : (cv.take j).length = j := by simp; omega
    have itk : (cv.take j).all V.pureE = true := all_take i2 j
    have hmin : min j cv.length = j := Nat.min_eq_left hlt
    have flk : (cv.take j).all flatE = true := all_take fch j
    have hro : j ≤ maxLen ∧ j * 8 ≤ 140737488355328 := ⟨Nat.le_trans (show j ≤ 2000001 by omega) (by decide), by omega⟩
    refine aw_seq (aw_tree (.take 0 [] (.take 3 [] (.take 5 [] (.take 4 [64] (.take 6 [] (.alt 1 (.take 2 [] (.take 7 [] (.take 8 [] (.take 9 [] (.take 10 [] .done))))) (.alt 2 (.alt 1 (.take 7 [] (.take 8 [] (.take 9 [] (.take 10 [] .done)))) (.alt 7 (.take 1 [] (.take 8 [] (.take 9 [] (.take 10 [] .done)))) .stop)) .stop))))))) hmixA (by kernel_rfl) ?_)
    refine awt_run (L := [4, 5]) (M := [4, 64, 69]) (by simp [hlt, htl, hro] <;> rfl) ?_
    intro T hT
    have hT' := (show T = _ by simpa using hT)
    subst hT'
    exact aw_ret (ends_ret (by simp [Tryz.results11, itk, hmin, flk] <;> rfl) (by rw [lcj]; exact Relax.refl _))
end Go.Proofs.YtnklkkagpkcmfaaGreatDoor

set_option maxRecDepth 4000
namespace Go.Proofs.YtnklkkagpkcmfaaGreatDoor
open Go.Eng Go.Eng.Limb
theorem idx_cons (b c : UInt8) (l : List UInt8) : Lib.index (b :: l) [c] = if c = b then 0 else if Lib.index l [c] = -1 then -1 else Lib.index l [c] + 1 := by
  rw [Lib.index]
  by_cases h : c = b
  · simp [h]
  · simp [h]
theorem idx_spec (c : UInt8) : ∀ s : List UInt8, (Lib.index s [c] = -1 ∧ c ∉ s) ∨ ∃ p q, s = p ++ c :: q ∧ c ∉ p ∧ Lib.index s [c] = p.length
  | [] => .inl ⟨rfl, by simp⟩
  | b :: l => by
    rw [idx_cons]
    by_cases h : c = b
    · subst h
      exact .inr ⟨[], l, rfl, by simp, by simp⟩
    · rw [if_neg h]
      rcases idx_spec c l with ⟨h1, h2⟩ | ⟨p, q, h1, h2, h3⟩
      · rw [h1]
        exact .inl ⟨by simp, by simp [h, h2]⟩
      · refine .inr ⟨b :: p, q, by simp [h1], by simp [h, h2], ?_⟩
        rw [if_neg (by omega), h3]; simp
theorem map_nop (a b : UInt8) : ∀ s : List UInt8, a ∉ s → (s.map fun c => if c = a then b else c) = s
  | [], _ => rfl
  | c :: s, h => by
    have h1 : ¬ c = a := fun e => h (by rw [e]; simp)
    rw [List.map_cons, if_neg h1, map_nop a b s (fun m => h (List.mem_cons_of_mem _ m))]
theorem repK_map (a b : UInt8) : ∀ (k : Nat) (s : List UInt8), s.count a ≤ k → Lib.replaceK [a] [b] k s = s.map fun c => if c = a then b else c
  | 0, s, h => by
    have hn : a ∉ s := fun hm => by have := List.count_pos_iff.2 hm; omega
    rw [Lib.replaceK, map_nop a b s hn]
  | k + 1, s, h => by
    rw [Lib.replaceK]
    rcases idx_spec a s with ⟨h1, hn⟩ | ⟨p, q, h1, h2, h3⟩
    · rw [if_pos (by rw [h1]; rfl), map_nop a b s hn]
    · have hf : ¬ (Lib.index s [a] == -1) = true := by rw [h3]; intro e; have := eq_of_beq e; omega
      rw [if_neg hf, h3]
      have hc : s.count a = q.count a + 1 := by
        rw [h1, List.count_append, List.count_cons_self, List.count_eq_zero.2 h2]; omega
      have e1 : s.take ((p.length : Int).toNat) = p := by rw [h1]; simp
      have e2 : s.drop ((p.length : Int).toNat + [a].length) = q := by
        rw [h1, show (p.length : Int).toNat + [a].length = (p ++ [a]).length by simp, show p ++ a :: q = (p ++ [a]) ++ q by simp, List.drop_left]
      rw [e1, e2, repK_map a b k q (by omega), h1, List.map_append, List.map_cons, if_pos rfl, map_nop a b p h2]
      simp
theorem repl_map (s : List UInt8) : repl s 10 32 = s.map fun c => if c = 10 then 32 else c := by
  unfold repl Lib.replaceAll Lib.replace Lib.replaceNum
  rw [if_neg (by decide), if_pos (.inl (by decide)), Lib.count_one]
  exact repK_map 10 32 _ s (Nat.le_refl _)
theorem u8_eq {b : UInt8} {n : Nat} (hn : n < 256) : b.toNat = n ↔ b = UInt8.ofNat n := by
  constructor
  · intro h; apply UInt8.toNat_inj.1; rw [h]; simp [Nat.mod_eq_of_lt hn]
  · intro h; rw [h]; simp [Nat.mod_eq_of_lt hn]
theorem prb_nl (b : UInt8) : prb (if b = 10 then 32 else b) = prf true b := by
  unfold prf prb
  by_cases h : b = 10
  · subst h; rfl
  · have h2 : ¬ b.toNat = 10 := fun e => h ((u8_eq (by decide)).1 e)
    simp [h, h2]
theorem stem_same (s : List UInt8) (m : Int) : prB (repl s 10 32) m = prF s m true := by
  unfold prB prF
  rw [repl_map, List.all_map, List.length_map]
  have e : (prb ∘ fun c : UInt8 => if c = 10 then 32 else c) = prf true := funext fun b => prb_nl b
  rw [e, Bool.and_assoc, Bool.and_comm]
theorem text_same (s : List UInt8) (m : Int) : prB s m = prF s m false := by
  unfold prB prF
  have e : prf false = prb := funext fun b => by simp [prf]
  rw [e, Bool.and_assoc, Bool.and_comm]
-- the content code
def runR : Nat × Nat → List UInt8 → Option (Nat × Nat)
  | p, [] => some p
  | p, c :: s => (segR p c).bind fun q => runR q s
theorem runR_snoc (c : UInt8) : ∀ (s : List UInt8) (p : Nat × Nat), runR p (s ++ [c]) = (runR p s).bind fun q => segR q c
  | [], p => by simp [runR]
  | b :: s, p => by
    simp only [List.cons_append, runR]
    cases segR p b with
    | none => rfl
    | some q => exact runR_snoc c s q
theorem segK_run (s : List UInt8) : ∀ k, k ≤ s.length → segK s k = runR (1, 0) (s.take k)
  | 0, _ => rfl
  | k + 1, h => by
    rw [segK, segK_run s k (by omega), List.take_succ_eq_append_getElem (by omega), runR_snoc, getD_lt (by omega)]
theorem runR_ge : ∀ (s : List UInt8) (p q : Nat × Nat), runR p s = some q → p.1 ≤ q.1
  | [], p, q, h => by cases h; exact Nat.le_refl _
  | c :: s, p, q, h => by
    rw [runR] at h
    cases hr : segR p c with
    | none => rw [hr] at h; cases h
    | some r =>
      rw [hr] at h
      have := runR_ge s r q h
      have h2 : p.1 ≤ r.1 := by
        unfold segR at hr
        (repeat' split at hr) <;> first | (cases hr; done) | (cases hr; simp)
      omega
theorem runR_seg (g : Nat) : ∀ (s : List UInt8) (z : Nat), (46 : UInt8) ∉ s → z ≤ 8 → runR (g, z) s = if s.all okR = true ∧ z + s.length ≤ 8 then some (g, z + s.length) else none
  | [], z, _, hz => by simp [runR, hz]
  | c :: s, z, hn, hz => by
    have hc : ¬ c.toNat = 46 := fun e => hn (by rw [(u8_eq (n := 46) (by decide)).1 e]; simp)
    have hs : (46 : UInt8) ∉ s := fun h => hn (List.mem_cons_of_mem _ h)
    rw [runR, segR, if_neg hc]
    by_cases ho : okR c = false
    · rw [if_pos ho, if_neg (by simp [ho])]; rfl
    · have ho' : okR c = true := by simpa using ho
      rw [if_neg ho]
      by_cases hz8 : 8 < z + 1
      · rw [if_pos hz8, if_neg (by simp; omega)]; rfl
      · rw [if_neg hz8]
        show runR (g, z + 1) s = _
        rw [runR_seg g s (z + 1) hs (by omega)]
        simp only [List.all_cons, ho', Bool.true_and, List.length_cons]
        rw [show z + 1 + s.length = z + (s.length + 1) by omega]
theorem runR_app : ∀ (s t : List UInt8) (p : Nat × Nat), runR p (s ++ t) = (runR p s).bind fun q => runR q t
  | [], t, p => by simp [runR]
  | b :: s, t, p => by
    simp only [List.cons_append, runR]
    cases segR p b with
    | none => rfl
    | some q => exact runR_app s t q
def valR : Nat → List UInt8 → Bool
  | 0, _ => false
  | n + 1, s => if (Lib.cut s [46]).2.2 = false then okSeg s else okSeg (Lib.cut s [46]).1 && valR n (Lib.cut s [46]).2.1
theorem cut_no {s : List UInt8} (h : Lib.index s [46] = -1) : Lib.cut s [46] = (s, [], false) := by unfold Lib.cut; rw [if_neg (by omega)]
theorem cut_yes {p q : List UInt8} (h : Lib.index (p ++ 46 :: q) [46] = p.length) : Lib.cut (p ++ 46 :: q) [46] = (p, q, true) := by
  unfold Lib.cut
  rw [if_pos (by omega), h]
  have e1 : (p ++ 46 :: q).take ((p.length : Int).toNat) = p := by simp
  have e2 : (p ++ 46 :: q).drop ((p.length : Int).toNat + [(46 : UInt8)].length) = q := by
    rw [show (p.length : Int).toNat + [(46 : UInt8)].length = (p ++ [46]).length by simp, show p ++ 46 :: q = (p ++ [46]) ++ q by simp, List.drop_left]
  rw [e1, e2]
theorem segA_val : ∀ (n : Nat) (done : List (List UInt8)) (code : List UInt8), ((segA n done code).2.2 && ((segA n done code).1.take (segA n done code).2.1).all okSeg) = (done.all okSeg && valR n code)
  | 0, done, code => by simp [segA, valR]
  | n + 1, done, code => by
    rw [segA, valR]
    rcases idx_spec 46 code with ⟨h1, hn⟩ | ⟨p, q, h1, h2, h3⟩
    · rw [cut_no h1, if_pos rfl, if_pos rfl]
      simp only [Bool.true_and]
      have et : (done ++ [code] ++ List.replicate n ([] : List UInt8)).take (done.length + 1) = done ++ [code] := by
        rw [show done.length + 1 = (done ++ [code]).length by simp]; exact List.take_left
      simp only [et]
      simp
    · subst h1
      rw [cut_yes h3, if_neg (by simp), if_neg (by simp), segA_val n]
      simp [Bool.and_assoc]
def finR (B : Nat) : Option (Nat × Nat) → Bool
  | some p => decide (0 < p.2) && decide (p.1 ≤ B)
  | none => false
theorem val_run : ∀ (n : Nat) (s : List UInt8) (g B : Nat), B + 1 = g + n → finR B (runR (g, 0) s) = valR n s
  | 0, s, g, B, hB => by
    rw [valR]
    cases hr : runR (g, 0) s with
    | none => rfl
    | some q =>
      have := runR_ge s _ _ hr
      simp only [finR]
      rw [show decide (q.1 ≤ B) = false from decide_eq_false (by simp at this; omega), Bool.and_false]
  | n + 1, s, g, B, hB => by
    rw [valR]
    rcases idx_spec 46 s with ⟨h1, hn⟩ | ⟨p, q, h1, h2, h3⟩
    · rw [cut_no h1, if_pos rfl, runR_seg g s 0 hn (by omega)]
      unfold okSeg
      have ea : s.all okR = s.all okB := rfl
      rw [← ea]
      cases ha : s.all okR
      · simp [finR]
      · by_cases hl : s.length ≤ 8
        · rw [if_pos ⟨rfl, by omega⟩]
          simp only [finR, Nat.zero_add, Bool.true_and]
          rw [show decide (g ≤ B) = true from decide_eq_true (by omega), show decide (s.length ≤ 8) = true from decide_eq_true hl]
          simp; rfl
        · rw [if_neg (by omega)]
          simp only [finR, Bool.true_and]
          rw [show decide (s.length ≤ 8) = false from decide_eq_false hl, Bool.and_false]
    · subst h1
      rw [cut_yes h3, if_neg (by simp), runR_app, runR_seg g p 0 h2 (by omega)]
      unfold okSeg
      have ea : p.all okR = p.all okB := rfl
      rw [← ea]
      cases ha : p.all okR
      · simp [finR]
      · by_cases hl : p.length ≤ 8
        · rw [if_pos ⟨rfl, by omega⟩]
          show finR B (runR (g, 0 + p.length) (46 :: q)) = _
          rw [Nat.zero_add, runR, segR, if_pos (show UInt8.toNat 46 = 46 from rfl)]
          by_cases h0 : p.length = 0
          · rw [if_pos h0]
            simp [finR, h0]
          · rw [if_neg h0]
            show finR B (runR (g + 1, 0) q) = _
            rw [val_run n q (g + 1) B (by omega), show decide (1 ≤ p.length) = true from decide_eq_true (by omega), show decide (p.length ≤ 8) = true from decide_eq_true hl]
            simp
        · rw [if_neg (by omega)]
          rw [show decide (p.length ≤ 8) = false from decide_eq_false hl]
          simp [finR]
theorem code_same (s : List UInt8) : cValid s = codR s := by
  unfold cValid codR
  rw [segA_val 5 [] s]
  have h := val_run 5 s 1 5 rfl
  rw [← h, segK_run s s.length (Nat.le_refl _), List.take_length]
  by_cases hl : 24 < s.length
  · rw [if_pos hl, show decide (s.length ≤ 24) = false from decide_eq_false (by omega)]; rfl
  · rw [if_neg hl, show decide (s.length ≤ 24) = true from decide_eq_true (by omega)]
    cases runR (1, 0) s <;> rfl
theorem str_same (it : It) : strB it = strR it := by
  unfold strB strR
  rw [stem_same, code_same]
  have e : (fun s : List UInt8 => prB s 200) = fun s => prF s 200 false := funext fun s => text_same s 200
  rw [e]
end Go.Proofs.YtnklkkagpkcmfaaGreatDoor

set_option maxRecDepth 4000
namespace Go.Proofs.YtnklkkagpkcmfaaGreatDoor
open Go.Eng Go.Eng.Limb
theorem con2 (c : UInt8) : ∀ s : List UInt8, 0 ≤ Lib.index s [c, c] ↔ ∃ k, k + 1 < s.length ∧ s.getD k 0 = c ∧ s.getD (k + 1) 0 = c
  | [] => by
    constructor
    · intro h; exact absurd h (by rw [show Lib.index [] [c, c] = -1 from rfl]; decide)
    · rintro ⟨k, h, _⟩; simp at h
  | b :: l => by
    have ih := con2 c l
    have hge := Lib.index_ge l [c, c]
    rw [Lib.index]
    by_cases hp : [c, c].isPrefixOf (b :: l) = true
    · rw [if_pos hp]
      constructor
      · intro _
        match l, hp with
        | d :: t, hp =>
          simp at hp
          exact ⟨0, by simp, by simp [hp.1], by simp [hp.2]⟩
        | [], hp => simp at hp
      · intro _; exact Int.le_refl _
    · rw [if_neg hp]
      have hk : (∃ k, k + 1 < (b :: l).length ∧ (b :: l).getD k 0 = c ∧ (b :: l).getD (k + 1) 0 = c) ↔ ∃ k, k + 1 < l.length ∧ l.getD k 0 = c ∧ l.getD (k + 1) 0 = c := by
        constructor
        · rintro ⟨k, h1, h2, h3⟩
          cases k with
          | zero =>
            exfalso
            match l, h1, h3 with
            | d :: t, _, h3 =>
              apply hp
              simp at h2 h3 ⊢
              exact ⟨h2.symm, h3.symm⟩
            | [], h1, _ => simp at h1
          | succ k => exact ⟨k, by simpa using h1, by simpa using h2, by simpa using h3⟩
        · rintro ⟨k, h1, h2, h3⟩
          exact ⟨k + 1, by simpa using h1, by simpa using h2, by simpa using h3⟩
      rw [hk, ← ih]
      by_cases hm : Lib.index l [c, c] = -1
      · rw [hm]; simp
      · rw [if_neg (by simpa using hm)]; omega
theorem u8_32 {b : UInt8} : b.toNat = 32 ↔ b = 32 := u8_eq (n := 32) (by decide)
theorem drop_last {s : List UInt8} (h : s ≠ []) : s.drop (s.length - 1) = [s.getD (s.length - 1) 0] := by
  have hl : 0 < s.length := List.length_pos_iff.2 h
  rw [List.drop_eq_getElem_cons (by omega), getD_lt (by omega), show s.length - 1 + 1 = s.length by omega, List.drop_length]
theorem nrm_same {s : List UInt8} (h : s ≠ []) : nrmB s = nrR s := by
  have hl : 0 < s.length := List.length_pos_iff.2 h
  rw [Bool.eq_iff_iff]
  have hA : nrmB s = true ↔ (∀ c ∈ s, nrm c = true) ∧ s.getD 0 0 ≠ 32 ∧ s.getD (s.length - 1) 0 ≠ 32 ∧ ¬ ∃ k, k + 1 < s.length ∧ s.getD k 0 = 32 ∧ s.getD (k + 1) 0 = 32 := by
    unfold nrmB
    have e1 : hasP s [32] = decide (s.getD 0 0 = 32) := by
      unfold hasP
      match s, h with
      | a :: t, _ => simp
    have e2 : sfB s = decide (s.getD (s.length - 1) 0 = 32) := by
      unfold sfB
      rw [drop_last h, decide_eq_true (by omega : 1 ≤ s.length), Bool.true_and]
      simp
    rw [e1, e2, ← con2 32 s]
    unfold Lib.contains
    by_cases ha : s.all nrm = true
    · rw [if_neg (by rw [ha]; simp)]
      rw [List.all_eq_true] at ha
      constructor
      · intro hh
        simp only [Bool.and_eq_true, Bool.not_eq_true', decide_eq_false_iff_not] at hh
        exact ⟨ha, hh.1.1, hh.1.2, hh.2⟩
      · rintro ⟨_, h1, h2, h3⟩
        simp only [Bool.and_eq_true, Bool.not_eq_true', decide_eq_false_iff_not]
        exact ⟨⟨h1, h2⟩, h3⟩
    · have ha' : s.all nrm = false := by simpa using ha
      rw [if_pos ha']
      constructor
      · intro hh; cases hh
      · rintro ⟨h1, _⟩; exact absurd (List.all_eq_true.2 h1) ha
  have hB : nrR s = true ↔ ∀ k, k < s.length → badN s k = false := by
    unfold nrR
    rw [decide_eq_true hl, Bool.and_true]
    simp
  rw [hA, hB]
  have hn : ∀ c : UInt8, nrm c = true ↔ (lettR c = true ∨ c = 32) := fun c => by
    unfold nrm lettR inB3
    rw [← u8_32]
    simp
    omega
  have hb : ∀ k, badN s k = false ↔ ((lettR (s.getD k 0) = true ∨ s.getD k 0 = 32) ∧ (s.getD k 0 = 32 → ¬ k = 0 ∧ ¬ k + 1 = s.length ∧ ¬ s.getD (k - 1) 0 = 32)) := fun k => by
    unfold badN
    rw [← u8_32, ← u8_32]
    generalize lettR (s.getD k 0) = b
    generalize (s.getD k 0).toNat = x
    generalize (s.getD (k - 1) 0).toNat = y
    cases b <;> simp <;> omega
  constructor
  · rintro ⟨h1, h2, h3, h4⟩ k hk
    rw [hb]
    refine ⟨(hn _).1 (h1 _ (by rw [getD_lt hk]; exact List.getElem_mem hk)), fun e => ⟨fun e0 => h2 (by rw [← e0]; exact e), fun e1 => h3 (by rw [show s.length - 1 = k by omega]; exact e), fun e2 => ?_⟩⟩
    by_cases e0 : k = 0
    · exact h2 (by rw [← e0]; exact e)
    · exact h4 ⟨k - 1, by omega, e2, by rw [show k - 1 + 1 = k by omega]; exact e⟩
  · intro hh
    refine ⟨fun c hc => ?_, fun e => ?_, fun e => ?_, ?_⟩
    · obtain ⟨k, hk, rfl⟩ := List.mem_iff_getElem.1 hc
      have := ((hb k).1 (hh k hk)).1
      rw [getD_lt hk] at this
      exact (hn _).2 this
    · exact (((hb 0).1 (hh 0 hl)).2 e).1 rfl
    · exact (((hb _).1 (hh (s.length - 1) (by omega))).2 e).2.1 (by omega)
    · rintro ⟨k, h1, h2, h3⟩
      exact (((hb (k + 1)).1 (hh (k + 1) h1)).2 h3).2.2 h2
-- orders
theorem risB_iff {l : List Int} {lo hi : Int} : risB l lo hi = true ↔ ∀ k, k < l.length → lo ≤ l.getD k 0 ∧ l.getD k 0 ≤ hi ∧ (0 < k → l.getD (k - 1) 0 < l.getD k 0) := by
  unfold risB
  simp only [Bool.not_eq_true', List.any_eq_false, List.mem_range]
  constructor
  · intro h k hk
    have := h k hk
    unfold badR3 inB3 at this
    simp at this
    exact ⟨this.1.1, this.1.2, this.2⟩
  · intro h k hk
    obtain ⟨h1, h2, h3⟩ := h k hk
    unfold badR3 inB3
    simp
    exact ⟨⟨h1, h2⟩, h3⟩
theorem sortI_perm (l : List Int) : (sortI l).Perm l := List.mergeSort_perm _ _
theorem sortI_pw (l : List Int) : (sortI l).Pairwise (fun x y => x ≤ y) := by
  have h := List.pairwise_mergeSort (le := fun x y : Int => decide (x ≤ y)) (fun a b c h1 h2 => by simp at h1 h2 ⊢; omega) (fun a b => by simp; omega) l
  refine h.imp ?_
  intro a b h
  simpa using h
theorem cnt_all (l : List Int) (k : Int) : cntP l k l.length = l.countP fun x => decide (x = k) := by unfold cntP; rw [List.take_length]
theorem per_iff {l : List Int} {n : Nat} : perB l n = true ↔ l.length = n ∧ ∀ k, k < n → (l.countP fun x => decide (x = ((k : Nat) : Int))) = 1 := by
  unfold perB
  simp only [Bool.and_eq_true, decide_eq_true_eq, Bool.not_eq_true', List.any_eq_false, List.mem_range]
  constructor
  · rintro ⟨h1, h2⟩
    refine ⟨h1, fun k hk => ?_⟩
    have := h2 k hk
    unfold perN at this
    rw [cnt_all] at this
    simpa using this
  · rintro ⟨h1, h2⟩
    refine ⟨h1, fun k hk => ?_⟩
    unfold perN
    rw [cnt_all]
    simpa using h2 k hk
theorem cnt_below {l : List Int} {n : Nat} (h : ∀ k, k < n → (l.countP fun x => decide (x = ((k : Nat) : Int))) = 1) : ∀ m, m ≤ n → (l.countP fun x => decide (0 ≤ x) && decide (x < (m : Int))) = m
  | 0, _ => by
    rw [List.countP_eq_zero]
    intro a _
    simp
  | m + 1, hm => by
    have ih := cnt_below h m (by omega)
    have h1 := h m (by omega)
    have e : ∀ t : List Int, (t.countP fun x => decide (0 ≤ x) && decide (x < ((m + 1 : Nat) : Int))) = (t.countP fun x => decide (0 ≤ x) && decide (x < (m : Int))) + t.countP fun x => decide (x = (m : Int)) := by
      intro t
      induction t with
      | nil => rfl
      | cons a t ih =>
        simp only [List.countP_cons, ih]
        by_cases ha : a = (m : Int)
        · subst ha
          have x1 : (decide (0 ≤ (m : Int)) && decide ((m : Int) < ((m + 1 : Nat) : Int))) = true := by simp; omega
          have x2 : (decide (0 ≤ (m : Int)) && decide ((m : Int) < (m : Int))) = false := by simp
          rw [x1, x2]; simp; omega
        · by_cases hb : 0 ≤ a ∧ a < (m : Int)
          · have : a < ((m + 1 : Nat) : Int) := by omega
            have x1 : (decide (0 ≤ a) && decide (a < ((m + 1 : Nat) : Int))) = true := by rw [decide_eq_true hb.1, decide_eq_true this]; rfl
            have x2 : (decide (0 ≤ a) && decide (a < (m : Int))) = true := by rw [decide_eq_true hb.1, decide_eq_true hb.2]; rfl
            rw [x1, x2]; simp [ha]; omega
          · have : ¬ (0 ≤ a ∧ a < ((m + 1 : Nat) : Int)) := by omega
            have e1 : (decide (0 ≤ a) && decide (a < (m : Int))) = false := by rw [← Bool.decide_and]; exact decide_eq_false hb
            have e2 : (decide (0 ≤ a) && decide (a < ((m + 1 : Nat) : Int))) = false := by rw [← Bool.decide_and]; exact decide_eq_false this
            rw [e1, e2]; simp [ha]
    rw [e, ih, h1]
theorem cnt_two {l : List Int} {i j : Nat} (hij : i < j) (hj : j < l.length) {x : Int} (h1 : l.getD i 0 = x) (h2 : l.getD j 0 = x) : 2 ≤ l.countP fun y => decide (y = x) := by
  rw [← List.take_append_drop j l, List.countP_append]
  have a1 : 0 < (l.take j).countP fun y => decide (y = x) := by
    rw [List.countP_pos_iff]
    refine ⟨x, ?_, by simp⟩
    rw [List.mem_take_iff_getElem]
    exact ⟨i, by omega, by rw [← h1, getD_lt (by omega)]⟩
  have a2 : 0 < (l.drop j).countP fun y => decide (y = x) := by
    rw [List.countP_pos_iff]
    refine ⟨x, ?_, by simp⟩
    rw [List.drop_eq_getElem_cons hj, ← getD_lt hj, h2]
    simp
  omega
theorem ris_id {l : List Int} {n : Nat} (hl : l.length = n) (h : risB l 0 ((n : Int) - 1) = true) : ∀ k, k < n → l.getD k 0 = (k : Int) := by
  rw [risB_iff] at h
  have lo : ∀ k, k < n → (k : Int) ≤ l.getD k 0 := by
    intro k
    induction k with
    | zero => intro hk; exact (h 0 (by omega)).1
    | succ k ih =>
      intro hk
      have a := ih (by omega)
      have b := (h (k + 1) (by omega)).2.2 (by omega)
      rw [show k + 1 - 1 = k from rfl] at b
      omega
  have up : ∀ d k, k + d + 1 = n → l.getD k 0 ≤ (k : Int) := by
    intro d
    induction d with
    | zero => intro k hk; have := (h k (by omega)).2.1; omega
    | succ d ih =>
      intro k hk
      have a := ih (k + 1) (by omega)
      have b := (h (k + 1) (by omega)).2.2 (by omega)
      rw [show k + 1 - 1 = k from rfl] at b
      omega
  intro k hk
  have a := lo k hk
  have b := up (n - k - 1) k (by omega)
  omega
theorem per_sort (l : List Int) (n : Nat) : (decide ((l.length : Int) = n) && risB (sortI l) 0 ((n : Int) - 1)) = perB l n := by
  rw [Bool.eq_iff_iff, per_iff]
  simp only [Bool.and_eq_true, decide_eq_true_eq]
  have hcount : ∀ x : Int, ((sortI l).countP fun y => decide (y = x)) = l.countP fun y => decide (y = x) := fun x => (sortI_perm l).countP_eq _
  have hlen := (sortI_perm l).length_eq
  constructor
  · rintro ⟨h1, h2⟩
    have h1' : l.length = n := by omega
    refine ⟨h1', fun k hk => ?_⟩
    have hid := ris_id (by omega) h2
    rw [← hcount]
    have hge : 1 ≤ (sortI l).countP fun y => decide (y = (k : Int)) := by
      apply List.countP_pos_iff.2
      refine ⟨(k : Int), ?_, by simp⟩
      rw [← hid k hk, getD_lt (by omega)]
      exact List.getElem_mem _
    have hle : (sortI l).countP (fun y => decide (y = (k : Int))) ≤ 1 := by
      have hz1 : ((sortI l).take k).countP (fun y => decide (y = (k : Int))) = 0 := by
        rw [List.countP_eq_zero]
        intro a ha
        rw [List.mem_take_iff_getElem] at ha
        obtain ⟨i, hi, rfl⟩ := ha
        have := hid i (by omega)
        rw [getD_lt (by omega)] at this
        simp [this]; omega
      have hz2 : ((sortI l).drop (k + 1)).countP (fun y => decide (y = (k : Int))) = 0 := by
        rw [List.countP_eq_zero]
        intro a ha
        rw [List.mem_drop_iff_getElem] at ha
        obtain ⟨i, hi, rfl⟩ := ha
        have := hid (k + 1 + i) (by omega)
        rw [getD_lt (by omega)] at this
        simp [this]; omega
      rw [← List.take_append_drop k (sortI l), List.countP_append, hz1, List.drop_eq_getElem_cons (by omega), List.countP_cons, hz2]
      split <;> omega
    omega
  · rintro ⟨h1, h2⟩
    refine ⟨by omega, ?_⟩
    have hb := cnt_below h2 n (Nat.le_refl _)
    rw [← h1, List.countP_eq_length] at hb
    rw [risB_iff]
    intro k hk
    have hm : (sortI l).getD k 0 ∈ l := (sortI_perm l).mem_iff.1 (by rw [getD_lt hk]; exact List.getElem_mem hk)
    have hr0 := hb _ hm
    have hr : 0 ≤ (sortI l).getD k 0 ∧ (sortI l).getD k 0 < (l.length : Int) := by
      generalize (sortI l).getD k 0 = y at hr0
      simpa using hr0
    refine ⟨hr.1, by omega, fun h0 => ?_⟩
    have hpw := List.pairwise_iff_getElem.1 (sortI_pw l) (k - 1) k (by omega) hk (by omega)
    have hpw : (sortI l).getD (k - 1) 0 ≤ (sortI l).getD k 0 := by rw [getD_lt (show k - 1 < (sortI l).length by omega), getD_lt hk]; exact hpw
    have hne : (sortI l).getD (k - 1) 0 ≠ (sortI l).getD k 0 := fun e => by
      have h3 := cnt_two (l := sortI l) (i := k - 1) (j := k) (by omega) hk e rfl
      rw [hcount] at h3
      have h4 := h2 ((sortI l).getD k 0).toNat (by omega)
      rw [Int.toNat_of_nonneg hr.1] at h4
      omega
    omega
theorem ris_one {l : List Int} (h : l.length = 1) (hi : Int) : risB l 0 hi = inB3 (l.getD 0 0) 0 hi := by
  unfold risB
  rw [h]
  simp [List.range_succ, badR3]
theorem key_same {it : It} (hk : inB3 it.kind 1 6 = true) (ht : ∀ s ∈ it.txts, s ≠ []) : (onlyB it && keyB it) = keyR it := by
  have hk' : 1 ≤ it.kind ∧ it.kind ≤ 6 := by unfold inB3 at hk; simpa using hk
  have hbad : ∀ k, k ∈ List.range it.txts.length → badT it.txts k = badTR it.txts k := fun k hk => by
    have hkl := List.mem_range.1 hk
    unfold badT badTR
    rw [nrm_same (ht _ (by rw [getD_lt hkl]; exact List.getElem_mem hkl))]
  have hany : (List.range it.txts.length).any (badT it.txts) = (List.range it.txts.length).any (badTR it.txts) := by
    rw [Bool.eq_iff_iff, List.any_eq_true, List.any_eq_true]
    constructor
    · rintro ⟨k, h1, h2⟩; exact ⟨k, h1, by rw [← hbad k h1]; exact h2⟩
    · rintro ⟨k, h1, h2⟩; exact ⟨k, h1, by rw [hbad k h1]; exact h2⟩
  have hper := per_sort it.ch it.opts.length
  unfold onlyB keyB keyR nuR opR
  rw [hany]
  have hc : it.kind = 1 ∨ it.kind = 2 ∨ it.kind = 3 ∨ it.kind = 4 ∨ it.kind = 5 ∨ it.kind = 6 := by omega
  have h21 : decide (1 ≤ (it.opts.length : Int) - 1) = decide ((2 : Int) ≤ it.opts.length) := decide_eq_decide.2 (by omega)
  rcases hc with e | e | e | e | e | e
  · have hr : (decide ((it.ch.length : Int) = 1) && inB3 (it.ch.getD 0 0) 0 ((it.opts.length : Int) - 1)) = (decide ((it.ch.length : Int) = 1) && risB it.ch 0 ((it.opts.length : Int) - 1)) := by
      by_cases h1 : it.ch.length = 1
      · rw [ris_one h1]
      · rw [decide_eq_false (by omega : ¬ (it.ch.length : Int) = 1)]; rfl
    simp only [e, h21, Bool.and_assoc, hr]
    by_cases hv : it.val = 0 <;> by_cases ho : it.tol = 0 <;> simp [hv, ho, Bool.and_assoc]
  · simp only [e, h21, Bool.and_assoc]
    by_cases hv : it.val = 0 <;> by_cases ho : it.tol = 0 <;> simp [hv, ho, Bool.and_assoc]
  · simp only [e, h21, Bool.and_assoc, ← hper]
    by_cases hv : it.val = 0 <;> by_cases ho : it.tol = 0 <;> simp [hv, ho, Bool.and_assoc]
  · simp only [e, Bool.and_assoc]
    by_cases hv : it.opts = [] <;> by_cases ho : it.ch = [] <;> simp [hv, ho, Bool.and_assoc]
  · simp only [e, Bool.and_assoc]
    by_cases hv : it.val = 0 <;> by_cases ho : it.tol = 0 <;> by_cases h1 : it.opts = [] <;> by_cases h2 : it.ch = [] <;> simp [hv, ho, h1, h2, Bool.and_assoc, Bool.and_left_comm]
  · simp only [e, Bool.and_assoc]
    by_cases hv : it.val = 0 <;> by_cases ho : it.tol = 0 <;> by_cases h1 : it.opts = [] <;> by_cases h2 : it.ch = [] <;> simp [hv, ho, h1, h2, Bool.and_assoc]
theorem item_same (it : It) : itemR it = itemE it := by
  unfold itemR itemE
  rw [← str_same]
  split
  · rfl
  split
  · rfl
  rename_i hk
  have hk' : inB3 it.kind 1 6 = true := by simpa using hk
  split
  · rfl
  rename_i hs
  have ht : ∀ s ∈ it.txts, s ≠ [] := by
    intro s hm e
    subst e
    apply hs
    unfold strB
    split
    · rfl
    split
    · rfl
    split
    · rfl
    rename_i h
    have := List.all_eq_true.1 (by simpa using h) _ hm
    exact absurd this (by decide)
  split
  · rfl
  have hks := key_same hk' ht
  have hor : (keyR it = false) ↔ (onlyB it = false ∨ keyB it = false) := by
    rw [← hks]; cases onlyB it <;> cases keyB it <;> simp
  simp only [hor]
end Go.Proofs.YtnklkkagpkcmfaaGreatDoor

set_option maxRecDepth 4000
namespace Go.Proofs.YtnklkkagpkcmfaaGreatDoor
open Go.Eng Go.Eng.Limb
theorem wrap_nat {n : Nat} (h : n ≤ 1000000000) : IntKind.i64.wrap (n : Int) = n := wrap_in (by omega) (by omega)
theorem item_all {it : It} (h : itemE it = 0) : numsB it = true ∧ inB3 it.kind 1 6 = true ∧ strB it = true ∧ it.opts.length ≤ 10 ∧ onlyB it = true ∧ keyB it = true := by
  unfold itemE at h
  (repeat' split at h) <;> first | (cases h; done) | skip
  rename_i h1 h2 h3 h4 h5 h6
  refine ⟨by simpa using h1, by simpa using h2, by simpa using h3, by omega, ?_, ?_⟩
  · cases e : onlyB it
    · exact absurd (.inl e) h5
    · rfl
  · cases e : keyB it
    · exact absurd (.inr e) h5
    · rfl
theorem nrR_at {s : List UInt8} (h : nrR s = true) {k : Nat} (hk : k < s.length) : (lettR (s.getD k 0) = true ∨ (s.getD k 0).toNat = 32) ∧ ((s.getD k 0).toNat = 32 → ¬ k = 0 ∧ ¬ k + 1 = s.length ∧ ¬ (s.getD (k - 1) 0).toNat = 32) := by
  have hb : badN s k = false := by
    unfold nrR at h
    simp only [Bool.and_eq_true, Bool.not_eq_true', List.any_eq_false, List.mem_range] at h
    simpa using h.1 k hk
  unfold badN at hb
  generalize lettR (s.getD k 0) = b at *
  generalize (s.getD k 0).toNat = x at *
  generalize (s.getD (k - 1) 0).toNat = y at *
  cases b <;> simp at hb ⊢ <;> omega
theorem step_lett {b : UInt8} (hl : lettR b = true) (st : List UInt8 × Bool) : nStep st b = nPush st b := by
  unfold lettR at hl
  simp only [Bool.or_eq_true, Bool.and_eq_true, decide_eq_true_eq] at hl
  unfold nStep
  rw [if_neg (by omega)]
  by_cases h97 : 97 ≤ b.toNat ∧ b.toNat ≤ 122
  · rw [if_pos h97]
  · rw [if_neg h97, if_pos (by omega)]
theorem norm_inv {s : List UInt8} (h : nrR s = true) : ∀ k, k ≤ s.length → nK s k = if 0 < k ∧ (s.getD (k - 1) 0).toNat = 32 then (s.take (k - 1), true) else (s.take k, false)
  | 0, _ => rfl
  | k + 1, hk => by
    have hlt : k < s.length := by omega
    obtain ⟨h1, h2⟩ := nrR_at h hlt
    have ih := norm_inv h k (by omega)
    have ht : s.take (k + 1) = s.take k ++ [s.getD k 0] := by rw [List.take_succ_eq_append_getElem hlt, getD_lt hlt]
    rw [nK, ih, show k + 1 - 1 = k from rfl]
    by_cases hb : (s.getD k 0).toNat = 32
    · obtain ⟨h3, h4, h5⟩ := h2 hb
      rw [if_neg (by omega), if_pos ⟨by omega, hb⟩]
      unfold nStep
      rw [if_neg (by omega), if_neg (by omega), if_neg (by omega), if_pos hb]
      simp; omega
    · rw [if_neg (by omega : ¬ (0 < k + 1 ∧ (s.getD k 0).toNat = 32))]
      have hl : lettR (s.getD k 0) = true := by rcases h1 with e | e; exact e; exact absurd e hb
      have hp : ∀ st : List UInt8 × Bool, nStep st (s.getD k 0) = nPush st (s.getD k 0) := fun st => step_lett hl st
      rw [hp]
      by_cases hq : 0 < k ∧ (s.getD (k - 1) 0).toNat = 32
      · rw [if_pos hq]
        unfold nPush
        simp only [if_true]
        have e32 : s.getD (k - 1) 0 = 32 := u8_32.1 hq.2
        have ht2 : s.take k = s.take (k - 1) ++ [s.getD (k - 1) 0] := by
          conv => lhs; rw [show k = k - 1 + 1 by omega]
          rw [List.take_succ_eq_append_getElem (by omega), getD_lt (by omega)]
        rw [ht, ht2, e32]
      · rw [if_neg hq]
        unfold nPush
        simp only [Bool.false_eq_true, if_false]
        rw [ht]
theorem norm_id {s : List UInt8} (h : nrR s = true) : normF s = s := by
  unfold normF
  have hl : 0 < s.length := by
    unfold nrR at h
    simp only [Bool.and_eq_true, decide_eq_true_eq] at h
    exact h.2
  rw [norm_inv h s.length (Nat.le_refl _)]
  rw [if_neg (fun e => ((nrR_at h (by omega : s.length - 1 < s.length)).2 e.2).2.1 (by omega))]
  exact List.take_length
theorem ris_ok {l : List Int} {n : Nat} (h : risB l 0 ((n : Int) - 1) = true) {k : Nat} (hk : k < l.length) : 0 ≤ l.getD k 0 ∧ l.getD k 0 < n := by
  have := risB_iff.1 h k hk
  omega
theorem risK_iff {l : List Int} : risK l = true ↔ ∀ k, k + 1 < l.length → l.getD k 0 < l.getD (k + 1) 0 := by
  unfold risK
  simp only [Bool.not_eq_true', List.any_eq_false, List.mem_range]
  constructor
  · intro h k hk
    have := h k (by omega)
    unfold badK at this
    simpa using this
  · intro h k hk
    unfold badK
    simpa using h k (by omega)
theorem risK_of {l : List Int} {lo hi : Int} (h : risB l lo hi = true) : risK l = true := by
  rw [risK_iff]
  intro k hk
  exact (risB_iff.1 h (k + 1) hk).2.2 (by omega)
theorem take_gD {l : List Int} {j k : Nat} (h : k < j) (hj : j ≤ l.length) : (l.take j).getD k 0 = l.getD k 0 := by
  rw [getD_lt (by simp; omega), getD_lt (by omega)]; simp
theorem risK_take {l : List Int} (h : risK l = true) (j : Nat) (hj : j ≤ l.length) : risK (l.take j) = true := by
  rw [risK_iff] at h ⊢
  intro k hk
  simp at hk
  rw [take_gD (by omega) hj, take_gD (by omega) hj]
  exact h k (by omega)
theorem cch_zero {it : It} {ch : List Int} (h1 : ∀ k, k < ch.length → 0 ≤ ch.getD k 0 ∧ ch.getD k 0 < (it.opts.length : Int)) (h2 : fitC it ch = true) : cchE it ch = 0 := by
  unfold cchE
  rw [if_neg, if_neg (by rw [h2]; simp)]
  intro e
  rw [List.any_eq_true] at e
  obtain ⟨x, hx, hb⟩ := e
  obtain ⟨k, hk, rfl⟩ := List.mem_iff_getElem.1 hx
  have := h1 k hk
  rw [getD_lt hk] at this
  unfold badC at hb
  simp at hb
  omega
theorem net_take (it : It) {j : Nat} (hj : j ≤ it.ch.length) (hs : it.ch.length ≤ 1000) : ∀ k, k ≤ j → netK it (it.ch.take j) k = k
  | 0, _ => rfl
  | k + 1, hk => by
    rw [netK, take_gD (by omega) hj, if_pos (by rw [getD_lt (by omega)]; exact List.getElem_mem _), net_take it hj hs k (by omega), show (k : Int) + 1 = ((k + 1 : Nat) : Int) by omega]
    exact wrap_nat (by omega)
theorem mul_take (it : It) {j pn : Nat} (hj : j ≤ it.ch.length) (hs : it.ch.length ≤ 1000) (hp : it.pts = pn) (hp5 : pn ≤ 5) : mulV it (it.ch.take j) = ((j * pn / it.ch.length : Nat) : Int) := by
  unfold mulV mx0
  have hl : (it.ch.take j).length = j := by simp; omega
  have hm : j * pn ≤ 1000 * 5 := Nat.mul_le_mul (by omega) hp5
  have hd : j * pn / it.ch.length ≤ j * pn := Nat.div_le_self _ _
  rw [hl, net_take it hj hs j (Nat.le_refl _), if_neg (by omega), hp, ← Int.natCast_mul, wrap_nat (by omega), ← Int.ofNat_tdiv]
  exact wrap_nat (by omega)
theorem idx_at {p : Int → Bool} : ∀ {l : List Int} {k i : Nat}, k < l.length → p (l.getD k 0) = true → (∀ m, m < k → p (l.getD m 0) = false) → idxA p l i = ((i + k : Nat) : Int)
  | [], k, i, h, _, _ => by simp at h
  | x :: r, 0, i, _, h, _ => by
    rw [idxA, if_pos (by simpa using h)]; rfl
  | x :: r, k + 1, i, hk, h, hn => by
    have h0 := hn 0 (by omega)
    rw [idxA, if_neg (by simpa using h0), idx_at (l := r) (k := k) (i := i + 1) (by simpa using hk) (by simpa using h) (fun m hm => by simpa using hn (m + 1) (by omega))]
    omega
theorem per_dist {l : List Int} {n : Nat} (h : perB l n = true) : (∀ k, k < l.length → 0 ≤ l.getD k 0 ∧ l.getD k 0 < n) ∧ ∀ i j, i < j → j < l.length → l.getD i 0 ≠ l.getD j 0 := by
  obtain ⟨h1, h2⟩ := per_iff.1 h
  have hb := cnt_below h2 n (Nat.le_refl _)
  rw [← h1, List.countP_eq_length] at hb
  have hr : ∀ k, k < l.length → 0 ≤ l.getD k 0 ∧ l.getD k 0 < (n : Int) := fun k hk => by
    have := hb (l.getD k 0) (by rw [getD_lt hk]; exact List.getElem_mem hk)
    rw [h1] at this
    generalize l.getD k 0 = y at this
    simpa using this
  refine ⟨hr, fun i j hij hj e => ?_⟩
  have h3 := cnt_two hij hj e rfl
  have h4 := h2 (l.getD j 0).toNat (by have := hr j hj; omega)
  rw [Int.toNat_of_nonneg (hr j hj).1] at h4
  omega
theorem fIx_at {it : It} {n : Nat} (h : perB it.ch n = true) {k : Nat} (hk : k < it.ch.length) : fIx it (it.ch.getD k 0) = k := by
  unfold fIx
  rw [idx_at hk (by simp) (fun m hm => decide_eq_false (fun e => (per_dist h).2 m k hm hk e.symm))]
  simp
theorem in_at {it : It} {n : Nat} (h : perB it.ch n = true) (hs : it.ch.length ≤ 10) {k t : Nat} (hk : k < it.ch.length) (ht : t ≤ 1000) : ∀ j, k + j < it.ch.length → inK it it.ch k ((t : Int), (t : Int)) j = (((t + j : Nat) : Int), ((t + j : Nat) : Int))
  | 0, _ => rfl
  | j + 1, hj => by
    rw [inK, in_at h hs hk ht j (by omega), fIx_at h hk, fIx_at h (by omega), if_pos (by omega)]
    have e : ((t + j : Nat) : Int) + 1 = ((t + (j + 1) : Nat) : Int) := by omega
    simp only [e]
    rw [wrap_nat (by omega)]
def triN (n : Nat) : Nat → Nat
  | 0 => 0
  | k + 1 => triN n k + (n - (k + 1))
theorem triN_le (n : Nat) (h : n ≤ 10) : ∀ k, triN n k ≤ 10 * k
  | 0 => Nat.le_refl _
  | k + 1 => by have := triN_le n h k; rw [triN]; omega
theorem triN_ge (n : Nat) : ∀ k, 1 ≤ k → n - 1 ≤ triN n k
  | 0, h => by omega
  | 1, _ => by simp [triN]
  | k + 2, _ => by have := triN_ge n (k + 1) (by omega); rw [triN]; omega
theorem out_at {it : It} {n : Nat} (h : perB it.ch n = true) (hs : it.ch.length ≤ 10) : ∀ k, k ≤ it.ch.length → outK it it.ch k = (((triN it.ch.length k : Nat) : Int), ((triN it.ch.length k : Nat) : Int))
  | 0, _ => rfl
  | k + 1, hk => by
    have hb := triN_le it.ch.length hs k
    rw [outK, out_at h hs k (by omega), in_at h hs (by omega) (by omega) _ (by omega), triN]
theorem ord_all {it : It} {n pn : Nat} (h : perB it.ch n = true) (hs : it.ch.length ≤ 10) (h2 : 2 ≤ it.ch.length) (hp : it.pts = pn) (hp5 : pn ≤ 5) : ordV it it.ch = it.pts := by
  have hb := triN_le it.ch.length hs it.ch.length
  have hg := triN_ge it.ch.length it.ch.length (by omega)
  unfold ordV mx0
  rw [out_at h hs _ (Nat.le_refl _)]
  simp only []
  generalize triN it.ch.length it.ch.length = t at *
  have hm : t * pn ≤ 1000 * 5 := Nat.mul_le_mul (by omega) hp5
  rw [if_neg (by omega), hp, ← Int.natCast_mul, wrap_nat (by omega), ← Int.ofNat_tdiv, Nat.mul_div_cancel_left _ (by omega)]
  exact wrap_nat (by omega)
theorem dnJ_good (p n c : Nat) : ∀ j, dnJ p n c j = 0 ∨ dnJ p n c j * p / n ≤ c
  | 0 => .inl rfl
  | j + 1 => by
    rw [dnJ]
    split
    · rename_i h; exact .inr h
    · exact dnJ_good p n c j
theorem ris_len {l : List Int} {n : Nat} (h : risB l 0 ((n : Int) - 1) = true) (hn : n ≤ 10) : l.length ≤ 1000 := by
  rw [risB_iff] at h
  have lo : ∀ k, k < l.length → (k : Int) ≤ l.getD k 0 := by
    intro k
    induction k with
    | zero => intro hk; exact (h 0 hk).1
    | succ k ih =>
      intro hk
      have a := ih (by omega)
      have b := (h (k + 1) hk).2.2 (by omega)
      rw [show k + 1 - 1 = k from rfl] at b
      omega
  by_cases h0 : l.length = 0
  · omega
  · have a := lo (l.length - 1) (by omega)
    have b := (h (l.length - 1) (by omega)).2.1
    omega
theorem sco_ok {it : It} {c : Int} {a : An} (h : aF (itemE it) it c = (a, 0)) : (scoF it a).2 = 0 ∧ (scoF it a).1 ≤ c ∧ ((scoF it a).1 = c ∨ (c ≠ 0 ∧ c ≠ it.pts)) := by
  unfold aF at h
  by_cases he : itemE it = 0
  case neg => rw [if_pos he] at h; exact absurd (congrArg Prod.snd h) he
  rw [if_neg (by simpa using he)] at h
  by_cases h6 : it.kind = 6
  · rw [if_pos h6] at h; cases h
  rw [if_neg h6] at h
  by_cases hc : c < 0 ∨ it.pts < c
  · rw [if_pos hc] at h; cases h
  rw [if_neg hc] at h
  obtain ⟨a1, a2, a3, a4, a5, a6⟩ := item_all he
  have hk : 1 ≤ it.kind ∧ it.kind ≤ 6 := by unfold inB3 at a2; simpa using a2
  obtain ⟨hp1, hp5⟩ := item_nums he
  obtain ⟨pn, hpn⟩ : ∃ pn : Nat, it.pts = pn := ⟨it.pts.toNat, by omega⟩
  have hone : ∀ b : An, b.item = it.id → ansB it b = false → b.om = false → it.kind = 4 → (-9999999 ≤ b.val ∧ b.val ≤ 9999999) → valE it b = 0 := fun b h1 h2 h3 h4 h5 => by
    unfold valE
    rw [if_neg (by simpa using he), if_neg (by simpa using h1), if_neg (by rw [h2]; simp), if_neg (by rw [h3]; simp), if_pos h4, if_neg (by omega)]
  have htwo : ∀ ch : List Int, it.kind ≠ 4 → it.kind ≠ 5 → cchE it ch = 0 → valE it ⟨it.id, ch, 0, [], false⟩ = 0 := fun ch h4 h5 h7 => by
    have hcb : chcB it.kind = true := by unfold chcB; simp; omega
    unfold valE ansB
    rw [if_neg (by simpa using he), if_neg (by simp), if_neg (by simp [hcb]), if_neg (by simp), if_neg h4, if_neg h5, if_neg h6]
    exact h7
  by_cases hcp : c = it.pts
  · -- the right answer
    rw [if_pos hcp] at h
    unfold riF at h
    rw [if_neg (by simpa using he), if_neg h6] at h
    have fin : scoF it a = (it.pts, 0) → (scoF it a).2 = 0 ∧ (scoF it a).1 ≤ c ∧ ((scoF it a).1 = c ∨ (c ≠ 0 ∧ c ≠ it.pts)) := fun e => by rw [e]; exact ⟨rfl, by show it.pts ≤ c; omega, .inl hcp.symm⟩
    apply fin
    by_cases k4 : it.kind = 4
    · rw [if_pos k4] at h
      cases h
      unfold keyB at a6
      rw [if_neg (by omega), if_neg (by omega), if_neg (by omega), if_pos k4] at a6
      unfold inB3 at a6
      simp at a6
      have hv := hone ⟨it.id, [], it.val, [], false⟩ rfl (by unfold ansB; simp [k4]) rfl k4 ⟨a6.1.1, a6.1.2⟩
      unfold scoF
      rw [if_neg (by simpa using hv), if_neg h6, if_neg (by simp), if_neg (by omega), if_neg (by omega), if_pos]
      unfold rigB
      rw [if_neg (by omega), if_pos k4]
      simp only [Int.sub_self]
      rw [show IntKind.i64.wrap 0 = 0 from rfl]
      simp [maxI]; omega
    rw [if_neg k4] at h
    by_cases k5 : it.kind = 5
    · rw [if_pos k5] at h
      cases h
      have h0 := key_five he k5
      unfold keyB at a6
      rw [if_neg (by omega), if_neg (by omega), if_neg (by omega), if_neg (by omega), if_pos k5] at a6
      have hm : it.txts.getD 0 [] ∈ it.txts := by rw [getD_lt h0]; exact List.getElem_mem h0
      have hpr : prB (it.txts.getD 0 []) 200 = true := by
        unfold strB at a3
        (repeat' split at a3) <;> first | (cases a3; done) | skip
        rename_i _ _ hx
        exact List.all_eq_true.1 (eq_true_of_ne_false hx) _ hm
      have hle : 1 ≤ (it.txts.getD 0 []).length ∧ (it.txts.getD 0 []).length ≤ 200 := by
        unfold prB at hpr
        simp only [Bool.and_eq_true, decide_eq_true_eq] at hpr
        omega
      have hnr : nrmB (it.txts.getD 0 []) = true := by
        split at a6
        · cases a6
        · rename_i hb
          have hb' : (List.range it.txts.length).any (badT it.txts) = false := by simpa using hb
          rw [List.any_eq_false] at hb'
          have := hb' 0 (List.mem_range.2 h0)
          unfold badT at this
          simpa using this
      have hne : it.txts.getD 0 [] ≠ [] := fun e => by rw [e] at hle; simp at hle
      rw [nrm_same hne] at hnr
      have hid := norm_id hnr
      generalize it.txts.getD 0 [] = tx at *
      have hv : valE it ⟨it.id, [], 0, tx, false⟩ = 0 := by
        unfold valE ansB
        rw [if_neg (by simpa using he), if_neg (by simp), if_neg (by simp [k5, txtB]), if_neg (by simp), if_neg k4, if_pos k5, if_neg (by simp; omega)]
      unfold scoF
      rw [if_neg (by simpa using hv), if_neg h6, if_neg (by simp), if_neg (by omega), if_neg (by omega), if_pos]
      unfold rigB
      rw [if_neg (by omega), if_neg k4, if_pos k5, hid]
      simpa using hm
    rw [if_neg k5] at h
    cases h
    have hk3 : it.kind = 1 ∨ it.kind = 2 ∨ it.kind = 3 := by omega
    rcases hk3 with k | k | k
    · have hl := key_one a6 k
      unfold keyB at a6
      rw [if_pos k] at a6
      unfold inB3 at a6
      simp only [Bool.and_eq_true, decide_eq_true_eq] at a6
      have hv := htwo it.ch k4 k5 (cch_zero (fun i hi => by obtain rfl : i = 0 := by omega
                                                            omega) (by unfold fitC; rw [if_pos k]; exact decide_eq_true (by omega)))
      unfold scoF
      rw [if_neg (by simpa using hv), if_neg h6, if_neg (by simp), if_neg (by omega), if_neg (by omega), if_pos]
      unfold rigB
      rw [if_pos k]; simp
    · have hne := key_two a6 k
      unfold keyB at a6
      rw [if_neg (by omega), if_pos k] at a6
      simp only [Bool.and_eq_true, decide_eq_true_eq] at a6
      have hv := htwo it.ch k4 k5 (cch_zero (fun i hi => ris_ok a6.2 hi) (by unfold fitC; rw [if_neg (by omega), if_pos k]; exact risK_of a6.2))
      unfold scoF
      rw [if_neg (by simpa using hv), if_neg h6, if_neg (by simp), if_pos k]
      have hlen : it.ch.length ≤ 1000 := ris_len a6.2 a4
      have hm := mul_take it (Nat.le_refl it.ch.length) hlen hpn (by omega)
      rw [List.take_length] at hm
      rw [hm, Nat.mul_div_cancel_left _ (List.length_pos_iff.2 hne), hpn]
    · have h2o := key_three a6 k
      unfold keyB at a6
      rw [if_neg (by omega), if_neg (by omega), if_pos k] at a6
      simp only [Bool.and_assoc] at a6
      rw [Bool.and_eq_true, per_sort] at a6
      have hpb := a6.2
      have hlo := (per_iff.1 hpb).1
      have hsort := hpb
      rw [← per_sort, Bool.and_eq_true] at hsort
      have hv := htwo it.ch k4 k5 (cch_zero (fun i hi => (per_dist hpb).1 i hi) (by
        unfold fitC; rw [if_neg (by omega), if_neg (by omega), if_pos k, hsort.1, risK_of hsort.2]; rfl))
      unfold scoF
      rw [if_neg (by simpa using hv), if_neg h6, if_neg (by simp), if_neg (by omega), if_pos k, ord_all hpb (by omega) (by omega) hpn (by omega)]
  rw [if_neg hcp] at h
  by_cases k2 : it.kind = 2
  · rw [if_neg (by simpa using k2)] at h
    cases h
    have hne := key_two a6 k2
    unfold keyB at a6
    rw [if_neg (by omega), if_pos k2] at a6
    simp only [Bool.and_eq_true, decide_eq_true_eq] at a6
    have hlen : it.ch.length ≤ 1000 := ris_len a6.2 a4
    have hle := dnJ_le it.pts.toNat it.ch.length c.toNat (it.ch.length - 1)
    have hJ : nJ it c ≤ it.ch.length := by unfold nJ; omega
    have hgood : nJ it c = 0 ∨ nJ it c * pn / it.ch.length ≤ c.toNat := by
      have := dnJ_good it.pts.toNat it.ch.length c.toNat (it.ch.length - 1)
      rw [show it.pts.toNat = pn by omega] at this
      unfold nJ
      rw [show it.pts.toNat = pn by omega]
      exact this
    generalize nJ it c = j at *
    have hv := htwo (it.ch.take j) (by omega) (by omega) (cch_zero (fun i hi => by
      simp at hi
      rw [take_gD (by omega) hJ]
      exact ris_ok a6.2 (by omega)) (by unfold fitC; rw [if_neg (by omega), if_pos k2]; exact risK_take (risK_of a6.2) j hJ))
    have hs : scoF it ⟨it.id, it.ch.take j, 0, [], false⟩ = (((j * pn / it.ch.length : Nat) : Int), 0) := by
      unfold scoF
      rw [if_neg (by simpa using hv), if_neg h6, if_neg (by simp), if_pos k2, mul_take it hJ hlen hpn (by omega)]
    rw [hs]
    have hz : j * pn / it.ch.length ≤ c.toNat := by
      rcases hgood with e | e
      · rw [e]; simp
      · exact e
    generalize j * pn / it.ch.length = q at *
    refine ⟨rfl, by show (q : Int) ≤ c; omega, ?_⟩
    by_cases c0 : c = 0
    · exact .inl (by show (q : Int) = c; omega)
    · exact .inr ⟨c0, hcp⟩
  · rw [if_pos k2] at h
    cases h
    have hv : valE it ⟨it.id, [], 0, [], true⟩ = 0 := by
      unfold valE ansB
      rw [if_neg (by simpa using he), if_neg (by simp), if_neg (by simp), if_pos rfl]
    have hs : scoF it ⟨it.id, [], 0, [], true⟩ = (0, 0) := by
      unfold scoF
      rw [if_neg (by simpa using hv), if_neg h6, if_pos rfl]
    rw [hs]
    refine ⟨rfl, by show (0 : Int) ≤ c; omega, ?_⟩
    by_cases c0 : c = 0
    · exact .inl c0.symm
    · exact .inr ⟨c0, hcp⟩
end Go.Proofs.YtnklkkagpkcmfaaGreatDoor
