import Derived.Test.YtliogkkhofhfcaaGreatDoorGE
/- Query: the library's sort and compaction of integers, in place on a row. No condition. -/
set_option linter.unusedSimpArgs false
set_option maxRecDepth 4000
namespace Go.Proofs.YtliogkkhofhfcaaGreatDoor
open Go.Eng Go.RowKit Go.Sort

def nums (l : List Int) : List V := l.map (V.int .i64)
theorem numsL (l : List Int) : (nums l).length = l.length := by simp [nums]
theorem nthNum {l : List Int} {k : Nat} (h : k < l.length) : nth (nums l) k = some (.int .i64 l[k]) := by rw [nth_eq]; simp [nums, h]
theorem pureNum (l : List Int) : (nums l).all V.pureE = true := by
  rw [List.all_eq_true]; intro x hx; simp only [nums, List.mem_map] at hx; obtain ⟨n, _, rfl⟩ := hx; rfl
theorem flatI (l : List Int) : (nums l).all flatE = true := by
  rw [List.all_eq_true]; intro x hx; simp only [nums, List.mem_map] at hx; obtain ⟨n, _, rfl⟩ := hx; rfl
theorem nums_fits (zs : List Int) : ∀ e ∈ nums zs, e.fits 1 := by
  intro x hx
  simp only [nums, List.mem_map] at hx
  obtain ⟨h, _, rfl⟩ := hx
  exact ⟨rfl, by simp [V.cells, V.isCell]⟩

theorem row_holds {w : World} {g cap : Nat} {ty : TypeId} {zs : List Int} (h : RowAt w g ty 1 cap (nums zs)) : Holds (Value.int .i64) w g 0 zs.toArray ∧ g < w.heap.size ∧ ∃ arr, w.heap[g]? = some (.cells arr ty (0, 0)) ∧ arr.size = cap := by
  obtain ⟨h1, h2, arr, h3, h4, h5⟩ := h
  refine ⟨fun j hj => ?_, (Array.getElem?_eq_some_iff.1 h3).1, arr, h3, by omega⟩
  simp only [List.size_toArray] at hj
  obtain ⟨x, hx, hp⟩ := h5 j (.int .i64 zs[j]) 0 (.int .i64 zs[j]) (by simp [nums, hj]) rfl
  simp only [Nat.mul_one, Nat.add_zero] at hx
  cases hp
  constructor
  · simp [World.cell?, h3, hx, hj]
  · simp [World.frozen?, h3]

theorem row_put {w : World} {g cap n : Nat} {ty : TypeId} {os : Array Obj} {arr : Array Value} {ts us : List Int} (hb : w.heap[g]? = some (.cells arr ty (0, 0))) (hs : arr.size = cap) (hl : us.length ≤ ts.length) (ht : ts.length ≤ cap) (hpre : ts.take us.length = us) :
    RowAt (grow (putRow (Value.int .i64) (Go.Sort.ahead w n) g 0 ts.toArray) os) g ty 1 cap (nums us) := by
  refine ⟨by rw [numsL]; omega, nums_fits us, _, heap_sortedI _ hb, by simp [putCells, hs], fun k e j c he hj => ?_⟩
  simp only [nums, List.getElem?_map, Option.map_eq_some_iff] at he
  obtain ⟨z, hz, rfl⟩ := he
  have hj0 : j = 0 := by
    rcases j with _ | j
    · rfl
    · simp [V.cells] at hj
  subst hj0
  simp only [V.cells, List.getElem?_cons_zero, Option.some.injEq] at hj
  subst hj
  have hk : k < us.length := (List.getElem?_eq_some_iff.1 hz).1
  have hkt : ts[k]? = some z := by
    rw [← hpre] at hz
    rw [List.getElem?_take_of_lt hk] at hz
    exact hz
  refine ⟨.int .i64 z, ?_, .int _ _⟩
  have hk2 : k < arr.size := by omega
  have hk3 : k < ts.length := by omega
  simp [putCells, hk2, hk3]
  exact (List.getElem?_eq_some_iff.1 hkt).2

def sortI (zs : List Int) : List Int := zs.mergeSort fun x y => decide (x ≤ y)

theorem sort_aci (zs : List Int) (hz : zs.length ≤ 17592186044416) : ACI Tryz.prog 38 1 3 (nums zs) (nums (sortI zs)) (fun _ _ => .tup []) := by
  refine ⟨fun w g cap hcap hrow => ?_, fun he => ?_⟩
  · obtain ⟨hH, hg, arr, hb, hs⟩ := row_holds hrow
    have hlen := hrow.1
    rw [numsL] at hlen ⊢
    refine (Tryz.slices_Sort_int g 0 cap zs w hH hg (by omega)).mono ?_
    rintro e w' ⟨rfl, n, os, rfl⟩
    exact ⟨_, rfl, grownBy_sortedI _, row_put (us := sortI zs) hb hs (Nat.le_refl _) (by simpa using hlen) List.take_length, fun d v μ N' _ => .pur (.tup [] [] rfl (by simp))⟩
  · have : zs = [] := by simpa [nums] using he
    subst this
    refine ⟨by simp [sortI, nums], fun w A => (Tryz.slices_Sort_int_none A 0 w).mono ?_⟩
    rintro e w' ⟨rfl, rfl⟩
    exact ⟨_, rfl, ⟨rfl, rfl, rfl, Nat.le_refl _, fun _ _ _ => rfl⟩, fun d v μ N' _ => .pur (.tup [] [] rfl (by simp))⟩

theorem compact_le (zs : List Int) : (Lib.compact zs).length ≤ zs.length := by
  have key : ∀ m, (Lib.compactUpTo zs.toArray m).length ≤ m := by
    intro m
    induction m with
    | zero => simp [Lib.compactUpTo]
    | succ m ih =>
      rw [Lib.compactUpTo_succ, List.length_append]
      split <;> simp <;> omega
  exact key zs.length

theorem compact_aci (zs : List Int) (hz : zs.length ≤ 17592186044416) : ACI Tryz.prog 39 1 3 (nums zs) (nums (Lib.compact zs)) (fun d v => .sl d v 1 (Lib.compact zs).length) := by
  have hcl := compact_le zs
  refine ⟨fun w g cap hcap hrow => ?_, fun he => ?_⟩
  · obtain ⟨hH, hg, arr, hb, hs⟩ := row_holds hrow
    have hlen := hrow.1
    rw [numsL] at hlen ⊢
    refine (Tryz.slices_Compact_int g 0 cap zs w hH (by omega) hlen).mono ?_
    rintro e w' ⟨rfl, q, rfl⟩
    have e1 : ∀ d : Array Int, putRow (Value.int .i64) (Go.Sort.ahead w q) g 0 d = grow (putRow (Value.int .i64) (Go.Sort.ahead w q) g 0 d) #[] := fun d => by simp
    rw [e1]
    exact ⟨_, rfl, grownBy_sortedI _, row_put hb hs (by simp) (by simp; omega) (by simp), fun d v μ N' hμ => .slr d v 1 _ g cap hμ (by omega) hcap⟩
  · have : zs = [] := by simpa [nums] using he
    subst this
    refine ⟨by simp [Lib.compact, Lib.compactUpTo, nums], fun w A => (Tryz.slices_Compact_int_empty A 0 w).mono ?_⟩
    rintro e w' ⟨rfl, rfl⟩
    exact ⟨_, rfl, ⟨rfl, rfl, rfl, Nat.le_refl _, fun _ _ _ => rfl⟩, fun d v μ N' hμ => .slv d v 1 A hμ⟩
end Go.Proofs.YtliogkkhofhfcaaGreatDoor

/- Query: Select. No condition. -/
set_option linter.unusedSimpArgs false
set_option maxRecDepth 4000
namespace Go.Proofs.YtliogkkhofhfcaaGreatDoor
open Go.Eng Go.RowKit Go.Sort

def lastId (e : En) : Int := match e.vers.getLast? with
  | some it => it.id
  | none => 0
def selK (bk : Bk) (q : Qy) (e : En) : Bool := !e.vers.isEmpty && matchQ bk e q
def selL (bk : Bk) (q : Qy) (l : List En) : List Int := (l.filter (selK bk q)).map lastId
/-- The numbers that a query selects. -/
def selQ (bk : Bk) (q : Qy) : List Int := Lib.compact (sortI (selL bk q bk.ents))
theorem selL_len (bk : Bk) (q : Qy) (l : List En) : (selL bk q l).length ≤ l.length := by
  unfold selL; rw [List.length_map]; exact List.length_filter_le _ _
theorem selL_succ (bk : Bk) (q : Qy) (l : List En) (k : Nat) (h : k < l.length) : selL bk q (l.take (k + 1)) = selL bk q (l.take k) ++ (if selK bk q l[k] = true then [lastId l[k]] else []) := by
  rw [List.take_succ_eq_append_getElem h, selL, selL, List.filter_append, List.map_append]
  congr 1
  by_cases h0 : selK bk q l[k] = true <;> simp [List.filter, h0]
theorem nthEn {l : List En} {k : Nat} (h : k < l.length) : nth (l.map En.v) k = some l[k].v := by rw [nth_eq]; simp [h]

set_option maxHeartbeats 8000000 in
theorem select_acq (bk : Bk) (q : Qy) (hst : ∀ e ∈ bk.ents, ∀ it ∈ e.vers, it.stem.length ≤ 2000000) (hq : SmQ q) (hbig : bk.ents.length ≤ 2000000) :
    ACQ gv Tryz.prog 20 [bk.v, q.v] (fun r => r = .ro 1 (nums (selQ bk q))) := by
  have hm := fun e (he : e ∈ bk.ents) => match_acq bk e (hst e he) (SizeOf.sizeOf q + 1) q (by omega) hq
  have hge := fun (k : Nat) (h : k < bk.ents.length) => nthEn h
  have hle : (bk.ents.map En.v).length = bk.ents.length := by simp
  have hPb : (V.agg [.int .i64 bk.now, .ro 1 bk.gp, .ro 1 bk.gq, .ro 2 bk.outline, .ro 5 bk.assets, .ro 7 (bk.ents.map En.v), .ro 2 (bk.enem.map prV)]).pureV = true := by simp [V.pureV, V.pureE]
  rw [Bk.v] at hm ⊢
  have hqs : ∃ k c n f s ks, q.v = .agg [.int .i64 k, .int .i64 c, .int .i64 n, .str f, .str s, .ro 6 ks] := by
    obtain ⟨k, c, n, f, s, ks⟩ := q
    exact ⟨k, c, n, f, s, _, by rw [Qy.v]⟩
  obtain ⟨qk, qc, qn, qf, qs, qks, hqv⟩ := hqs
  rw [hqv] at hm ⊢
  generalize hev : bk.ents.map En.v = ev at hm hge hle hPb ⊢
  generalize bk.enem.map prV = emV at hm hPb ⊢
  refine acq_intro Tryz.func20 rfl (by show (2 : Nat) ≤ 42; omega) (fun w0 N0 hG => ?_)
  refine aw_step [2, 3] [2, 3] (by simp [Tryz.ntmps20] <;> rfl) ?_   -- query.go:268
  refine aw_step [2, 3, 5] [2, 3] (by simp <;> rfl) ?_   -- query.go:269
  refine aw_seq ?_
  refine aw_step [2, 3, 5, 9, 10, 11] [2, 3] (by simp <;> rfl) ?_   -- query.go:270
  refine aw_adoptS 5 100 1 3 [2, 3, 5, 9, 10, 11] [2, 3, 100] (by simp <;> rfl) (by simp <;> rfl) ?_
  refine aw_block ?_
  refine aw_loop (fun x : Nat × Nat × Nat => ⟨[(2, .bp 2 0 7 0 0), (3, .bp 3 1 6 0 0), (5, .sl 100 x.2.1 1 (nums (selL bk q (bk.ents.take x.1))).length), (9, .ro 7 ev), (10, .int .i64 ev.length), (11, .int .i64 x.1)], [(2, ⟨0, 7, 42, [.agg [.int .i64 bk.now, .ro 1 bk.gp, .ro 1 bk.gq, .ro 2 bk.outline, .ro 5 bk.assets, .ro 7 ev, .ro 2 emV]]⟩), (3, ⟨1, 6, 24, [.agg [.int .i64 qk, .int .i64 qc, .int .i64 qn, .str qf, .str qs, .ro 6 qks]]⟩), (100, ⟨x.2.1, 1, 3, nums (selL bk q (bk.ents.take x.1))⟩)], x.2.2, 42⟩)
    (fun x => x.1 ≤ bk.ents.length) (fun x => bk.ents.length - x.1) (0, _, _) (Nat.zero_le _) (AS.le_refl _) ?_
  rintro ⟨k, vr, nx⟩ hk
  simp only at hk
  refine aw_step [2, 3, 5, 9, 10, 11, 12] [2, 3, 100] (by simp <;> rfl) ?_   -- query.go:270
  refine aw_seq ?_
  refine aw_cond rfl (fun h1 => aw_skip ?_) (fun h1 => ?_)   -- if t12
  · have hlt : k < bk.ents.length := by simp at h1; omega
    have hlt' : k < ev.length := by omega
    have ga := hge k hlt
    have hw := wrap_succ (k := k) (by omega)
    have hmem : bk.ents[k] ∈ bk.ents := List.getElem_mem hlt
    have hsu := selL_succ bk q bk.ents k hlt
    have hc := hm _ hmem
    have hkl : (nums (selL bk q (bk.ents.take k))).length ≤ k := by rw [numsL]; exact Nat.le_trans (selL_len _ _ _) (by simp; omega)
    generalize bk.ents[k] = e at ga hsu hc
    have hnu : nums (selL bk q (bk.ents.take (k + 1))) = nums (selL bk q (bk.ents.take k)) ++ (if selK bk q e = true then [.int .i64 (lastId e)] else []) := by
      rw [hsu]; by_cases h0 : selK bk q e = true <;> simp [nums, h0]
    generalize nums (selL bk q (bk.ents.take k)) = rk at hkl hnu
    have hro : rk.length + 1 ≤ maxLen ∧ (rk.length + 1) * 8 ≤ 140737488355328 := ⟨Nat.le_trans (show rk.length + 1 ≤ 17592186044416 by omega) (by decide), by omega⟩
    rw [En.v] at ga hc
    have hgv := fun (j : Nat) (h : j < e.vers.length) => nthIt h
    have hlv : (e.vers.map It.v).length = e.vers.length := by simp
    generalize hvv : e.vers.map It.v = vv at ga hc hgv hlv
    have hsk : selK bk q e = (decide (0 < vv.length) && matchQ bk e q) := by
      unfold selK
      cases hve : e.vers with
      | nil => rw [hve] at hlv; simp at hlv; simp [hlv]
      | cons _ _ => rw [hve] at hlv; simp [hlv]
    generalize hmx : matchQ bk e q = mx at hc hsk
    refine aw_seq ?_
    refine aw_block ?_
    refine aw_step [2, 3, 5, 7, 9, 10, 11] [2, 3, 7, 100] (by simp [ga, hlt'] <;> rfl) ?_   -- query.go:270
    refine aw_seq (aw_region ?_)   -- query.go:271
    by_cases hpos : 0 < vv.length
    case neg =>
      have hz : vv = [] := List.length_eq_zero_iff.1 (by omega)
      subst hz
      refine awl_go 5 (by simp <;> rfl) ?_
      refine awl_skips 4 (by simp <;> rfl) ?_
      refine awl_end [2, 3, 5, 7, 9, 10, 11, 24] [2, 3, 7, 100] (by simp <;> rfl) ?_
      refine aw_cond rfl (fun h2 => by simp at h2) (fun h2 => aw_skip ?_)   -- if t24
      refine aw_one [2, 3, 5, 9, 10, 11] [2, 3, 100] (by simp [hw] <;> rfl) ?_   -- query.go:270
      rw [if_neg (by rw [hsk]; simp), List.append_nil] at hnu
      exact ⟨(k + 1, _, _), hlt, by simp only; omega, by simp only [hnu]; exact AS.le_refl _⟩
    rw [show (decide (0 < vv.length)) = true by simpa using hpos, Bool.true_and] at hsk
    rw [hsk] at hnu
    refine awl_go 8 (by simp [hpos] <;> rfl) ?_
    refine awl_callQ hG hc Tryz.func15 rfl (by kernel_rfl) (by simp) (by simp [hpos] <;> rfl) rfl rfl (by simp <;> rfl) (by simp [V.pureV, V.pureE]) (by simp <;> rfl) ?_
    refine awl_end [2, 3, 5, 7, 9, 10, 11, 16, 24] [2, 3, 7, 100] (by simp [hpos] <;> rfl) ?_
    refine aw_len 16 rfl (fun hmaxv => ?_)
    unfold maxLen at hmaxv
    refine aw_cond rfl (fun h2 => ?_) (fun h2 => aw_skip ?_)   -- if t24
    · have hmx1 : mx = true := by simpa using h2
      subst hmx1
      have hlast : e.vers.getLast? = some (e.vers[e.vers.length - 1]'(by omega)) := by
        rw [List.getLast?_eq_getElem?, List.getElem?_eq_getElem (by omega)]
      have hgl := hgv (e.vers.length - 1) (by omega)
      have hid : lastId e = (e.vers[e.vers.length - 1]'(by omega)).id := by unfold lastId; rw [hlast]
      rw [hid] at hnu
      generalize e.vers[e.vers.length - 1]'(by omega) = it at hgl hnu
      obtain ⟨ix, hix, hixv⟩ : ∃ ix : Int, IntKind.i64.wrap ((vv.length : Int) - 1) = ix ∧ ix = ((e.vers.length - 1 : Nat) : Int) := ⟨_, rfl, by rw [wrap_in (by omega) (by omega)]; omega⟩
      have hix0 : 0 ≤ ix ∧ ix < (vv.length : Int) := by omega
      have hixn : ix.toNat = e.vers.length - 1 := by omega
      rw [← hixn, It.v] at hgl
      refine aw_one [2, 3, 5, 9, 10, 11] [2, 3, 100] (by simp [hix, hix0, hgl, hro] <;> rfl) ?_   -- query.go:272
      refine aw_one [2, 3, 5, 9, 10, 11] [2, 3, 100] (by simp [hw] <;> rfl) ?_   -- query.go:270
      rw [if_pos rfl] at hnu
      exact ⟨(k + 1, _, _), hlt, by simp only; omega, by simp only [hnu, List.length_append, List.length_cons, List.length_nil]; exact AS.le_refl _⟩
    have hmx1 : mx = false := by simpa using h2
    subst hmx1
    refine aw_one [2, 3, 5, 9, 10, 11] [2, 3, 100] (by simp [hw] <;> rfl) ?_   -- query.go:270
    rw [if_neg (by simp), List.append_nil] at hnu
    exact ⟨(k + 1, _, _), hlt, by simp only; omega, by simp only [hnu]; exact AS.le_refl _⟩
  · refine aw_exit ?_
    have hk' : k = bk.ents.length := by simp at h1; omega
    subst hk'
    have hol := selL_len bk q bk.ents
    simp only [List.take_length]
    have hcs := sort_aci (selL bk q bk.ents) (by omega)
    have hsl : (sortI (selL bk q bk.ents)).length = (selL bk q bk.ents).length := by simp [sortI]
    have hcc := compact_aci (sortI (selL bk q bk.ents)) (by omega)
    have hl1 : (nums (selL bk q bk.ents)).length = (nums (sortI (selL bk q bk.ents))).length := by rw [numsL, numsL, hsl]
    have hf1 := flatI (selL bk q bk.ents)
    have hf2 := flatI (sortI (selL bk q bk.ents))
    have hf3 := flatI (selQ bk q)
    have hp3 := pureNum (selQ bk q)
    have hl3 := numsL (selQ bk q)
    change ACI Tryz.prog 39 1 3 _ (nums (selQ bk q)) (fun d v => .sl d v 1 (selQ bk q).length) at hcc
    generalize nums (selL bk q bk.ents) = r1 at hcs hl1 hf1
    generalize nums (sortI (selL bk q bk.ents)) = r2 at hcs hcc hl1 hf2
    generalize nums (selQ bk q) = r3 at hcc hf3 hp3 hl3
    refine aw_seq (aw_region ?_)   -- asset.go:67
    refine awl_go 1 (by simp <;> rfl) ?_
    refine awl_callI (d := 100) (v := vr) hcs hf1 hf2 Tryz.func38 rfl (by kernel_rfl) rfl rfl rfl (by simp <;> rfl) (by simp <;> rfl) (by simp <;> rfl) ?_
    refine awl_end [5] [100] (by simp <;> rfl) ?_
    rw [hl1]
    refine aw_seq (aw_region ?_)   -- asset.go:68
    refine awl_go 1 (by simp <;> rfl) ?_
    refine awl_callI (d := 100) (v := vr) hcc hf2 hf3 Tryz.func39 rfl (by kernel_rfl) rfl rfl rfl (by simp <;> rfl) (by simp <;> rfl) (by simp <;> rfl) ?_
    refine awl_end [4] [100] (by simp <;> rfl) ?_
    refine aw_freeze 100 [4] [] (by simp [hp3, hl3] <;> rfl) ?_
    exact aw_ret (ends_ret (by simp [Tryz.results20] <;> rfl) rfl)
end Go.Proofs.YtliogkkhofhfcaaGreatDoor

/- Query: content codes. No condition. -/
set_option linter.unusedSimpArgs false
set_option maxRecDepth 4000
namespace Go.Proofs.YtliogkkhofhfcaaGreatDoor
open Go.Eng

def okB (c : UInt8) : Bool := (decide (65 ≤ c.toNat) && decide (c.toNat ≤ 90)) || (decide (48 ≤ c.toNat) && decide (c.toNat ≤ 57))
def okSeg (s : List UInt8) : Bool := s.all okB && (decide (1 ≤ s.length) && decide (s.length ≤ 8))
set_option maxHeartbeats 1000000 in
theorem validSegment_ac (s : List UInt8) (hs : s.length ≤ 1000) : AC Tryz.prog 107 [.str s] (fun r => r = .bool (okSeg s)) := by
  have hg := fun (k : Nat) (h : k < s.length) => nthS h
  refine ac_intro Tryz.func107 rfl (by show (1 : Nat) ≤ 40; omega) (fun w0 N0 => ?_)
  refine aw_step [0] [] (by simp [Tryz.ntmps107] <;> rfl) ?_   -- content.go:31
  refine aw_seq ?_
  refine aw_step [0, 3] [] (by simp <;> rfl) ?_   -- content.go:32
  refine aw_block ?_
  refine aw_count (fun k nx => ⟨[(0, .str s), (3, .int .i64 k)], [], nx, 40⟩) (fun k => (s.take k).all okB = true) s.length _ (by simp) (AS.le_refl _) ?_
  intro k nx hk hI
  refine aw_seq ?_
  refine aw_step [0, 3, 7] [] (by simp <;> rfl) ?_   -- content.go:32
  refine aw_cond rfl (fun h1 => aw_skip ?_) (fun h1 => ?_)   -- if t7
  · have hlt : k < s.length := by simp at h1; omega
    have ga := hg k hlt
    have hw := wrap_succ (k := k) (by omega)
    have htk := List.take_succ_eq_append_getElem (l := s) (i := k) hlt
    have hmem : s[k] ∈ s := List.getElem_mem hlt
    generalize s[k] = c at ga htk hmem
    refine aw_seq ?_
    refine aw_block ?_
    refine aw_step [0, 3, 31] [] (by simp [ga, hlt] <;> rfl) ?_   -- content.go:33
    refine aw_cond rfl (fun h2 => ?_) (fun h2 => aw_skip ?_)   -- if t31
    · refine aw_step [2] [] (by simp <;> rfl) ?_   -- content.go:34
      refine aw_ret (ends_ret (by simp [Tryz.results107] <;> rfl) ?_)
      have : s.all okB = false := List.all_eq_false.2 ⟨c, hmem, by simp [okB] at h2 ⊢; omega⟩
      simp [okSeg, this]
    have hc : okB c = true := by simp [okB] at h2 ⊢; omega
    refine aw_one [0, 3] [] (by simp [hw] <;> rfl) ?_   -- content.go:32
    exact ⟨hlt, by rw [htk, List.all_append, hI]; simp [hc], _, AS.le_refl _⟩
  · refine aw_exit ?_
    refine aw_step [2] [] (by simp <;> rfl) ?_   -- content.go:37
    refine aw_ret (ends_ret (by simp [Tryz.results107] <;> rfl) ?_)
    have hke : k = s.length := by simp at h1; omega
    rw [hke, List.take_length] at hI
    have e1 : ((1 : Int) ≤ s.length) = (1 ≤ s.length) := by simp; omega
    have e2 : ((s.length : Int) ≤ 8) = (s.length ≤ 8) := by simp; omega
    simp [okSeg, hI, e1, e2]

/-- The segments of a code, in an array of five. -/
def segA : Nat → List (List UInt8) → List UInt8 → List (List UInt8) × Nat × Bool
  | 0, done, _ => (done, 0, false)
  | n + 1, done, code =>
    if (Lib.cut code [46]).2.2 = false then (done ++ [(Lib.cut code [46]).1] ++ List.replicate n [], done.length + 1, true)
    else segA n (done ++ [(Lib.cut code [46]).1]) (Lib.cut code [46]).2.1
def segV (p : List (List UInt8) × Nat × Bool) : V := .tup [.agg (strs p.1), .int .i64 p.2.1, .bool p.2.2]
theorem cut_len (s sep : List UInt8) : (Lib.cut s sep).2.1.length ≤ s.length ∧ (Lib.cut s sep).1.length ≤ s.length := by
  unfold Lib.cut
  split
  · simp only [List.length_take, List.length_drop]; omega
  · simp
theorem segA_len : ∀ (n : Nat) (done : List (List UInt8)) (code : List UInt8), (segA n done code).1.length = done.length + n
  | 0, done, code => by simp [segA]
  | n + 1, done, code => by
    rw [segA]
    split
    · simp
    · rw [segA_len n]; simp; omega
theorem five {α : Type} : ∀ (l : List α), l.length = 5 → ∃ a b c d e, l = [a, b, c, d, e]
  | [a, b, c, d, e], _ => ⟨a, b, c, d, e, rfl⟩
set_option maxHeartbeats 1000000 in
theorem segments_acq (code : List UInt8) (hs : code.length ≤ 1000) : ACQ gv Tryz.prog 106 [.str code] (fun r => r = segV (segA 5 [] code)) := by
  refine acq_intro Tryz.func106 rfl (by show (1 : Nat) ≤ 30; omega) (fun w0 N0 hG => ?_)
  refine aw_step [0, 2] [2] (by simp [Tryz.ntmps106] <;> rfl) ?_   -- content.go:17
  refine aw_step [0, 2, 5] [2, 5] (by simp <;> rfl) ?_   -- content.go:18
  refine aw_seq ?_
  refine aw_step [0, 2, 5, 10] [2, 5] (by simp <;> rfl) ?_   -- content.go:19
  refine aw_block ?_
  refine aw_loop (fun p : List (List UInt8) × List UInt8 × Nat => ⟨[(0, .str p.2.1), (2, .bp 2 0 5 0 0), (5, .bp 5 3 5 0 0), (10, .int .i64 p.1.length)], [(2, ⟨0, 5, 147, [.agg [.str [], .str [], .str [], .str [], .str []]]⟩), (5, ⟨3, 5, 147, [.agg (strs (p.1 ++ List.replicate (5 - p.1.length) []))]⟩)], p.2.2, 30⟩)
    (fun p => p.1.length ≤ 5 ∧ p.2.1.length ≤ 1000 ∧ segA (5 - p.1.length) p.1 p.2.1 = segA 5 [] code) (fun p => 5 - p.1.length) ([], code, _) ⟨by simp, hs, rfl⟩ (AS.le_refl _) ?_
  rintro ⟨done, cd, nx⟩ ⟨hd, hcl, hI⟩
  simp only at hd hcl hI
  have hlA : (strs (done ++ List.replicate (5 - done.length) [])).length = 5 := by simp; omega
  by_cases hlt : done.length < 5
  · obtain ⟨n, hn⟩ : ∃ n, 5 - done.length = n + 1 := ⟨4 - done.length, by omega⟩
    rw [hn] at hI hlA ⊢
    rw [segA] at hI
    have hc := cut_acq cd [46] (by omega)
    have hcl2 := cut_len cd [46]
    have htk : (strs (done ++ List.replicate (n + 1) [])).take done.length = strs done := by simp
    have hdr : (strs (done ++ List.replicate (n + 1) [])).drop (done.length + 1) = strs (List.replicate n []) := by
      have e : strs (done ++ List.replicate (n + 1) []) = strs done ++ (V.str [] :: strs (List.replicate n [])) := by simp [List.replicate_succ]
      have hl : done.length + 1 = (strs done ++ [V.str []]).length := by simp
      have e2 : strs done ++ (V.str [] :: strs (List.replicate n [])) = (strs done ++ [V.str []]) ++ strs (List.replicate n []) := by simp
      rw [e, e2, hl, List.drop_left]
    generalize Lib.cut cd [46] = ct at hc hI hcl2
    obtain ⟨hd1, tl, more⟩ := ct
    simp only at hc hI hcl2
    obtain ⟨k, hk⟩ : ∃ k, done.length = k := ⟨_, rfl⟩
    have hnew : strs (done ++ [hd1] ++ List.replicate n []) = strs done ++ .str hd1 :: strs (List.replicate n []) := by simp
    generalize hav : strs (done ++ List.replicate (n + 1) []) = av at hlA htk hdr ⊢
    rw [hk] at htk hdr hlt hn ⊢
    have hki : (k : Int) < 5 := by omega
    have hwk := wrap_succ (k := k) (by omega)
    have hk4 : k ≤ 4 := by omega
    have hst : av.take k ++ .str hd1 :: av.drop (k + 1) = strs (done ++ [hd1] ++ List.replicate n []) := by rw [htk, hdr, hnew]
    have hfin : more = false → segV (segA 5 [] code) = .tup [.agg (strs (done ++ [hd1] ++ List.replicate n [])), .int .i64 (k + 1 : Nat), .bool true] := fun h => by
      rw [← hI, if_pos h, segV, hk]
    have hsuc : more ≠ false → segA n (done ++ [hd1]) tl = segA 5 [] code := fun h => by rw [if_neg h] at hI; exact hI
    have hlN : (done ++ [hd1] ++ List.replicate n []).length = 5 := by simp; omega
    obtain ⟨a, b, c, d, f, hnv⟩ := five _ hlN
    rw [hnv] at hst hfin
    simp only [strs, List.map_cons, List.map_nil] at hst hfin
    refine aw_step [0, 2, 5, 10, 11] [2, 5] (by simp <;> rfl) ?_   -- content.go:19
    refine aw_seq ?_
    refine aw_cond rfl (fun h1 => aw_skip ?_) (fun h1 => by simp at h1; omega)   -- if t11
    refine aw_seq ?_
    refine aw_block ?_
    refine aw_step [0, 2, 5, 6, 10] [2, 5] (by simp <;> rfl) ?_   -- content.go:19
    refine aw_seq (aw_region ?_)   -- content.go:20
    refine awl_go 1 (by simp <;> rfl) ?_
    refine awl_callQ hG hc Tryz.func114 rfl (by kernel_rfl) (by simp) rfl rfl rfl (by simp <;> rfl) (by simp) (by simp <;> rfl) ?_
    refine awl_end [2, 5, 6, 7, 8, 9, 10] [2, 5] (by simp <;> rfl) ?_
    refine aw_step [2, 5, 6, 8, 9, 10] [2, 5] (by simp [hki, hlA, hk4, hst] <;> rfl) ?_   -- content.go:21
    refine aw_seq ?_
    refine aw_step [2, 5, 6, 8, 10, 23] [2, 5] (by simp <;> rfl) ?_   -- content.go:22
    refine aw_cond rfl (fun h2 => ?_) (fun h2 => aw_skip ?_)   -- if t23
    · refine aw_step [2, 3, 4] [2] (by simp [hwk] <;> rfl) ?_   -- content.go:23
      refine aw_ret (ends_ret (by simp [Tryz.results106] <;> rfl) ?_)
      rw [hfin (by simpa using h2)]
      have hc1 : ((k + 1 : Nat) : Int) = (k : Int) + 1 := by omega
      rw [hc1]
    refine aw_one [0, 2, 5, 10] [2, 5] (by simp <;> rfl) ?_   -- content.go:25
    refine aw_one [0, 2, 5, 10] [2, 5] (by simp [hwk] <;> rfl) ?_   -- content.go:19
    refine ⟨(done ++ [hd1], tl, nx + 1 + 2 + 9 + 4 + 2 + 2 + 2), ⟨by simp; omega, by simp only; omega, ?_⟩, by simp; omega, ?_⟩
    · simp only [List.length_append, List.length_cons, List.length_nil, hk]
      rw [show 5 - (k + (0 + 1)) = n by omega]
      exact hsuc (by simpa using h2)
    · have hc1 : ((k + 1 : Nat) : Int) = (k : Int) + 1 := by omega
      have hn1 : 5 - (k + 1) = n := by omega
      simp only [List.length_append, List.length_cons, List.length_nil, hk, Nat.zero_add, hc1, hn1, hnv, strs, List.map_cons, List.map_nil]
      exact AS.le_refl _
  · have h5 : done.length = 5 := by omega
    obtain ⟨a, b, c, d, f, rfl⟩ := five _ h5
    rw [h5, Nat.sub_self, segA] at hI
    refine aw_step [0, 2, 5, 10, 11] [2, 5] (by simp <;> rfl) ?_   -- content.go:19
    refine aw_seq ?_
    refine aw_cond rfl (fun h1 => by simp at h1) (fun h1 => ?_)   -- if t11
    refine aw_exit ?_
    refine aw_step [2, 3, 4] [2] (by simp <;> rfl) ?_   -- content.go:27
    refine aw_ret (ends_ret (by simp [Tryz.results106] <;> rfl) ?_)
    rw [← hI]; rfl

theorem segA_small : ∀ (n : Nat) (done : List (List UInt8)) (code : List UInt8), (∀ x ∈ done, x.length ≤ 1000) → code.length ≤ 1000 → ∀ x ∈ (segA n done code).1, x.length ≤ 1000
  | 0, done, code, h, _ => by simpa [segA] using h
  | n + 1, done, code, h, hc => by
    have hcl := cut_len code [46]
    rw [segA]
    split
    · intro x hx
      rcases List.mem_append.1 hx with hx | hx
      · rcases List.mem_append.1 hx with hx | hx
        · exact h x hx
        · simp at hx; subst hx; omega
      · have := (List.mem_replicate.1 hx).2; subst this; simp
    · refine segA_small n _ _ (fun x hx => ?_) (by omega)
      rcases List.mem_append.1 hx with hx | hx
      · exact h x hx
      · simp at hx; subst hx; omega
theorem segA_n : ∀ (n : Nat) (done : List (List UInt8)) (code : List UInt8), (segA n done code).2.1 ≤ done.length + n
  | 0, done, code => by simp [segA]
  | n + 1, done, code => by
    rw [segA]
    split
    · simp
    · have := segA_n n (done ++ [(Lib.cut code [46]).1]) (Lib.cut code [46]).2.1
      simp at this
      omega
/-- Whether a content code is well formed. -/
def cValid (code : List UInt8) : Bool := decide (code.length ≤ 24) && ((segA 5 [] code).2.2 && ((segA 5 [] code).1.take (segA 5 [] code).2.1).all okSeg)
set_option maxHeartbeats 1000000 in
theorem cValid_acq (code : List UInt8) : ACQ gv Tryz.prog 87 [.str code] (fun r => r = .bool (cValid code)) := by
  refine acq_intro Tryz.func87 rfl (by show (1 : Nat) ≤ 30; omega) (fun w0 N0 hG => ?_)
  refine aw_step [0] [] (by simp [Tryz.ntmps87] <;> rfl) ?_   -- content.go:51
  refine aw_seq ?_
  refine aw_step [0, 10] [] (by simp <;> rfl) ?_   -- content.go:52
  refine aw_cond rfl (fun h1 => ?_) (fun h1 => aw_skip ?_)   -- if t10
  · refine aw_step [2] [] (by simp <;> rfl) ?_   -- content.go:53
    refine aw_ret (ends_ret (by simp [Tryz.results87] <;> rfl) ?_)
    have : ¬ code.length ≤ 24 := by simp at h1; omega
    simp [cValid, this]
  have hle : code.length ≤ 24 := by simp at h1; omega
  have hc := segments_acq code (by omega)
  have hsm := segA_small 5 [] code (by simp) (by omega)
  have hn := segA_n 5 [] code
  have hln := segA_len 5 [] code
  have hcv : cValid code = ((segA 5 [] code).2.2 && ((segA 5 [] code).1.take (segA 5 [] code).2.1).all okSeg) := by simp [cValid, hle]
  generalize segA 5 [] code = p at hc hsm hn hln hcv
  obtain ⟨A, n, ok⟩ := p
  simp only [List.length_nil, Nat.zero_add] at hsm hn hln hcv
  rw [segV] at hc
  simp only at hc
  obtain ⟨a, b, c, d, f, hA⟩ := five A hln
  have hAs : strs A = [.str a, .str b, .str c, .str d, .str f] := by rw [hA]; rfl
  rw [hAs] at hc
  refine aw_seq (aw_region ?_)   -- content.go:55
  refine awl_go 1 (by simp <;> rfl) ?_
  refine awl_callQ hG hc Tryz.func106 rfl (by kernel_rfl) (by simp) rfl rfl rfl (by simp <;> rfl) (by simp) (by simp <;> rfl) ?_
  refine awl_end [3, 4, 5] [3] (by simp <;> rfl) ?_
  refine aw_seq ?_
  refine aw_step [3, 4, 18] [3] (by simp <;> rfl) ?_   -- content.go:56
  refine aw_cond rfl (fun h2 => ?_) (fun h2 => aw_skip ?_)   -- if t18
  · refine aw_step [2] [] (by simp <;> rfl) ?_   -- content.go:57
    refine aw_ret (ends_ret (by simp [Tryz.results87] <;> rfl) ?_)
    have : ok = false := by simpa using h2
    simp [hcv, this]
  have hok : ok = true := by simpa using h2
  rw [hok, Bool.true_and] at hcv
  refine aw_freeze 3 [3, 4] [] (by simp <;> rfl) ?_
  have hni : (n : Int) ≤ 5 := by omega
  refine aw_seq ?_
  refine aw_step [20, 21, 22] [] (by simp [hni] <;> rfl) ?_   -- content.go:59
  have htake : List.take n [V.str a, .str b, .str c, .str d, .str f] = strs (A.take n) := by rw [← hAs]; simp [strs]
  have hlT : (A.take n).length = n := by simp; omega
  have hgT := fun (k : Nat) (h : k < (A.take n).length) => (show nth (strs (A.take n)) k = some (.str (A.take n)[k]) by rw [nth_eq, strs, List.getElem?_map, List.getElem?_eq_getElem h]; rfl)
  have hsT : ∀ x ∈ A.take n, x.length ≤ 1000 := fun x hx => hsm x (List.mem_of_mem_take hx)
  have hlS : (strs (A.take n)).length = n := by simp; omega
  have hmn : min n 5 = n := by omega
  simp only [htake, hmn]
  generalize A.take n = sl at hcv hlT hgT hsT hlS ⊢
  generalize strs sl = sv at hgT hlS ⊢
  refine aw_block ?_
  refine aw_count (fun k nx => ⟨[(20, .ro 1 sv), (21, .int .i64 n), (22, .int .i64 k)], [], nx, 30⟩) (fun k => (sl.take k).all okSeg = true) n _ (by simp) (AS.le_refl _) ?_
  intro k nx hk hI
  refine aw_step [20, 21, 22, 23] [] (by simp <;> rfl) ?_   -- content.go:59
  refine aw_seq ?_
  refine aw_cond rfl (fun h3 => aw_skip ?_) (fun h3 => ?_)   -- if t23
  · have hlt : k < sl.length := by simp at h3; omega
    have hlt' : k < sv.length := by omega
    have ga := hgT k hlt
    have hw := wrap_succ (k := k) (by omega)
    have htk := List.take_succ_eq_append_getElem (l := sl) (i := k) hlt
    have hmem : sl[k] ∈ sl := List.getElem_mem hlt
    have hvs := validSegment_ac sl[k] (hsT _ hmem)
    generalize sl[k] = x at ga htk hmem hvs
    refine aw_seq ?_
    refine aw_block ?_
    refine aw_step [7, 20, 21, 22] [] (by simp [ga, hlt'] <;> rfl) ?_   -- content.go:59
    refine aw_seq (aw_region ?_)   -- content.go:60
    refine awl_go 1 (by simp <;> rfl) ?_
    refine awl_call1 hvs Tryz.func107 rfl (by kernel_rfl) rfl rfl rfl rfl rfl (by simp <;> rfl) ?_
    refine awl_end [20, 21, 22, 28] [] (by simp <;> rfl) ?_
    refine aw_cond rfl (fun h4 => ?_) (fun h4 => aw_skip ?_)   -- if t28
    · refine aw_step [2] [] (by simp <;> rfl) ?_   -- content.go:61
      refine aw_ret (ends_ret (by simp [Tryz.results87] <;> rfl) ?_)
      have : sl.all okSeg = false := List.all_eq_false.2 ⟨x, hmem, by simpa using h4⟩
      rw [hcv, this]
    refine aw_one [20, 21, 22] [] (by simp [hw] <;> rfl) ?_   -- content.go:59
    exact ⟨by omega, by rw [htk, List.all_append, hI]; simp; simpa using h4, _, AS.le_refl _⟩
  · refine aw_exit ?_
    refine aw_step [2] [] (by simp <;> rfl) ?_   -- content.go:64
    refine aw_ret (ends_ret (by simp [Tryz.results87] <;> rfl) ?_)
    have hke : k = sl.length := by simp at h3; omega
    rw [hke, List.take_length] at hI
    rw [hcv, hI]
end Go.Proofs.YtliogkkhofhfcaaGreatDoor

/- Query: the text of a condition, written. No condition. -/
set_option linter.unusedSimpArgs false
set_option maxRecDepth 4000
namespace Go.Proofs.YtliogkkhofhfcaaGreatDoor
open Go.Eng

@[simp] theorem kd1 (d k : Nat) : (d + 2 + k = d) = False := by simp; omega
@[simp] theorem kd2 (d k : Nat) : (d = d + 2 + k) = False := by simp; omega
@[simp] theorem kd3 (d k : Nat) : (d + 2 + k = d + 1) = False := by simp
@[simp] theorem kd4 (d k : Nat) : (d + 1 = d + 2 + k) = False := by simp
theorem itoa_len {n : Int} (h0 : 0 ≤ n) (h1 : n ≤ 999999999) : (Lib.itoa n).length ≤ 9 := by
  obtain ⟨u, rfl⟩ : ∃ u : Nat, n = u := ⟨n.toNat, by omega⟩
  rw [Lib.itoa_nonneg, Lib.decDigits_length]
  have hu : u ≤ 999999999 := by omega
  clear h0 h1
  have step : ∀ (k u : Nat), u < 10 ^ k → 1 ≤ k → Lib.nDigits u ≤ k := by
    intro k
    induction k with
    | zero => intro u _ h; omega
    | succ k ih =>
      intro u hu _
      by_cases h : u < 10
      · rw [Lib.nDigits_small h]; omega
      · rw [Lib.nDigits_big h]
        have hk : 1 ≤ k := by
          rcases Nat.eq_zero_or_pos k with h0 | h0
          · subst h0; simp at hu; omega
          · exact h0
        have := ih (u / 10) (by rw [Nat.pow_succ] at hu; omega) hk
        omega
  exact step 9 u (by omega) (by omega)
def usesN (k : Int) : Bool := decide (k = 4) || decide (k = 8)
def badA (k n : Int) (s : List UInt8) (nk : Nat) : Bool := decide (0 < nk) || decide (n < 0) || decide (999999999 < n) || (!decide (n = 0) && !usesN k) || (!decide (s = []) && usesN k)
def badB (k c : Int) (f : List UInt8) : Bool := !decide (k = 4) && (!decide (c = 0) || !decide (f = []))
def signOf (c : Int) : List UInt8 := (signsL[(c - 1).toNat]?).getD []
/-- The text of a condition, if it is valid. -/
def condT (k c n : Int) (f s : List UInt8) (nk : Nat) : Option (List UInt8) :=
  if badA k n s nk = true then none else if badB k c f = true then none else
  if k = 4 then (if (!hasS fieldsL f || decide (c < 1) || decide (6 < c)) = true then none else some (f ++ [32] ++ signOf c ++ [32] ++ Lib.itoa n))
  else if k = 5 then (if cValid s = true then some ([99, 111, 110, 116, 101, 110, 116, 32, 117, 110, 100, 101, 114, 32] ++ s) else none)
  else if k = 6 then (if hasS statesL s = true then some ([115, 116, 97, 116, 101, 32] ++ s) else none)
  else if k = 7 then (if hasS kindsL s = true then some ([107, 105, 110, 100, 32] ++ s) else none)
  else if k = 8 then some ([101, 110, 101, 109, 121, 32, 111, 102, 32] ++ Lib.itoa n)
  else if k = 9 then (if quot s = true then some ([115, 116, 101, 109, 32, 104, 97, 115, 32, 34] ++ s ++ [34]) else none)
  else none
theorem hasS_mem {l : List (List UInt8)} {x : List UInt8} (h : hasS l x = true) : x ∈ l := by
  have key : ∀ (l : List (List UInt8)) (i : Nat), 0 ≤ idxF x l i → x ∈ l := by
    intro l
    induction l with
    | nil => intro i h; simp [idxF] at h
    | cons y r ih =>
      intro i h
      rw [idxF] at h
      split at h
      · rename_i e; simp [e]
      · exact List.mem_cons_of_mem _ (ih _ h)
  unfold hasS idxS at h
  exact key l 0 (by simpa using h)
theorem names_len : ∀ x ∈ fieldsL ++ (statesL ++ kindsL), x.length ≤ 10 := by decide
theorem signs_len : ∀ x ∈ signsL, x.length ≤ 2 := by decide
theorem signOf_len (c : Int) : (signOf c).length ≤ 2 := by
  unfold signOf
  cases h : signsL[(c - 1).toNat]? with
  | none => simp
  | some x => exact signs_len x (List.mem_of_getElem? h)
theorem condT_len {k c n : Int} {f s x : List UInt8} {nk : Nat} (h : condT k c n f s nk = some x) : x.length ≤ 100 := by
  unfold condT at h
  split at h
  · cases h
  rename_i hA
  split at h
  · cases h
  have hA' : 0 ≤ n ∧ n ≤ 999999999 := by
    simp only [badA, Bool.or_eq_true, decide_eq_true_eq, not_or] at hA
    omega
  have hi := itoa_len hA'.1 hA'.2
  split at h
  · split at h
    · cases h
    · rename_i hf
      injection h with h
      subst h
      have hm : f ∈ fieldsL := hasS_mem (by simp at hf; exact hf.1.1)
      have := names_len f (by simp [hm])
      have := signOf_len c
      simp only [List.length_append, List.length_cons, List.length_nil]
      omega
  split at h
  · split at h
    · rename_i hv
      injection h with h
      subst h
      simp only [cValid, Bool.and_eq_true, decide_eq_true_eq] at hv
      simp only [List.length_append, List.length_cons, List.length_nil]
      omega
    · cases h
  split at h
  · split at h
    · rename_i hf
      injection h with h
      subst h
      have := names_len s (by simp [hasS_mem hf])
      simp only [List.length_append, List.length_cons, List.length_nil]
      omega
    · cases h
  split at h
  · split at h
    · rename_i hf
      injection h with h
      subst h
      have := names_len s (by simp [hasS_mem hf])
      simp only [List.length_append, List.length_cons, List.length_nil]
      omega
    · cases h
  split at h
  · injection h with h
    subst h
    simp only [List.length_append, List.length_cons, List.length_nil]
    omega
  split at h
  · split at h
    · rename_i hf
      injection h with h
      subst h
      simp only [quot, Bool.and_eq_true, decide_eq_true_eq] at hf
      simp only [List.length_append, List.length_cons, List.length_nil]
      omega
    · cases h
  · cases h
end Go.Proofs.YtliogkkhofhfcaaGreatDoor

/- Query: writeCondition. No condition. -/
set_option linter.unusedSimpArgs false
set_option maxRecDepth 4000
namespace Go.Proofs.YtliogkkhofhfcaaGreatDoor
open Go.Eng

/-- What is left of a text behind a try to write more. -/
def wrT (t : List UInt8) : Option (List UInt8) → List UInt8
  | some x => t ++ x
  | none => t
theorem bRes_of {P : Program} {fn : Func} {S : AS} {d v vq nx0 : Nat} {ad r : V} {t : List UInt8} (hnx : nx0 ≤ S.nx) (hr : aresT P S fn.results.toList = some r)
    (h1 : Eng.get S.objs d = some (bOb v ad (.sl (d + 1) vq 1 t.length))) (h2 : Eng.get S.objs (d + 1) = some ⟨vq, 1, 5, bys t⟩) (hok : okA d v ad) : EndsS P fn (bRes d v t r) (fun _ => False) nx0 .ret S :=
  ⟨hnx, r, bObs d v ad vq t, hr, fun k o hk => get_two h1 h2 hk, rfl, ad, vq, hok, rfl⟩

set_option maxHeartbeats 8000000 in
theorem writeCondition_acs (d v vq : Nat) (ad : V) (t : List UInt8) (k c n : Int) (f s : List UInt8) (ks : List V) (hok : okA d v ad) (ht : t.length ≤ 900000) :
    ACSQ gv Tryz.prog 57 [.bp d v 2 0 0, .agg [.int .i64 k, .int .i64 c, .int .i64 n, .str f, .str s, .ro 6 ks]] (bObs d v ad vq t) (bRes d v (wrT t (condT k c n f s ks.length)) (.bool (condT k c n f s ks.length).isSome)) := by
  have hA : badA k n s ks.length = badA k n s ks.length := rfl
  refine acsq_intro Tryz.func57 rfl (by show (2 : Nat) ≤ 145; omega) (fun w0 N0 nx0 hG => ?_)
  have hbt := bysL t
  generalize hbv : bys t = bv at hbt
  refine awk_step (d + 2) [0, 3] [d, d + 1, d + 2 + 3] (by simp [Tryz.ntmps57, hbv] <;> rfl) ?_   -- query.go:127
  refine awk_step (d + 2) [0, 3, 5] [d, d + 1, d + 2 + 3] (by simp <;> rfl) ?_   -- query.go:128
  refine aw_seq ?_
  refine awk_step (d + 2) [0, 3, 45] [d, d + 1, d + 2 + 3] (by simp <;> rfl) ?_   -- query.go:129
  refine aw_cond rfl (fun h1 => ?_) (fun h1 => aw_skip ?_)   -- if t45
  · refine awk_step (d + 2) [4] [d, d + 1] (by simp <;> rfl) ?_   -- query.go:130
    have hb : badA k n s ks.length = true := by
      simp [badA, usesN] at h1 ⊢
      exact h1
    have hc : condT k c n f s ks.length = none := by unfold condT; rw [if_pos hb]
    rw [hc]
    exact aw_ret (bRes_of (vq := vq) (by simp only; omega) (by simp [Tryz.results57] <;> rfl) (by simp [Eng.get, wrT]) (by simp [Eng.get, wrT, hbv]) hok)
  have hnA : badA k n s ks.length = false := by
    simp [badA, usesN] at h1 ⊢
    exact h1
  have hn1 : 0 ≤ n ∧ n ≤ 999999999 := by
    simp only [badA, Bool.or_eq_false_iff, decide_eq_false_iff_not] at hnA
    omega
  have hitL := itoa_len hn1.1 hn1.2
  have hitoa := itoa_acq n (by omega) (by omega)
  refine aw_seq ?_
  refine awk_step (d + 2) [0, 3, 58] [d, d + 1, d + 2 + 3] (by simp <;> rfl) ?_   -- query.go:132
  refine aw_cond rfl (fun h2 => ?_) (fun h2 => aw_skip ?_)   -- if t58
  · refine awk_step (d + 2) [4] [d, d + 1] (by simp <;> rfl) ?_   -- query.go:133
    have hb : badB k c f = true := by
      simp [badB] at h2 ⊢
      exact h2
    have hc : condT k c n f s ks.length = none := by unfold condT; rw [if_neg (by rw [hnA]; simp), if_pos hb]
    rw [hc]
    exact aw_ret (bRes_of (vq := vq) (by simp only; omega) (by simp [Tryz.results57] <;> rfl) (by simp [Eng.get, wrT]) (by simp [Eng.get, wrT, hbv]) hok)
  have hnB : badB k c f = false := by
    simp [badB] at h2 ⊢
    exact h2
  have hcT : condT k c n f s ks.length = (if k = 4 then (if (!hasS fieldsL f || decide (c < 1) || decide (6 < c)) = true then none else some (f ++ [32] ++ signOf c ++ [32] ++ Lib.itoa n))
      else if k = 5 then (if cValid s = true then some ([99, 111, 110, 116, 101, 110, 116, 32, 117, 110, 100, 101, 114, 32] ++ s) else none)
      else if k = 6 then (if hasS statesL s = true then some ([115, 116, 97, 116, 101, 32] ++ s) else none)
      else if k = 7 then (if hasS kindsL s = true then some ([107, 105, 110, 100, 32] ++ s) else none)
      else if k = 8 then some ([101, 110, 101, 109, 121, 32, 111, 102, 32] ++ Lib.itoa n)
      else if k = 9 then (if quot s = true then some ([115, 116, 101, 109, 32, 104, 97, 115, 32, 34] ++ s ++ [34]) else none)
      else none) := by unfold condT; rw [if_neg (by rw [hnA]; simp), if_neg (by rw [hnB]; simp)]
  have hlenC := fun x (h : condT k c n f s ks.length = some x) => condT_len h
  generalize condT k c n f s ks.length = cT at hcT hlenC ⊢
  clear h1 h2 hA
  refine aw_seq ?_
  refine awk_step (d + 2) [0, 3, 60] [d, d + 1, d + 2 + 3] (by simp <;> rfl) ?_   -- query.go:135
  refine aw_block ?_
  refine awk_step (d + 2) [0, 3, 60, 61] [d, d + 1, d + 2 + 3] (by simp <;> rfl) ?_   -- query.go:136
  refine aw_cond rfl (fun h3 => ?_) (fun h3 => ?_)   -- if t61
  · have hq : k = 4 := by simpa using h3
    subst hq
    rw [if_pos rfl] at hcT
    have hn4 := names_ac 4
    rw [show namesL 4 = fieldsL from rfl] at hn4
    have hco := contains_ac fieldsL f
    have hpF := strs_pure fieldsL
    have hmem := fun (h : hasS fieldsL f = true) => names_len f (by simp [hasS_mem h])
    have hsg := signs_ac
    have hgS : ∀ i : Nat, i < 6 → nth (strs signsL) i = some (.str ((signsL[i]?).getD [])) := fun i h => by
      have h' : i < signsL.length := h
      rw [nth_eq, strs, List.getElem?_map, List.getElem?_eq_getElem h']; rfl
    have hlS : (strs signsL).length = 6 := rfl
    generalize strs fieldsL = fv at hn4 hco hpF
    generalize strs signsL = gvv at hsg hgS hlS
    generalize hasS fieldsL f = hf at hco hcT hmem
    refine aw_seq ?_
    refine aw_seq (aw_draw [(0, []), (1, []), (2, []), (3, []), (4, []), (5, []), (6, []), (7, []), (8, []), (9, []), (10, []), (11, []), (12, []), (13, []), (14, [])] hmix (by kernel_rfl) ?_)   -- query.go:137
    refine awo_call (fun hg => hn4) Tryz.func35 rfl (by kernel_rfl) rfl rfl (by simp <;> rfl) rfl rfl (by simp <;> rfl) (by simp) (by simp <;> rfl) ?_
    refine awo_go 2 (by simp <;> rfl) ?_
    refine awo_call (fun hg => hco) Tryz.func67 rfl (by kernel_rfl) rfl rfl (by simp <;> rfl) rfl rfl (by simp <;> rfl) (by simp [hpF]) (by simp <;> rfl) ?_
    refine awo_end [0, 3, 77] [d, d + 1, d + 2 + 3] (by simp <;> rfl) ?_
    refine aw_cond rfl (fun h4 => ?_) (fun h4 => aw_skip ?_)   -- if t77
    · refine awk_step (d + 2) [4] [d, d + 1] (by simp <;> rfl) ?_   -- query.go:138
      have hc : cT = none := by rw [hcT, if_pos (by simpa [Bool.or_assoc] using h4)]
      rw [hc]
      exact aw_ret (bRes_of (vq := vq) (by simp only; omega) (by simp [Tryz.results57] <;> rfl) (by simp [Eng.get, wrT]) (by simp [Eng.get, wrT, hbv]) hok)
    have hgood : hf = true ∧ 1 ≤ c ∧ c ≤ 6 := by
      simp at h4
      refine ⟨h4.1.1, ?_, ?_⟩ <;> omega
    have hc : cT = some (f ++ [32] ++ signOf c ++ [32] ++ Lib.itoa n) := by
      rw [hcT, if_neg (by simp [hgood.1]; omega)]
    have hfl := hmem hgood.1
    have hsgl := signOf_len c
    have hgi := hgS (c - 1).toNat (by omega)
    have hlc := hlenC _ hc
    rw [hc]
    have hso : (signsL[(c - 1).toNat]?).getD [] = signOf c := rfl
    rw [hso] at hgi
    generalize signOf c = sg at hgi hsgl hlc ⊢
    generalize Lib.itoa n = itn at hitL hitoa hlc ⊢
    obtain ⟨ci, hci, hciv⟩ : ∃ ci : Int, IntKind.i64.wrap (c - 1) = ci ∧ ci = c - 1 := ⟨_, rfl, wrap_in (by omega) (by omega)⟩
    rw [← hciv] at hgi
    have hci0 : 0 ≤ ci ∧ ci < 6 := by omega
    have e1 : f.length + 1 ≤ 9223372036854775807 := by omega
    have e2 : f.length + 1 + sg.length ≤ 9223372036854775807 := by omega
    have e3 : f.length + (sg.length + 1) ≤ 9223372036854775806 := by omega
    have e4 : f.length + (sg.length + 1 + 1) + itn.length ≤ 9223372036854775807 := by omega
    have hxx : f ++ [32] ++ sg ++ [32] ++ itn = f ++ 32 :: (sg ++ 32 :: itn) := by simp
    rw [hxx] at hlc ⊢
    have hws := writeString_acs d v vq ad t (f ++ 32 :: (sg ++ 32 :: itn)) hok (by omega)
    refine aw_drawLast 16 [] hmix rfl (by kernel_rfl) (fun N1 => ?_)   -- query.go:140
    refine at_go [(0, []), (1, [])] (by kernel_rfl) (by simp <;> rfl) ?_
    refine at_step (i := 4) (ks := []) (by kernel_rfl) rfl (by simp) (sx_call1 (c := true) (fun _ => hsg) Tryz.func68 rfl (by kernel_rfl) (by simp <;> rfl) rfl rfl (by simp <;> rfl) (by simp) (by simp <;> rfl)) ?_
    refine at_go [(5, []), (12, []), (2, []), (3, []), (6, []), (7, []), (8, []), (9, []), (10, []), (11, []), (13, [])] (by kernel_rfl) (by simp [hci, hci0, hgi, hlS, e1, e2, e3] <;> rfl) ?_
    refine at_step (i := 14) (ks := []) (by kernel_rfl) rfl (by simp) (sx_callQ1 (c := true) hG (fun _ => hitoa) Tryz.func86 rfl (by kernel_rfl) (by simp <;> rfl) rfl rfl (by simp <;> rfl) (by simp) (by simp <;> rfl)) ?_
    refine at_go [(15, [])] (by kernel_rfl) (by simp [e4] <;> rfl) ?_
    refine at_end [0, 78, 93] [d, d + 1] (by kernel_rfl) (by simp <;> rfl) ?_
    refine awl_callS hws Tryz.func84 rfl (by kernel_rfl) rfl rfl rfl (by simp <;> rfl) (fun k o hk => get_two (d := d) (by simp [Eng.get]) (by simp [Eng.get, hbv]) hk) ?_ (fun ch hch => hch.elim)
    rintro r outs nx ⟨rfl, ad', vq', hok', rfl⟩ hnx
    have hnx' : nx0 ≤ nx := by simp at hnx; omega
    refine ⟨fun k hk => has_two hk, _, by simp <;> rfl, ?_⟩
    refine awl_end [0] [d, d + 1] (by simp <;> rfl) ?_
    refine aw_step [4] [d, d + 1] (by simp <;> rfl) ?_   -- query.go:165
    exact aw_ret (bRes_of (vq := vq') (by simp only; omega) (by simp [Tryz.results57] <;> rfl) (by simp [Eng.get, wrT]) (by simp [Eng.get, wrT]) hok')
  have hq4 : ¬ k = 4 := by simpa using h3
  rw [if_neg hq4] at hcT
  refine awk_step (d + 2) [0, 3, 60, 95] [d, d + 1, d + 2 + 3] (by simp <;> rfl) ?_   -- query.go:141
  refine aw_cond rfl (fun h5 => ?_) (fun h5 => ?_)   -- if t95
  · have hq : k = 5 := by simpa using h5
    rw [if_pos hq] at hcT
    have hcv := cValid_acq s
    generalize hcvb : cValid s = cvb at hcv hcT
    refine aw_seq ?_
    refine aw_seq (aw_region ?_)   -- query.go:142
    refine awlk_go (d + 2) 2 (by simp <;> rfl) ?_
    refine awl_callQ hG hcv Tryz.func87 rfl (by kernel_rfl) (by simp) rfl rfl rfl (by simp <;> rfl) (by simp) (by simp <;> rfl) ?_
    refine awlk_end (d + 2) [0, 3, 100] [d, d + 1, d + 2 + 3] (by simp <;> rfl) ?_
    refine aw_cond rfl (fun h6 => ?_) (fun h6 => aw_skip ?_)   -- if t100
    · refine awk_step (d + 2) [4] [d, d + 1] (by simp <;> rfl) ?_   -- query.go:143
      have hc : cT = none := by rw [hcT, if_neg (by simpa using h6)]
      rw [hc]
      exact aw_ret (bRes_of (vq := vq) (by simp only; omega) (by simp [Tryz.results57] <;> rfl) (by simp [Eng.get, wrT]) (by simp [Eng.get, wrT, hbv]) hok)
    have hc : cT = some ([99, 111, 110, 116, 101, 110, 116, 32, 117, 110, 100, 101, 114, 32] ++ s) := by rw [hcT, if_pos (by simpa using h6)]
    have hlc := hlenC _ hc
    rw [hc]
    simp only [List.cons_append, List.nil_append] at hlc ⊢
    simp only [List.length_cons] at hlc
    have hsl2 : s.length ≤ 200 := by omega
    have e1 : 14 + s.length ≤ 9223372036854775807 := by omega
    have hws := writeString_acs d v vq ad t (99 :: 111 :: 110 :: 116 :: 101 :: 110 :: 116 :: 32 :: 117 :: 110 :: 100 :: 101 :: 114 :: 32 :: s) hok (by simp only [List.length_cons]; omega)
    refine aw_region ?_   -- query.go:145
    refine awlk_go (d + 2) 4 (by simp [e1] <;> rfl) ?_
    refine awl_callS hws Tryz.func84 rfl (by kernel_rfl) rfl rfl rfl (by simp <;> rfl) (fun k o hk => get_two (d := d) (by simp [Eng.get]) (by simp [Eng.get, hbv]) hk) ?_ (fun ch hch => hch.elim)
    rintro r outs nx ⟨rfl, ad', vq', hok', rfl⟩ hnx
    have hnx' : nx0 ≤ nx := by simp at hnx; omega
    refine ⟨fun k hk => has_two hk, _, by simp <;> rfl, ?_⟩
    refine awl_end [] [d, d + 1] (by simp <;> rfl) ?_
    refine aw_step [4] [d, d + 1] (by simp <;> rfl) ?_   -- query.go:165
    exact aw_ret (bRes_of (vq := vq') (by simp only; omega) (by simp [Tryz.results57] <;> rfl) (by simp [Eng.get, wrT]) (by simp [Eng.get, wrT]) hok')
  have hq5 : ¬ k = 5 := by simpa using h5
  rw [if_neg hq5] at hcT
  refine aw_viale ⟨[(0, .bp d v 2 0 0), (3, .bp (d + 2 + 3) nx0 6 0 0), (60, .int .i64 k), (106, .bool (decide (k = 6) || decide (k = 7)))], [(d, bOb v ad (.sl (d + 1) vq 1 t.length)), (d + 1, ⟨vq, 1, 5, bv⟩), (d + 2 + 3, ⟨nx0, 6, 24, [.agg [.int .i64 k, .int .i64 c, .int .i64 n, .str f, .str s, .ro 6 ks]]⟩)], nx0 + 500, 145⟩ ?_ ?_
  · refine awk_step (d + 2) [0, 3, 60, 106] [d, d + 1, d + 2 + 3] (by simp <;> rfl) ?_   -- query.go:146
    refine aw_cond rfl (fun h7 => aw_skip ?_) (fun h7 => ?_)   -- if t106
    · have hq : k = 6 := by simpa using h7
      exact ⟨rfl, le_to [0, 3, 60, 106] [d, d + 1, d + 2 + 3] (by simp [hq]) (by simp) rfl (by simp only; omega)⟩
    · have hq : ¬ k = 6 := by simpa using h7
      refine awk_one (d + 2) [0, 3, 60, 106] [d, d + 1, d + 2 + 3] (by simp <;> rfl) ?_   -- query.go:146
      exact ⟨rfl, le_to [0, 3, 60, 106] [d, d + 1, d + 2 + 3] (by simp [hq]) (by simp) rfl (by simp only; omega)⟩
  refine aw_cond rfl (fun h8 => ?_) (fun h8 => ?_)   -- if t106
  · have hq67 : k = 6 ∨ k = 7 := by simpa using h8
    have hnm := names_ac k
    have hco := contains_ac (namesL k) s
    have hpF := strs_pure (namesL k)
    obtain ⟨wd, hwd⟩ : ∃ wd : List UInt8, wd = if k = 7 then [107, 105, 110, 100, 32] else [115, 116, 97, 116, 101, 32] := ⟨_, rfl⟩
    have hcT2 : cT = if hasS (namesL k) s = true then some (wd ++ s) else none := by
      rw [hcT, hwd]
      rcases hq67 with rfl | rfl <;> rfl
    have hwdl : wd.length ≤ 6 := by rw [hwd]; split <;> decide
    generalize strs (namesL k) = fv at hnm hco hpF
    generalize hasS (namesL k) s = hf at hco hcT2
    refine aw_seq ?_
    refine aw_seq (aw_draw [(0, []), (3, []), (1, []), (2, []), (4, []), (5, []), (6, [])] hmix (by kernel_rfl) ?_)   -- query.go:147
    refine awo_go 3 (by simp <;> rfl) ?_
    refine awo_call (fun hg => hnm) Tryz.func35 rfl (by kernel_rfl) rfl rfl (by simp <;> rfl) rfl rfl (by simp <;> rfl) (by simp) (by simp <;> rfl) ?_
    refine awo_go 1 (by simp <;> rfl) ?_
    refine awo_call (fun hg => hco) Tryz.func67 rfl (by kernel_rfl) rfl rfl (by simp <;> rfl) rfl rfl (by simp <;> rfl) (by simp [hpF]) (by simp <;> rfl) ?_
    refine awo_end [0, 3, 115] [d, d + 1, d + 2 + 3] (by simp <;> rfl) ?_
    refine aw_cond rfl (fun h9 => ?_) (fun h9 => aw_skip ?_)   -- if t115
    · refine awk_step (d + 2) [4] [d, d + 1] (by simp <;> rfl) ?_   -- query.go:148
      have hc : cT = none := by rw [hcT2, if_neg (by simpa using h9)]
      rw [hc]
      exact aw_ret (bRes_of (vq := vq) (by simp only; omega) (by simp [Tryz.results57] <;> rfl) (by simp [Eng.get, wrT]) (by simp [Eng.get, wrT, hbv]) hok)
    have hc : cT = some (wd ++ s) := by rw [hcT2, if_pos (by simpa using h9)]
    have hlc := hlenC _ hc
    rw [hc]
    rw [List.length_append] at hlc
    have e1 : wd.length + s.length ≤ 9223372036854775807 := by omega
    have hws := writeString_acs d v vq ad t (wd ++ s) hok (by rw [List.length_append]; omega)
    refine awk_step (d + 2) [0, 3, 6] [d, d + 1, d + 2 + 3] (by simp <;> rfl) ?_   -- query.go:150
    refine aw_viale ⟨[(0, .bp d v 2 0 0), (3, .bp (d + 2 + 3) nx0 6 0 0), (6, .str wd)], [(d, bOb v ad (.sl (d + 1) vq 1 t.length)), (d + 1, ⟨vq, 1, 5, bv⟩), (d + 2 + 3, ⟨nx0, 6, 24, [.agg [.int .i64 k, .int .i64 c, .int .i64 n, .str f, .str s, .ro 6 ks]]⟩)], nx0 + 700, 145⟩ ?_ ?_
    · refine awk_step (d + 2) [0, 3, 6, 118] [d, d + 1, d + 2 + 3] (by simp <;> rfl) ?_   -- query.go:151
      refine aw_cond rfl (fun h10 => ?_) (fun h10 => aw_skip ?_)   -- if t118
      · have hq : k = 7 := by simpa using h10
        refine awk_one (d + 2) [0, 3, 6] [d, d + 1, d + 2 + 3] (by simp <;> rfl) ?_   -- query.go:152
        exact ⟨rfl, le_to [0, 3, 6] [d, d + 1, d + 2 + 3] (by simp [hwd, hq]) (by simp) rfl (by simp only; omega)⟩
      · have hq : ¬ k = 7 := by simpa using h10
        exact ⟨rfl, le_to [0, 3, 6] [d, d + 1, d + 2 + 3] (by simp [hwd, hq]) (by simp) rfl (by simp only; omega)⟩
    refine aw_region ?_   -- query.go:154
    refine awlk_go (d + 2) 5 (by simp [e1] <;> rfl) ?_
    refine awl_callS hws Tryz.func84 rfl (by kernel_rfl) rfl rfl rfl (by simp <;> rfl) (fun k o hk => get_two (d := d) (by simp [Eng.get]) (by simp [Eng.get, hbv]) hk) ?_ (fun ch hch => hch.elim)
    rintro r outs nx ⟨rfl, ad', vq', hok', rfl⟩ hnx
    have hnx' : nx0 ≤ nx := by simp at hnx; omega
    refine ⟨fun k hk => has_two hk, _, by simp <;> rfl, ?_⟩
    refine awl_end [] [d, d + 1] (by simp <;> rfl) ?_
    refine aw_step [4] [d, d + 1] (by simp <;> rfl) ?_   -- query.go:165
    exact aw_ret (bRes_of (vq := vq') (by simp only; omega) (by simp [Tryz.results57] <;> rfl) (by simp [Eng.get, wrT]) (by simp [Eng.get, wrT]) hok')
  have hq6 : ¬ k = 6 := by simp at h8; exact h8.1
  have hq7 : ¬ k = 7 := by simp at h8; exact h8.2
  rw [if_neg hq6, if_neg hq7] at hcT
  refine awk_step (d + 2) [0, 3, 60, 125] [d, d + 1, d + 2 + 3] (by simp <;> rfl) ?_   -- query.go:155
  refine aw_cond rfl (fun h11 => ?_) (fun h11 => ?_)   -- if t125
  · have hq : k = 8 := by simpa using h11
    rw [if_pos hq] at hcT
    have hlc := hlenC _ hcT
    rw [hcT]
    generalize Lib.itoa n = itn at hitL hitoa hlc ⊢
    simp only [List.cons_append, List.nil_append] at hlc ⊢
    have e1 : 9 + itn.length ≤ 9223372036854775807 := by omega
    have hws := writeString_acs d v vq ad t (101 :: 110 :: 101 :: 109 :: 121 :: 32 :: 111 :: 102 :: 32 :: itn) hok (by simp only [List.length_cons]; omega)
    refine aw_region ?_   -- query.go:156
    refine awlk_go (d + 2) 3 (by simp <;> rfl) ?_
    refine awl_callQ hG hitoa Tryz.func86 rfl (by kernel_rfl) (by simp) rfl rfl rfl (by simp <;> rfl) (by simp) (by simp <;> rfl) ?_
    refine awlk_go (d + 2) 1 (by simp [e1] <;> rfl) ?_
    refine awl_callS hws Tryz.func84 rfl (by kernel_rfl) rfl rfl rfl (by simp <;> rfl) (fun k o hk => get_two (d := d) (by simp [Eng.get]) (by simp [Eng.get, hbv]) hk) ?_ (fun ch hch => hch.elim)
    rintro r outs nx ⟨rfl, ad', vq', hok', rfl⟩ hnx
    have hnx' : nx0 ≤ nx := by simp at hnx; omega
    refine ⟨fun k hk => has_two hk, _, by simp <;> rfl, ?_⟩
    refine awl_end [] [d, d + 1] (by simp <;> rfl) ?_
    refine aw_step [4] [d, d + 1] (by simp <;> rfl) ?_   -- query.go:165
    exact aw_ret (bRes_of (vq := vq') (by simp only; omega) (by simp [Tryz.results57] <;> rfl) (by simp [Eng.get, wrT]) (by simp [Eng.get, wrT]) hok')
  have hq8 : ¬ k = 8 := by simpa using h11
  rw [if_neg hq8] at hcT
  refine awk_step (d + 2) [0, 3, 133] [d, d + 1, d + 2 + 3] (by simp <;> rfl) ?_   -- query.go:157
  refine aw_cond rfl (fun h12 => ?_) (fun h12 => ?_)   -- if t133
  · have hq : k = 9 := by simpa using h12
    rw [if_pos hq] at hcT
    have hqu := quotable_ac s
    generalize quot s = qb at hqu hcT
    refine aw_seq ?_
    refine aw_seq (aw_region ?_)   -- query.go:158
    refine awlk_go (d + 2) 2 (by simp <;> rfl) ?_
    refine awl_call1 hqu Tryz.func66 rfl (by kernel_rfl) rfl rfl rfl rfl rfl (by simp <;> rfl) ?_
    refine awlk_end (d + 2) [0, 3, 138] [d, d + 1, d + 2 + 3] (by simp <;> rfl) ?_
    refine aw_cond rfl (fun h13 => ?_) (fun h13 => aw_skip ?_)   -- if t138
    · refine awk_step (d + 2) [4] [d, d + 1] (by simp <;> rfl) ?_   -- query.go:159
      have hc : cT = none := by rw [hcT, if_neg (by simpa using h13)]
      rw [hc]
      exact aw_ret (bRes_of (vq := vq) (by simp only; omega) (by simp [Tryz.results57] <;> rfl) (by simp [Eng.get, wrT]) (by simp [Eng.get, wrT, hbv]) hok)
    have hc : cT = some ([115, 116, 101, 109, 32, 104, 97, 115, 32, 34] ++ s ++ [34]) := by rw [hcT, if_pos (by simpa using h13)]
    have hlc := hlenC _ hc
    rw [hc]
    simp only [List.cons_append, List.nil_append] at hlc ⊢
    simp only [List.length_cons, List.length_append, List.length_nil] at hlc
    have e1 : 10 + s.length ≤ 9223372036854775807 := by omega
    have e2 : s.length + 10 ≤ 9223372036854775806 := by omega
    have e3 : s.length + 10 + 1 ≤ 9223372036854775807 := by omega
    have hws := writeString_acs d v vq ad t (115 :: 116 :: 101 :: 109 :: 32 :: 104 :: 97 :: 115 :: 32 :: 34 :: (s ++ [34])) hok (by simp only [List.length_cons, List.length_append, List.length_nil]; omega)
    refine aw_region ?_   -- query.go:161
    refine awlk_go (d + 2) 5 (by simp [e1, e2, e3] <;> rfl) ?_
    refine awl_callS hws Tryz.func84 rfl (by kernel_rfl) rfl rfl rfl (by simp <;> rfl) (fun k o hk => get_two (d := d) (by simp [Eng.get]) (by simp [Eng.get, hbv]) hk) ?_ (fun ch hch => hch.elim)
    rintro r outs nx ⟨rfl, ad', vq', hok', rfl⟩ hnx
    have hnx' : nx0 ≤ nx := by simp at hnx; omega
    refine ⟨fun k hk => has_two hk, _, by simp <;> rfl, ?_⟩
    refine awl_end [] [d, d + 1] (by simp <;> rfl) ?_
    refine aw_step [4] [d, d + 1] (by simp <;> rfl) ?_   -- query.go:165
    exact aw_ret (bRes_of (vq := vq') (by simp only; omega) (by simp [Tryz.results57] <;> rfl) (by simp [Eng.get, wrT]) (by simp [Eng.get, wrT]) hok')
  have hq9 : ¬ k = 9 := by simpa using h12
  rw [if_neg hq9] at hcT
  rw [hcT]
  refine awk_step (d + 2) [4] [d, d + 1] (by simp <;> rfl) ?_   -- query.go:163
  exact aw_ret (bRes_of (vq := vq) (by simp only; omega) (by simp [Tryz.results57] <;> rfl) (by simp [Eng.get, wrT]) (by simp [Eng.get, wrT, hbv]) hok)
end Go.Proofs.YtliogkkhofhfcaaGreatDoor

/- Query: write, writeKids. No condition. -/
set_option linter.unusedSimpArgs false
set_option maxRecDepth 4000
namespace Go.Proofs.YtliogkkhofhfcaaGreatDoor
open Go.Eng

abbrev andW : List UInt8 := [32, 97, 110, 100, 32]
abbrev orW : List UInt8 := [32, 111, 114, 32]
abbrev notW : List UInt8 := [110, 111, 116, 32]
def sepT (first : Bool) (word : List UInt8) : List UInt8 := if first = true then [] else word
def opT (e : Bool) : List UInt8 := if e = true then [40] else []
def clT (e : Bool) : List UInt8 := if e = true then [41] else []
/-- The texts of kids, written. -/
def wrL (f : Qy → List UInt8 → List UInt8 × Bool) (kind : Int) (word : List UInt8) : Bool → List Qy → List UInt8 → List UInt8 × Bool
  | _, [], t => (t, true)
  | first, q :: r, t =>
    if (f q (t ++ sepT first word ++ opT (encl kind q.kind))).2 = false then ((f q (t ++ sepT first word ++ opT (encl kind q.kind))).1, false)
    else wrL f kind word false r ((f q (t ++ sepT first word ++ opT (encl kind q.kind))).1 ++ clT (encl kind q.kind))
def badK (c n : Int) (f s : List UInt8) : Bool := !decide (c = 0) || !decide (n = 0) || !decide (f = []) || !decide (s = [])
def wrK (g : Qy → List UInt8 → List UInt8 × Bool) : Qy → List UInt8 → List UInt8 × Bool
  | .mk k c n f s ks, t => if badK c n f s = true then (t, false)
    else if k = 3 ∧ ks.length = 1 then wrL g k andW true ks (t ++ notW)
    else if k = 3 ∨ ks.length < 2 then (t, false)
    else wrL g k (if k = 2 then orW else andW) true ks t
def Qy.cond : Qy → Option (List UInt8)
  | .mk k c n f s ks => condT k c n f s ks.length
/-- The text of a query of so many levels at most, written behind t. -/
def wr : Nat → Qy → List UInt8 → List UInt8 × Bool
  | 0, _, t => (t, false)
  | m + 1, q, t => if 1000 < t.length then (t, false)
    else if q.kind = 1 ∨ q.kind = 2 ∨ q.kind = 3 then wrK (wr m) q t else (wrT t q.cond, q.cond.isSome)
theorem sepT_len (b : Bool) (w : List UInt8) (h : w.length ≤ 5) : (sepT b w).length ≤ 5 := by unfold sepT; split <;> simp [h]
theorem opT_len (e : Bool) : (opT e).length ≤ 1 := by unfold opT; split <;> simp
theorem clT_len (e : Bool) : (clT e).length ≤ 1 := by unfold clT; split <;> simp
theorem wrL_len (g : Qy → List UInt8 → List UInt8 × Bool) (B : Nat) (h1 : ∀ q t, (g q t).1.length ≤ max t.length B) (h2 : ∀ q t, (g q t).2 = true → t.length ≤ 1000) (hB : 1000 ≤ B) (kind : Int) (word : List UInt8) (hw : word.length ≤ 5) :
    ∀ (ks : List Qy) (first : Bool) (t : List UInt8), (wrL g kind word first ks t).1.length ≤ max t.length (B + 1) + 7
  | [], _, t => by simp only [wrL]; omega
  | q :: r, first, t => by
    have a1 := sepT_len first word hw
    have a2 := opT_len (encl kind q.kind)
    have a3 := clT_len (encl kind q.kind)
    have a4 := h1 q (t ++ sepT first word ++ opT (encl kind q.kind))
    have a5 := h2 q (t ++ sepT first word ++ opT (encl kind q.kind))
    rw [wrL]
    split
    · simp only [List.length_append] at a4 ⊢; omega
    · rename_i hf
      have a6 := a5 (by simpa using hf)
      have := wrL_len g B h1 h2 hB kind word hw r false ((g q (t ++ sepT first word ++ opT (encl kind q.kind))).1 ++ clT (encl kind q.kind))
      simp only [List.length_append] at a4 a6 this ⊢
      omega
theorem wr_ok : ∀ (m : Nat) (q : Qy) (t : List UInt8), (wr m q t).2 = true → t.length ≤ 1000
  | 0, q, t, h => by simp [wr] at h
  | m + 1, q, t, h => by
    rw [wr] at h
    split at h
    · cases h
    · omega
theorem wr_len : ∀ (m : Nat) (q : Qy) (t : List UInt8), (wr m q t).1.length ≤ max t.length (1200 + 20 * m)
  | 0, q, t => by simp only [wr]; omega
  | m + 1, q, t => by
    rw [wr]
    split
    · simp only; omega
    · split
      · obtain ⟨k, c, n, f, s, ks⟩ := q
        rw [wrK]
        split
        · simp only; omega
        · split
          · have := wrL_len (wr m) (1200 + 20 * m) (wr_len m) (wr_ok m) (by omega) k andW (by decide) ks true (t ++ notW)
            simp only [List.length_append, List.length_cons, List.length_nil] at this
            omega
          · split
            · simp only; omega
            · have := wrL_len (wr m) (1200 + 20 * m) (wr_len m) (wr_ok m) (by omega) k (if k = 2 then orW else andW) (by split <;> decide) ks true t
              omega
      · obtain ⟨k, c, n, f, s, ks⟩ := q
        simp only [Qy.cond]
        cases h : condT k c n f s ks.length with
        | none => simp only [wrT]; omega
        | some x =>
          have := condT_len h
          simp only [wrT, List.length_append]; omega
end Go.Proofs.YtliogkkhofhfcaaGreatDoor
