/- Asset: the library's sort and compaction of integers, in place on a row. No condition. -/
import Derived.Test.YtepkalebaaidcaaAstB
import Derived.Test.YtepkalebaaidcaaEng32
import Derived.Test.YtepkalebaaidcaaShelfA
set_option linter.unusedSimpArgs false
namespace Go.Proofs.Ytepkalebaaidcaa
open Go.Eng Go.RowKit Go.Sort

theorem nums_fits (zs : List Int) : ∀ e ∈ nums zs, e.fits 1 := by
  intro x hx
  simp only [nums, List.mem_map] at hx
  obtain ⟨h, _, rfl⟩ := hx
  exact ⟨rfl, by simp [V.cells, V.isCell]⟩

theorem row_holds {w : World} {g cap : Nat} {ty : TypeId} {zs : List Int} (h : RowAt w g ty 1 cap (nums zs)) : Holds (Value.int .i64) w g 0 zs.toArray ∧ g < w.heap.size ∧ ∃ arr, w.heap[g]? = some (.cells arr ty (0, 0)) ∧ arr.size = cap := by
  obtain ⟨h1, h2, arr, h3, h4, h5⟩ := h
  refine ⟨fun j hj => ?_, (Array.getElem?_eq_some_iff.1 h3).1, arr, h3, by omega⟩
  simp only [List.size_toArray] at hj
  obtain ⟨x, hx, hp⟩ := h5 j (.int .i64 zs[j]) 0 (.int .i64 zs[j]) (by simp [nums, hj]) rfl
  simp only [Nat.mul_one, Nat.add_zero] at hx
  cases hp
  constructor
  · simp [World.cell?, h3, hx, hj]
  · simp [World.frozen?, h3]

theorem row_put {w : World} {g cap n : Nat} {ty : TypeId} {os : Array Obj} {arr : Array Value} {ts us : List Int} (hb : w.heap[g]? = some (.cells arr ty (0, 0))) (hs : arr.size = cap) (hl : us.length ≤ ts.length) (ht : ts.length ≤ cap) (hpre : ts.take us.length = us) :
    RowAt (grow (putRow (Value.int .i64) (Go.Sort.ahead w n) g 0 ts.toArray) os) g ty 1 cap (nums us) := by
  refine ⟨by rw [numsL]; omega, nums_fits us, _, heap_sortedI _ hb, by simp [putCells, hs], fun k e j c he hj => ?_⟩
  simp only [nums, List.getElem?_map, Option.map_eq_some_iff] at he
  obtain ⟨z, hz, rfl⟩ := he
  have hj0 : j = 0 := by
    rcases j with _ | j
    · rfl
    · simp [V.cells] at hj
  subst hj0
  simp only [V.cells, List.getElem?_cons_zero, Option.some.injEq] at hj
  subst hj
  have hk : k < us.length := (List.getElem?_eq_some_iff.1 hz).1
  have hkt : ts[k]? = some z := by
    rw [← hpre] at hz
    rw [List.getElem?_take_of_lt hk] at hz
    exact hz
  refine ⟨.int .i64 z, ?_, .int _ _⟩
  have hk2 : k < arr.size := by omega
  have hk3 : k < ts.length := by omega
  simp [putCells, hk2, hk3]
  exact (List.getElem?_eq_some_iff.1 hkt).2

def sortI (zs : List Int) : List Int := zs.mergeSort fun x y => decide (x ≤ y)

theorem sort_aci (zs : List Int) (hz : zs.length ≤ 17592186044416) : ACI Try.prog 25 1 3 (nums zs) (nums (sortI zs)) (fun _ _ => .tup []) := by
  refine ⟨fun w g cap hcap hrow => ?_, fun he => ?_⟩
  · obtain ⟨hH, hg, arr, hb, hs⟩ := row_holds hrow
    have hlen := hrow.1
    rw [numsL] at hlen ⊢
    refine (Try.slices_Sort_int g 0 cap zs w hH hg (by omega)).mono ?_
    rintro e w' ⟨rfl, n, os, rfl⟩
    exact ⟨_, rfl, grownBy_sortedI _, row_put (us := sortI zs) hb hs (Nat.le_refl _) (by simpa using hlen) List.take_length, fun d v μ N' _ => .pur (.tup [] [] rfl (by simp))⟩
  · have : zs = [] := by simpa [nums] using he
    subst this
    refine ⟨by simp [sortI, nums], fun w A => (Try.slices_Sort_int_none A 0 w).mono ?_⟩
    rintro e w' ⟨rfl, rfl⟩
    exact ⟨_, rfl, ⟨rfl, rfl, rfl, Nat.le_refl _, fun _ _ _ => rfl⟩, fun d v μ N' _ => .pur (.tup [] [] rfl (by simp))⟩

theorem compact_le (zs : List Int) : (Lib.compact zs).length ≤ zs.length := by
  have key : ∀ m, (Lib.compactUpTo zs.toArray m).length ≤ m := by
    intro m
    induction m with
    | zero => simp [Lib.compactUpTo]
    | succ m ih =>
      rw [Lib.compactUpTo_succ, List.length_append]
      split <;> simp <;> omega
  exact key zs.length

theorem compact_aci (zs : List Int) (hz : zs.length ≤ 17592186044416) : ACI Try.prog 26 1 3 (nums zs) (nums (Lib.compact zs)) (fun d v => .sl d v 1 (Lib.compact zs).length) := by
  have hcl := compact_le zs
  refine ⟨fun w g cap hcap hrow => ?_, fun he => ?_⟩
  · obtain ⟨hH, hg, arr, hb, hs⟩ := row_holds hrow
    have hlen := hrow.1
    rw [numsL] at hlen ⊢
    refine (Try.slices_Compact_int g 0 cap zs w hH (by omega) hlen).mono ?_
    rintro e w' ⟨rfl, q, rfl⟩
    have e1 : ∀ d : Array Int, putRow (Value.int .i64) (Go.Sort.ahead w q) g 0 d = grow (putRow (Value.int .i64) (Go.Sort.ahead w q) g 0 d) #[] := fun d => by simp
    rw [e1]
    exact ⟨_, rfl, grownBy_sortedI _, row_put hb hs (by simp) (by simp; omega) (by simp), fun d v μ N' hμ => .slr d v 1 _ g cap hμ (by omega) hcap⟩
  · have : zs = [] := by simpa [nums] using he
    subst this
    refine ⟨by simp [Lib.compact, Lib.compactUpTo, nums], fun w A => (Try.slices_Compact_int_empty A 0 w).mono ?_⟩
    rintro e w' ⟨rfl, rfl⟩
    exact ⟨_, rfl, ⟨rfl, rfl, rfl, Nat.le_refl _, fun _ _ _ => rfl⟩, fun d v μ N' hμ => .slv d v 1 A hμ⟩
end Go.Proofs.Ytepkalebaaidcaa
