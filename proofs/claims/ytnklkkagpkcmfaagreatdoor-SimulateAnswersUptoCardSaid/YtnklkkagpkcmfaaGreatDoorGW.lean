import Derived.Test.YtnklkkagpkcmfaaGreatDoorG4
import Derived.Test.YtnklkkagpkcmfaaGreatDoorProg
import Derived.KernelRfl
import Derived.IntWalk
set_option linter.all false
namespace Go.Eng.Limb
end Go.Eng.Limb

set_option maxRecDepth 20000
namespace Go.Eng.Limb
end Go.Eng.Limb

namespace Go.Eng.Limb
end Go.Eng.Limb

set_option maxRecDepth 4000
namespace Go.Eng.Limb
end Go.Eng.Limb

namespace Go.Eng.Limb
open Go.Eng
theorem wrap_in {x : Int} (h1 : -9223372036854775808 ≤ x) (h2 : x < 9223372036854775808) : IntKind.i64.wrap x = x := by
  rw [IntKind.wrap_i64]; omega
theorem wrap_succ {k : Nat} (h : (k : Int) < 9223372036854775807) : IntKind.i64.wrap ((k : Int) + 1) = ((k + 1 : Nat) : Int) := by
  rw [wrap_in (by omega) (by omega)]; omega
end Go.Eng.Limb

namespace Go.Eng.Limb
open Go.Eng
def ints (l : List Int) : List V := l.map (V.int .i64)
@[simp] theorem ints_len (l : List Int) : (ints l).length = l.length := by simp [ints]
theorem ints_nth {l : List Int} {k : Nat} (h : k < l.length) : nth (ints l) k = some (.int .i64 l[k]) := by rw [nth_eq]; simp [ints, h]
theorem ints_pure (l : List Int) : (ints l).all V.pureE = true := by
  rw [List.all_eq_true]; intro x hx; simp only [ints, List.mem_map] at hx; obtain ⟨n, _, rfl⟩ := hx; rfl
def rises : List Int → Bool
  | [] => true
  | [_] => true
  | a :: b :: r => decide (a < b) && rises (b :: r)
structure Gr where
  pts : List Int
  pri : List Int
def Gr.v (g : Gr) : V := .agg [.ro 1 (ints g.pts), .ro 1 (ints g.pri)]
structure Gr.ok (g : Gr) : Prop where
  len : g.pts.length ≤ 21
  pos : 0 < g.pts.length
  same : g.pri.length = g.pts.length
  pts : ∀ p ∈ g.pts, -1000 ≤ p ∧ p ≤ 1000
  pri : ∀ w ∈ g.pri, 1 ≤ w ∧ w ≤ 1000
  ord : rises g.pts = true
end Go.Eng.Limb

namespace Go.Eng.Limb
open Go.Eng
end Go.Eng.Limb

namespace Go.Proofs.YtnklkkagpkcmfaaGreatDoor
open Go.Eng
@[simp] theorem tyZ3 : tsz Tryz.prog 3 = some 1 := by kernel_rfl
@[simp] theorem tyA3 : tagg Tryz.prog 3 = some false := by kernel_rfl
@[simp] theorem tyO3 : tzero Tryz.prog 3 = some (.int .i64 0) := by kernel_rfl
@[simp] theorem tyK3 : tok Tryz.prog 3 = some 1 := by kernel_rfl
@[simp] theorem tyY3 : tbytes Tryz.prog 3 = some 8 := by kernel_rfl
@[simp] theorem tyI3 : tint Tryz.prog 3 = some .i64 := by kernel_rfl
@[simp] theorem tyZ4 : tsz Tryz.prog 4 = some 1 := by kernel_rfl
@[simp] theorem tyA4 : tagg Tryz.prog 4 = some false := by kernel_rfl
@[simp] theorem tyB4 : tbool Tryz.prog 4 = true := by kernel_rfl
@[simp] theorem tyO5 : tzero Tryz.prog 5 = some (.int .u8 0) := by kernel_rfl
@[simp] theorem tyK5 : tok Tryz.prog 5 = some 1 := by kernel_rfl
@[simp] theorem tyY5 : tbytes Tryz.prog 5 = some 1 := by kernel_rfl
@[simp] theorem tyZ9 : tsz Tryz.prog 9 = some 1 := by kernel_rfl
@[simp] theorem tyA9 : tagg Tryz.prog 9 = some false := by kernel_rfl
@[simp] theorem tyS9 : tstr Tryz.prog 9 = true := by kernel_rfl
@[simp] theorem tyI9 : tint Tryz.prog 9 = none := by kernel_rfl
@[simp] theorem tyZ25 : tsz Tryz.prog 22 = some 1 := by kernel_rfl
@[simp] theorem tyA25 : tagg Tryz.prog 22 = some false := by kernel_rfl
@[simp] theorem tyE25 : telem Tryz.prog 22 = some 3 := by kernel_rfl
@[simp] theorem tyZ62 : tsz Tryz.prog 41 = some 5 := by kernel_rfl
@[simp] theorem tyA62 : tagg Tryz.prog 41 = some true := by kernel_rfl
@[simp] theorem tyO62 : tzero Tryz.prog 41 = some (.agg [.int .i64 0, .nils, .int .i64 0, .str [], .bool false]) := by kernel_rfl
@[simp] theorem tyK62 : tok Tryz.prog 41 = some 5 := by kernel_rfl
@[simp] theorem tyF62_0 : tfield Tryz.prog 41 0 = some (0, 1, false) := by kernel_rfl
@[simp] theorem tyF62_1 : tfield Tryz.prog 41 1 = some (1, 1, false) := by kernel_rfl
@[simp] theorem tyF62_2 : tfield Tryz.prog 41 2 = some (2, 1, false) := by kernel_rfl
@[simp] theorem tyF62_3 : tfield Tryz.prog 41 3 = some (3, 1, false) := by kernel_rfl
@[simp] theorem tyF62_4 : tfield Tryz.prog 41 4 = some (4, 1, false) := by kernel_rfl
@[simp] theorem tyD62 : tfields Tryz.prog 41 = true := by kernel_rfl
@[simp] theorem tyZ91 : tsz Tryz.prog 37 = some 1 := by kernel_rfl
@[simp] theorem tyA91 : tagg Tryz.prog 37 = some false := by kernel_rfl
@[simp] theorem tyE91 : telem Tryz.prog 37 = some 9 := by kernel_rfl
@[simp] theorem tyZ93 : tsz Tryz.prog 39 = some 17 := by kernel_rfl
@[simp] theorem tyA93 : tagg Tryz.prog 39 = some true := by kernel_rfl
@[simp] theorem tyF93_0 : tfield Tryz.prog 39 0 = some (0, 1, false) := by kernel_rfl
@[simp] theorem tyF93_1 : tfield Tryz.prog 39 1 = some (1, 1, false) := by kernel_rfl
@[simp] theorem tyF93_2 : tfield Tryz.prog 39 2 = some (2, 1, false) := by kernel_rfl
@[simp] theorem tyF93_3 : tfield Tryz.prog 39 3 = some (3, 1, false) := by kernel_rfl
@[simp] theorem tyF93_4 : tfield Tryz.prog 39 4 = some (4, 1, false) := by kernel_rfl
@[simp] theorem tyF93_5 : tfield Tryz.prog 39 5 = some (5, 1, false) := by kernel_rfl
@[simp] theorem tyF93_6 : tfield Tryz.prog 39 6 = some (6, 1, false) := by kernel_rfl
@[simp] theorem tyF93_7 : tfield Tryz.prog 39 7 = some (7, 1, false) := by kernel_rfl
@[simp] theorem tyF93_8 : tfield Tryz.prog 39 8 = some (8, 1, false) := by kernel_rfl
@[simp] theorem tyF93_9 : tfield Tryz.prog 39 9 = some (9, 1, false) := by kernel_rfl
@[simp] theorem tyF93_10 : tfield Tryz.prog 39 10 = some (10, 1, false) := by kernel_rfl
@[simp] theorem tyF93_11 : tfield Tryz.prog 39 11 = some (11, 1, false) := by kernel_rfl
@[simp] theorem tyF93_12 : tfield Tryz.prog 39 12 = some (12, 1, false) := by kernel_rfl
@[simp] theorem tyF93_13 : tfield Tryz.prog 39 13 = some (13, 1, false) := by kernel_rfl
@[simp] theorem tyF93_14 : tfield Tryz.prog 39 14 = some (14, 1, false) := by kernel_rfl
@[simp] theorem tyF93_15 : tfield Tryz.prog 39 15 = some (15, 1, false) := by kernel_rfl
@[simp] theorem tyF93_16 : tfield Tryz.prog 39 16 = some (16, 1, false) := by kernel_rfl
@[simp] theorem tyE162 : telem Tryz.prog 78 = some 5 := by kernel_rfl
@[simp] theorem tyBS162 : tbyteS Tryz.prog 78 = true := by kernel_rfl
@[simp] theorem tyZ230 : tsz Tryz.prog 186 = some 5 := by kernel_rfl
@[simp] theorem tyA230 : tagg Tryz.prog 186 = some true := by kernel_rfl
@[simp] theorem tyO230 : tzero Tryz.prog 186 = some (.agg [.str [], .str [], .str [], .str [], .str []]) := by kernel_rfl
@[simp] theorem tyK230 : tok Tryz.prog 186 = some 5 := by kernel_rfl
@[simp] theorem tyN230 : tarr Tryz.prog 186 = some (5, 1) := by kernel_rfl
@[simp] theorem tyE230 : telem Tryz.prog 186 = none := by kernel_rfl
end Go.Proofs.YtnklkkagpkcmfaaGreatDoor
