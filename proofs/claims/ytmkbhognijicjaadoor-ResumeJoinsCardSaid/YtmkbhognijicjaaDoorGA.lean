import Derived.Test.YtmkbhognijicjaaDoorE8
import Derived.Test.YtmkbhognijicjaaDoorProg
import Derived.KernelRfl
import Derived.IntWalk
/- Joins: the types. No condition. -/
set_option linter.unusedSimpArgs false
namespace Go.Proofs.YtmkbhognijicjaaDoor
open Go.Eng
@[simp] theorem tyZ2 : tsz Tryd.prog 2 = some 1 := by kernel_rfl
@[simp] theorem tyA2 : tagg Tryd.prog 2 = some false := by kernel_rfl
@[simp] theorem tyU2 : (Tryd.prog.underlying 2).isSome = true := by kernel_rfl
@[simp] theorem tyO2 : tzero Tryd.prog 2 = some (.int .i64 0) := by kernel_rfl
@[simp] theorem tyK2 : tok Tryd.prog 2 = some 1 := by kernel_rfl
@[simp] theorem tyY2 : tbytes Tryd.prog 2 = some 8 := by kernel_rfl
@[simp] theorem tyI2 : tint Tryd.prog 2 = some .i64 := by kernel_rfl
@[simp] theorem tyZ3 : tsz Tryd.prog 3 = some 1 := by kernel_rfl
@[simp] theorem tyA3 : tagg Tryd.prog 3 = some false := by kernel_rfl
@[simp] theorem tyU3 : (Tryd.prog.underlying 3).isSome = true := by kernel_rfl
@[simp] theorem tyO3 : tzero Tryd.prog 3 = some (.int .i64 0) := by kernel_rfl
@[simp] theorem tyK3 : tok Tryd.prog 3 = some 1 := by kernel_rfl
@[simp] theorem tyY3 : tbytes Tryd.prog 3 = some 8 := by kernel_rfl
@[simp] theorem tyI3 : tint Tryd.prog 3 = some .i64 := by kernel_rfl
@[simp] theorem tyZ4 : tsz Tryd.prog 4 = some 1 := by kernel_rfl
@[simp] theorem tyA4 : tagg Tryd.prog 4 = some false := by kernel_rfl
@[simp] theorem tyU4 : (Tryd.prog.underlying 4).isSome = true := by kernel_rfl
@[simp] theorem tyO4 : tzero Tryd.prog 4 = some (.bool false) := by kernel_rfl
@[simp] theorem tyK4 : tok Tryd.prog 4 = some 1 := by kernel_rfl
@[simp] theorem tyY4 : tbytes Tryd.prog 4 = some 1 := by kernel_rfl
@[simp] theorem tyB4 : tbool Tryd.prog 4 = true := by kernel_rfl
@[simp] theorem tyZ5 : tsz Tryd.prog 5 = some 1 := by kernel_rfl
@[simp] theorem tyA5 : tagg Tryd.prog 5 = some false := by kernel_rfl
@[simp] theorem tyU5 : (Tryd.prog.underlying 5).isSome = true := by kernel_rfl
@[simp] theorem tyO5 : tzero Tryd.prog 5 = some (.int .u8 0) := by kernel_rfl
@[simp] theorem tyK5 : tok Tryd.prog 5 = some 1 := by kernel_rfl
@[simp] theorem tyY5 : tbytes Tryd.prog 5 = some 1 := by kernel_rfl
@[simp] theorem tyW5 : tz8 Tryd.prog 5 = true := by kernel_rfl
@[simp] theorem tyI5 : tint Tryd.prog 5 = some .u8 := by kernel_rfl
@[simp] theorem tyZ9 : tsz Tryd.prog 9 = some 1 := by kernel_rfl
@[simp] theorem tyA9 : tagg Tryd.prog 9 = some false := by kernel_rfl
@[simp] theorem tyU9 : (Tryd.prog.underlying 9).isSome = true := by kernel_rfl
@[simp] theorem tyO9 : tzero Tryd.prog 9 = some (.str []) := by kernel_rfl
@[simp] theorem tyK9 : tok Tryd.prog 9 = some 1 := by kernel_rfl
@[simp] theorem tyY9 : tbytes Tryd.prog 9 = some 16 := by kernel_rfl
@[simp] theorem tyS9 : tstr Tryd.prog 9 = true := by kernel_rfl
@[simp] theorem tyI9 : tint Tryd.prog 9 = none := by kernel_rfl
@[simp] theorem tyC9 : tconc Tryd.prog 9 = true := by kernel_rfl
@[simp] theorem tyZ17 : tsz Tryd.prog 17 = some 1 := by kernel_rfl
@[simp] theorem tyA17 : tagg Tryd.prog 17 = some false := by kernel_rfl
@[simp] theorem tyU17 : (Tryd.prog.underlying 17).isSome = true := by kernel_rfl
@[simp] theorem tyO17 : tzero Tryd.prog 17 = some (.nilp) := by kernel_rfl
@[simp] theorem tyK17 : tok Tryd.prog 17 = some 1 := by kernel_rfl
@[simp] theorem tyY17 : tbytes Tryd.prog 17 = some 8 := by kernel_rfl
@[simp] theorem tyZ20 : tsz Tryd.prog 20 = some 1 := by kernel_rfl
@[simp] theorem tyA20 : tagg Tryd.prog 20 = some false := by kernel_rfl
@[simp] theorem tyU20 : (Tryd.prog.underlying 20).isSome = true := by kernel_rfl
@[simp] theorem tyO20 : tzero Tryd.prog 20 = some (.nili) := by kernel_rfl
@[simp] theorem tyK20 : tok Tryd.prog 20 = some 1 := by kernel_rfl
@[simp] theorem tyY20 : tbytes Tryd.prog 20 = some 16 := by kernel_rfl
@[simp] theorem tyZ22 : tsz Tryd.prog 22 = some 1 := by kernel_rfl
@[simp] theorem tyA22 : tagg Tryd.prog 22 = some false := by kernel_rfl
@[simp] theorem tyU22 : (Tryd.prog.underlying 22).isSome = true := by kernel_rfl
@[simp] theorem tyO22 : tzero Tryd.prog 22 = some (.nils) := by kernel_rfl
@[simp] theorem tyK22 : tok Tryd.prog 22 = some 1 := by kernel_rfl
@[simp] theorem tyY22 : tbytes Tryd.prog 22 = some 24 := by kernel_rfl
@[simp] theorem tyE22 : telem Tryd.prog 22 = some 33 := by kernel_rfl
@[simp] theorem tyZ23 : tsz Tryd.prog 23 = some 1 := by kernel_rfl
@[simp] theorem tyA23 : tagg Tryd.prog 23 = some false := by kernel_rfl
@[simp] theorem tyU23 : (Tryd.prog.underlying 23).isSome = true := by kernel_rfl
@[simp] theorem tyO23 : tzero Tryd.prog 23 = some (.nils) := by kernel_rfl
@[simp] theorem tyK23 : tok Tryd.prog 23 = some 1 := by kernel_rfl
@[simp] theorem tyY23 : tbytes Tryd.prog 23 = some 24 := by kernel_rfl
@[simp] theorem tyE23 : telem Tryd.prog 23 = some 5 := by kernel_rfl
@[simp] theorem tyBS23 : tbyteS Tryd.prog 23 = true := by kernel_rfl
@[simp] theorem tyZ24 : tsz Tryd.prog 24 = some 1 := by kernel_rfl
@[simp] theorem tyA24 : tagg Tryd.prog 24 = some false := by kernel_rfl
@[simp] theorem tyU24 : (Tryd.prog.underlying 24).isSome = true := by kernel_rfl
@[simp] theorem tyO24 : tzero Tryd.prog 24 = some (.int .i64 0) := by kernel_rfl
@[simp] theorem tyK24 : tok Tryd.prog 24 = some 1 := by kernel_rfl
@[simp] theorem tyY24 : tbytes Tryd.prog 24 = some 8 := by kernel_rfl
@[simp] theorem tyI24 : tint Tryd.prog 24 = some .i64 := by kernel_rfl
@[simp] theorem tyZ27 : tsz Tryd.prog 27 = some 1 := by kernel_rfl
@[simp] theorem tyA27 : tagg Tryd.prog 27 = some false := by kernel_rfl
@[simp] theorem tyU27 : (Tryd.prog.underlying 27).isSome = true := by kernel_rfl
@[simp] theorem tyO27 : tzero Tryd.prog 27 = some (.nils) := by kernel_rfl
@[simp] theorem tyK27 : tok Tryd.prog 27 = some 1 := by kernel_rfl
@[simp] theorem tyY27 : tbytes Tryd.prog 27 = some 24 := by kernel_rfl
@[simp] theorem tyE27 : telem Tryd.prog 27 = some 3 := by kernel_rfl
@[simp] theorem tyZ29 : tsz Tryd.prog 29 = some 5 := by kernel_rfl
@[simp] theorem tyA29 : tagg Tryd.prog 29 = some true := by kernel_rfl
@[simp] theorem tyU29 : (Tryd.prog.underlying 29).isSome = true := by kernel_rfl
@[simp] theorem tyO29 : tzero Tryd.prog 29 = some (.agg [.int .i64 0, .nils, .int .i64 0, .str [], .bool false]) := by kernel_rfl
@[simp] theorem tyK29 : tok Tryd.prog 29 = some 5 := by kernel_rfl
@[simp] theorem tyY29 : tbytes Tryd.prog 29 = some 64 := by kernel_rfl
@[simp] theorem tyF29_0 : tfield Tryd.prog 29 0 = some (0, 1, false) := by kernel_rfl
@[simp] theorem tyF29_1 : tfield Tryd.prog 29 1 = some (1, 1, false) := by kernel_rfl
@[simp] theorem tyF29_2 : tfield Tryd.prog 29 2 = some (2, 1, false) := by kernel_rfl
@[simp] theorem tyF29_3 : tfield Tryd.prog 29 3 = some (3, 1, false) := by kernel_rfl
@[simp] theorem tyF29_4 : tfield Tryd.prog 29 4 = some (4, 1, false) := by kernel_rfl
@[simp] theorem tyD29 : tfields Tryd.prog 29 = true := by kernel_rfl
@[simp] theorem tyZ31 : tsz Tryd.prog 31 = some 4 := by kernel_rfl
@[simp] theorem tyA31 : tagg Tryd.prog 31 = some true := by kernel_rfl
@[simp] theorem tyU31 : (Tryd.prog.underlying 31).isSome = true := by kernel_rfl
@[simp] theorem tyO31 : tzero Tryd.prog 31 = some (.agg [.int .i64 0, .int .i64 0, .int .i64 0, .int .i64 0]) := by kernel_rfl
@[simp] theorem tyK31 : tok Tryd.prog 31 = some 4 := by kernel_rfl
@[simp] theorem tyY31 : tbytes Tryd.prog 31 = some 32 := by kernel_rfl
@[simp] theorem tyF31_0 : tfield Tryd.prog 31 0 = some (0, 1, false) := by kernel_rfl
@[simp] theorem tyF31_1 : tfield Tryd.prog 31 1 = some (1, 1, false) := by kernel_rfl
@[simp] theorem tyF31_2 : tfield Tryd.prog 31 2 = some (2, 1, false) := by kernel_rfl
@[simp] theorem tyF31_3 : tfield Tryd.prog 31 3 = some (3, 1, false) := by kernel_rfl
@[simp] theorem tyD31 : tfields Tryd.prog 31 = true := by kernel_rfl
@[simp] theorem tyL31 : tflat Tryd.prog 31 = some [0, 0, 0, 0] := by kernel_rfl
@[simp] theorem tyZ33 : tsz Tryd.prog 33 = some 11 := by kernel_rfl
@[simp] theorem tyA33 : tagg Tryd.prog 33 = some true := by kernel_rfl
@[simp] theorem tyU33 : (Tryd.prog.underlying 33).isSome = true := by kernel_rfl
@[simp] theorem tyO33 : tzero Tryd.prog 33 = some (.agg [.int .i64 0, .int .i64 0, .int .i64 0, .nils, .int .i64 0, .str [], .bool false, .int .i64 0, .int .i64 0, .int .i64 0, .int .i64 0]) := by kernel_rfl
@[simp] theorem tyK33 : tok Tryd.prog 33 = some 11 := by kernel_rfl
@[simp] theorem tyY33 : tbytes Tryd.prog 33 = some 112 := by kernel_rfl
@[simp] theorem tyF33_0 : tfield Tryd.prog 33 0 = some (0, 1, false) := by kernel_rfl
@[simp] theorem tyF33_1 : tfield Tryd.prog 33 1 = some (1, 1, false) := by kernel_rfl
@[simp] theorem tyF33_2 : tfield Tryd.prog 33 2 = some (2, 5, true) := by kernel_rfl
@[simp] theorem tyF33_3 : tfield Tryd.prog 33 3 = some (7, 4, true) := by kernel_rfl
@[simp] theorem tyD33 : tfields Tryd.prog 33 = true := by kernel_rfl
@[simp] theorem tyZ37 : tsz Tryd.prog 37 = some 1 := by kernel_rfl
@[simp] theorem tyA37 : tagg Tryd.prog 37 = some false := by kernel_rfl
@[simp] theorem tyU37 : (Tryd.prog.underlying 37).isSome = true := by kernel_rfl
@[simp] theorem tyO37 : tzero Tryd.prog 37 = some (.nils) := by kernel_rfl
@[simp] theorem tyK37 : tok Tryd.prog 37 = some 1 := by kernel_rfl
@[simp] theorem tyY37 : tbytes Tryd.prog 37 = some 24 := by kernel_rfl
@[simp] theorem tyE37 : telem Tryd.prog 37 = some 39 := by kernel_rfl
@[simp] theorem tyZ39 : tsz Tryd.prog 39 = some 5 := by kernel_rfl
@[simp] theorem tyA39 : tagg Tryd.prog 39 = some true := by kernel_rfl
@[simp] theorem tyU39 : (Tryd.prog.underlying 39).isSome = true := by kernel_rfl
@[simp] theorem tyO39 : tzero Tryd.prog 39 = some (.agg [.int .i64 0, .int .i64 0, .int .i64 0, .str [], .nils]) := by kernel_rfl
@[simp] theorem tyK39 : tok Tryd.prog 39 = some 5 := by kernel_rfl
@[simp] theorem tyY39 : tbytes Tryd.prog 39 = some 64 := by kernel_rfl
@[simp] theorem tyF39_0 : tfield Tryd.prog 39 0 = some (0, 1, false) := by kernel_rfl
@[simp] theorem tyF39_1 : tfield Tryd.prog 39 1 = some (1, 1, false) := by kernel_rfl
@[simp] theorem tyF39_2 : tfield Tryd.prog 39 2 = some (2, 1, false) := by kernel_rfl
@[simp] theorem tyF39_3 : tfield Tryd.prog 39 3 = some (3, 1, false) := by kernel_rfl
@[simp] theorem tyF39_4 : tfield Tryd.prog 39 4 = some (4, 1, false) := by kernel_rfl
@[simp] theorem tyD39 : tfields Tryd.prog 39 = true := by kernel_rfl
@[simp] theorem tyZ53 : tsz Tryd.prog 53 = some 1 := by kernel_rfl
@[simp] theorem tyA53 : tagg Tryd.prog 53 = some false := by kernel_rfl
@[simp] theorem tyU53 : (Tryd.prog.underlying 53).isSome = true := by kernel_rfl
@[simp] theorem tyO53 : tzero Tryd.prog 53 = some (.int .u64 0) := by kernel_rfl
@[simp] theorem tyK53 : tok Tryd.prog 53 = some 1 := by kernel_rfl
@[simp] theorem tyY53 : tbytes Tryd.prog 53 = some 8 := by kernel_rfl
@[simp] theorem tyI53 : tint Tryd.prog 53 = some .u64 := by kernel_rfl
@[simp] theorem tyZ60 : tsz Tryd.prog 60 = some 1 := by kernel_rfl
@[simp] theorem tyA60 : tagg Tryd.prog 60 = some false := by kernel_rfl
@[simp] theorem tyU60 : (Tryd.prog.underlying 60).isSome = true := by kernel_rfl
@[simp] theorem tyO60 : tzero Tryd.prog 60 = some (.nili) := by kernel_rfl
@[simp] theorem tyK60 : tok Tryd.prog 60 = some 1 := by kernel_rfl
@[simp] theorem tyY60 : tbytes Tryd.prog 60 = some 16 := by kernel_rfl
@[simp] theorem tyZ64 : tsz Tryd.prog 64 = some 1 := by kernel_rfl
@[simp] theorem tyA64 : tagg Tryd.prog 64 = some true := by kernel_rfl
@[simp] theorem tyU64 : (Tryd.prog.underlying 64).isSome = true := by kernel_rfl
@[simp] theorem tyO64 : tzero Tryd.prog 64 = some (.agg [.int .i64 0]) := by kernel_rfl
@[simp] theorem tyK64 : tok Tryd.prog 64 = some 1 := by kernel_rfl
@[simp] theorem tyY64 : tbytes Tryd.prog 64 = some 8 := by kernel_rfl
@[simp] theorem tyC64 : tconc Tryd.prog 64 = true := by kernel_rfl
@[simp] theorem tyF64_0 : tfield Tryd.prog 64 0 = some (0, 1, false) := by kernel_rfl
@[simp] theorem tyD64 : tfields Tryd.prog 64 = true := by kernel_rfl
@[simp] theorem tyL64 : tflat Tryd.prog 64 = some [0] := by kernel_rfl
@[simp] theorem tyZ66 : tsz Tryd.prog 66 = some 1 := by kernel_rfl
@[simp] theorem tyA66 : tagg Tryd.prog 66 = some false := by kernel_rfl
@[simp] theorem tyU66 : (Tryd.prog.underlying 66).isSome = true := by kernel_rfl
@[simp] theorem tyO66 : tzero Tryd.prog 66 = some (.nilp) := by kernel_rfl
@[simp] theorem tyK66 : tok Tryd.prog 66 = some 1 := by kernel_rfl
@[simp] theorem tyY66 : tbytes Tryd.prog 66 = some 8 := by kernel_rfl
@[simp] theorem tyC66 : tconc Tryd.prog 66 = true := by kernel_rfl
@[simp] theorem tyZ73 : tsz Tryd.prog 73 = some 1 := by kernel_rfl
@[simp] theorem tyA73 : tagg Tryd.prog 73 = some false := by kernel_rfl
@[simp] theorem tyU73 : (Tryd.prog.underlying 73).isSome = true := by kernel_rfl
@[simp] theorem tyO73 : tzero Tryd.prog 73 = some (.nilp) := by kernel_rfl
@[simp] theorem tyK73 : tok Tryd.prog 73 = some 1 := by kernel_rfl
@[simp] theorem tyY73 : tbytes Tryd.prog 73 = some 8 := by kernel_rfl
@[simp] theorem tyZ74 : tsz Tryd.prog 74 = some 1 := by kernel_rfl
@[simp] theorem tyA74 : tagg Tryd.prog 74 = some false := by kernel_rfl
@[simp] theorem tyU74 : (Tryd.prog.underlying 74).isSome = true := by kernel_rfl
@[simp] theorem tyO74 : tzero Tryd.prog 74 = some (.int .u64 0) := by kernel_rfl
@[simp] theorem tyK74 : tok Tryd.prog 74 = some 1 := by kernel_rfl
@[simp] theorem tyY74 : tbytes Tryd.prog 74 = some 8 := by kernel_rfl
@[simp] theorem tyI74 : tint Tryd.prog 74 = some .u64 := by kernel_rfl
@[simp] theorem tyZ76 : tsz Tryd.prog 76 = some 3 := by kernel_rfl
@[simp] theorem tyA76 : tagg Tryd.prog 76 = some true := by kernel_rfl
@[simp] theorem tyU76 : (Tryd.prog.underlying 76).isSome = true := by kernel_rfl
@[simp] theorem tyO76 : tzero Tryd.prog 76 = some (.agg [.nilp, .nilp, .int .u64 0]) := by kernel_rfl
@[simp] theorem tyK76 : tok Tryd.prog 76 = some 3 := by kernel_rfl
@[simp] theorem tyY76 : tbytes Tryd.prog 76 = some 24 := by kernel_rfl
@[simp] theorem tyF76_0 : tfield Tryd.prog 76 0 = some (0, 1, false) := by kernel_rfl
@[simp] theorem tyF76_1 : tfield Tryd.prog 76 1 = some (1, 1, false) := by kernel_rfl
@[simp] theorem tyF76_2 : tfield Tryd.prog 76 2 = some (2, 1, false) := by kernel_rfl
@[simp] theorem tyD76 : tfields Tryd.prog 76 = true := by kernel_rfl
@[simp] theorem tyZ79 : tsz Tryd.prog 79 = some 1 := by kernel_rfl
@[simp] theorem tyA79 : tagg Tryd.prog 79 = some false := by kernel_rfl
@[simp] theorem tyU79 : (Tryd.prog.underlying 79).isSome = true := by kernel_rfl
@[simp] theorem tyO79 : tzero Tryd.prog 79 = some (.nili) := by kernel_rfl
@[simp] theorem tyK79 : tok Tryd.prog 79 = some 1 := by kernel_rfl
@[simp] theorem tyY79 : tbytes Tryd.prog 79 = some 16 := by kernel_rfl
@[simp] theorem tyZ81 : tsz Tryd.prog 81 = some 1 := by kernel_rfl
@[simp] theorem tyA81 : tagg Tryd.prog 81 = some false := by kernel_rfl
@[simp] theorem tyU81 : (Tryd.prog.underlying 81).isSome = true := by kernel_rfl
@[simp] theorem tyO81 : tzero Tryd.prog 81 = some (.int .u8 0) := by kernel_rfl
@[simp] theorem tyK81 : tok Tryd.prog 81 = some 1 := by kernel_rfl
@[simp] theorem tyY81 : tbytes Tryd.prog 81 = some 1 := by kernel_rfl
@[simp] theorem tyW81 : tz8 Tryd.prog 81 = true := by kernel_rfl
@[simp] theorem tyI81 : tint Tryd.prog 81 = some .u8 := by kernel_rfl
@[simp] theorem tyZ90 : tsz Tryd.prog 90 = some 1 := by kernel_rfl
@[simp] theorem tyA90 : tagg Tryd.prog 90 = some false := by kernel_rfl
@[simp] theorem tyU90 : (Tryd.prog.underlying 90).isSome = true := by kernel_rfl
@[simp] theorem tyO90 : tzero Tryd.prog 90 = some (.int .i64 0) := by kernel_rfl
@[simp] theorem tyK90 : tok Tryd.prog 90 = some 1 := by kernel_rfl
@[simp] theorem tyY90 : tbytes Tryd.prog 90 = some 8 := by kernel_rfl
@[simp] theorem tyI90 : tint Tryd.prog 90 = some .i64 := by kernel_rfl
@[simp] theorem tyC90 : tconc Tryd.prog 90 = true := by kernel_rfl
@[simp] theorem tyZ93 : tsz Tryd.prog 93 = some 3 := by kernel_rfl
@[simp] theorem tyA93 : tagg Tryd.prog 93 = some true := by kernel_rfl
@[simp] theorem tyU93 : (Tryd.prog.underlying 93).isSome = true := by kernel_rfl
@[simp] theorem tyO93 : tzero Tryd.prog 93 = some (.agg [.nils, .int .i64 0, .int .i64 0]) := by kernel_rfl
@[simp] theorem tyK93 : tok Tryd.prog 93 = some 3 := by kernel_rfl
@[simp] theorem tyY93 : tbytes Tryd.prog 93 = some 40 := by kernel_rfl
@[simp] theorem tyF93_0 : tfield Tryd.prog 93 0 = some (0, 1, false) := by kernel_rfl
@[simp] theorem tyF93_1 : tfield Tryd.prog 93 1 = some (1, 1, false) := by kernel_rfl
@[simp] theorem tyF93_2 : tfield Tryd.prog 93 2 = some (2, 1, false) := by kernel_rfl
@[simp] theorem tyD93 : tfields Tryd.prog 93 = true := by kernel_rfl
@[simp] theorem tyZ109 : tsz Tryd.prog 109 = some 1 := by kernel_rfl
@[simp] theorem tyA109 : tagg Tryd.prog 109 = some false := by kernel_rfl
@[simp] theorem tyU109 : (Tryd.prog.underlying 109).isSome = true := by kernel_rfl
@[simp] theorem tyO109 : tzero Tryd.prog 109 = some (.nilp) := by kernel_rfl
@[simp] theorem tyK109 : tok Tryd.prog 109 = some 1 := by kernel_rfl
@[simp] theorem tyY109 : tbytes Tryd.prog 109 = some 8 := by kernel_rfl

end Go.Proofs.YtmkbhognijicjaaDoor

/- Resume: the types, trees, and the contracts of the functions on trees. No condition. -/
set_option linter.unusedSimpArgs false
set_option maxRecDepth 4000
namespace Go.Proofs.YtmkbhognijicjaaDoor
open Go.Eng
theorem hmix : Tryd.prog.follows .mixedOrders = true := by kernel_rfl
theorem wrap_succ {k : Nat} (h : (k : Int) < 9223372036854775807) : IntKind.i64.wrap ((k : Int) + 1) = ((k + 1 : Nat) : Int) := by
  rw [IntKind.wrap_i64]; omega
theorem wrap_in {x : Int} (h1 : -9223372036854775808 ≤ x) (h2 : x < 9223372036854775808) : IntKind.i64.wrap x = x := by
  rw [IntKind.wrap_i64]; omega

/-- Trees. -/
inductive Nd where
  | mk (tag kind n : Int) (s : List UInt8) (kids : List Nd)
def Nd.kids : Nd → List Nd
  | .mk _ _ _ _ ks => ks
def Nd.v : Nd → V
  | .mk t k n s ks => .agg [.int .i64 t, .int .i64 k, .int .i64 n, .str s, .ro 5 (ks.map Nd.v)]
theorem Nd.kid_lt {t k n : Int} {s : List UInt8} {ks : List Nd} {x : Nd} (h : x ∈ ks) : SizeOf.sizeOf x < SizeOf.sizeOf (Nd.mk t k n s ks) := by
  have := List.sizeOf_lt_of_mem h
  simp only [Nd.mk.sizeOf_spec]
  omega
theorem Nd.v_pure (x : Nd) : x.v.pureE = true := by
  obtain ⟨t, k, n, s, ks⟩ := x
  rw [Nd.v]; rfl
theorem pureN (l : List Nd) : (l.map Nd.v).all V.pureE = true := by
  rw [List.all_eq_true]
  intro x hx
  simp only [List.mem_map] at hx
  obtain ⟨y, _, rfl⟩ := hx
  exact y.v_pure
theorem nthN {l : List Nd} {k : Nat} (h : k < l.length) : nth (l.map Nd.v) k = some l[k].v := by rw [nth_eq]; simp [h]

/-- What the count of a tree's nodes says. -/
def Fine (x : Nd) : Prop := x.kids.length ≤ 39 ∧ ∀ y ∈ x.kids, y.kids.length ≤ 39
end Go.Proofs.YtmkbhognijicjaaDoor

/- Resume: copies of trees, and the functions that make nodes. No condition. -/
set_option linter.unusedSimpArgs false
set_option maxRecDepth 4000
namespace Go.Proofs.YtmkbhognijicjaaDoor
open Go.Eng

/-- Trees of few children. -/
inductive Sm : Nd → Prop
  | mk {t k n : Int} {s : List UInt8} {ks : List Nd} (h : ks.length ≤ 1000) (hk : ∀ x ∈ ks, Sm x) : Sm (.mk t k n s ks)
def zN : V := .agg [.int .i64 0, .int .i64 0, .int .i64 0, .str [], .nils]

set_option maxHeartbeats 1000000 in
theorem copies_ac : ∀ (m : Nat) (l : List Nd), SizeOf.sizeOf l < m → l.length ≤ 1000 → (∀ x ∈ l, Sm x) → AC Tryd.prog 25 [.ro 5 (l.map Nd.v)] (fun r => r = .ro 5 (l.map Nd.v)) := by
  intro m
  induction m with
  | zero => intro l h; omega
  | succ m ih =>
  intro l hm hl hs
  have ih' : ∀ x ∈ l, AC Tryd.prog 25 [.ro 5 (x.kids.map Nd.v)] (fun r => r = .ro 5 (x.kids.map Nd.v)) := by
    intro x hx
    have := List.sizeOf_lt_of_mem hx
    have hsx := hs x hx
    obtain ⟨h1, h2⟩ := hsx
    rename_i t k n s ks
    have h3 : SizeOf.sizeOf ks < SizeOf.sizeOf (Nd.mk t k n s ks) := by simp only [Nd.mk.sizeOf_spec]; omega
    exact ih ks (by omega) h1 h2
  have hga := fun (k : Nat) (h : k < l.length) => nthN h
  have hla : (l.map Nd.v).length = l.length := by simp
  have hp := pureN l
  generalize l.map Nd.v = lv at hga hla hp
  by_cases he : lv.length = 0
  · have he' : lv = [] := List.length_eq_zero_iff.1 he
    subst he'
    refine AC.relax (v := .nils) ?_ (Relax.nils 5)
    refine ac_intro Tryd.func25 rfl (by show (1 : Nat) ≤ 32; omega) (fun w0 N0 => ?_)
    refine aw_step [0] [] (by simp [Tryd.ntmps25] <;> rfl) ?_   -- codec.go:27
    refine aw_seq ?_
    refine aw_step [0, 8] [] (by simp <;> rfl) ?_   -- codec.go:28
    refine aw_cond rfl (fun h1 => ?_) (fun h1 => by simp at h1)   -- if t8
    refine aw_step [2] [] (by simp <;> rfl) ?_   -- codec.go:29
    exact aw_ret (ends_ret (by simp [Tryd.results25] <;> rfl) rfl)
  have he2 : ¬ lv = [] := fun h => he (by rw [h]; rfl)
  refine ac_intro Tryd.func25 rfl (by show (1 : Nat) ≤ 32; omega) (fun w0 N0 => ?_)
  refine aw_step [0] [] (by simp [Tryd.ntmps25] <;> rfl) ?_   -- codec.go:27
  refine aw_seq ?_
  refine aw_step [0, 8] [] (by simp <;> rfl) ?_   -- codec.go:28
  refine aw_cond rfl (fun h1 => by simp [he2] at h1) (fun h1 => aw_skip ?_)   -- if t8
  have hb1 : (lv.length : Int) ≤ 9223372036854775807 := by omega
  have hb2 : 64 * (lv.length : Int) ≤ 281474976710656 := by omega
  refine aw_step [0, 3] [11] (by simp [hb1, hb2] <;> rfl) ?_   -- codec.go:31
  refine aw_seq ?_
  refine aw_step [3, 12, 13, 14] [11] (by simp <;> rfl) ?_   -- codec.go:32
  refine aw_block ?_
  refine aw_count (fun k nx => ⟨[(3, .sl 11 6 5 lv.length), (12, .ro 5 lv), (13, .int .i64 lv.length), (14, .int .i64 k)], [(11, ⟨6, 5, 39, fillK lv zN k⟩)], nx, 32⟩) (fun k => True) l.length _ trivial (by rw [fillK_zero]; exact AS.le_refl _) ?_
  intro k nx hk hI
  have hfl := fillK_len lv zN k (by omega)
  refine aw_step [3, 12, 13, 14, 15] [11] (by simp <;> rfl) ?_   -- codec.go:32
  refine aw_seq ?_
  refine aw_cond rfl (fun h2 => aw_skip ?_) (fun h2 => ?_)   -- if t15
  · have hlt : k < l.length := by simp at h2; omega
    have hlt' : k < lv.length := by omega
    have ga := hga k hlt
    have hc := ih' l[k] (List.getElem_mem hlt)
    have hpk := pureN l[k].kids
    have hset := fillK_set lv zN k hlt' (x := l[k].v) (by rw [← nth_eq]; exact ga)
    have hz : nth (fillK lv zN k) k = some (.agg [.int .i64 0, .int .i64 0, .int .i64 0, .str [], .nils]) := fillK_nth lv zN k hlt'
    have hw := wrap_succ (k := k) (by omega)
    rcases hka : l[k] with ⟨t2, k2, n2, s2, ks2⟩
    rw [hka] at ga hc hset hpk
    rw [Nd.v] at ga hset
    simp only [Nd.kids] at hc hpk
    generalize ks2.map Nd.v = kv2 at ga hc hset hpk
    have hn1 := nth_set (l := fillK lv zN k) (k := k) (x := .agg [.int .i64 t2, .int .i64 k2, .int .i64 n2, .str s2, .ro 5 kv2]) (by omega)
    generalize fillK lv zN k = row at hz hset hfl hn1 ⊢
    rw [hset] at hn1
    have hset2 : (fillK lv zN (k + 1)).set k (.agg [.int .i64 t2, .int .i64 k2, .int .i64 n2, .str s2, .ro 5 kv2]) = fillK lv zN (k + 1) := by rw [← hset]; simp
    refine aw_seq ?_
    refine aw_block ?_
    refine aw_step [3, 4, 5, 12, 13, 14] [11, 5] (by simp [ga, hlt'] <;> rfl) ?_   -- codec.go:32
    refine aw_step [3, 4, 5, 12, 13, 14] [11, 5] (by simp [hlt', hz, hfl] <;> rfl) ?_   -- codec.go:33
    refine aw_region ?_   -- codec.go:34
    refine awl_go 4 (by simp <;> rfl) ?_
    refine awl_call1 hc Tryd.func25 rfl (by kernel_rfl) rfl rfl rfl rfl rfl (by simp <;> rfl) ?_
    refine awl_end [3, 12, 13, 14] [11] (by simp [hlt', hfl, hset, hn1, hset2] <;> rfl) ?_
    refine aw_one [3, 12, 13, 14] [11] (by simp [hw] <;> rfl) ?_   -- codec.go:32
    exact ⟨hlt, trivial, _, AS.le_refl _⟩
  · refine aw_exit ?_
    have hkl : k = lv.length := by simp at h2; omega
    rw [fillK_all lv zN k (by omega)]
    refine aw_step [2] [11] (by simp <;> rfl) ?_   -- codec.go:36
    exact aw_ret (ends_ret (by simp [Tryd.results25, hp] <;> rfl) rfl)
end Go.Proofs.YtmkbhognijicjaaDoor

/- Resume: the functions that make nodes. No condition. -/
set_option linter.unusedSimpArgs false
set_option maxRecDepth 4000
namespace Go.Proofs.YtmkbhognijicjaaDoor
open Go.Eng

theorem relax_node (a b c : Int) (s : List UInt8) : Relax (.agg [.int .i64 a, .int .i64 b, .int .i64 c, .str s, .nils]) (Nd.mk a b c s []).v := by
  rw [Nd.v]
  exact Relax.agg (.cons (Relax.refl _) (.cons (Relax.refl _) (.cons (Relax.refl _) (.cons (Relax.refl _) (.cons (Relax.nils 5) .nil)))))

theorem int_ac (t n : Int) : AC Tryd.prog 23 [.int .i64 t, .int .i64 n] (fun r => r = (Nd.mk t 1 n [] []).v) := by
  refine AC.relax (v := .agg [.int .i64 t, .int .i64 1, .int .i64 n, .str [], .nils]) ?_ (relax_node _ _ _ _)
  refine ac_intro Tryd.func23 rfl (by show (2 : Nat) ≤ 8; omega) (fun w0 N0 => ?_)
  refine aw_step [0, 1, 4] [4] (by simp [Tryd.ntmps23] <;> rfl) ?_   -- codec.go:12
  refine aw_step [4] [4] (by simp <;> rfl) ?_   -- codec.go:13
  exact aw_ret (ends_ret (by simp [Tryd.results23] <;> rfl) rfl)
theorem string_ac (t : Int) (s : List UInt8) : AC Tryd.prog 24 [.int .i64 t, .str s] (fun r => r = (Nd.mk t 2 0 s []).v) := by
  refine AC.relax (v := .agg [.int .i64 t, .int .i64 2, .int .i64 0, .str s, .nils]) ?_ (relax_node _ _ _ _)
  refine ac_intro Tryd.func24 rfl (by show (2 : Nat) ≤ 8; omega) (fun w0 N0 => ?_)
  refine aw_step [0, 1, 4] [4] (by simp [Tryd.ntmps24] <;> rfl) ?_
  refine aw_step [4] [4] (by simp <;> rfl) ?_
  exact aw_ret (ends_ret (by simp [Tryd.results24] <;> rfl) rfl)
theorem number_ac (t n : Int) : AC Tryd.prog 12 [.int .i64 t, .int .i64 n] (fun r => r = (Nd.mk t 1 n [] []).v) := by
  have hc := int_ac t n
  simp only [Nd.v, List.map_nil] at hc ⊢
  refine ac_intro Tryd.func12 rfl (by show (2 : Nat) ≤ 8; omega) (fun w0 N0 => ?_)
  refine aw_step [0, 1, 4] [4] (by simp [Tryd.ntmps12] <;> rfl) ?_   -- resume.go:34
  refine aw_seq (aw_region ?_)   -- resume.go:35
  refine awl_go 2 (by simp <;> rfl) ?_
  refine awl_call1 hc Tryd.func23 rfl (by kernel_rfl) rfl rfl rfl rfl rfl (by simp <;> rfl) ?_
  refine awl_end [4] [4] (by simp <;> rfl) ?_
  exact aw_ret (ends_ret (by simp [Tryd.results12] <;> rfl) rfl)
theorem list_ac (t : Int) (l : List Nd) (hl : l.length ≤ 1000) (hs : ∀ x ∈ l, Sm x) : AC Tryd.prog 14 [.int .i64 t, .ro 5 (l.map Nd.v)] (fun r => r = (Nd.mk t 3 0 [] l).v) := by
  have hc := copies_ac _ l (Nat.lt_succ_self _) hl hs
  have hp := pureN l
  rw [Nd.v]
  generalize l.map Nd.v = lv at hc hp
  refine ac_intro Tryd.func14 rfl (by show (2 : Nat) ≤ 9; omega) (fun w0 N0 => ?_)
  refine aw_step [0, 1, 4] [4] (by simp [Tryd.ntmps14] <;> rfl) ?_   -- codec.go:22
  refine aw_seq (aw_region ?_)   -- codec.go:23
  refine awl_go 2 (by simp <;> rfl) ?_
  refine awl_call1 hc Tryd.func25 rfl (by kernel_rfl) rfl rfl rfl rfl rfl (by simp <;> rfl) ?_
  refine awl_end [4] [4] (by simp <;> rfl) ?_
  exact aw_ret (ends_ret (by simp [Tryd.results14] <;> rfl) rfl)

end Go.Proofs.YtmkbhognijicjaaDoor
