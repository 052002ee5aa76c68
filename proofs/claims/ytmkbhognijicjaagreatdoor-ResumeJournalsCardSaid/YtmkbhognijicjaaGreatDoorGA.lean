import Derived.Test.YtmkbhognijicjaaGreatDoorE8
import Derived.Test.YtmkbhognijicjaaGreatDoorProg
import Derived.KernelRfl
import Derived.IntWalk
/- Journals: the types. No condition. -/
set_option linter.unusedSimpArgs false
namespace Go.Proofs.YtmkbhognijicjaaGreatDoor
open Go.Eng
@[simp] theorem tyZ2 : tsz Tryz.prog 2 = some 1 := by kernel_rfl
@[simp] theorem tyA2 : tagg Tryz.prog 2 = some false := by kernel_rfl
@[simp] theorem tyU2 : (Tryz.prog.underlying 2).isSome = true := by kernel_rfl
@[simp] theorem tyO2 : tzero Tryz.prog 2 = some (.int .i64 0) := by kernel_rfl
@[simp] theorem tyK2 : tok Tryz.prog 2 = some 1 := by kernel_rfl
@[simp] theorem tyY2 : tbytes Tryz.prog 2 = some 8 := by kernel_rfl
@[simp] theorem tyI2 : tint Tryz.prog 2 = some .i64 := by kernel_rfl
@[simp] theorem tyZ3 : tsz Tryz.prog 3 = some 1 := by kernel_rfl
@[simp] theorem tyA3 : tagg Tryz.prog 3 = some false := by kernel_rfl
@[simp] theorem tyU3 : (Tryz.prog.underlying 3).isSome = true := by kernel_rfl
@[simp] theorem tyO3 : tzero Tryz.prog 3 = some (.int .i64 0) := by kernel_rfl
@[simp] theorem tyK3 : tok Tryz.prog 3 = some 1 := by kernel_rfl
@[simp] theorem tyY3 : tbytes Tryz.prog 3 = some 8 := by kernel_rfl
@[simp] theorem tyI3 : tint Tryz.prog 3 = some .i64 := by kernel_rfl
@[simp] theorem tyZ4 : tsz Tryz.prog 4 = some 1 := by kernel_rfl
@[simp] theorem tyA4 : tagg Tryz.prog 4 = some false := by kernel_rfl
@[simp] theorem tyU4 : (Tryz.prog.underlying 4).isSome = true := by kernel_rfl
@[simp] theorem tyO4 : tzero Tryz.prog 4 = some (.bool false) := by kernel_rfl
@[simp] theorem tyK4 : tok Tryz.prog 4 = some 1 := by kernel_rfl
@[simp] theorem tyY4 : tbytes Tryz.prog 4 = some 1 := by kernel_rfl
@[simp] theorem tyB4 : tbool Tryz.prog 4 = true := by kernel_rfl
@[simp] theorem tyZ5 : tsz Tryz.prog 5 = some 1 := by kernel_rfl
@[simp] theorem tyA5 : tagg Tryz.prog 5 = some false := by kernel_rfl
@[simp] theorem tyU5 : (Tryz.prog.underlying 5).isSome = true := by kernel_rfl
@[simp] theorem tyO5 : tzero Tryz.prog 5 = some (.int .u8 0) := by kernel_rfl
@[simp] theorem tyK5 : tok Tryz.prog 5 = some 1 := by kernel_rfl
@[simp] theorem tyY5 : tbytes Tryz.prog 5 = some 1 := by kernel_rfl
@[simp] theorem tyW5 : tz8 Tryz.prog 5 = true := by kernel_rfl
@[simp] theorem tyI5 : tint Tryz.prog 5 = some .u8 := by kernel_rfl
@[simp] theorem tyZ9 : tsz Tryz.prog 9 = some 1 := by kernel_rfl
@[simp] theorem tyA9 : tagg Tryz.prog 9 = some false := by kernel_rfl
@[simp] theorem tyU9 : (Tryz.prog.underlying 9).isSome = true := by kernel_rfl
@[simp] theorem tyO9 : tzero Tryz.prog 9 = some (.str []) := by kernel_rfl
@[simp] theorem tyK9 : tok Tryz.prog 9 = some 1 := by kernel_rfl
@[simp] theorem tyY9 : tbytes Tryz.prog 9 = some 16 := by kernel_rfl
@[simp] theorem tyS9 : tstr Tryz.prog 9 = true := by kernel_rfl
@[simp] theorem tyI9 : tint Tryz.prog 9 = none := by kernel_rfl
@[simp] theorem tyC9 : tconc Tryz.prog 9 = true := by kernel_rfl
@[simp] theorem tyZ17 : tsz Tryz.prog 17 = some 1 := by kernel_rfl
@[simp] theorem tyA17 : tagg Tryz.prog 17 = some false := by kernel_rfl
@[simp] theorem tyU17 : (Tryz.prog.underlying 17).isSome = true := by kernel_rfl
@[simp] theorem tyO17 : tzero Tryz.prog 17 = some (.nilp) := by kernel_rfl
@[simp] theorem tyK17 : tok Tryz.prog 17 = some 1 := by kernel_rfl
@[simp] theorem tyY17 : tbytes Tryz.prog 17 = some 8 := by kernel_rfl
@[simp] theorem tyZ20 : tsz Tryz.prog 20 = some 1 := by kernel_rfl
@[simp] theorem tyA20 : tagg Tryz.prog 20 = some false := by kernel_rfl
@[simp] theorem tyU20 : (Tryz.prog.underlying 20).isSome = true := by kernel_rfl
@[simp] theorem tyO20 : tzero Tryz.prog 20 = some (.nili) := by kernel_rfl
@[simp] theorem tyK20 : tok Tryz.prog 20 = some 1 := by kernel_rfl
@[simp] theorem tyY20 : tbytes Tryz.prog 20 = some 16 := by kernel_rfl
@[simp] theorem tyZ22 : tsz Tryz.prog 22 = some 1 := by kernel_rfl
@[simp] theorem tyA22 : tagg Tryz.prog 22 = some false := by kernel_rfl
@[simp] theorem tyU22 : (Tryz.prog.underlying 22).isSome = true := by kernel_rfl
@[simp] theorem tyO22 : tzero Tryz.prog 22 = some (.nils) := by kernel_rfl
@[simp] theorem tyK22 : tok Tryz.prog 22 = some 1 := by kernel_rfl
@[simp] theorem tyY22 : tbytes Tryz.prog 22 = some 24 := by kernel_rfl
@[simp] theorem tyE22 : telem Tryz.prog 22 = some 5 := by kernel_rfl
@[simp] theorem tyBS22 : tbyteS Tryz.prog 22 = true := by kernel_rfl
@[simp] theorem tyZ23 : tsz Tryz.prog 23 = some 1 := by kernel_rfl
@[simp] theorem tyA23 : tagg Tryz.prog 23 = some false := by kernel_rfl
@[simp] theorem tyU23 : (Tryz.prog.underlying 23).isSome = true := by kernel_rfl
@[simp] theorem tyO23 : tzero Tryz.prog 23 = some (.nils) := by kernel_rfl
@[simp] theorem tyK23 : tok Tryz.prog 23 = some 1 := by kernel_rfl
@[simp] theorem tyY23 : tbytes Tryz.prog 23 = some 24 := by kernel_rfl
@[simp] theorem tyE23 : telem Tryz.prog 23 = some 3 := by kernel_rfl
@[simp] theorem tyZ25 : tsz Tryz.prog 25 = some 5 := by kernel_rfl
@[simp] theorem tyA25 : tagg Tryz.prog 25 = some true := by kernel_rfl
@[simp] theorem tyU25 : (Tryz.prog.underlying 25).isSome = true := by kernel_rfl
@[simp] theorem tyO25 : tzero Tryz.prog 25 = some (.agg [.int .i64 0, .nils, .int .i64 0, .str [], .bool false]) := by kernel_rfl
@[simp] theorem tyK25 : tok Tryz.prog 25 = some 5 := by kernel_rfl
@[simp] theorem tyY25 : tbytes Tryz.prog 25 = some 64 := by kernel_rfl
@[simp] theorem tyF25_0 : tfield Tryz.prog 25 0 = some (0, 1, false) := by kernel_rfl
@[simp] theorem tyF25_1 : tfield Tryz.prog 25 1 = some (1, 1, false) := by kernel_rfl
@[simp] theorem tyF25_2 : tfield Tryz.prog 25 2 = some (2, 1, false) := by kernel_rfl
@[simp] theorem tyF25_3 : tfield Tryz.prog 25 3 = some (3, 1, false) := by kernel_rfl
@[simp] theorem tyF25_4 : tfield Tryz.prog 25 4 = some (4, 1, false) := by kernel_rfl
@[simp] theorem tyD25 : tfields Tryz.prog 25 = true := by kernel_rfl
@[simp] theorem tyZ27 : tsz Tryz.prog 27 = some 4 := by kernel_rfl
@[simp] theorem tyA27 : tagg Tryz.prog 27 = some true := by kernel_rfl
@[simp] theorem tyU27 : (Tryz.prog.underlying 27).isSome = true := by kernel_rfl
@[simp] theorem tyO27 : tzero Tryz.prog 27 = some (.agg [.int .i64 0, .int .i64 0, .int .i64 0, .int .i64 0]) := by kernel_rfl
@[simp] theorem tyK27 : tok Tryz.prog 27 = some 4 := by kernel_rfl
@[simp] theorem tyY27 : tbytes Tryz.prog 27 = some 32 := by kernel_rfl
@[simp] theorem tyF27_0 : tfield Tryz.prog 27 0 = some (0, 1, false) := by kernel_rfl
@[simp] theorem tyF27_1 : tfield Tryz.prog 27 1 = some (1, 1, false) := by kernel_rfl
@[simp] theorem tyF27_2 : tfield Tryz.prog 27 2 = some (2, 1, false) := by kernel_rfl
@[simp] theorem tyF27_3 : tfield Tryz.prog 27 3 = some (3, 1, false) := by kernel_rfl
@[simp] theorem tyD27 : tfields Tryz.prog 27 = true := by kernel_rfl
@[simp] theorem tyL27 : tflat Tryz.prog 27 = some [0, 0, 0, 0] := by kernel_rfl
@[simp] theorem tyZ29 : tsz Tryz.prog 29 = some 11 := by kernel_rfl
@[simp] theorem tyA29 : tagg Tryz.prog 29 = some true := by kernel_rfl
@[simp] theorem tyU29 : (Tryz.prog.underlying 29).isSome = true := by kernel_rfl
@[simp] theorem tyO29 : tzero Tryz.prog 29 = some (.agg [.int .i64 0, .int .i64 0, .int .i64 0, .nils, .int .i64 0, .str [], .bool false, .int .i64 0, .int .i64 0, .int .i64 0, .int .i64 0]) := by kernel_rfl
@[simp] theorem tyK29 : tok Tryz.prog 29 = some 11 := by kernel_rfl
@[simp] theorem tyY29 : tbytes Tryz.prog 29 = some 112 := by kernel_rfl
@[simp] theorem tyF29_0 : tfield Tryz.prog 29 0 = some (0, 1, false) := by kernel_rfl
@[simp] theorem tyF29_1 : tfield Tryz.prog 29 1 = some (1, 1, false) := by kernel_rfl
@[simp] theorem tyF29_2 : tfield Tryz.prog 29 2 = some (2, 5, true) := by kernel_rfl
@[simp] theorem tyF29_3 : tfield Tryz.prog 29 3 = some (7, 4, true) := by kernel_rfl
@[simp] theorem tyD29 : tfields Tryz.prog 29 = true := by kernel_rfl
@[simp] theorem tyZ30 : tsz Tryz.prog 30 = some 1 := by kernel_rfl
@[simp] theorem tyA30 : tagg Tryz.prog 30 = some false := by kernel_rfl
@[simp] theorem tyU30 : (Tryz.prog.underlying 30).isSome = true := by kernel_rfl
@[simp] theorem tyO30 : tzero Tryz.prog 30 = some (.int .i64 0) := by kernel_rfl
@[simp] theorem tyK30 : tok Tryz.prog 30 = some 1 := by kernel_rfl
@[simp] theorem tyY30 : tbytes Tryz.prog 30 = some 8 := by kernel_rfl
@[simp] theorem tyI30 : tint Tryz.prog 30 = some .i64 := by kernel_rfl
@[simp] theorem tyZ34 : tsz Tryz.prog 34 = some 1 := by kernel_rfl
@[simp] theorem tyA34 : tagg Tryz.prog 34 = some false := by kernel_rfl
@[simp] theorem tyU34 : (Tryz.prog.underlying 34).isSome = true := by kernel_rfl
@[simp] theorem tyO34 : tzero Tryz.prog 34 = some (.nils) := by kernel_rfl
@[simp] theorem tyK34 : tok Tryz.prog 34 = some 1 := by kernel_rfl
@[simp] theorem tyY34 : tbytes Tryz.prog 34 = some 24 := by kernel_rfl
@[simp] theorem tyE34 : telem Tryz.prog 34 = some 29 := by kernel_rfl
@[simp] theorem tyZ40 : tsz Tryz.prog 40 = some 1 := by kernel_rfl
@[simp] theorem tyA40 : tagg Tryz.prog 40 = some false := by kernel_rfl
@[simp] theorem tyU40 : (Tryz.prog.underlying 40).isSome = true := by kernel_rfl
@[simp] theorem tyO40 : tzero Tryz.prog 40 = some (.nils) := by kernel_rfl
@[simp] theorem tyK40 : tok Tryz.prog 40 = some 1 := by kernel_rfl
@[simp] theorem tyY40 : tbytes Tryz.prog 40 = some 24 := by kernel_rfl
@[simp] theorem tyE40 : telem Tryz.prog 40 = some 42 := by kernel_rfl
@[simp] theorem tyZ42 : tsz Tryz.prog 42 = some 5 := by kernel_rfl
@[simp] theorem tyA42 : tagg Tryz.prog 42 = some true := by kernel_rfl
@[simp] theorem tyU42 : (Tryz.prog.underlying 42).isSome = true := by kernel_rfl
@[simp] theorem tyO42 : tzero Tryz.prog 42 = some (.agg [.int .i64 0, .int .i64 0, .int .i64 0, .str [], .nils]) := by kernel_rfl
@[simp] theorem tyK42 : tok Tryz.prog 42 = some 5 := by kernel_rfl
@[simp] theorem tyY42 : tbytes Tryz.prog 42 = some 64 := by kernel_rfl
@[simp] theorem tyF42_0 : tfield Tryz.prog 42 0 = some (0, 1, false) := by kernel_rfl
@[simp] theorem tyF42_1 : tfield Tryz.prog 42 1 = some (1, 1, false) := by kernel_rfl
@[simp] theorem tyF42_2 : tfield Tryz.prog 42 2 = some (2, 1, false) := by kernel_rfl
@[simp] theorem tyF42_3 : tfield Tryz.prog 42 3 = some (3, 1, false) := by kernel_rfl
@[simp] theorem tyF42_4 : tfield Tryz.prog 42 4 = some (4, 1, false) := by kernel_rfl
@[simp] theorem tyD42 : tfields Tryz.prog 42 = true := by kernel_rfl
@[simp] theorem tyZ61 : tsz Tryz.prog 61 = some 1 := by kernel_rfl
@[simp] theorem tyA61 : tagg Tryz.prog 61 = some false := by kernel_rfl
@[simp] theorem tyU61 : (Tryz.prog.underlying 61).isSome = true := by kernel_rfl
@[simp] theorem tyO61 : tzero Tryz.prog 61 = some (.int .u64 0) := by kernel_rfl
@[simp] theorem tyK61 : tok Tryz.prog 61 = some 1 := by kernel_rfl
@[simp] theorem tyY61 : tbytes Tryz.prog 61 = some 8 := by kernel_rfl
@[simp] theorem tyI61 : tint Tryz.prog 61 = some .u64 := by kernel_rfl
@[simp] theorem tyZ70 : tsz Tryz.prog 70 = some 1 := by kernel_rfl
@[simp] theorem tyA70 : tagg Tryz.prog 70 = some false := by kernel_rfl
@[simp] theorem tyU70 : (Tryz.prog.underlying 70).isSome = true := by kernel_rfl
@[simp] theorem tyO70 : tzero Tryz.prog 70 = some (.nili) := by kernel_rfl
@[simp] theorem tyK70 : tok Tryz.prog 70 = some 1 := by kernel_rfl
@[simp] theorem tyY70 : tbytes Tryz.prog 70 = some 16 := by kernel_rfl
@[simp] theorem tyZ74 : tsz Tryz.prog 74 = some 1 := by kernel_rfl
@[simp] theorem tyA74 : tagg Tryz.prog 74 = some true := by kernel_rfl
@[simp] theorem tyU74 : (Tryz.prog.underlying 74).isSome = true := by kernel_rfl
@[simp] theorem tyO74 : tzero Tryz.prog 74 = some (.agg [.int .i64 0]) := by kernel_rfl
@[simp] theorem tyK74 : tok Tryz.prog 74 = some 1 := by kernel_rfl
@[simp] theorem tyY74 : tbytes Tryz.prog 74 = some 8 := by kernel_rfl
@[simp] theorem tyC74 : tconc Tryz.prog 74 = true := by kernel_rfl
@[simp] theorem tyF74_0 : tfield Tryz.prog 74 0 = some (0, 1, false) := by kernel_rfl
@[simp] theorem tyD74 : tfields Tryz.prog 74 = true := by kernel_rfl
@[simp] theorem tyL74 : tflat Tryz.prog 74 = some [0] := by kernel_rfl
@[simp] theorem tyZ76 : tsz Tryz.prog 76 = some 1 := by kernel_rfl
@[simp] theorem tyA76 : tagg Tryz.prog 76 = some false := by kernel_rfl
@[simp] theorem tyU76 : (Tryz.prog.underlying 76).isSome = true := by kernel_rfl
@[simp] theorem tyO76 : tzero Tryz.prog 76 = some (.nilp) := by kernel_rfl
@[simp] theorem tyK76 : tok Tryz.prog 76 = some 1 := by kernel_rfl
@[simp] theorem tyY76 : tbytes Tryz.prog 76 = some 8 := by kernel_rfl
@[simp] theorem tyC76 : tconc Tryz.prog 76 = true := by kernel_rfl
@[simp] theorem tyZ78 : tsz Tryz.prog 78 = some 1 := by kernel_rfl
@[simp] theorem tyA78 : tagg Tryz.prog 78 = some false := by kernel_rfl
@[simp] theorem tyU78 : (Tryz.prog.underlying 78).isSome = true := by kernel_rfl
@[simp] theorem tyO78 : tzero Tryz.prog 78 = some (.nilf) := by kernel_rfl
@[simp] theorem tyK78 : tok Tryz.prog 78 = some 1 := by kernel_rfl
@[simp] theorem tyY78 : tbytes Tryz.prog 78 = some 8 := by kernel_rfl
@[simp] theorem tyZ79 : tsz Tryz.prog 79 = some 1 := by kernel_rfl
@[simp] theorem tyA79 : tagg Tryz.prog 79 = some false := by kernel_rfl
@[simp] theorem tyU79 : (Tryz.prog.underlying 79).isSome = true := by kernel_rfl
@[simp] theorem tyO79 : tzero Tryz.prog 79 = some (.int .u64 0) := by kernel_rfl
@[simp] theorem tyK79 : tok Tryz.prog 79 = some 1 := by kernel_rfl
@[simp] theorem tyY79 : tbytes Tryz.prog 79 = some 8 := by kernel_rfl
@[simp] theorem tyI79 : tint Tryz.prog 79 = some .u64 := by kernel_rfl
@[simp] theorem tyZ93 : tsz Tryz.prog 93 = some 1 := by kernel_rfl
@[simp] theorem tyA93 : tagg Tryz.prog 93 = some false := by kernel_rfl
@[simp] theorem tyU93 : (Tryz.prog.underlying 93).isSome = true := by kernel_rfl
@[simp] theorem tyO93 : tzero Tryz.prog 93 = some (.nilp) := by kernel_rfl
@[simp] theorem tyK93 : tok Tryz.prog 93 = some 1 := by kernel_rfl
@[simp] theorem tyY93 : tbytes Tryz.prog 93 = some 8 := by kernel_rfl
@[simp] theorem tyZ94 : tsz Tryz.prog 94 = some 1 := by kernel_rfl
@[simp] theorem tyA94 : tagg Tryz.prog 94 = some false := by kernel_rfl
@[simp] theorem tyU94 : (Tryz.prog.underlying 94).isSome = true := by kernel_rfl
@[simp] theorem tyO94 : tzero Tryz.prog 94 = some (.int .u64 0) := by kernel_rfl
@[simp] theorem tyK94 : tok Tryz.prog 94 = some 1 := by kernel_rfl
@[simp] theorem tyY94 : tbytes Tryz.prog 94 = some 8 := by kernel_rfl
@[simp] theorem tyI94 : tint Tryz.prog 94 = some .u64 := by kernel_rfl
@[simp] theorem tyZ96 : tsz Tryz.prog 96 = some 3 := by kernel_rfl
@[simp] theorem tyA96 : tagg Tryz.prog 96 = some true := by kernel_rfl
@[simp] theorem tyU96 : (Tryz.prog.underlying 96).isSome = true := by kernel_rfl
@[simp] theorem tyO96 : tzero Tryz.prog 96 = some (.agg [.nilp, .nilp, .int .u64 0]) := by kernel_rfl
@[simp] theorem tyK96 : tok Tryz.prog 96 = some 3 := by kernel_rfl
@[simp] theorem tyY96 : tbytes Tryz.prog 96 = some 24 := by kernel_rfl
@[simp] theorem tyF96_0 : tfield Tryz.prog 96 0 = some (0, 1, false) := by kernel_rfl
@[simp] theorem tyF96_1 : tfield Tryz.prog 96 1 = some (1, 1, false) := by kernel_rfl
@[simp] theorem tyF96_2 : tfield Tryz.prog 96 2 = some (2, 1, false) := by kernel_rfl
@[simp] theorem tyD96 : tfields Tryz.prog 96 = true := by kernel_rfl
@[simp] theorem tyZ99 : tsz Tryz.prog 99 = some 1 := by kernel_rfl
@[simp] theorem tyA99 : tagg Tryz.prog 99 = some false := by kernel_rfl
@[simp] theorem tyU99 : (Tryz.prog.underlying 99).isSome = true := by kernel_rfl
@[simp] theorem tyO99 : tzero Tryz.prog 99 = some (.nili) := by kernel_rfl
@[simp] theorem tyK99 : tok Tryz.prog 99 = some 1 := by kernel_rfl
@[simp] theorem tyY99 : tbytes Tryz.prog 99 = some 16 := by kernel_rfl
@[simp] theorem tyZ101 : tsz Tryz.prog 101 = some 1 := by kernel_rfl
@[simp] theorem tyA101 : tagg Tryz.prog 101 = some false := by kernel_rfl
@[simp] theorem tyU101 : (Tryz.prog.underlying 101).isSome = true := by kernel_rfl
@[simp] theorem tyO101 : tzero Tryz.prog 101 = some (.int .u8 0) := by kernel_rfl
@[simp] theorem tyK101 : tok Tryz.prog 101 = some 1 := by kernel_rfl
@[simp] theorem tyY101 : tbytes Tryz.prog 101 = some 1 := by kernel_rfl
@[simp] theorem tyW101 : tz8 Tryz.prog 101 = true := by kernel_rfl
@[simp] theorem tyI101 : tint Tryz.prog 101 = some .u8 := by kernel_rfl
@[simp] theorem tyZ112 : tsz Tryz.prog 112 = some 1 := by kernel_rfl
@[simp] theorem tyA112 : tagg Tryz.prog 112 = some false := by kernel_rfl
@[simp] theorem tyU112 : (Tryz.prog.underlying 112).isSome = true := by kernel_rfl
@[simp] theorem tyO112 : tzero Tryz.prog 112 = some (.int .i64 0) := by kernel_rfl
@[simp] theorem tyK112 : tok Tryz.prog 112 = some 1 := by kernel_rfl
@[simp] theorem tyY112 : tbytes Tryz.prog 112 = some 8 := by kernel_rfl
@[simp] theorem tyI112 : tint Tryz.prog 112 = some .i64 := by kernel_rfl
@[simp] theorem tyC112 : tconc Tryz.prog 112 = true := by kernel_rfl
@[simp] theorem tyZ115 : tsz Tryz.prog 115 = some 3 := by kernel_rfl
@[simp] theorem tyA115 : tagg Tryz.prog 115 = some true := by kernel_rfl
@[simp] theorem tyU115 : (Tryz.prog.underlying 115).isSome = true := by kernel_rfl
@[simp] theorem tyO115 : tzero Tryz.prog 115 = some (.agg [.nils, .int .i64 0, .int .i64 0]) := by kernel_rfl
@[simp] theorem tyK115 : tok Tryz.prog 115 = some 3 := by kernel_rfl
@[simp] theorem tyY115 : tbytes Tryz.prog 115 = some 40 := by kernel_rfl
@[simp] theorem tyF115_0 : tfield Tryz.prog 115 0 = some (0, 1, false) := by kernel_rfl
@[simp] theorem tyF115_1 : tfield Tryz.prog 115 1 = some (1, 1, false) := by kernel_rfl
@[simp] theorem tyF115_2 : tfield Tryz.prog 115 2 = some (2, 1, false) := by kernel_rfl
@[simp] theorem tyD115 : tfields Tryz.prog 115 = true := by kernel_rfl
@[simp] theorem tyZ132 : tsz Tryz.prog 132 = some 1 := by kernel_rfl
@[simp] theorem tyA132 : tagg Tryz.prog 132 = some false := by kernel_rfl
@[simp] theorem tyU132 : (Tryz.prog.underlying 132).isSome = true := by kernel_rfl
@[simp] theorem tyO132 : tzero Tryz.prog 132 = some (.nilp) := by kernel_rfl
@[simp] theorem tyK132 : tok Tryz.prog 132 = some 1 := by kernel_rfl
@[simp] theorem tyY132 : tbytes Tryz.prog 132 = some 8 := by kernel_rfl

end Go.Proofs.YtmkbhognijicjaaGreatDoor

/- Resume: the types, trees, and the contracts of the functions on trees. No condition. -/
set_option linter.unusedSimpArgs false
set_option maxRecDepth 4000
namespace Go.Proofs.YtmkbhognijicjaaGreatDoor
open Go.Eng
theorem hmix : Tryz.prog.follows .mixedOrders = true := by kernel_rfl
theorem wrap_succ {k : Nat} (h : (k : Int) < 9223372036854775807) : IntKind.i64.wrap ((k : Int) + 1) = ((k + 1 : Nat) : Int) := by
  rw [IntKind.wrap_i64]; omega
theorem wrap_in {x : Int} (h1 : -9223372036854775808 ≤ x) (h2 : x < 9223372036854775808) : IntKind.i64.wrap x = x := by
  rw [IntKind.wrap_i64]; omega

/-- Trees. -/
inductive Nd where
  | mk (tag kind n : Int) (s : List UInt8) (kids : List Nd)
def Nd.kids : Nd → List Nd
  | .mk _ _ _ _ ks => ks
def Nd.v : Nd → V
  | .mk t k n s ks => .agg [.int .i64 t, .int .i64 k, .int .i64 n, .str s, .ro 5 (ks.map Nd.v)]
theorem Nd.kid_lt {t k n : Int} {s : List UInt8} {ks : List Nd} {x : Nd} (h : x ∈ ks) : SizeOf.sizeOf x < SizeOf.sizeOf (Nd.mk t k n s ks) := by
  have := List.sizeOf_lt_of_mem h
  simp only [Nd.mk.sizeOf_spec]
  omega
theorem Nd.v_pure (x : Nd) : x.v.pureE = true := by
  obtain ⟨t, k, n, s, ks⟩ := x
  rw [Nd.v]; rfl
theorem pureN (l : List Nd) : (l.map Nd.v).all V.pureE = true := by
  rw [List.all_eq_true]
  intro x hx
  simp only [List.mem_map] at hx
  obtain ⟨y, _, rfl⟩ := hx
  exact y.v_pure
theorem nthN {l : List Nd} {k : Nat} (h : k < l.length) : nth (l.map Nd.v) k = some l[k].v := by rw [nth_eq]; simp [h]

/-- What the count of a tree's nodes says. -/
def Fine (x : Nd) : Prop := x.kids.length ≤ 39 ∧ ∀ y ∈ x.kids, y.kids.length ≤ 39
end Go.Proofs.YtmkbhognijicjaaGreatDoor

/- Resume: equality and copies of trees. No condition. -/
set_option linter.unusedSimpArgs false
set_option maxRecDepth 4000
namespace Go.Proofs.YtmkbhognijicjaaGreatDoor
open Go.Eng

open Classical in
noncomputable def eqN (a b : Nd) : Bool := decide (a = b)
open Classical in
noncomputable def eqNs (a b : List Nd) : Bool := decide (a = b)
theorem eqN_iff {a b : Nd} : eqN a b = true ↔ a = b := by simp [eqN]
theorem eqNs_iff {a b : List Nd} : eqNs a b = true ↔ a = b := by simp [eqNs]
theorem eqNs_false {a b : List Nd} : eqNs a b = false ↔ a ≠ b := by simp [eqNs]
theorem eqN_false {a b : Nd} : eqN a b = false ↔ a ≠ b := by simp [eqN]

theorem ext_of {la lb : List Nd} (hl : la.length = lb.length) (h : ∀ (j : Nat) (h1 : j < la.length) (h2 : j < lb.length), la[j] = lb[j]) : la = lb := List.ext_getElem hl h

set_option maxHeartbeats 1000000 in
theorem eqf_ac (la lb : List Nd) (hh : ∀ x ∈ la, ∀ y, AC Tryz.prog 50 [x.v, y.v] (fun r => r = .bool (eqN x y))) :
    AC Tryz.prog 76 [.ro 5 (la.map Nd.v), .ro 5 (lb.map Nd.v), .fn 50] (fun r => r = .bool (eqNs la lb)) := by
  have hga := fun (k : Nat) (h : k < la.length) => nthN h
  have hgb := fun (k : Nat) (h : k < lb.length) => nthN h
  have hla : (la.map Nd.v).length = la.length := by simp
  have hlb : (lb.map Nd.v).length = lb.length := by simp
  generalize la.map Nd.v = av at hga hla
  generalize lb.map Nd.v = bv at hgb hlb
  refine ac_lenR 0 rfl (fun hmax => ?_)
  unfold maxLen at hmax
  refine ac_intro Tryz.func76 rfl (by show (3 : Nat) ≤ 32; omega) (fun w0 N0 => ?_)
  refine aw_step [0, 1, 2] [] (by simp [Tryz.ntmps76] <;> rfl) ?_   -- slices.go:37
  refine aw_seq ?_
  refine aw_step [0, 1, 2, 14] [] (by simp <;> rfl) ?_   -- slices.go:38
  refine aw_cond rfl (fun h1 => ?_) (fun h1 => aw_skip ?_)   -- if t14
  · refine aw_step [6] [] (by simp <;> rfl) ?_   -- slices.go:39
    refine aw_ret (ends_ret (by simp [Tryz.results76] <;> rfl) ?_)
    congr 1
    symm
    rw [eqNs_false]
    rintro rfl
    simp at h1
    omega
  have hll : la.length = lb.length := by simp at h1; omega
  refine aw_seq ?_
  refine aw_step [1, 2, 15, 16, 17] [] (by simp <;> rfl) ?_   -- slices.go:41
  refine aw_block ?_
  refine aw_count (fun k nx => ⟨[(1, .ro 5 bv), (2, .fn 50), (15, .ro 5 av), (16, .int .i64 av.length), (17, .int .i64 k)], [], nx, 32⟩) (fun k => ∀ (j : Nat) (h1 : j < la.length) (h2 : j < lb.length), j < k → la[j] = lb[j]) la.length _ (by intro j _ _ h; omega) (AS.le_refl _) ?_
  intro k nx hk hI
  refine aw_step [1, 2, 15, 16, 17, 18] [] (by simp <;> rfl) ?_   -- slices.go:41
  refine aw_seq ?_
  refine aw_cond rfl (fun h2 => aw_skip ?_) (fun h2 => ?_)   -- if t18
  · have hlt : k < la.length := by simp at h2; omega
    have hltb : k < lb.length := by omega
    have hlt' : k < av.length := by omega
    have hltb' : k < bv.length := by omega
    have ga := hga k hlt
    have gb := hgb k hltb
    have hc := hh la[k] (List.getElem_mem hlt) lb[k]
    rcases hka : la[k] with ⟨t1, k1, n1, s1, ks1⟩
    rcases hkb : lb[k] with ⟨t2, k2, n2, s2, ks2⟩
    rw [hka] at ga hc
    rw [hkb] at gb hc
    obtain ⟨q, hq⟩ : ∃ q, eqN (Nd.mk t1 k1 n1 s1 ks1) (Nd.mk t2 k2 n2 s2 ks2) = q := ⟨_, rfl⟩
    rw [hq] at hc
    rw [Nd.v] at ga
    rw [Nd.v] at gb
    rw [Nd.v, Nd.v] at hc
    generalize ks1.map Nd.v = kv1 at ga hc
    generalize ks2.map Nd.v = kv2 at gb hc
    have hw := wrap_succ (k := k) (by omega)
    refine aw_seq ?_
    refine aw_block ?_
    refine aw_step [1, 2, 7, 8, 15, 16, 17] [8] (by simp [ga, hlt'] <;> rfl) ?_   -- slices.go:41
    refine aw_step [1, 2, 8, 9, 15, 16, 17] [8, 9] (by simp [gb, hltb'] <;> rfl) ?_   -- slices.go:42
    refine aw_seq (aw_region ?_)   -- slices.go:43
    refine awl_go 3 (by simp <;> rfl) ?_
    refine awl_call1 hc Tryz.func50 rfl (by kernel_rfl) rfl rfl rfl rfl rfl (by simp <;> rfl) ?_
    refine awl_end [1, 2, 15, 16, 17, 30] [] (by simp <;> rfl) ?_
    refine aw_cond rfl (fun h3 => ?_) (fun h3 => aw_skip ?_)   -- if t30
    · refine aw_step [6] [] (by simp <;> rfl) ?_   -- slices.go:44
      refine aw_ret (ends_ret (by simp [Tryz.results76] <;> rfl) ?_)
      have hqf : q = false := by simpa using h3
      rw [hqf, eqN_false, ← hka, ← hkb] at hq
      congr 1
      symm
      rw [eqNs_false]
      rintro rfl
      exact hq rfl
    refine aw_one [1, 2, 15, 16, 17] [] (by simp [hw] <;> rfl) ?_   -- slices.go:41
    refine ⟨hlt, fun j h4 h5 h6 => ?_, _, AS.le_refl _⟩
    by_cases e : j = k
    · subst e
      have hqt : q = true := by simpa using h3
      rw [hqt, eqN_iff, ← hka, ← hkb] at hq
      exact hq
    · exact hI j h4 h5 (by omega)
  · refine aw_exit ?_
    refine aw_step [6] [] (by simp <;> rfl) ?_   -- slices.go:47
    refine aw_ret (ends_ret (by simp [Tryz.results76] <;> rfl) ?_)
    congr 1
    symm
    rw [eqNs_iff]
    have hkl : k = la.length := by simp at h2; omega
    exact ext_of hll (fun j h4 h5 => hI j h4 h5 (by omega))

set_option maxHeartbeats 1000000 in
theorem cEqual_ac (b : Nd) (a : Nd) : AC Tryz.prog 50 [a.v, b.v] (fun r => r = .bool (eqN a b)) := by
  suffices h : ∀ (m : Nat) (a b : Nd), SizeOf.sizeOf a < m → AC Tryz.prog 50 [a.v, b.v] (fun r => r = .bool (eqN a b)) from h _ a b (Nat.lt_succ_self _)
  intro m
  induction m with
  | zero => intro a b h; omega
  | succ m ih =>
  intro a b hm
  obtain ⟨t1, k1, n1, s1, ks1⟩ := a
  obtain ⟨t2, k2, n2, s2, ks2⟩ := b
  have hc := eqf_ac ks1 ks2 (fun x hx y => ih x y (by have := Nd.kid_lt (t := t1) (k := k1) (n := n1) (s := s1) hx; omega))
  have hp1 := pureN ks1
  have hp2 := pureN ks2
  have hE : eqN (Nd.mk t1 k1 n1 s1 ks1) (Nd.mk t2 k2 n2 s2 ks2) = (decide (t1 = t2) && decide (k1 = k2) && decide (n1 = n2) && decide (s1 = s2) && eqNs ks1 ks2) := by
    rw [Bool.eq_iff_iff]
    simp [eqN, eqNs, and_assoc]
  rw [hE]
  rw [Nd.v, Nd.v]
  generalize ks1.map Nd.v = kv1 at hc hp1
  generalize ks2.map Nd.v = kv2 at hc hp2
  generalize eqNs ks1 ks2 = q at hc
  refine ac_intro Tryz.func50 rfl (by show (2 : Nat) ≤ 38; omega) (fun w0 N0 => ?_)
  refine aw_step [2, 3] [2, 3] (by simp [Tryz.ntmps50] <;> rfl) ?_   -- codec.go:93
  refine aw_seq (aw_region ?_)   -- codec.go:94
  refine awl_go 31 (by simp <;> rfl) ?_
  refine awl_gcall (fun hg => hc) Tryz.func76 rfl (by kernel_rfl) (by simp <;> rfl) rfl rfl (by simp <;> rfl) (by simp [hp1, hp2]) (by simp <;> rfl) ?_
  refine awl_end [4] [] (by simp <;> rfl) ?_
  refine aw_ret (ends_ret (by simp [Tryz.results50] <;> rfl) ?_)
  simp

set_option maxHeartbeats 1000000 in
theorem refEqual_ac (b : Nd) (a : Nd) : AC Tryz.prog 52 [a.v, b.v] (fun r => r = .bool (eqN a b)) := by
  suffices h : ∀ (m : Nat) (a b : Nd), SizeOf.sizeOf a < m → AC Tryz.prog 52 [a.v, b.v] (fun r => r = .bool (eqN a b)) from h _ a b (Nat.lt_succ_self _)
  intro m
  induction m with
  | zero => intro a b h; omega
  | succ m ih =>
  intro a b hm
  obtain ⟨t1, k1, n1, s1, la⟩ := a
  obtain ⟨t2, k2, n2, s2, lb⟩ := b
  have hh : ∀ x ∈ la, ∀ y, AC Tryz.prog 52 [x.v, y.v] (fun r => r = .bool (eqN x y)) := fun x hx y => ih x y (by have := Nd.kid_lt (t := t1) (k := k1) (n := n1) (s := s1) hx; omega)
  have hE : eqN (Nd.mk t1 k1 n1 s1 la) (Nd.mk t2 k2 n2 s2 lb) = (decide (t1 = t2) && decide (k1 = k2) && decide (n1 = n2) && decide (s1 = s2) && eqNs la lb) := by
    rw [Bool.eq_iff_iff]
    simp [eqN, eqNs, and_assoc]
  rw [hE, Nd.v, Nd.v]
  have hga := fun (k : Nat) (h : k < la.length) => nthN h
  have hgb := fun (k : Nat) (h : k < lb.length) => nthN h
  have hla : (la.map Nd.v).length = la.length := by simp
  have hlb : (lb.map Nd.v).length = lb.length := by simp
  generalize la.map Nd.v = av at hga hla
  generalize lb.map Nd.v = bv at hgb hlb
  refine ac_lenC 0 4 rfl rfl (fun hmax => ?_)
  unfold maxLen at hmax
  refine ac_intro Tryz.func52 rfl (by show (2 : Nat) ≤ 60; omega) (fun w0 N0 => ?_)
  refine aw_step [2, 3] [2, 3] (by simp [Tryz.ntmps52] <;> rfl) ?_   -- ref.go:100
  refine aw_seq ?_
  refine aw_step [2, 3, 40] [2, 3] (by simp <;> rfl) ?_   -- ref.go:101
  refine aw_cond rfl (fun h1 => ?_) (fun h1 => aw_skip ?_)   -- if t40
  · refine aw_step [4] [] (by simp <;> rfl) ?_   -- ref.go:102
    refine aw_ret (ends_ret (by simp [Tryz.results52] <;> rfl) ?_)
    congr 1
    symm
    rw [Bool.eq_false_iff]
    intro hc
    simp only [Bool.and_eq_true, decide_eq_true_eq, eqNs_iff] at hc
    obtain ⟨⟨⟨⟨rfl, rfl⟩, rfl⟩, rfl⟩, rfl⟩ := hc
    simp at h1
    omega
  have h1' : t1 = t2 ∧ k1 = k2 ∧ n1 = n2 ∧ s1 = s2 ∧ la.length = lb.length := by
    simp at h1
    refine ⟨h1.1.1.1.1, h1.1.1.1.2, h1.1.1.2, h1.1.2, ?_⟩
    omega
  obtain ⟨rfl, rfl, rfl, rfl, hll⟩ := h1'
  have hE2 : (decide (t1 = t1) && decide (k1 = k1) && decide (n1 = n1) && decide (s1 = s1) && eqNs la lb) = eqNs la lb := by simp
  rw [hE2]
  refine aw_seq ?_
  refine aw_step [2, 3, 5] [2, 3] (by simp <;> rfl) ?_   -- ref.go:104
  refine aw_block ?_
  refine aw_count (fun k nx => ⟨[(2, .bp 2 0 5 0 0), (3, .bp 3 1 5 0 0), (5, .int .i64 k)], [(2, ⟨0, 5, 42, [.agg [.int .i64 t1, .int .i64 k1, .int .i64 n1, .str s1, .ro 5 av]]⟩), (3, ⟨1, 5, 42, [.agg [.int .i64 t1, .int .i64 k1, .int .i64 n1, .str s1, .ro 5 bv]]⟩)], nx, 60⟩) (fun k => ∀ (j : Nat) (h1 : j < la.length) (h2 : j < lb.length), j < k → la[j] = lb[j]) la.length _ (by intro j _ _ h; omega) (AS.le_refl _) ?_
  intro k nx hk hI
  refine aw_seq ?_
  refine aw_step [2, 3, 5, 45] [2, 3] (by simp <;> rfl) ?_   -- ref.go:104
  refine aw_cond rfl (fun h2 => aw_skip ?_) (fun h2 => ?_)   -- if t45
  · have hlt : k < la.length := by simp at h2; omega
    have hltb : k < lb.length := by omega
    have hlt' : k < av.length := by omega
    have hltb' : k < bv.length := by omega
    have ga := hga k hlt
    have gb := hgb k hltb
    have hc := hh la[k] (List.getElem_mem hlt) lb[k]
    rcases hka : la[k] with ⟨t2, k2, n2, s2, ks2⟩
    rcases hkb : lb[k] with ⟨t3, k3, n3, s3, ks3⟩
    rw [hka] at ga hc
    rw [hkb] at gb hc
    obtain ⟨q, hq⟩ : ∃ q, eqN (Nd.mk t2 k2 n2 s2 ks2) (Nd.mk t3 k3 n3 s3 ks3) = q := ⟨_, rfl⟩
    rw [hq] at hc
    rw [Nd.v] at ga
    rw [Nd.v] at gb
    rw [Nd.v, Nd.v] at hc
    generalize ks2.map Nd.v = kv1 at ga hc
    generalize ks3.map Nd.v = kv2 at gb hc
    have hw := wrap_succ (k := k) (by omega)
    refine aw_seq ?_
    refine aw_block ?_
    refine aw_seq (aw_draw [(0, []), (2, []), (5, []), (7, []), (1, []), (3, []), (4, []), (6, []), (8, []), (9, []), (10, []), (11, [])] hmix (by kernel_rfl) ?_)   -- ref.go:105
    refine awo_go 10 (by simp [ga, gb, hlt', hltb'] <;> rfl) ?_
    refine awo_call (fun hg => hc) Tryz.func52 rfl (by kernel_rfl) rfl rfl (by simp <;> rfl) rfl rfl (by simp <;> rfl) (by simp) (by simp <;> rfl) ?_
    refine awo_end [2, 3, 5, 59] [2, 3] (by simp <;> rfl) ?_
    refine aw_cond rfl (fun h3 => ?_) (fun h3 => aw_skip ?_)   -- if t59
    · refine aw_step [4] [] (by simp <;> rfl) ?_   -- ref.go:106
      refine aw_ret (ends_ret (by simp [Tryz.results52] <;> rfl) ?_)
      have hqf : q = false := by simpa using h3
      rw [hqf, eqN_false, ← hka, ← hkb] at hq
      congr 1
      symm
      rw [eqNs_false]
      rintro rfl
      exact hq rfl
    refine aw_one [2, 3, 5] [2, 3] (by simp [hw] <;> rfl) ?_   -- ref.go:104
    refine ⟨hlt, fun j h4 h5 h6 => ?_, _, AS.le_refl _⟩
    by_cases e : j = k
    · subst e
      have hqt : q = true := by simpa using h3
      rw [hqt, eqN_iff, ← hka, ← hkb] at hq
      exact hq
    · exact hI j h4 h5 (by omega)
  · refine aw_exit ?_
    refine aw_step [4] [] (by simp <;> rfl) ?_   -- ref.go:109
    refine aw_ret (ends_ret (by simp [Tryz.results52] <;> rfl) ?_)
    congr 1
    symm
    rw [eqNs_iff]
    have hkl : k = la.length := by simp at h2; omega
    exact ext_of hll (fun j h4 h5 => hI j h4 h5 (by omega))
end Go.Proofs.YtmkbhognijicjaaGreatDoor

/- Resume: copies of trees, and the functions that make nodes. No condition. -/
set_option linter.unusedSimpArgs false
set_option maxRecDepth 4000
namespace Go.Proofs.YtmkbhognijicjaaGreatDoor
open Go.Eng

/-- Trees of few children. -/
inductive Sm : Nd → Prop
  | mk {t k n : Int} {s : List UInt8} {ks : List Nd} (h : ks.length ≤ 1000) (hk : ∀ x ∈ ks, Sm x) : Sm (.mk t k n s ks)
def zN : V := .agg [.int .i64 0, .int .i64 0, .int .i64 0, .str [], .nils]

set_option maxHeartbeats 1000000 in
theorem copies_ac : ∀ (m : Nat) (l : List Nd), SizeOf.sizeOf l < m → l.length ≤ 1000 → (∀ x ∈ l, Sm x) → AC Tryz.prog 56 [.ro 5 (l.map Nd.v)] (fun r => r = .ro 5 (l.map Nd.v)) := by
  intro m
  induction m with
  | zero => intro l h; omega
  | succ m ih =>
  intro l hm hl hs
  have ih' : ∀ x ∈ l, AC Tryz.prog 56 [.ro 5 (x.kids.map Nd.v)] (fun r => r = .ro 5 (x.kids.map Nd.v)) := by
    intro x hx
    have := List.sizeOf_lt_of_mem hx
    have hsx := hs x hx
    obtain ⟨h1, h2⟩ := hsx
    rename_i t k n s ks
    have h3 : SizeOf.sizeOf ks < SizeOf.sizeOf (Nd.mk t k n s ks) := by simp only [Nd.mk.sizeOf_spec]; omega
    exact ih ks (by omega) h1 h2
  have hga := fun (k : Nat) (h : k < l.length) => nthN h
  have hla : (l.map Nd.v).length = l.length := by simp
  have hp := pureN l
  generalize l.map Nd.v = lv at hga hla hp
  by_cases he : lv.length = 0
  · have he' : lv = [] := List.length_eq_zero_iff.1 he
    subst he'
    refine AC.relax (v := .nils) ?_ (Relax.nils 5)
    refine ac_intro Tryz.func56 rfl (by show (1 : Nat) ≤ 32; omega) (fun w0 N0 => ?_)
    refine aw_step [0] [] (by simp [Tryz.ntmps56] <;> rfl) ?_   -- codec.go:27
    refine aw_seq ?_
    refine aw_step [0, 8] [] (by simp <;> rfl) ?_   -- codec.go:28
    refine aw_cond rfl (fun h1 => ?_) (fun h1 => by simp at h1)   -- if t8
    refine aw_step [2] [] (by simp <;> rfl) ?_   -- codec.go:29
    exact aw_ret (ends_ret (by simp [Tryz.results56] <;> rfl) rfl)
  have he2 : ¬ lv = [] := fun h => he (by rw [h]; rfl)
  refine ac_intro Tryz.func56 rfl (by show (1 : Nat) ≤ 32; omega) (fun w0 N0 => ?_)
  refine aw_step [0] [] (by simp [Tryz.ntmps56] <;> rfl) ?_   -- codec.go:27
  refine aw_seq ?_
  refine aw_step [0, 8] [] (by simp <;> rfl) ?_   -- codec.go:28
  refine aw_cond rfl (fun h1 => by simp [he2] at h1) (fun h1 => aw_skip ?_)   -- if t8
  have hb1 : (lv.length : Int) ≤ 9223372036854775807 := by omega
  have hb2 : 64 * (lv.length : Int) ≤ 281474976710656 := by omega
  refine aw_step [0, 3] [11] (by simp [hb1, hb2] <;> rfl) ?_   -- codec.go:31
  refine aw_seq ?_
  refine aw_step [3, 12, 13, 14] [11] (by simp <;> rfl) ?_   -- codec.go:32
  refine aw_block ?_
  refine aw_count (fun k nx => ⟨[(3, .sl 11 6 5 lv.length), (12, .ro 5 lv), (13, .int .i64 lv.length), (14, .int .i64 k)], [(11, ⟨6, 5, 42, fillK lv zN k⟩)], nx, 32⟩) (fun k => True) l.length _ trivial (by rw [fillK_zero]; exact AS.le_refl _) ?_
  intro k nx hk hI
  have hfl := fillK_len lv zN k (by omega)
  refine aw_step [3, 12, 13, 14, 15] [11] (by simp <;> rfl) ?_   -- codec.go:32
  refine aw_seq ?_
  refine aw_cond rfl (fun h2 => aw_skip ?_) (fun h2 => ?_)   -- if t15
  · have hlt : k < l.length := by simp at h2; omega
    have hlt' : k < lv.length := by omega
    have ga := hga k hlt
    have hc := ih' l[k] (List.getElem_mem hlt)
    have hpk := pureN l[k].kids
    have hset := fillK_set lv zN k hlt' (x := l[k].v) (by rw [← nth_eq]; exact ga)
    have hz : nth (fillK lv zN k) k = some (.agg [.int .i64 0, .int .i64 0, .int .i64 0, .str [], .nils]) := fillK_nth lv zN k hlt'
    have hw := wrap_succ (k := k) (by omega)
    rcases hka : l[k] with ⟨t2, k2, n2, s2, ks2⟩
    rw [hka] at ga hc hset hpk
    rw [Nd.v] at ga hset
    simp only [Nd.kids] at hc hpk
    generalize ks2.map Nd.v = kv2 at ga hc hset hpk
    have hn1 := nth_set (l := fillK lv zN k) (k := k) (x := .agg [.int .i64 t2, .int .i64 k2, .int .i64 n2, .str s2, .ro 5 kv2]) (by omega)
    generalize fillK lv zN k = row at hz hset hfl hn1 ⊢
    rw [hset] at hn1
    have hset2 : (fillK lv zN (k + 1)).set k (.agg [.int .i64 t2, .int .i64 k2, .int .i64 n2, .str s2, .ro 5 kv2]) = fillK lv zN (k + 1) := by rw [← hset]; simp
    refine aw_seq ?_
    refine aw_block ?_
    refine aw_step [3, 4, 5, 12, 13, 14] [11, 5] (by simp [ga, hlt'] <;> rfl) ?_   -- codec.go:32
    refine aw_step [3, 4, 5, 12, 13, 14] [11, 5] (by simp [hlt', hz, hfl] <;> rfl) ?_   -- codec.go:33
    refine aw_region ?_   -- codec.go:34
    refine awl_go 4 (by simp <;> rfl) ?_
    refine awl_call1 hc Tryz.func56 rfl (by kernel_rfl) rfl rfl rfl rfl rfl (by simp <;> rfl) ?_
    refine awl_end [3, 12, 13, 14] [11] (by simp [hlt', hfl, hset, hn1, hset2] <;> rfl) ?_
    refine aw_one [3, 12, 13, 14] [11] (by simp [hw] <;> rfl) ?_   -- codec.go:32
    exact ⟨hlt, trivial, _, AS.le_refl _⟩
  · refine aw_exit ?_
    have hkl : k = lv.length := by simp at h2; omega
    rw [fillK_all lv zN k (by omega)]
    refine aw_step [2] [11] (by simp <;> rfl) ?_   -- codec.go:36
    exact aw_ret (ends_ret (by simp [Tryz.results56, hp] <;> rfl) rfl)
end Go.Proofs.YtmkbhognijicjaaGreatDoor

/- Resume: the functions that make nodes. No condition. -/
set_option linter.unusedSimpArgs false
set_option maxRecDepth 4000
namespace Go.Proofs.YtmkbhognijicjaaGreatDoor
open Go.Eng

theorem relax_node (a b c : Int) (s : List UInt8) : Relax (.agg [.int .i64 a, .int .i64 b, .int .i64 c, .str s, .nils]) (Nd.mk a b c s []).v := by
  rw [Nd.v]
  exact Relax.agg (.cons (Relax.refl _) (.cons (Relax.refl _) (.cons (Relax.refl _) (.cons (Relax.refl _) (.cons (Relax.nils 5) .nil)))))

theorem int_ac (t n : Int) : AC Tryz.prog 54 [.int .i64 t, .int .i64 n] (fun r => r = (Nd.mk t 1 n [] []).v) := by
  refine AC.relax (v := .agg [.int .i64 t, .int .i64 1, .int .i64 n, .str [], .nils]) ?_ (relax_node _ _ _ _)
  refine ac_intro Tryz.func54 rfl (by show (2 : Nat) ≤ 8; omega) (fun w0 N0 => ?_)
  refine aw_step [0, 1, 4] [4] (by simp [Tryz.ntmps54] <;> rfl) ?_   -- codec.go:12
  refine aw_step [4] [4] (by simp <;> rfl) ?_   -- codec.go:13
  exact aw_ret (ends_ret (by simp [Tryz.results54] <;> rfl) rfl)
theorem refInt_ac (t n : Int) : AC Tryz.prog 63 [.int .i64 t, .int .i64 n] (fun r => r = (Nd.mk t 1 n [] []).v) := by
  refine AC.relax (v := .agg [.int .i64 t, .int .i64 1, .int .i64 n, .str [], .nils]) ?_ (relax_node _ _ _ _)
  refine ac_intro Tryz.func63 rfl (by show (2 : Nat) ≤ 8; omega) (fun w0 N0 => ?_)
  refine aw_step [0, 1, 4] [4] (by simp [Tryz.ntmps63] <;> rfl) ?_
  refine aw_step [4] [4] (by simp <;> rfl) ?_
  exact aw_ret (ends_ret (by simp [Tryz.results63] <;> rfl) rfl)
theorem string_ac (t : Int) (s : List UInt8) : AC Tryz.prog 55 [.int .i64 t, .str s] (fun r => r = (Nd.mk t 2 0 s []).v) := by
  refine AC.relax (v := .agg [.int .i64 t, .int .i64 2, .int .i64 0, .str s, .nils]) ?_ (relax_node _ _ _ _)
  refine ac_intro Tryz.func55 rfl (by show (2 : Nat) ≤ 8; omega) (fun w0 N0 => ?_)
  refine aw_step [0, 1, 4] [4] (by simp [Tryz.ntmps55] <;> rfl) ?_
  refine aw_step [4] [4] (by simp <;> rfl) ?_
  exact aw_ret (ends_ret (by simp [Tryz.results55] <;> rfl) rfl)
theorem refString_ac (t : Int) (s : List UInt8) : AC Tryz.prog 40 [.int .i64 t, .str s] (fun r => r = (Nd.mk t 2 0 s []).v) := by
  refine AC.relax (v := .agg [.int .i64 t, .int .i64 2, .int .i64 0, .str s, .nils]) ?_ (relax_node _ _ _ _)
  refine ac_intro Tryz.func40 rfl (by show (2 : Nat) ≤ 8; omega) (fun w0 N0 => ?_)
  refine aw_step [0, 1, 4] [4] (by simp [Tryz.ntmps40] <;> rfl) ?_
  refine aw_step [4] [4] (by simp <;> rfl) ?_
  exact aw_ret (ends_ret (by simp [Tryz.results40] <;> rfl) rfl)
theorem number_ac (t n : Int) : AC Tryz.prog 28 [.int .i64 t, .int .i64 n] (fun r => r = (Nd.mk t 1 n [] []).v) := by
  have hc := int_ac t n
  simp only [Nd.v, List.map_nil] at hc ⊢
  refine ac_intro Tryz.func28 rfl (by show (2 : Nat) ≤ 8; omega) (fun w0 N0 => ?_)
  refine aw_step [0, 1, 4] [4] (by simp [Tryz.ntmps28] <;> rfl) ?_   -- resume.go:34
  refine aw_seq (aw_region ?_)   -- resume.go:35
  refine awl_go 2 (by simp <;> rfl) ?_
  refine awl_call1 hc Tryz.func54 rfl (by kernel_rfl) rfl rfl rfl rfl rfl (by simp <;> rfl) ?_
  refine awl_end [4] [4] (by simp <;> rfl) ?_
  exact aw_ret (ends_ret (by simp [Tryz.results28] <;> rfl) rfl)
theorem refNumber_ac (t n : Int) : AC Tryz.prog 38 [.int .i64 t, .int .i64 n] (fun r => r = (Nd.mk t 1 n [] []).v) := by
  have hc := refInt_ac t n
  simp only [Nd.v, List.map_nil] at hc ⊢
  refine ac_intro Tryz.func38 rfl (by show (2 : Nat) ≤ 8; omega) (fun w0 N0 => ?_)
  refine aw_step [0, 1, 4] [4] (by simp [Tryz.ntmps38] <;> rfl) ?_
  refine aw_seq (aw_region ?_)
  refine awl_go 2 (by simp <;> rfl) ?_
  refine awl_call1 hc Tryz.func63 rfl (by kernel_rfl) rfl rfl rfl rfl rfl (by simp <;> rfl) ?_
  refine awl_end [4] [4] (by simp <;> rfl) ?_
  exact aw_ret (ends_ret (by simp [Tryz.results38] <;> rfl) rfl)
theorem list_ac (t : Int) (l : List Nd) (hl : l.length ≤ 1000) (hs : ∀ x ∈ l, Sm x) : AC Tryz.prog 30 [.int .i64 t, .ro 5 (l.map Nd.v)] (fun r => r = (Nd.mk t 3 0 [] l).v) := by
  have hc := copies_ac _ l (Nat.lt_succ_self _) hl hs
  have hp := pureN l
  rw [Nd.v]
  generalize l.map Nd.v = lv at hc hp
  refine ac_intro Tryz.func30 rfl (by show (2 : Nat) ≤ 9; omega) (fun w0 N0 => ?_)
  refine aw_step [0, 1, 4] [4] (by simp [Tryz.ntmps30] <;> rfl) ?_   -- codec.go:22
  refine aw_seq (aw_region ?_)   -- codec.go:23
  refine awl_go 2 (by simp <;> rfl) ?_
  refine awl_call1 hc Tryz.func56 rfl (by kernel_rfl) rfl rfl rfl rfl rfl (by simp <;> rfl) ?_
  refine awl_end [4] [4] (by simp <;> rfl) ?_
  exact aw_ret (ends_ret (by simp [Tryz.results30] <;> rfl) rfl)

set_option maxHeartbeats 1000000 in
theorem refCopy_ac : ∀ (m : Nat) (x : Nd), SizeOf.sizeOf x < m → Sm x → AC Tryz.prog 64 [x.v] (fun r => r = x.v) := by
  intro m
  induction m with
  | zero => intro x h; omega
  | succ m ih =>
  rintro x hm ⟨hl, hs⟩
  rename_i t kd n s l
  have ih' : ∀ y ∈ l, AC Tryz.prog 64 [y.v] (fun r => r = y.v) := fun y hy => ih y (by have := Nd.kid_lt (t := t) (k := kd) (n := n) (s := s) hy; omega) (hs y hy)
  have hga := fun (k : Nat) (h : k < l.length) => nthN h
  have hla : (l.map Nd.v).length = l.length := by simp
  have hp := pureN l
  rw [Nd.v]
  generalize l.map Nd.v = lv at hga hla hp
  refine ac_intro Tryz.func64 rfl (by show (1 : Nat) ≤ 33; omega) (fun w0 N0 => ?_)
  refine aw_step [1, 2] [1, 2] (by simp [Tryz.ntmps64] <;> rfl) ?_   -- ref.go:7
  refine aw_step [1, 2, 3] [1, 2, 3] (by simp <;> rfl) ?_   -- ref.go:8
  refine aw_seq ?_
  refine aw_step [1, 2, 3, 4] [1, 2, 3] (by simp <;> rfl) ?_   -- ref.go:9
  refine aw_adoptC 3 4 100 5 42 [1, 2, 3, 4] [1, 2, 3, 100] (by simp <;> rfl) ?_
  refine aw_block ?_
  refine aw_loop (fun x : Nat × Nat × Nat => ⟨[(1, .bp 1 0 5 0 0), (2, .bp 2 1 5 0 0), (3, .bp 3 11 5 0 0), (4, .int .i64 x.1)], [(1, ⟨0, 5, 42, [.agg [.int .i64 t, .int .i64 kd, .int .i64 n, .str s, .ro 5 lv]]⟩), (2, ⟨1, 5, 42, [.agg [.int .i64 0, .int .i64 0, .int .i64 0, .str [], .nils]]⟩), (3, ⟨11, 5, 42, [.agg [.int .i64 t, .int .i64 kd, .int .i64 n, .str s, .sl 100 x.2.1 5 x.1]]⟩), (100, ⟨x.2.1, 5, 42, lv.take x.1⟩)], x.2.2, 33⟩)
    (fun x => x.1 ≤ l.length) (fun x => l.length - x.1) (0, 14, _) (Nat.zero_le _) (AS.le_refl _) ?_
  rintro ⟨k, q, nx⟩ hk
  simp only at hk
  have htl : (lv.take k).length = k := by rw [List.length_take]; omega
  refine aw_seq ?_
  refine aw_step [1, 2, 3, 4, 18] [1, 2, 3, 100] (by simp <;> rfl) ?_   -- ref.go:9
  refine aw_cond rfl (fun h1 => aw_skip ?_) (fun h1 => ?_)   -- if t18
  · have hlt : k < l.length := by simp at h1; omega
    have hlt' : k < lv.length := by omega
    have ga := hga k hlt
    have hc := ih' l[k] (List.getElem_mem hlt)
    have hw := wrap_succ (k := k) (by omega)
    have htk : lv.take (k + 1) = lv.take k ++ [l[k].v] := by
      rw [List.take_succ_eq_append_getElem hlt']
      congr 2
      rw [nth_eq, List.getElem?_eq_getElem hlt'] at ga
      injection ga
    have hb1 : k + 1 ≤ maxLen := by unfold maxLen; omega
    have hb2 : (k + 1) * 64 ≤ 140737488355328 := by omega
    rcases hka : l[k] with ⟨t2, k2, n2, s2, ks2⟩
    rw [hka] at ga hc htk
    rw [Nd.v] at ga hc htk
    generalize ks2.map Nd.v = kv2 at ga hc htk
    have hnl : (lv.take (k + 1)).length = k + 1 := by rw [htk]; simp [htl]
    rw [htk] at hnl
    generalize lv.take k = row at htl htk hnl ⊢
    refine aw_seq ?_
    refine aw_block ?_
    refine aw_draw [(0, []), (2, []), (4, []), (1, [29]), (3, [29]), (5, []), (6, [29]), (7, []), (8, []), (9, []), (10, []), (11, [])] hmix (by kernel_rfl) ?_   -- ref.go:10
    refine awo_go 7 (by simp [ga, hlt'] <;> rfl) ?_
    refine awo_call (fun hg => hc) Tryz.func64 rfl (by kernel_rfl) rfl rfl (by simp <;> rfl) rfl rfl (by simp <;> rfl) (by simp) (by simp <;> rfl) ?_
    refine awo_end [1, 2, 3, 4] [1, 2, 3, 100] (by simp [htl, hb1, hb2] <;> rfl) ?_
    refine aw_one [1, 2, 3, 4] [1, 2, 3, 100] (by simp [hw] <;> rfl) ?_   -- ref.go:9
    exact ⟨(k + 1, _, _), hlt, by simp only; omega, by simp only [htk]; exact AS.le_refl _⟩
  · refine aw_exit ?_
    have hkl : k = lv.length := by simp at h1; omega
    rw [List.take_of_length_le (by omega)]
    subst hkl
    refine aw_step [2] [2, 100] (by simp <;> rfl) ?_   -- ref.go:12
    exact aw_ret (ends_ret (by simp [Tryz.results64, hp] <;> rfl) rfl)
theorem refList_ac (t : Int) (l : List Nd) (hl : l.length ≤ 1000) (hs : ∀ x ∈ l, Sm x) : AC Tryz.prog 39 [.int .i64 t, .ro 5 (l.map Nd.v)] (fun r => r = (Nd.mk t 3 0 [] l).v) := by
  have hc := refCopy_ac _ (Nd.mk t 3 0 [] l) (Nat.lt_succ_self _) (.mk hl hs)
  have hp := pureN l
  rw [Nd.v] at hc ⊢
  generalize l.map Nd.v = lv at hc hp
  refine ac_intro Tryz.func39 rfl (by show (2 : Nat) ≤ 9; omega) (fun w0 N0 => ?_)
  refine aw_step [0, 1, 4] [4] (by simp [Tryz.ntmps39] <;> rfl) ?_   -- ref.go:26
  refine aw_seq (aw_region ?_)   -- ref.go:27
  refine awl_go 3 (by simp <;> rfl) ?_
  refine awl_call1 hc Tryz.func64 rfl (by kernel_rfl) rfl rfl rfl rfl rfl (by simp <;> rfl) ?_
  refine awl_end [4] [4] (by simp <;> rfl) ?_
  exact aw_ret (ends_ret (by simp [Tryz.results39] <;> rfl) rfl)
end Go.Proofs.YtmkbhognijicjaaGreatDoor
