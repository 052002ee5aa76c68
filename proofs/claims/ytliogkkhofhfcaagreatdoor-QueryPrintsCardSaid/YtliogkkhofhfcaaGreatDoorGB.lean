import Derived.Test.YtliogkkhofhfcaaGreatDoorE10
import Derived.Test.YtliogkkhofhfcaaGreatDoorProg
import Derived.KernelRfl
import Derived.IntWalk
/- Query: the types that its functions use. No condition. -/
namespace Go.Proofs.YtliogkkhofhfcaaGreatDoor
open Go.Eng
@[simp] theorem tyZ3 : tsz Tryz.prog 3 = some 1 := by kernel_rfl
@[simp] theorem tyA3 : tagg Tryz.prog 3 = some false := by kernel_rfl
@[simp] theorem tyU3 : (Tryz.prog.underlying 3).isSome = true := by kernel_rfl
@[simp] theorem tyO3 : tzero Tryz.prog 3 = some (.int .i64 0) := by kernel_rfl
@[simp] theorem tyK3 : tok Tryz.prog 3 = some 1 := by kernel_rfl
@[simp] theorem tyY3 : tbytes Tryz.prog 3 = some 8 := by kernel_rfl
@[simp] theorem tyI3 : tint Tryz.prog 3 = some .i64 := by kernel_rfl
@[simp] theorem tyZ4 : tsz Tryz.prog 4 = some 1 := by kernel_rfl
@[simp] theorem tyA4 : tagg Tryz.prog 4 = some false := by kernel_rfl
@[simp] theorem tyU4 : (Tryz.prog.underlying 4).isSome = true := by kernel_rfl
@[simp] theorem tyO4 : tzero Tryz.prog 4 = some (.bool false) := by kernel_rfl
@[simp] theorem tyK4 : tok Tryz.prog 4 = some 1 := by kernel_rfl
@[simp] theorem tyY4 : tbytes Tryz.prog 4 = some 1 := by kernel_rfl
@[simp] theorem tyB4 : tbool Tryz.prog 4 = true := by kernel_rfl
@[simp] theorem tyZ5 : tsz Tryz.prog 5 = some 1 := by kernel_rfl
@[simp] theorem tyA5 : tagg Tryz.prog 5 = some false := by kernel_rfl
@[simp] theorem tyU5 : (Tryz.prog.underlying 5).isSome = true := by kernel_rfl
@[simp] theorem tyO5 : tzero Tryz.prog 5 = some (.int .u8 0) := by kernel_rfl
@[simp] theorem tyK5 : tok Tryz.prog 5 = some 1 := by kernel_rfl
@[simp] theorem tyY5 : tbytes Tryz.prog 5 = some 1 := by kernel_rfl
@[simp] theorem tyW5 : tz8 Tryz.prog 5 = true := by kernel_rfl
@[simp] theorem tyI5 : tint Tryz.prog 5 = some .u8 := by kernel_rfl
@[simp] theorem tyZ9 : tsz Tryz.prog 9 = some 1 := by kernel_rfl
@[simp] theorem tyA9 : tagg Tryz.prog 9 = some false := by kernel_rfl
@[simp] theorem tyU9 : (Tryz.prog.underlying 9).isSome = true := by kernel_rfl
@[simp] theorem tyO9 : tzero Tryz.prog 9 = some (.str []) := by kernel_rfl
@[simp] theorem tyK9 : tok Tryz.prog 9 = some 1 := by kernel_rfl
@[simp] theorem tyY9 : tbytes Tryz.prog 9 = some 16 := by kernel_rfl
@[simp] theorem tyS9 : tstr Tryz.prog 9 = true := by kernel_rfl
@[simp] theorem tyI9 : tint Tryz.prog 9 = none := by kernel_rfl
@[simp] theorem tyZ21 : tsz Tryz.prog 21 = some 1 := by kernel_rfl
@[simp] theorem tyA21 : tagg Tryz.prog 21 = some false := by kernel_rfl
@[simp] theorem tyU21 : (Tryz.prog.underlying 21).isSome = true := by kernel_rfl
@[simp] theorem tyO21 : tzero Tryz.prog 21 = some (.int .i32 0) := by kernel_rfl
@[simp] theorem tyK21 : tok Tryz.prog 21 = some 1 := by kernel_rfl
@[simp] theorem tyY21 : tbytes Tryz.prog 21 = some 4 := by kernel_rfl
@[simp] theorem tyI21 : tint Tryz.prog 21 = some .i32 := by kernel_rfl
@[simp] theorem tyZ22 : tsz Tryz.prog 22 = some 1 := by kernel_rfl
@[simp] theorem tyA22 : tagg Tryz.prog 22 = some false := by kernel_rfl
@[simp] theorem tyU22 : (Tryz.prog.underlying 22).isSome = true := by kernel_rfl
@[simp] theorem tyO22 : tzero Tryz.prog 22 = some (.nils) := by kernel_rfl
@[simp] theorem tyK22 : tok Tryz.prog 22 = some 1 := by kernel_rfl
@[simp] theorem tyY22 : tbytes Tryz.prog 22 = some 24 := by kernel_rfl
@[simp] theorem tyE22 : telem Tryz.prog 22 = some 24 := by kernel_rfl
@[simp] theorem tyZ24 : tsz Tryz.prog 24 = some 6 := by kernel_rfl
@[simp] theorem tyA24 : tagg Tryz.prog 24 = some true := by kernel_rfl
@[simp] theorem tyU24 : (Tryz.prog.underlying 24).isSome = true := by kernel_rfl
@[simp] theorem tyO24 : tzero Tryz.prog 24 = some (.agg [.int .i64 0, .int .i64 0, .int .i64 0, .str [], .str [], .nils]) := by kernel_rfl
@[simp] theorem tyK24 : tok Tryz.prog 24 = some 6 := by kernel_rfl
@[simp] theorem tyY24 : tbytes Tryz.prog 24 = some 80 := by kernel_rfl
@[simp] theorem tyF24_0 : tfield Tryz.prog 24 0 = some (0, 1, false) := by kernel_rfl
@[simp] theorem tyF24_1 : tfield Tryz.prog 24 1 = some (1, 1, false) := by kernel_rfl
@[simp] theorem tyF24_2 : tfield Tryz.prog 24 2 = some (2, 1, false) := by kernel_rfl
@[simp] theorem tyF24_3 : tfield Tryz.prog 24 3 = some (3, 1, false) := by kernel_rfl
@[simp] theorem tyF24_4 : tfield Tryz.prog 24 4 = some (4, 1, false) := by kernel_rfl
@[simp] theorem tyF24_5 : tfield Tryz.prog 24 5 = some (5, 1, false) := by kernel_rfl
@[simp] theorem tyD24 : tfields Tryz.prog 24 = true := by kernel_rfl
@[simp] theorem tyZ25 : tsz Tryz.prog 25 = some 1 := by kernel_rfl
@[simp] theorem tyA25 : tagg Tryz.prog 25 = some false := by kernel_rfl
@[simp] theorem tyU25 : (Tryz.prog.underlying 25).isSome = true := by kernel_rfl
@[simp] theorem tyO25 : tzero Tryz.prog 25 = some (.int .i64 0) := by kernel_rfl
@[simp] theorem tyK25 : tok Tryz.prog 25 = some 1 := by kernel_rfl
@[simp] theorem tyY25 : tbytes Tryz.prog 25 = some 8 := by kernel_rfl
@[simp] theorem tyI25 : tint Tryz.prog 25 = some .i64 := by kernel_rfl
@[simp] theorem tyZ34 : tsz Tryz.prog 34 = some 1 := by kernel_rfl
@[simp] theorem tyA34 : tagg Tryz.prog 34 = some false := by kernel_rfl
@[simp] theorem tyU34 : (Tryz.prog.underlying 34).isSome = true := by kernel_rfl
@[simp] theorem tyO34 : tzero Tryz.prog 34 = some (.nils) := by kernel_rfl
@[simp] theorem tyK34 : tok Tryz.prog 34 = some 1 := by kernel_rfl
@[simp] theorem tyY34 : tbytes Tryz.prog 34 = some 24 := by kernel_rfl
@[simp] theorem tyE34 : telem Tryz.prog 34 = some 3 := by kernel_rfl
@[simp] theorem tyZ36 : tsz Tryz.prog 36 = some 2 := by kernel_rfl
@[simp] theorem tyA36 : tagg Tryz.prog 36 = some true := by kernel_rfl
@[simp] theorem tyU36 : (Tryz.prog.underlying 36).isSome = true := by kernel_rfl
@[simp] theorem tyO36 : tzero Tryz.prog 36 = some (.agg [.nils, .nils]) := by kernel_rfl
@[simp] theorem tyK36 : tok Tryz.prog 36 = some 2 := by kernel_rfl
@[simp] theorem tyY36 : tbytes Tryz.prog 36 = some 48 := by kernel_rfl
@[simp] theorem tyF36_0 : tfield Tryz.prog 36 0 = some (0, 1, false) := by kernel_rfl
@[simp] theorem tyF36_1 : tfield Tryz.prog 36 1 = some (1, 1, false) := by kernel_rfl
@[simp] theorem tyD36 : tfields Tryz.prog 36 = true := by kernel_rfl
@[simp] theorem tyZ37 : tsz Tryz.prog 37 = some 1 := by kernel_rfl
@[simp] theorem tyA37 : tagg Tryz.prog 37 = some false := by kernel_rfl
@[simp] theorem tyU37 : (Tryz.prog.underlying 37).isSome = true := by kernel_rfl
@[simp] theorem tyO37 : tzero Tryz.prog 37 = some (.nils) := by kernel_rfl
@[simp] theorem tyK37 : tok Tryz.prog 37 = some 1 := by kernel_rfl
@[simp] theorem tyY37 : tbytes Tryz.prog 37 = some 24 := by kernel_rfl
@[simp] theorem tyE37 : telem Tryz.prog 37 = some 189 := by kernel_rfl
@[simp] theorem tyZ38 : tsz Tryz.prog 38 = some 1 := by kernel_rfl
@[simp] theorem tyA38 : tagg Tryz.prog 38 = some false := by kernel_rfl
@[simp] theorem tyU38 : (Tryz.prog.underlying 38).isSome = true := by kernel_rfl
@[simp] theorem tyO38 : tzero Tryz.prog 38 = some (.nils) := by kernel_rfl
@[simp] theorem tyK38 : tok Tryz.prog 38 = some 1 := by kernel_rfl
@[simp] theorem tyY38 : tbytes Tryz.prog 38 = some 24 := by kernel_rfl
@[simp] theorem tyE38 : telem Tryz.prog 38 = some 191 := by kernel_rfl
@[simp] theorem tyZ39 : tsz Tryz.prog 39 = some 1 := by kernel_rfl
@[simp] theorem tyA39 : tagg Tryz.prog 39 = some false := by kernel_rfl
@[simp] theorem tyU39 : (Tryz.prog.underlying 39).isSome = true := by kernel_rfl
@[simp] theorem tyO39 : tzero Tryz.prog 39 = some (.nils) := by kernel_rfl
@[simp] theorem tyK39 : tok Tryz.prog 39 = some 1 := by kernel_rfl
@[simp] theorem tyY39 : tbytes Tryz.prog 39 = some 24 := by kernel_rfl
@[simp] theorem tyE39 : telem Tryz.prog 39 = some 51 := by kernel_rfl
@[simp] theorem tyZ40 : tsz Tryz.prog 40 = some 1 := by kernel_rfl
@[simp] theorem tyA40 : tagg Tryz.prog 40 = some false := by kernel_rfl
@[simp] theorem tyU40 : (Tryz.prog.underlying 40).isSome = true := by kernel_rfl
@[simp] theorem tyO40 : tzero Tryz.prog 40 = some (.nils) := by kernel_rfl
@[simp] theorem tyK40 : tok Tryz.prog 40 = some 1 := by kernel_rfl
@[simp] theorem tyY40 : tbytes Tryz.prog 40 = some 24 := by kernel_rfl
@[simp] theorem tyE40 : telem Tryz.prog 40 = some 105 := by kernel_rfl
@[simp] theorem tyZ42 : tsz Tryz.prog 42 = some 7 := by kernel_rfl
@[simp] theorem tyA42 : tagg Tryz.prog 42 = some true := by kernel_rfl
@[simp] theorem tyU42 : (Tryz.prog.underlying 42).isSome = true := by kernel_rfl
@[simp] theorem tyO42 : tzero Tryz.prog 42 = some (.agg [.int .i64 0, .nils, .nils, .nils, .nils, .nils, .nils]) := by kernel_rfl
@[simp] theorem tyK42 : tok Tryz.prog 42 = some 7 := by kernel_rfl
@[simp] theorem tyY42 : tbytes Tryz.prog 42 = some 152 := by kernel_rfl
@[simp] theorem tyF42_0 : tfield Tryz.prog 42 0 = some (0, 1, false) := by kernel_rfl
@[simp] theorem tyF42_1 : tfield Tryz.prog 42 1 = some (1, 2, true) := by kernel_rfl
@[simp] theorem tyF42_2 : tfield Tryz.prog 42 2 = some (3, 1, false) := by kernel_rfl
@[simp] theorem tyF42_3 : tfield Tryz.prog 42 3 = some (4, 1, false) := by kernel_rfl
@[simp] theorem tyF42_4 : tfield Tryz.prog 42 4 = some (5, 1, false) := by kernel_rfl
@[simp] theorem tyF42_5 : tfield Tryz.prog 42 5 = some (6, 1, false) := by kernel_rfl
@[simp] theorem tyD42 : tfields Tryz.prog 42 = true := by kernel_rfl
@[simp] theorem tyZ43 : tsz Tryz.prog 43 = some 1 := by kernel_rfl
@[simp] theorem tyA43 : tagg Tryz.prog 43 = some false := by kernel_rfl
@[simp] theorem tyU43 : (Tryz.prog.underlying 43).isSome = true := by kernel_rfl
@[simp] theorem tyO43 : tzero Tryz.prog 43 = some (.nils) := by kernel_rfl
@[simp] theorem tyK43 : tok Tryz.prog 43 = some 1 := by kernel_rfl
@[simp] theorem tyY43 : tbytes Tryz.prog 43 = some 24 := by kernel_rfl
@[simp] theorem tyE43 : telem Tryz.prog 43 = some 69 := by kernel_rfl
@[simp] theorem tyZ44 : tsz Tryz.prog 44 = some 1 := by kernel_rfl
@[simp] theorem tyA44 : tagg Tryz.prog 44 = some false := by kernel_rfl
@[simp] theorem tyU44 : (Tryz.prog.underlying 44).isSome = true := by kernel_rfl
@[simp] theorem tyO44 : tzero Tryz.prog 44 = some (.nils) := by kernel_rfl
@[simp] theorem tyK44 : tok Tryz.prog 44 = some 1 := by kernel_rfl
@[simp] theorem tyY44 : tbytes Tryz.prog 44 = some 24 := by kernel_rfl
@[simp] theorem tyE44 : telem Tryz.prog 44 = some 193 := by kernel_rfl
@[simp] theorem tyZ46 : tsz Tryz.prog 46 = some 5 := by kernel_rfl
@[simp] theorem tyA46 : tagg Tryz.prog 46 = some true := by kernel_rfl
@[simp] theorem tyU46 : (Tryz.prog.underlying 46).isSome = true := by kernel_rfl
@[simp] theorem tyO46 : tzero Tryz.prog 46 = some (.agg [.int .i64 0, .int .i64 0, .nils, .nils, .nils]) := by kernel_rfl
@[simp] theorem tyK46 : tok Tryz.prog 46 = some 5 := by kernel_rfl
@[simp] theorem tyY46 : tbytes Tryz.prog 46 = some 88 := by kernel_rfl
@[simp] theorem tyF46_0 : tfield Tryz.prog 46 0 = some (0, 1, false) := by kernel_rfl
@[simp] theorem tyF46_1 : tfield Tryz.prog 46 1 = some (1, 1, false) := by kernel_rfl
@[simp] theorem tyF46_2 : tfield Tryz.prog 46 2 = some (2, 1, false) := by kernel_rfl
@[simp] theorem tyF46_3 : tfield Tryz.prog 46 3 = some (3, 1, false) := by kernel_rfl
@[simp] theorem tyF46_4 : tfield Tryz.prog 46 4 = some (4, 1, false) := by kernel_rfl
@[simp] theorem tyD46 : tfields Tryz.prog 46 = true := by kernel_rfl
@[simp] theorem tyZ47 : tsz Tryz.prog 47 = some 1 := by kernel_rfl
@[simp] theorem tyA47 : tagg Tryz.prog 47 = some false := by kernel_rfl
@[simp] theorem tyU47 : (Tryz.prog.underlying 47).isSome = true := by kernel_rfl
@[simp] theorem tyO47 : tzero Tryz.prog 47 = some (.nils) := by kernel_rfl
@[simp] theorem tyK47 : tok Tryz.prog 47 = some 1 := by kernel_rfl
@[simp] theorem tyY47 : tbytes Tryz.prog 47 = some 24 := by kernel_rfl
@[simp] theorem tyE47 : telem Tryz.prog 47 = some 34 := by kernel_rfl
@[simp] theorem tyZ49 : tsz Tryz.prog 49 = some 1 := by kernel_rfl
@[simp] theorem tyA49 : tagg Tryz.prog 49 = some true := by kernel_rfl
@[simp] theorem tyU49 : (Tryz.prog.underlying 49).isSome = true := by kernel_rfl
@[simp] theorem tyO49 : tzero Tryz.prog 49 = some (.agg [.nils]) := by kernel_rfl
@[simp] theorem tyK49 : tok Tryz.prog 49 = some 1 := by kernel_rfl
@[simp] theorem tyY49 : tbytes Tryz.prog 49 = some 24 := by kernel_rfl
@[simp] theorem tyF49_0 : tfield Tryz.prog 49 0 = some (0, 1, false) := by kernel_rfl
@[simp] theorem tyD49 : tfields Tryz.prog 49 = true := by kernel_rfl
@[simp] theorem tyZ51 : tsz Tryz.prog 51 = some 7 := by kernel_rfl
@[simp] theorem tyA51 : tagg Tryz.prog 51 = some true := by kernel_rfl
@[simp] theorem tyU51 : (Tryz.prog.underlying 51).isSome = true := by kernel_rfl
@[simp] theorem tyO51 : tzero Tryz.prog 51 = some (.agg [.nils, .int .i64 0, .int .i64 0, .nils, .nils, .nils, .nils]) := by kernel_rfl
@[simp] theorem tyK51 : tok Tryz.prog 51 = some 7 := by kernel_rfl
@[simp] theorem tyY51 : tbytes Tryz.prog 51 = some 136 := by kernel_rfl
@[simp] theorem tyF51_0 : tfield Tryz.prog 51 0 = some (0, 1, false) := by kernel_rfl
@[simp] theorem tyF51_1 : tfield Tryz.prog 51 1 = some (1, 5, true) := by kernel_rfl
@[simp] theorem tyF51_2 : tfield Tryz.prog 51 2 = some (6, 1, true) := by kernel_rfl
@[simp] theorem tyD51 : tfields Tryz.prog 51 = true := by kernel_rfl
@[simp] theorem tyZ67 : tsz Tryz.prog 67 = some 1 := by kernel_rfl
@[simp] theorem tyA67 : tagg Tryz.prog 67 = some false := by kernel_rfl
@[simp] theorem tyU67 : (Tryz.prog.underlying 67).isSome = true := by kernel_rfl
@[simp] theorem tyO67 : tzero Tryz.prog 67 = some (.nils) := by kernel_rfl
@[simp] theorem tyK67 : tok Tryz.prog 67 = some 1 := by kernel_rfl
@[simp] theorem tyY67 : tbytes Tryz.prog 67 = some 24 := by kernel_rfl
@[simp] theorem tyE67 : telem Tryz.prog 67 = some 9 := by kernel_rfl
@[simp] theorem tyZ69 : tsz Tryz.prog 69 = some 17 := by kernel_rfl
@[simp] theorem tyA69 : tagg Tryz.prog 69 = some true := by kernel_rfl
@[simp] theorem tyU69 : (Tryz.prog.underlying 69).isSome = true := by kernel_rfl
@[simp] theorem tyO69 : tzero Tryz.prog 69 = some (.agg [.int .i64 0, .int .i64 0, .int .i64 0, .str [], .nils, .nils, .int .i64 0, .int .i64 0, .nils, .int .i64 0, .str [], .int .i64 0, .int .i64 0, .int .i64 0, .int .i64 0, .nils, .int .i64 0]) := by kernel_rfl
@[simp] theorem tyK69 : tok Tryz.prog 69 = some 17 := by kernel_rfl
@[simp] theorem tyY69 : tbytes Tryz.prog 69 = some 216 := by kernel_rfl
@[simp] theorem tyF69_0 : tfield Tryz.prog 69 0 = some (0, 1, false) := by kernel_rfl
@[simp] theorem tyF69_1 : tfield Tryz.prog 69 1 = some (1, 1, false) := by kernel_rfl
@[simp] theorem tyF69_2 : tfield Tryz.prog 69 2 = some (2, 1, false) := by kernel_rfl
@[simp] theorem tyF69_3 : tfield Tryz.prog 69 3 = some (3, 1, false) := by kernel_rfl
@[simp] theorem tyF69_4 : tfield Tryz.prog 69 4 = some (4, 1, false) := by kernel_rfl
@[simp] theorem tyF69_5 : tfield Tryz.prog 69 5 = some (5, 1, false) := by kernel_rfl
@[simp] theorem tyF69_6 : tfield Tryz.prog 69 6 = some (6, 1, false) := by kernel_rfl
@[simp] theorem tyF69_7 : tfield Tryz.prog 69 7 = some (7, 1, false) := by kernel_rfl
@[simp] theorem tyF69_8 : tfield Tryz.prog 69 8 = some (8, 1, false) := by kernel_rfl
@[simp] theorem tyF69_9 : tfield Tryz.prog 69 9 = some (9, 1, false) := by kernel_rfl
@[simp] theorem tyF69_10 : tfield Tryz.prog 69 10 = some (10, 1, false) := by kernel_rfl
@[simp] theorem tyF69_11 : tfield Tryz.prog 69 11 = some (11, 1, false) := by kernel_rfl
@[simp] theorem tyF69_12 : tfield Tryz.prog 69 12 = some (12, 1, false) := by kernel_rfl
@[simp] theorem tyF69_13 : tfield Tryz.prog 69 13 = some (13, 1, false) := by kernel_rfl
@[simp] theorem tyF69_14 : tfield Tryz.prog 69 14 = some (14, 1, false) := by kernel_rfl
@[simp] theorem tyF69_15 : tfield Tryz.prog 69 15 = some (15, 1, false) := by kernel_rfl
@[simp] theorem tyF69_16 : tfield Tryz.prog 69 16 = some (16, 1, false) := by kernel_rfl
@[simp] theorem tyD69 : tfields Tryz.prog 69 = true := by kernel_rfl
@[simp] theorem tyZ71 : tsz Tryz.prog 71 = some 1 := by kernel_rfl
@[simp] theorem tyA71 : tagg Tryz.prog 71 = some false := by kernel_rfl
@[simp] theorem tyU71 : (Tryz.prog.underlying 71).isSome = true := by kernel_rfl
@[simp] theorem tyO71 : tzero Tryz.prog 71 = some (.nilp) := by kernel_rfl
@[simp] theorem tyK71 : tok Tryz.prog 71 = some 1 := by kernel_rfl
@[simp] theorem tyY71 : tbytes Tryz.prog 71 = some 8 := by kernel_rfl
@[simp] theorem tyZ72 : tsz Tryz.prog 72 = some 1 := by kernel_rfl
@[simp] theorem tyA72 : tagg Tryz.prog 72 = some false := by kernel_rfl
@[simp] theorem tyU72 : (Tryz.prog.underlying 72).isSome = true := by kernel_rfl
@[simp] theorem tyO72 : tzero Tryz.prog 72 = some (.nils) := by kernel_rfl
@[simp] theorem tyK72 : tok Tryz.prog 72 = some 1 := by kernel_rfl
@[simp] theorem tyY72 : tbytes Tryz.prog 72 = some 24 := by kernel_rfl
@[simp] theorem tyE72 : telem Tryz.prog 72 = some 79 := by kernel_rfl
@[simp] theorem tyZ75 : tsz Tryz.prog 75 = some 4 := by kernel_rfl
@[simp] theorem tyA75 : tagg Tryz.prog 75 = some true := by kernel_rfl
@[simp] theorem tyU75 : (Tryz.prog.underlying 75).isSome = true := by kernel_rfl
@[simp] theorem tyO75 : tzero Tryz.prog 75 = some (.agg [.nils, .int .i64 0, .int .i64 0, .int .i64 0]) := by kernel_rfl
@[simp] theorem tyK75 : tok Tryz.prog 75 = some 4 := by kernel_rfl
@[simp] theorem tyY75 : tbytes Tryz.prog 75 = some 48 := by kernel_rfl
@[simp] theorem tyF75_0 : tfield Tryz.prog 75 0 = some (0, 1, false) := by kernel_rfl
@[simp] theorem tyF75_1 : tfield Tryz.prog 75 1 = some (1, 1, false) := by kernel_rfl
@[simp] theorem tyF75_2 : tfield Tryz.prog 75 2 = some (2, 1, false) := by kernel_rfl
@[simp] theorem tyF75_3 : tfield Tryz.prog 75 3 = some (3, 1, false) := by kernel_rfl
@[simp] theorem tyD75 : tfields Tryz.prog 75 = true := by kernel_rfl
@[simp] theorem tyZ77 : tsz Tryz.prog 77 = some 1 := by kernel_rfl
@[simp] theorem tyA77 : tagg Tryz.prog 77 = some false := by kernel_rfl
@[simp] theorem tyU77 : (Tryz.prog.underlying 77).isSome = true := by kernel_rfl
@[simp] theorem tyO77 : tzero Tryz.prog 77 = some (.nilf) := by kernel_rfl
@[simp] theorem tyK77 : tok Tryz.prog 77 = some 1 := by kernel_rfl
@[simp] theorem tyY77 : tbytes Tryz.prog 77 = some 8 := by kernel_rfl
@[simp] theorem tyZ79 : tsz Tryz.prog 79 = some 3 := by kernel_rfl
@[simp] theorem tyA79 : tagg Tryz.prog 79 = some true := by kernel_rfl
@[simp] theorem tyU79 : (Tryz.prog.underlying 79).isSome = true := by kernel_rfl
@[simp] theorem tyO79 : tzero Tryz.prog 79 = some (.agg [.int .i64 0, .int .i64 0, .str []]) := by kernel_rfl
@[simp] theorem tyK79 : tok Tryz.prog 79 = some 3 := by kernel_rfl
@[simp] theorem tyY79 : tbytes Tryz.prog 79 = some 32 := by kernel_rfl
@[simp] theorem tyF79_0 : tfield Tryz.prog 79 0 = some (0, 1, false) := by kernel_rfl
@[simp] theorem tyF79_1 : tfield Tryz.prog 79 1 = some (1, 1, false) := by kernel_rfl
@[simp] theorem tyF79_2 : tfield Tryz.prog 79 2 = some (2, 1, false) := by kernel_rfl
@[simp] theorem tyD79 : tfields Tryz.prog 79 = true := by kernel_rfl
@[simp] theorem tyL79 : tflat Tryz.prog 79 = some [0, 0, 2] := by kernel_rfl
@[simp] theorem tyZ91 : tsz Tryz.prog 91 = some 1 := by kernel_rfl
@[simp] theorem tyA91 : tagg Tryz.prog 91 = some false := by kernel_rfl
@[simp] theorem tyU91 : (Tryz.prog.underlying 91).isSome = true := by kernel_rfl
@[simp] theorem tyO91 : tzero Tryz.prog 91 = some (.nilp) := by kernel_rfl
@[simp] theorem tyK91 : tok Tryz.prog 91 = some 1 := by kernel_rfl
@[simp] theorem tyY91 : tbytes Tryz.prog 91 = some 8 := by kernel_rfl
@[simp] theorem tyZ92 : tsz Tryz.prog 92 = some 1 := by kernel_rfl
@[simp] theorem tyA92 : tagg Tryz.prog 92 = some false := by kernel_rfl
@[simp] theorem tyU92 : (Tryz.prog.underlying 92).isSome = true := by kernel_rfl
@[simp] theorem tyO92 : tzero Tryz.prog 92 = some (.nils) := by kernel_rfl
@[simp] theorem tyK92 : tok Tryz.prog 92 = some 1 := by kernel_rfl
@[simp] theorem tyY92 : tbytes Tryz.prog 92 = some 24 := by kernel_rfl
@[simp] theorem tyE92 : telem Tryz.prog 92 = some 5 := by kernel_rfl
@[simp] theorem tyBS92 : tbyteS Tryz.prog 92 = true := by kernel_rfl
@[simp] theorem tyZ94 : tsz Tryz.prog 94 = some 2 := by kernel_rfl
@[simp] theorem tyA94 : tagg Tryz.prog 94 = some true := by kernel_rfl
@[simp] theorem tyU94 : (Tryz.prog.underlying 94).isSome = true := by kernel_rfl
@[simp] theorem tyO94 : tzero Tryz.prog 94 = some (.agg [.nilp, .nils]) := by kernel_rfl
@[simp] theorem tyK94 : tok Tryz.prog 94 = some 2 := by kernel_rfl
@[simp] theorem tyY94 : tbytes Tryz.prog 94 = some 32 := by kernel_rfl
@[simp] theorem tyF94_0 : tfield Tryz.prog 94 0 = some (0, 1, false) := by kernel_rfl
@[simp] theorem tyF94_1 : tfield Tryz.prog 94 1 = some (1, 1, false) := by kernel_rfl
@[simp] theorem tyD94 : tfields Tryz.prog 94 = true := by kernel_rfl
@[simp] theorem tyZ105 : tsz Tryz.prog 105 = some 2 := by kernel_rfl
@[simp] theorem tyA105 : tagg Tryz.prog 105 = some true := by kernel_rfl
@[simp] theorem tyU105 : (Tryz.prog.underlying 105).isSome = true := by kernel_rfl
@[simp] theorem tyO105 : tzero Tryz.prog 105 = some (.agg [.int .i64 0, .int .i64 0]) := by kernel_rfl
@[simp] theorem tyK105 : tok Tryz.prog 105 = some 2 := by kernel_rfl
@[simp] theorem tyY105 : tbytes Tryz.prog 105 = some 16 := by kernel_rfl
@[simp] theorem tyF105_0 : tfield Tryz.prog 105 0 = some (0, 1, false) := by kernel_rfl
@[simp] theorem tyF105_1 : tfield Tryz.prog 105 1 = some (1, 1, false) := by kernel_rfl
@[simp] theorem tyD105 : tfields Tryz.prog 105 = true := by kernel_rfl
@[simp] theorem tyL105 : tflat Tryz.prog 105 = some [0, 0] := by kernel_rfl
@[simp] theorem tyZ112 : tsz Tryz.prog 112 = some 1 := by kernel_rfl
@[simp] theorem tyA112 : tagg Tryz.prog 112 = some false := by kernel_rfl
@[simp] theorem tyU112 : (Tryz.prog.underlying 112).isSome = true := by kernel_rfl
@[simp] theorem tyO112 : tzero Tryz.prog 112 = some (.nilp) := by kernel_rfl
@[simp] theorem tyK112 : tok Tryz.prog 112 = some 1 := by kernel_rfl
@[simp] theorem tyY112 : tbytes Tryz.prog 112 = some 8 := by kernel_rfl
@[simp] theorem tyZ115 : tsz Tryz.prog 115 = some 1 := by kernel_rfl
@[simp] theorem tyA115 : tagg Tryz.prog 115 = some false := by kernel_rfl
@[simp] theorem tyU115 : (Tryz.prog.underlying 115).isSome = true := by kernel_rfl
@[simp] theorem tyO115 : tzero Tryz.prog 115 = some (.nils) := by kernel_rfl
@[simp] theorem tyK115 : tok Tryz.prog 115 = some 1 := by kernel_rfl
@[simp] theorem tyY115 : tbytes Tryz.prog 115 = some 24 := by kernel_rfl
@[simp] theorem tyE115 : telem Tryz.prog 115 = some 130 := by kernel_rfl
@[simp] theorem tyZ117 : tsz Tryz.prog 117 = some 1 := by kernel_rfl
@[simp] theorem tyA117 : tagg Tryz.prog 117 = some false := by kernel_rfl
@[simp] theorem tyU117 : (Tryz.prog.underlying 117).isSome = true := by kernel_rfl
@[simp] theorem tyO117 : tzero Tryz.prog 117 = some (.int .u64 0) := by kernel_rfl
@[simp] theorem tyK117 : tok Tryz.prog 117 = some 1 := by kernel_rfl
@[simp] theorem tyY117 : tbytes Tryz.prog 117 = some 8 := by kernel_rfl
@[simp] theorem tyI117 : tint Tryz.prog 117 = some .u64 := by kernel_rfl
@[simp] theorem tyZ130 : tsz Tryz.prog 130 = some 1 := by kernel_rfl
@[simp] theorem tyA130 : tagg Tryz.prog 130 = some false := by kernel_rfl
@[simp] theorem tyU130 : (Tryz.prog.underlying 130).isSome = true := by kernel_rfl
@[simp] theorem tyO130 : tzero Tryz.prog 130 = some (.int .u32 0) := by kernel_rfl
@[simp] theorem tyK130 : tok Tryz.prog 130 = some 1 := by kernel_rfl
@[simp] theorem tyY130 : tbytes Tryz.prog 130 = some 4 := by kernel_rfl
@[simp] theorem tyI130 : tint Tryz.prog 130 = some .u32 := by kernel_rfl
@[simp] theorem tyZ147 : tsz Tryz.prog 147 = some 5 := by kernel_rfl
@[simp] theorem tyA147 : tagg Tryz.prog 147 = some true := by kernel_rfl
@[simp] theorem tyU147 : (Tryz.prog.underlying 147).isSome = true := by kernel_rfl
@[simp] theorem tyO147 : tzero Tryz.prog 147 = some (.agg [.str [], .str [], .str [], .str [], .str []]) := by kernel_rfl
@[simp] theorem tyK147 : tok Tryz.prog 147 = some 5 := by kernel_rfl
@[simp] theorem tyY147 : tbytes Tryz.prog 147 = some 80 := by kernel_rfl
@[simp] theorem tyN147 : tarr Tryz.prog 147 = some (5, 1) := by kernel_rfl
@[simp] theorem tyE147 : telem Tryz.prog 147 = none := by kernel_rfl
@[simp] theorem tyZ155 : tsz Tryz.prog 155 = some 1 := by kernel_rfl
@[simp] theorem tyA155 : tagg Tryz.prog 155 = some false := by kernel_rfl
@[simp] theorem tyU155 : (Tryz.prog.underlying 155).isSome = true := by kernel_rfl
@[simp] theorem tyO155 : tzero Tryz.prog 155 = some (.nilp) := by kernel_rfl
@[simp] theorem tyK155 : tok Tryz.prog 155 = some 1 := by kernel_rfl
@[simp] theorem tyY155 : tbytes Tryz.prog 155 = some 8 := by kernel_rfl
@[simp] theorem tyZ161 : tsz Tryz.prog 161 = some 1 := by kernel_rfl
@[simp] theorem tyA161 : tagg Tryz.prog 161 = some false := by kernel_rfl
@[simp] theorem tyU161 : (Tryz.prog.underlying 161).isSome = true := by kernel_rfl
@[simp] theorem tyO161 : tzero Tryz.prog 161 = some (.nilp) := by kernel_rfl
@[simp] theorem tyK161 : tok Tryz.prog 161 = some 1 := by kernel_rfl
@[simp] theorem tyY161 : tbytes Tryz.prog 161 = some 8 := by kernel_rfl
@[simp] theorem tyZ189 : tsz Tryz.prog 189 = some 2 := by kernel_rfl
@[simp] theorem tyA189 : tagg Tryz.prog 189 = some true := by kernel_rfl
@[simp] theorem tyU189 : (Tryz.prog.underlying 189).isSome = true := by kernel_rfl
@[simp] theorem tyO189 : tzero Tryz.prog 189 = some (.agg [.str [], .str []]) := by kernel_rfl
@[simp] theorem tyK189 : tok Tryz.prog 189 = some 2 := by kernel_rfl
@[simp] theorem tyY189 : tbytes Tryz.prog 189 = some 32 := by kernel_rfl
@[simp] theorem tyF189_0 : tfield Tryz.prog 189 0 = some (0, 1, false) := by kernel_rfl
@[simp] theorem tyF189_1 : tfield Tryz.prog 189 1 = some (1, 1, false) := by kernel_rfl
@[simp] theorem tyD189 : tfields Tryz.prog 189 = true := by kernel_rfl
@[simp] theorem tyL189 : tflat Tryz.prog 189 = some [2, 2] := by kernel_rfl
@[simp] theorem tyZ191 : tsz Tryz.prog 191 = some 5 := by kernel_rfl
@[simp] theorem tyA191 : tagg Tryz.prog 191 = some true := by kernel_rfl
@[simp] theorem tyU191 : (Tryz.prog.underlying 191).isSome = true := by kernel_rfl
@[simp] theorem tyO191 : tzero Tryz.prog 191 = some (.agg [.int .i64 0, .int .i64 0, .str [], .int .i64 0, .int .i64 0]) := by kernel_rfl
@[simp] theorem tyK191 : tok Tryz.prog 191 = some 5 := by kernel_rfl
@[simp] theorem tyY191 : tbytes Tryz.prog 191 = some 48 := by kernel_rfl
@[simp] theorem tyF191_0 : tfield Tryz.prog 191 0 = some (0, 1, false) := by kernel_rfl
@[simp] theorem tyF191_1 : tfield Tryz.prog 191 1 = some (1, 1, false) := by kernel_rfl
@[simp] theorem tyF191_2 : tfield Tryz.prog 191 2 = some (2, 1, false) := by kernel_rfl
@[simp] theorem tyF191_3 : tfield Tryz.prog 191 3 = some (3, 1, false) := by kernel_rfl
@[simp] theorem tyF191_4 : tfield Tryz.prog 191 4 = some (4, 1, false) := by kernel_rfl
@[simp] theorem tyD191 : tfields Tryz.prog 191 = true := by kernel_rfl
@[simp] theorem tyL191 : tflat Tryz.prog 191 = some [0, 0, 2, 0, 0] := by kernel_rfl
@[simp] theorem tyZ193 : tsz Tryz.prog 193 = some 4 := by kernel_rfl
@[simp] theorem tyA193 : tagg Tryz.prog 193 = some true := by kernel_rfl
@[simp] theorem tyU193 : (Tryz.prog.underlying 193).isSome = true := by kernel_rfl
@[simp] theorem tyO193 : tzero Tryz.prog 193 = some (.agg [.int .i64 0, .int .i64 0, .int .i64 0, .int .i64 0]) := by kernel_rfl
@[simp] theorem tyK193 : tok Tryz.prog 193 = some 4 := by kernel_rfl
@[simp] theorem tyY193 : tbytes Tryz.prog 193 = some 32 := by kernel_rfl
@[simp] theorem tyF193_0 : tfield Tryz.prog 193 0 = some (0, 1, false) := by kernel_rfl
@[simp] theorem tyF193_1 : tfield Tryz.prog 193 1 = some (1, 1, false) := by kernel_rfl
@[simp] theorem tyF193_2 : tfield Tryz.prog 193 2 = some (2, 1, false) := by kernel_rfl
@[simp] theorem tyF193_3 : tfield Tryz.prog 193 3 = some (3, 1, false) := by kernel_rfl
@[simp] theorem tyD193 : tfields Tryz.prog 193 = true := by kernel_rfl
@[simp] theorem tyL193 : tflat Tryz.prog 193 = some [0, 0, 0, 0] := by kernel_rfl

end Go.Proofs.YtliogkkhofhfcaaGreatDoor

/- Query: words, comparisons, small functions. No condition. -/
set_option linter.unusedSimpArgs false
set_option maxRecDepth 4000
namespace Go.Proofs.YtliogkkhofhfcaaGreatDoor
open Go.Eng

theorem _root_.Go.Eng.AC.relaxP {P : Program} {f : FuncId} {args : List V} {v' : V} (h : AC P f args (fun r => Relax r v')) : AC P f args (fun r => r = v') :=
  fun w N xs h1 h2 h3 => (h w N xs h1 h2 h3).mono fun _ _ ⟨x, _, he, hR, hp, hb⟩ => ⟨x, v', he, rfl, hR.1 _ _ _ hp, hb⟩
theorem hmix : Tryz.prog.follows .mixedOrders = true := by kernel_rfl
theorem wrap_in {x : Int} (h1 : -9223372036854775808 ≤ x) (h2 : x < 9223372036854775808) : IntKind.i64.wrap x = x := by
  rw [IntKind.wrap_i64]; omega
theorem wrap_succ {k : Nat} (h : (k : Int) < 9223372036854775807) : IntKind.i64.wrap ((k : Int) + 1) = ((k + 1 : Nat) : Int) := by
  rw [wrap_in (by omega) (by omega)]; omega
def fieldsL : List (List UInt8) := [[105, 100], [118, 101, 114, 115, 105, 111, 110], [112, 111, 105, 110, 116, 115], [119, 111, 114, 100, 115], [115, 101, 99, 111, 110, 100, 115], [102, 97, 109, 105, 108, 121], [115, 101, 116]]
def statesL : List (List UInt8) := [[100, 114, 97, 102, 116], [99, 111, 110, 116, 101, 110, 116], [102, 97, 105, 114], [112, 114, 101, 116, 101, 115, 116], [97, 99, 116, 105, 118, 101], [104, 101, 108, 100], [114, 101, 116, 105, 114, 101, 100]]
def kindsL : List (List UInt8) := [[99, 104, 111, 105, 99, 101], [109, 117, 108, 116, 105], [111, 114, 100, 101, 114], [110, 117, 109, 98, 101, 114], [116, 101, 120, 116], [101, 115, 115, 97, 121]]
def signsL : List (List UInt8) := [[60], [60, 61], [61], [33, 61], [62, 61], [62]]
def namesL (k : Int) : List (List UInt8) := if k = 4 then fieldsL else if k = 6 then statesL else if k = 7 then kindsL else []
abbrev strs (l : List (List UInt8)) : List V := l.map V.str
theorem strs_pure (l : List (List UInt8)) : (strs l).all V.pureE = true := by
  rw [List.all_eq_true]; intro v hv; obtain ⟨s, _, rfl⟩ := List.mem_map.1 hv; rfl
set_option maxHeartbeats 1000000 in
theorem names_ac (k : Int) : AC Tryz.prog 35 [.int .i64 k] (fun r => r = .ro 1 (strs (namesL k))) := by
  refine AC.relaxP ?_
  refine ac_intro Tryz.func35 rfl (by show (1 : Nat) ≤ 13; omega) (fun w0 N0 => ?_)
  refine aw_step [0] [] (by simp [Tryz.ntmps35] <;> rfl) ?_   -- query.go:24
  refine aw_seq ?_
  refine aw_step [3] [] (by simp <;> rfl) ?_   -- query.go:25
  refine aw_block ?_
  refine aw_step [3, 4] [] (by simp <;> rfl) ?_   -- query.go:26
  refine aw_cond rfl (fun h1 => ?_) (fun h1 => ?_)   -- if t4
  · refine aw_step [2] [6] (by simp <;> rfl) ?_   -- query.go:27
    refine aw_ret (ends_ret (by simp [Tryz.results35] <;> rfl) ?_)
    first
      | (have e1 : k = 4 := by simpa using h1
         subst e1; exact .refl _)
      | (have e1 : ¬ k = 4 := by simpa using h1
         first
           | (have e2 : k = 6 := by simpa using h2
              subst e2; exact .refl _)
           | (have e2 : ¬ k = 6 := by simpa using h2
              first
                | (have e3 : k = 7 := by simpa using h3
                   subst e3; exact .refl _)
                | (have e3 : ¬ k = 7 := by simpa using h3
                   simp only [namesL, if_neg e1, if_neg e2, if_neg e3, List.map_nil]; exact Relax.nils 1)))
  · refine aw_step [3, 7] [] (by simp <;> rfl) ?_   -- query.go:28
    refine aw_cond rfl (fun h2 => ?_) (fun h2 => ?_)   -- if t7
    · refine aw_step [2] [9] (by simp <;> rfl) ?_   -- query.go:29
      refine aw_ret (ends_ret (by simp [Tryz.results35] <;> rfl) ?_)
      first
        | (have e1 : k = 4 := by simpa using h1
           subst e1; exact .refl _)
        | (have e1 : ¬ k = 4 := by simpa using h1
           first
             | (have e2 : k = 6 := by simpa using h2
                subst e2; exact .refl _)
             | (have e2 : ¬ k = 6 := by simpa using h2
                first
                  | (have e3 : k = 7 := by simpa using h3
                     subst e3; exact .refl _)
                  | (have e3 : ¬ k = 7 := by simpa using h3
                     simp only [namesL, if_neg e1, if_neg e2, if_neg e3, List.map_nil]; exact Relax.nils 1)))
    · refine aw_step [10] [] (by simp <;> rfl) ?_   -- query.go:30
      refine aw_cond rfl (fun h3 => ?_) (fun h3 => aw_skip ?_)   -- if t10
      · refine aw_step [2] [12] (by simp <;> rfl) ?_   -- query.go:31
        refine aw_ret (ends_ret (by simp [Tryz.results35] <;> rfl) ?_)
        first
          | (have e1 : k = 4 := by simpa using h1
             subst e1; exact .refl _)
          | (have e1 : ¬ k = 4 := by simpa using h1
             first
               | (have e2 : k = 6 := by simpa using h2
                  subst e2; exact .refl _)
               | (have e2 : ¬ k = 6 := by simpa using h2
                  first
                    | (have e3 : k = 7 := by simpa using h3
                       subst e3; exact .refl _)
                    | (have e3 : ¬ k = 7 := by simpa using h3
                       simp only [namesL, if_neg e1, if_neg e2, if_neg e3, List.map_nil]; exact Relax.nils 1)))
      refine aw_step [2] [] (by simp <;> rfl) ?_   -- query.go:33
      refine aw_ret (ends_ret (by simp [Tryz.results35] <;> rfl) ?_)
      first
        | (have e1 : k = 4 := by simpa using h1
           subst e1; exact .refl _)
        | (have e1 : ¬ k = 4 := by simpa using h1
           first
             | (have e2 : k = 6 := by simpa using h2
                subst e2; exact .refl _)
             | (have e2 : ¬ k = 6 := by simpa using h2
                first
                  | (have e3 : k = 7 := by simpa using h3
                     subst e3; exact .refl _)
                  | (have e3 : ¬ k = 7 := by simpa using h3
                     simp only [namesL, if_neg e1, if_neg e2, if_neg e3, List.map_nil]; exact Relax.nils 1)))
set_option maxHeartbeats 1000000 in
theorem signs_ac : AC Tryz.prog 68 [] (fun r => r = .ro 1 (strs signsL)) := by
  refine ac_intro Tryz.func68 rfl (by show (0 : Nat) ≤ 2; omega) (fun w0 N0 => ?_)
  refine aw_step [] [] (by simp [Tryz.ntmps68] <;> rfl) ?_   -- query.go:37
  refine aw_step [0] [1] (by simp <;> rfl) ?_   -- query.go:38
  refine aw_ret (ends_ret (by simp [Tryz.results68] <;> rfl) ?_)
  rfl
def encl (p k : Int) : Bool := if k = 1 then decide (p = 1) || decide (p = 3) else if k = 2 then true else if k = 3 then decide (p = 3) else false
set_option maxHeartbeats 1000000 in
theorem encloses_ac (p k : Int) : AC Tryz.prog 85 [.int .i64 p, .int .i64 k] (fun r => r = .bool (encl p k)) := by
  refine ac_intro Tryz.func85 rfl (by show (2 : Nat) ≤ 20; omega) (fun w0 N0 => ?_)
  refine aw_step [0, 1] [] (by simp [Tryz.ntmps85] <;> rfl) ?_   -- query.go:114
  refine aw_seq ?_
  refine aw_step [0, 5] [] (by simp <;> rfl) ?_   -- query.go:115
  refine aw_block ?_
  refine aw_step [0, 5, 6] [] (by simp <;> rfl) ?_   -- query.go:116
  refine aw_cond rfl (fun h1 => ?_) (fun h1 => ?_)   -- if t6
  · refine aw_step [4] [] (by simp <;> rfl) ?_   -- query.go:117
    refine aw_ret (ends_ret (by simp [Tryz.results85] <;> rfl) ?_)
    simp_all [encl]
  · refine aw_step [0, 5, 14] [] (by simp <;> rfl) ?_   -- query.go:118
    refine aw_cond rfl (fun h2 => ?_) (fun h2 => ?_)   -- if t14
    · refine aw_step [4] [] (by simp <;> rfl) ?_   -- query.go:119
      refine aw_ret (ends_ret (by simp [Tryz.results85] <;> rfl) ?_)
      simp_all [encl]
    · refine aw_step [0, 16] [] (by simp <;> rfl) ?_   -- query.go:120
      refine aw_cond rfl (fun h3 => ?_) (fun h3 => aw_skip ?_)   -- if t16
      · refine aw_step [4] [] (by simp <;> rfl) ?_   -- query.go:121
        refine aw_ret (ends_ret (by simp [Tryz.results85] <;> rfl) ?_)
        simp_all [encl]
      refine aw_step [4] [] (by simp <;> rfl) ?_   -- query.go:123
      refine aw_ret (ends_ret (by simp [Tryz.results85] <;> rfl) ?_)
      simp_all [encl]
def cmpB (a r b : Int) : Bool := if r = 1 then decide (a < b) else if r = 2 then decide (a ≤ b) else if r = 3 then decide (a = b) else if r = 4 then !decide (a = b) else if r = 5 then decide (b ≤ a) else if r = 6 then decide (b < a) else false
set_option maxHeartbeats 1000000 in
theorem compare_ac (a r b : Int) : AC Tryz.prog 32 [.int .i64 a, .int .i64 r, .int .i64 b] (fun q => q = .bool (cmpB a r b)) := by
  refine ac_intro Tryz.func32 rfl (by show (3 : Nat) ≤ 38; omega) (fun w0 N0 => ?_)
  refine aw_step [0, 1, 2] [] (by simp [Tryz.ntmps32] <;> rfl) ?_   -- query.go:248
  refine aw_seq ?_
  refine aw_step [0, 2, 7] [] (by simp <;> rfl) ?_   -- query.go:249
  refine aw_block ?_
  refine aw_step [0, 2, 7, 8] [] (by simp <;> rfl) ?_   -- query.go:250
  refine aw_cond rfl (fun h1 => ?_) (fun h1 => ?_)   -- if t8
  · refine aw_step [6] [] (by simp <;> rfl) ?_   -- query.go:251
    refine aw_ret (ends_ret (by simp [Tryz.results32] <;> rfl) ?_)
    simp_all [cmpB]
  · refine aw_step [0, 2, 7, 13] [] (by simp <;> rfl) ?_   -- query.go:252
    refine aw_cond rfl (fun h2 => ?_) (fun h2 => ?_)   -- if t13
    · refine aw_step [6] [] (by simp <;> rfl) ?_   -- query.go:253
      refine aw_ret (ends_ret (by simp [Tryz.results32] <;> rfl) ?_)
      simp_all [cmpB]
    · refine aw_step [0, 2, 7, 18] [] (by simp <;> rfl) ?_   -- query.go:254
      refine aw_cond rfl (fun h3 => ?_) (fun h3 => ?_)   -- if t18
      · refine aw_step [6] [] (by simp <;> rfl) ?_   -- query.go:255
        refine aw_ret (ends_ret (by simp [Tryz.results32] <;> rfl) ?_)
        simp_all [cmpB]
      · refine aw_step [0, 2, 7, 23] [] (by simp <;> rfl) ?_   -- query.go:256
        refine aw_cond rfl (fun h4 => ?_) (fun h4 => ?_)   -- if t23
        · refine aw_step [6] [] (by simp <;> rfl) ?_   -- query.go:257
          refine aw_ret (ends_ret (by simp [Tryz.results32] <;> rfl) ?_)
          simp_all [cmpB]
        · refine aw_step [0, 2, 7, 28] [] (by simp <;> rfl) ?_   -- query.go:258
          refine aw_cond rfl (fun h5 => ?_) (fun h5 => ?_)   -- if t28
          · refine aw_step [6] [] (by simp <;> rfl) ?_   -- query.go:259
            refine aw_ret (ends_ret (by simp [Tryz.results32] <;> rfl) ?_)
            simp_all [cmpB]
          · refine aw_step [0, 2, 33] [] (by simp <;> rfl) ?_   -- query.go:260
            refine aw_cond rfl (fun h6 => ?_) (fun h6 => aw_skip ?_)   -- if t33
            · refine aw_step [6] [] (by simp <;> rfl) ?_   -- query.go:261
              refine aw_ret (ends_ret (by simp [Tryz.results32] <;> rfl) ?_)
              simp_all [cmpB]
            refine aw_step [6] [] (by simp <;> rfl) ?_   -- query.go:263
            refine aw_ret (ends_ret (by simp [Tryz.results32] <;> rfl) ?_)
            simp_all [cmpB]
end Go.Proofs.YtliogkkhofhfcaaGreatDoor

/- Query: strings. No condition. -/
set_option linter.unusedSimpArgs false
set_option maxRecDepth 4000
namespace Go.Proofs.YtliogkkhofhfcaaGreatDoor
open Go.Eng

/-- Whether a rune belongs to words. -/
def inW (r : Int) : Bool := !(decide (r = 32) || decide (r = 40) || decide (r = 41) || decide (r = 34) || decide (r = 60) || decide (r = 62) || decide (r = 61) || decide (r = 33))
set_option maxHeartbeats 1000000 in
theorem inWord_ac (r : Int) : AC Tryz.prog 47 [.int .i32 r] (fun q => q = .bool (inW r)) := by
  refine ac_intro Tryz.func47 rfl (by show (1 : Nat) ≤ 13; omega) (fun w0 N0 => ?_)
  refine aw_step [0] [] (by simp [Tryz.ntmps47] <;> rfl) ?_   -- parse.go:31
  refine aw_seq ?_
  refine aw_step [3] [] (by simp <;> rfl) ?_   -- parse.go:32
  refine aw_block ?_
  refine aw_seq ?_
  refine aw_step [3, 4] [] (by simp <;> rfl) ?_   -- parse.go:33
  refine aw_cond rfl (fun h1 => aw_skip ?_) (fun h1 => ?_)   -- if t4
  · refine aw_cond rfl (fun h2 => ?_) (fun h2 => aw_skip ?_)   -- if t4
    · refine aw_step [2] [] (by simp <;> rfl) ?_   -- parse.go:34
      refine aw_ret (ends_ret (by simp [Tryz.results47] <;> rfl) ?_)
      simp_all [inW]
    refine aw_step [2] [] (by simp <;> rfl) ?_   -- parse.go:36
    refine aw_ret (ends_ret (by simp [Tryz.results47] <;> rfl) ?_)
    simp_all [inW]
  · refine aw_step [3, 4] [] (by simp <;> rfl) ?_   -- parse.go:33
    refine aw_cond rfl (fun h3 => aw_skip ?_) (fun h3 => ?_)   -- if t4
    · refine aw_cond rfl (fun h4 => ?_) (fun h4 => aw_skip ?_)   -- if t4
      · refine aw_step [2] [] (by simp <;> rfl) ?_   -- parse.go:34
        refine aw_ret (ends_ret (by simp [Tryz.results47] <;> rfl) ?_)
        simp_all [inW]
      refine aw_step [2] [] (by simp <;> rfl) ?_   -- parse.go:36
      refine aw_ret (ends_ret (by simp [Tryz.results47] <;> rfl) ?_)
      simp_all [inW]
    · refine aw_step [3, 4] [] (by simp <;> rfl) ?_   -- parse.go:33
      refine aw_cond rfl (fun h5 => aw_skip ?_) (fun h5 => ?_)   -- if t4
      · refine aw_cond rfl (fun h6 => ?_) (fun h6 => aw_skip ?_)   -- if t4
        · refine aw_step [2] [] (by simp <;> rfl) ?_   -- parse.go:34
          refine aw_ret (ends_ret (by simp [Tryz.results47] <;> rfl) ?_)
          simp_all [inW]
        refine aw_step [2] [] (by simp <;> rfl) ?_   -- parse.go:36
        refine aw_ret (ends_ret (by simp [Tryz.results47] <;> rfl) ?_)
        simp_all [inW]
      · refine aw_step [3, 4] [] (by simp <;> rfl) ?_   -- parse.go:33
        refine aw_cond rfl (fun h7 => aw_skip ?_) (fun h7 => ?_)   -- if t4
        · refine aw_cond rfl (fun h8 => ?_) (fun h8 => aw_skip ?_)   -- if t4
          · refine aw_step [2] [] (by simp <;> rfl) ?_   -- parse.go:34
            refine aw_ret (ends_ret (by simp [Tryz.results47] <;> rfl) ?_)
            simp_all [inW]
          refine aw_step [2] [] (by simp <;> rfl) ?_   -- parse.go:36
          refine aw_ret (ends_ret (by simp [Tryz.results47] <;> rfl) ?_)
          simp_all [inW]
        · refine aw_step [3, 4] [] (by simp <;> rfl) ?_   -- parse.go:33
          refine aw_cond rfl (fun h9 => aw_skip ?_) (fun h9 => ?_)   -- if t4
          · refine aw_cond rfl (fun h10 => ?_) (fun h10 => aw_skip ?_)   -- if t4
            · refine aw_step [2] [] (by simp <;> rfl) ?_   -- parse.go:34
              refine aw_ret (ends_ret (by simp [Tryz.results47] <;> rfl) ?_)
              simp_all [inW]
            refine aw_step [2] [] (by simp <;> rfl) ?_   -- parse.go:36
            refine aw_ret (ends_ret (by simp [Tryz.results47] <;> rfl) ?_)
            simp_all [inW]
          · refine aw_step [3, 4] [] (by simp <;> rfl) ?_   -- parse.go:33
            refine aw_cond rfl (fun h11 => aw_skip ?_) (fun h11 => ?_)   -- if t4
            · refine aw_cond rfl (fun h12 => ?_) (fun h12 => aw_skip ?_)   -- if t4
              · refine aw_step [2] [] (by simp <;> rfl) ?_   -- parse.go:34
                refine aw_ret (ends_ret (by simp [Tryz.results47] <;> rfl) ?_)
                simp_all [inW]
              refine aw_step [2] [] (by simp <;> rfl) ?_   -- parse.go:36
              refine aw_ret (ends_ret (by simp [Tryz.results47] <;> rfl) ?_)
              simp_all [inW]
            · refine aw_step [3, 4] [] (by simp <;> rfl) ?_   -- parse.go:33
              refine aw_cond rfl (fun h13 => aw_skip ?_) (fun h13 => ?_)   -- if t4
              · refine aw_cond rfl (fun h14 => ?_) (fun h14 => aw_skip ?_)   -- if t4
                · refine aw_step [2] [] (by simp <;> rfl) ?_   -- parse.go:34
                  refine aw_ret (ends_ret (by simp [Tryz.results47] <;> rfl) ?_)
                  simp_all [inW]
                refine aw_step [2] [] (by simp <;> rfl) ?_   -- parse.go:36
                refine aw_ret (ends_ret (by simp [Tryz.results47] <;> rfl) ?_)
                simp_all [inW]
              · refine aw_one [4] [] (by simp <;> rfl) ?_   -- parse.go:33
                refine aw_cond rfl (fun h15 => ?_) (fun h15 => aw_skip ?_)   -- if t4
                · refine aw_step [2] [] (by simp <;> rfl) ?_   -- parse.go:34
                  refine aw_ret (ends_ret (by simp [Tryz.results47] <;> rfl) ?_)
                  simp_all [inW]
                refine aw_step [2] [] (by simp <;> rfl) ?_   -- parse.go:36
                refine aw_ret (ends_ret (by simp [Tryz.results47] <;> rfl) ?_)
                simp_all [inW]
theorem nthS {l : List UInt8} {k : Nat} (h : k < l.length) : nth l k = some l[k] := by rw [nth_eq]; simp [h]
theorem nthG {α : Type} {l : List α} {k : Nat} (h : k < l.length) : nth l k = some l[k] := by rw [nth_eq]; simp [h]
def okC (c : UInt8) : Bool := decide (32 ≤ c.toNat) && decide (c.toNat ≤ 126) && !decide (c.toNat = 34)
def quot (s : List UInt8) : Bool := decide (1 ≤ s.length) && decide (s.length ≤ 60) && s.all okC
set_option maxHeartbeats 1000000 in
theorem quotable_ac (s : List UInt8) : AC Tryz.prog 66 [.str s] (fun r => r = .bool (quot s)) := by
  have hg := fun (k : Nat) (h : k < s.length) => nthS h
  refine ac_intro Tryz.func66 rfl (by show (1 : Nat) ≤ 34; omega) (fun w0 N0 => ?_)
  refine aw_step [0] [] (by simp [Tryz.ntmps66] <;> rfl) ?_   -- query.go:169
  refine aw_seq ?_
  refine aw_step [0, 11] [] (by simp <;> rfl) ?_   -- query.go:170
  refine aw_cond rfl (fun h1 => ?_) (fun h1 => aw_skip ?_)   -- if t11
  · refine aw_step [2] [] (by simp <;> rfl) ?_   -- query.go:171
    refine aw_ret (ends_ret (by simp [Tryz.results66] <;> rfl) ?_)
    congr 1
    symm
    have : s.length < 1 ∨ 60 < s.length := by simp at h1; omega
    simp [quot]
    omega
  have h1' : 1 ≤ s.length ∧ s.length ≤ 60 := by simp at h1; omega
  refine aw_seq ?_
  refine aw_step [0, 3] [] (by simp <;> rfl) ?_   -- query.go:173
  refine aw_block ?_
  refine aw_count (fun k nx => ⟨[(0, .str s), (3, .int .i64 k)], [], nx, 34⟩) (fun k => (s.take k).all okC = true) s.length _ (by simp) (AS.le_refl _) ?_
  intro k nx hk hI
  refine aw_seq ?_
  refine aw_step [0, 3, 15] [] (by simp <;> rfl) ?_   -- query.go:173
  refine aw_cond rfl (fun h2 => aw_skip ?_) (fun h2 => ?_)   -- if t15
  · have hlt : k < s.length := by simp at h2; omega
    have ga := hg k hlt
    have hw := wrap_succ (k := k) (by omega)
    have htk := List.take_succ_eq_append_getElem (l := s) (i := k) hlt
    have hmem : s[k] ∈ s := List.getElem_mem hlt
    generalize s[k] = c at ga htk hmem
    refine aw_seq ?_
    refine aw_block ?_
    refine aw_step [0, 3, 33] [] (by simp [ga] <;> rfl) ?_   -- query.go:174
    refine aw_cond rfl (fun h3 => ?_) (fun h3 => aw_skip ?_)   -- if t33
    · refine aw_step [2] [] (by simp <;> rfl) ?_   -- query.go:175
      refine aw_ret (ends_ret (by simp [Tryz.results66] <;> rfl) ?_)
      have hc : okC c = false := by
        simp only [okC]
        simp at h3
        by_cases q1 : 32 ≤ c.toNat <;> by_cases q2 : c.toNat ≤ 126 <;> by_cases q3 : c.toNat = 34 <;> simp [q1, q2, q3]
        omega
      have : s.all okC = false := by
        rw [List.all_eq_false]
        exact ⟨c, hmem, by rw [hc]; simp⟩
      simp [quot, this]
    have hc : okC c = true := by
      simp only [okC]
      simp at h3
      simp
      omega
    refine aw_one [0, 3] [] (by simp [hw] <;> rfl) ?_   -- query.go:173
    exact ⟨hlt, by rw [htk, List.all_append, hI]; simp [hc], _, AS.le_refl _⟩
  · refine aw_exit ?_
    refine aw_step [2] [] (by simp <;> rfl) ?_   -- query.go:178
    refine aw_ret (ends_ret (by simp [Tryz.results66] <;> rfl) ?_)
    have hke : k = s.length := by simp at h2; omega
    rw [hke, List.take_length] at hI
    simp [quot, hI, h1']

/-- The first place of a string in a list, or -1. -/
def idxF (x : List UInt8) : List (List UInt8) → Nat → Int
  | [], _ => -1
  | y :: r, k => if y = x then k else idxF x r (k + 1)
def idxS (l : List (List UInt8)) (x : List UInt8) : Int := idxF x l 0
theorem idxF_skip (x : List UInt8) : ∀ (l : List (List UInt8)) (k i : Nat), (∀ j (h : j < l.length), j < k → l[j] ≠ x) → k ≤ l.length → idxF x l i = idxF x (l.drop k) (i + k)
  | l, 0, i, _, _ => by simp
  | [], k + 1, i, _, h => by simp at h
  | y :: r, k + 1, i, h, hk => by
    rw [idxF, if_neg (by have := h 0 (by simp) (by omega); simpa using this), List.drop_succ_cons, idxF_skip x r k (i + 1) (fun j hj hjk => by have := h (j + 1) (by simp; omega) (by omega); simpa using this) (by simpa using hk)]
    congr 1
    omega
set_option maxHeartbeats 1000000 in
theorem index_ac (l : List (List UInt8)) (x : List UInt8) : AC Tryz.prog 34 [.ro 1 (strs l), .str x] (fun r => r = .int .i64 (idxS l x)) := by
  refine ac_lenR 0 rfl (fun hmax => ?_)
  unfold maxLen at hmax
  have hg : ∀ (k : Nat) (h : k < l.length), nth (strs l) k = some (.str l[k]) := fun k h => by rw [nth_eq]; simp [h]
  have hl : (strs l).length = l.length := by simp
  generalize strs l = lv at hg hl hmax
  refine ac_intro Tryz.func34 rfl (by show (2 : Nat) ≤ 19; omega) (fun w0 N0 => ?_)
  refine aw_step [0, 1] [] (by simp [Tryz.ntmps34] <;> rfl) ?_   -- slices.go:96
  refine aw_seq ?_
  refine aw_step [0, 1, 7, 8] [] (by simp <;> rfl) ?_   -- slices.go:97
  refine aw_block ?_
  refine aw_count (fun k nx => ⟨[(0, .ro 1 lv), (1, .str x), (7, .int .i64 lv.length), (8, .int .i64 k)], [], nx, 19⟩) (fun k => k ≤ l.length ∧ ∀ j (h : j < l.length), j < k → l[j] ≠ x) l.length _ ⟨Nat.zero_le _, fun j _ h => by omega⟩ (AS.le_refl _) ?_
  intro k nx hk hI
  refine aw_step [0, 1, 7, 8, 9] [] (by simp <;> rfl) ?_   -- slices.go:97
  refine aw_seq ?_
  refine aw_cond rfl (fun h1 => aw_skip ?_) (fun h1 => ?_)   -- if t9
  · have hlt : k < l.length := by simp at h1; omega
    have hlt' : k < lv.length := by omega
    have ga := hg k hlt
    have hw := wrap_succ (k := k) (by omega)
    have hsk := idxF_skip x l k 0 hI.2 hI.1
    rw [List.drop_eq_getElem_cons hlt, idxF] at hsk
    have hnext : l[k] ≠ x → ∀ j (h : j < l.length), j < k + 1 → l[j] ≠ x := by
      intro hne j hj hjk
      by_cases e : j = k
      · subst e; exact hne
      · exact hI.2 j hj (by omega)
    generalize l[k] = y at ga hsk hnext
    refine aw_seq ?_
    refine aw_block ?_
    refine aw_step [0, 1, 5, 7, 8] [] (by simp <;> rfl) ?_   -- slices.go:97
    refine aw_step [0, 1, 5, 7, 8, 16] [] (by simp [ga, hlt'] <;> rfl) ?_   -- slices.go:98
    refine aw_cond rfl (fun h2 => ?_) (fun h2 => aw_skip ?_)   -- if t16
    · have he : y = x := by simp at h2; first | exact h2 | exact h2.symm
      rw [if_pos he] at hsk
      refine aw_step [4] [] (by simp <;> rfl) ?_   -- slices.go:99
      refine aw_ret (ends_ret (by simp [Tryz.results34] <;> rfl) ?_)
      rw [idxS, hsk]
      simp
    have hne : y ≠ x := by simp at h2; first | exact h2 | exact fun e => h2 e.symm
    refine aw_one [0, 1, 7, 8] [] (by simp [hw] <;> rfl) ?_   -- slices.go:97
    exact ⟨hlt, ⟨hlt, hnext hne⟩, _, AS.le_refl _⟩
  · refine aw_exit ?_
    refine aw_step [4] [] (by simp <;> rfl) ?_   -- slices.go:102
    refine aw_ret (ends_ret (by simp [Tryz.results34] <;> rfl) ?_)
    have hke : k = l.length := by simp at h1; omega
    rw [idxS, idxF_skip x l k 0 hI.2 hI.1, hke, List.drop_length, idxF]
def hasS (l : List (List UInt8)) (x : List UInt8) : Bool := decide (0 ≤ idxS l x)
set_option maxHeartbeats 1000000 in
theorem contains_ac (l : List (List UInt8)) (x : List UInt8) : AC Tryz.prog 67 [.ro 1 (strs l), .str x] (fun r => r = .bool (hasS l x)) := by
  have hc := index_ac l x
  have hp := strs_pure l
  unfold hasS
  generalize strs l = lv at hc hp
  generalize idxS l x = ix at hc
  refine ac_intro Tryz.func67 rfl (by show (2 : Nat) ≤ 9; omega) (fun w0 N0 => ?_)
  refine aw_step [0, 1] [] (by simp [Tryz.ntmps67] <;> rfl) ?_   -- slices.go:117
  refine aw_seq (aw_region ?_)   -- slices.go:118
  refine awl_go 2 (by simp <;> rfl) ?_
  refine awl_call1 hc Tryz.func34 rfl (by kernel_rfl) rfl rfl rfl (by simp <;> rfl) (by simp [hp]) (by simp <;> rfl) ?_
  refine awl_end [4] [] (by simp <;> rfl) ?_
  refine aw_ret (ends_ret (by simp [Tryz.results67] <;> rfl) ?_)
  rfl
def hasP (s t : List UInt8) : Bool := decide (t.length ≤ s.length) && decide (s.take t.length = t)
set_option maxHeartbeats 1000000 in
theorem lhasPrefix_ac (s t : List UInt8) : AC Tryz.prog 71 [.str s, .str t] (fun r => r = .bool (hasP s t)) := by
  unfold hasP
  refine ac_intro Tryz.func71 rfl (by show (2 : Nat) ≤ 18; omega) (fun w0 N0 => ?_)
  refine aw_step [0, 1] [] (by simp [Tryz.ntmps71] <;> rfl) ?_   -- strings.go:16
  by_cases h : t.length ≤ s.length
  · have h' : (t.length : Int) ≤ s.length := by omega
    refine aw_step [4] [] (by simp [h, h'] <;> rfl) ?_   -- strings.go:17
    exact aw_ret (ends_ret (by simp [Tryz.results71] <;> rfl) (by simp [h]))
  · have h' : ¬ (t.length : Int) ≤ s.length := by omega
    refine aw_step [4] [] (by simp [h, h'] <;> rfl) ?_   -- strings.go:17
    exact aw_ret (ends_ret (by simp [Tryz.results71] <;> rfl) (by simp [h]))
set_option maxHeartbeats 1000000 in
theorem hasPrefix_ac (s t : List UInt8) : AC Tryz.prog 51 [.str s, .str t] (fun r => r = .bool (hasP s t)) := by
  have hc := lhasPrefix_ac s t
  refine ac_intro Tryz.func51 rfl (by show (2 : Nat) ≤ 8; omega) (fun w0 N0 => ?_)
  refine aw_step [0, 1] [] (by simp [Tryz.ntmps51] <;> rfl) ?_   -- strings.go:501
  refine aw_seq (aw_region ?_)   -- strings.go:502
  refine awl_go 2 (by simp <;> rfl) ?_
  refine awl_call1 hc Tryz.func71 rfl (by kernel_rfl) rfl rfl rfl (by simp <;> rfl) (by simp) (by simp <;> rfl) ?_
  refine awl_end [4] [] (by simp <;> rfl) ?_
  refine aw_ret (ends_ret (by simp [Tryz.results51] <;> rfl) ?_)
  rfl
end Go.Proofs.YtliogkkhofhfcaaGreatDoor

/- Query: natural numbers of limbs: trim, Of. No condition. -/
set_option linter.unusedSimpArgs false
set_option maxRecDepth 4000
namespace Go.Proofs.YtliogkkhofhfcaaGreatDoor
open Go.Eng

abbrev u32V (n : Nat) : V := .int .u32 (n : Int)
abbrev u32s (l : List Nat) : List V := l.map u32V
theorem u32s_pure (l : List Nat) : (u32s l).all V.pureE = true := by
  rw [List.all_eq_true]; intro v hv; obtain ⟨s, _, rfl⟩ := List.mem_map.1 hv; rfl
def limbs (l : List Nat) : Prop := ∀ x ∈ l, x < 4294967296
def valN : List Nat → Nat
  | [] => 0
  | x :: r => x + 4294967296 * valN r
def trimL : List Nat → List Nat
  | [] => []
  | x :: r => if trimL r = [] then (if x = 0 then [] else [x]) else x :: trimL r
theorem trimL_zero : ∀ (a : List Nat), trimL (a ++ [0]) = trimL a
  | [] => by simp [trimL]
  | x :: a => by simp [trimL, trimL_zero a]
theorem trimL_last (y : Nat) (h : y ≠ 0) : ∀ (a : List Nat), trimL (a ++ [y]) = a ++ [y]
  | [] => by simp [trimL, h]
  | x :: a => by simp [trimL, trimL_last y h a]
theorem trimL_len : ∀ (l : List Nat), (trimL l).length ≤ l.length
  | [] => by simp [trimL]
  | x :: r => by
    have := trimL_len r
    rw [trimL]
    split
    · split <;> simp
    · simp; omega
def natL (n : Nat) : List Nat := if h : n = 0 then [] else n % 4294967296 :: natL (n / 4294967296)
  termination_by n
  decreasing_by omega
theorem natL_zero : natL 0 = [] := by rw [natL]; simp
theorem natL_pos {n : Nat} (h : n ≠ 0) : natL n = n % 4294967296 :: natL (n / 4294967296) := by rw [natL]; simp [h]
theorem trimL_val : ∀ (l : List Nat), limbs l → trimL l = natL (valN l)
  | [], _ => by simp [trimL, valN, natL_zero]
  | x :: r, h => by
    have hx : x < 4294967296 := h x (by simp)
    have ih := trimL_val r (fun y hy => h y (by simp [hy]))
    rw [trimL, valN, ih]
    by_cases hv : valN r = 0
    · rw [hv, natL_zero]
      by_cases h0 : x = 0
      · subst h0; simp [natL_zero]
      · rw [if_pos rfl, if_neg h0, natL_pos (by omega)]
        rw [show (x + 4294967296 * 0) % 4294967296 = x by omega, show (x + 4294967296 * 0) / 4294967296 = 0 by omega, natL_zero]
    · have hne : natL (valN r) ≠ [] := by rw [natL_pos hv]; simp
      rw [if_neg hne, natL_pos (n := x + 4294967296 * valN r) (by omega)]
      rw [show (x + 4294967296 * valN r) % 4294967296 = x by omega, show (x + 4294967296 * valN r) / 4294967296 = valN r by omega]
theorem valN_natL (n : Nat) : valN (natL n) = n := by
  induction n using Nat.strongRecOn with
  | _ n ih =>
    by_cases h : n = 0
    · subst h; simp [natL_zero, valN]
    · rw [natL_pos h, valN, ih _ (by omega)]; omega
theorem limbs_natL (n : Nat) : limbs (natL n) := by
  induction n using Nat.strongRecOn with
  | _ n ih =>
    by_cases h : n = 0
    · subst h; simp [natL_zero, limbs]
    · rw [natL_pos h]
      intro x hx
      rcases List.mem_cons.1 hx with h1 | h1
      · omega
      · exact ih _ (by omega) x h1

set_option maxHeartbeats 1000000 in
theorem trimR_ac (l : List Nat) : AC Tryz.prog 134 [.ro 1 (u32s l)] (fun r => r = .ro 1 (u32s (trimL l))) := by
  refine ac_lenR 0 rfl (fun hmax => ?_)
  unfold maxLen at hmax
  simp only [List.length_map] at hmax
  refine ac_intro Tryz.func134 rfl (by show (1 : Nat) ≤ 21; omega) (fun w0 N0 => ?_)
  refine aw_step [0] [] (by simp [Tryz.ntmps134] <;> rfl) ?_   -- nat.go:12
  refine aw_seq ?_
  refine aw_block ?_
  refine aw_loop (fun p : List Nat × Nat => ⟨[(0, .ro 1 (u32s p.1))], [], p.2, 21⟩) (fun p => trimL p.1 = trimL l ∧ p.1.length ≤ l.length) (fun p => p.1.length) (l, _) ⟨rfl, Nat.le_refl _⟩ (AS.le_refl _) ?_
  rintro ⟨b, nx⟩ ⟨hI, hlen⟩
  simp only at hI hlen
  rcases List.eq_nil_or_concat b with rfl | ⟨a, x, rfl⟩
  · refine aw_seq ?_
    refine aw_step [0, 14] [] (by simp <;> rfl) ?_   -- nat.go:13
    refine aw_cond rfl (fun h1 => by simp at h1) (fun h1 => ?_)   -- if t14
    refine aw_exit ?_
    refine aw_step [2] [] (by simp <;> rfl) ?_   -- nat.go:16
    refine aw_ret (ends_ret (by simp [Tryz.results134] <;> rfl) ?_)
    rw [← hI]; simp [trimL]
  simp only [List.concat_eq_append, List.length_append, List.length_cons, List.length_nil] at hI hlen ⊢
  have e : u32s (a ++ [x]) = u32s a ++ [.int .u32 (x : Int)] := by simp
  rw [e]
  have hla : (u32s a).length = a.length := by simp
  have hw : IntKind.i64.wrap (a.length : Int) = a.length := wrap_in (by omega) (by omega)
  have hn : nth (u32s a ++ [V.int .u32 (x : Int)]) a.length = some (.int .u32 x) := by rw [← hla]; exact nth_append_len
  have htk : (u32s a ++ [V.int .u32 (x : Int)]).take a.length = u32s a := by rw [← hla]; simp
  generalize hav : u32s a = av at hla hn htk
  have hlt : (a.length : Int) < (a.length : Int) + 1 := by omega
  have hle : (a.length : Int) ≤ (a.length : Int) + 1 := by omega
  refine aw_seq ?_
  refine aw_step [0, 14] [] (by simp [hla, hw, hn, hlt, hle] <;> rfl) ?_   -- nat.go:13
  refine aw_cond rfl (fun h1 => aw_skip ?_) (fun h1 => ?_)   -- if t14
  · have hx : x = 0 := by simp at h1; omega
    subst hx
    refine aw_block ?_
    refine aw_one [0] [] (by simp [hla, hw, htk, hlt, hle] <;> rfl) ?_   -- nat.go:14
    refine ⟨(a, nx + 12 + 6), ⟨by rw [← hI, trimL_zero], by simp only; omega⟩, by simp, ?_⟩
    simp only [hav]
    exact AS.le_refl _
  · have hx : x ≠ 0 := by simp at h1; omega
    refine aw_exit ?_
    refine aw_step [2] [] (by simp <;> rfl) ?_   -- nat.go:16
    refine aw_ret (ends_ret (by simp [Tryz.results134] <;> rfl) ?_)
    rw [← hI, trimL_last x hx, e, hav]
theorem trim_ac (l : List Nat) (h : limbs l) : AC Tryz.prog 134 [.ro 1 (u32s l)] (fun r => r = .ro 1 (u32s (natL (valN l)))) := by
  rw [← trimL_val l h]; exact trimR_ac l
end Go.Proofs.YtliogkkhofhfcaaGreatDoor
