import Derived.Test.YtnklkkagpkcmfaaGreatDoorGW
import Derived.Test.YtnklkkagpkcmfaaGreatDoorG7
import Derived.Shelf.Strings.Builder1
import Derived.Shelf.Strings.Builder2
import Derived.Shelf.Small.Bits
import Derived.Shelf.Strconv.Itoa0
import Derived.Shelf.Strings.Search1
import Derived.Shelf.Strings.Search2
import Derived.Shelf.Strings.Search3
import Derived.Shelf.Strings.Cut
import Derived.Shelf.Strings.Count
import Derived.Shelf.LaysM
import Derived.Shelf.Strings.Shaped
import Derived.Shelf.Sort.Plain
import Derived.Shelf.Strings.Split
import Derived.Shelf.Strings.Replace
import Derived.Shelf.Unicode.DecodeSlow
import Derived.Ground.Names2Prog
import Derived.Shelf.Slices.CompactI
import Derived.Shelf.Slices.Cells
import Derived.Ground.SlsfProg
import Derived.Test.YtnklkkagpkcmfaaGreatDoorProg
import Derived.Lib.AppendIntMem
import Derived.Shelf.Slices.In.SortNone
import Derived.Test.YtnklkkagpkcmfaaGreatDoorG4
import Derived.Lib.ReplaceLaws
import Derived.Lib.SplitLaws
import Derived.RangeFuncBox
import Derived.RangeFuncLeaves
import Derived.Shelf.Abstract
import Derived.WalkKit
import Derived.OwnWalkIn
import Derived.TacticsInMore
import Derived.LoopNIn
import Derived.LoopIn
import Derived.Maps.AppendAt
import Derived.Shelf.SlIterI.Sorted
set_option linter.all false

set_option maxRecDepth 4000
namespace Go.Proofs.YtnklkkagpkcmfaaGreatDoor
open Go.Eng Go.Eng.Limb
theorem hmixA : Tryz.prog.follows .mixedOrders = true := by kernel_rfl
end Go.Proofs.YtnklkkagpkcmfaaGreatDoor

set_option maxRecDepth 4000
namespace Go.Proofs.YtnklkkagpkcmfaaGreatDoor
open Go.Eng Go.Eng.Limb
theorem nils_ro (sz : Nat) : Relax .nils (.ro sz []) := ⟨fun _ _ _ h => h.nils_ro sz, fun _ => rfl⟩
end Go.Proofs.YtnklkkagpkcmfaaGreatDoor

set_option maxRecDepth 4000
namespace Go.Proofs.YtnklkkagpkcmfaaGreatDoor
open Go.Eng Go.Eng.Limb
theorem hw1 : IntKind.i64.wrap 1 = 1 := rfl
theorem hw2 : IntKind.i64.wrap 2 = 2 := rfl
end Go.Proofs.YtnklkkagpkcmfaaGreatDoor

namespace Go.Proofs
open Go.Shelf
open Go.RowKit Go.Lib in
def Tryz.lays144_ren : Go.Shelf.Ren := ⟨fun | 144 => 107 | 143 => 162 | 219 => 255 | 217 => 322 | 225 => 323 | 224 => 324 | 267 => 325 | 266 => 383 | 314 => 384 | n => n, fun | 9 => 9 | 4 => 4 | 3 => 3 | 5 => 5 | 46 => 117 | 146 => 510 | 51 => 106 | n => n, fun | 1 => 0 | n => n⟩
theorem Tryz.lays144 : Go.Proofs.Lays.n144 Tryz.prog Tryz.lays144_ren := {
  mixed := by kernel_rfl
  f143 := Tryz.func162.trans (congrArg some (by kernel_rfl))
  f144 := Tryz.func107.trans (congrArg some (by kernel_rfl))
  f217 := Tryz.func322.trans (congrArg some (by kernel_rfl))
  f219 := Tryz.func255.trans (congrArg some (by kernel_rfl))
  f224 := Tryz.func324.trans (congrArg some (by kernel_rfl))
  f225 := Tryz.func323.trans (congrArg some (by kernel_rfl))
  f266 := Tryz.func383.trans (congrArg some (by kernel_rfl))
  f267 := Tryz.func325.trans (congrArg some (by kernel_rfl))
  f314 := Tryz.func384.trans (congrArg some (by kernel_rfl))
  t3 := Tryz.underlying3
  a3 := Tryz.isAgg3
  z3 := Tryz.sizeOf3
  v3 := Tryz.zeroValue3
  t4 := Tryz.underlying4
  a4 := Tryz.isAgg4
  z4 := Tryz.sizeOf4
  v4 := Tryz.zeroValue4
  t5 := Tryz.underlying5
  a5 := Tryz.isAgg5
  z5 := Tryz.sizeOf5
  v5 := Tryz.zeroValue5
  t9 := Tryz.underlying9
  a9 := Tryz.isAgg9
  z9 := Tryz.sizeOf9
  v9 := Tryz.zeroValue9
  t46 := Tryz.underlying117
  a46 := Tryz.isAgg117
  z46 := Tryz.sizeOf117
  v46 := Tryz.zeroValue117
  t51 := Tryz.underlying106
  a51 := Tryz.isAgg106
  z51 := Tryz.sizeOf106
  v51 := Tryz.zeroValue106
  t146 := Tryz.underlying510
  a146 := Tryz.isAgg510
  z146 := Tryz.sizeOf510
  v146 := Tryz.zeroValue510
  g1 := by kernel_rfl }
open Go.RowKit Go.Lib in
/-- strings.Contains: "Contains reports whether substr is within s.": IT RETURNS 'Lib.contains s substr'; the world is as it was. (LAID: no walk: one application.) -/
theorem Tryz.strings_Contains (s sub : ByteArray) (m : Int) (w : World) (hs : s.size < 4294967281) (hm : w.cell? ⟨0, 0, none⟩ = some (.int .i64 m)) :
    Calls Tryz.prog 107 #[.string s, .string sub] w fun e w' => e = .returned (.bool (Lib.contains s.data.toList sub.data.toList)) ∧ w' = w := Any.strings_Contains Tryz.lays144 s sub m w hs hm
open Go.RowKit Go.Lib in
def Tryz.lays145_ren : Go.Shelf.Ren := ⟨fun | 145 => 166 | 220 => 257 | 219 => 255 | 217 => 322 | 225 => 323 | 224 => 324 | 267 => 325 | 266 => 383 | 314 => 384 | n => n, fun | 9 => 9 | 4 => 4 | 59 => 270 | 3 => 3 | 5 => 5 | 46 => 117 | 146 => 510 | 51 => 106 | n => n, fun | 1 => 0 | n => n⟩
theorem Tryz.lays145 : Go.Proofs.Lays.n145 Tryz.prog Tryz.lays145_ren := {
  mixed := by kernel_rfl
  f145 := Tryz.func166.trans (congrArg some (by kernel_rfl))
  f217 := Tryz.func322.trans (congrArg some (by kernel_rfl))
  f219 := Tryz.func255.trans (congrArg some (by kernel_rfl))
  f220 := Tryz.func257.trans (congrArg some (by kernel_rfl))
  f224 := Tryz.func324.trans (congrArg some (by kernel_rfl))
  f225 := Tryz.func323.trans (congrArg some (by kernel_rfl))
  f266 := Tryz.func383.trans (congrArg some (by kernel_rfl))
  f267 := Tryz.func325.trans (congrArg some (by kernel_rfl))
  f314 := Tryz.func384.trans (congrArg some (by kernel_rfl))
  t3 := Tryz.underlying3
  a3 := Tryz.isAgg3
  z3 := Tryz.sizeOf3
  v3 := Tryz.zeroValue3
  t4 := Tryz.underlying4
  a4 := Tryz.isAgg4
  z4 := Tryz.sizeOf4
  v4 := Tryz.zeroValue4
  t5 := Tryz.underlying5
  a5 := Tryz.isAgg5
  z5 := Tryz.sizeOf5
  v5 := Tryz.zeroValue5
  t9 := Tryz.underlying9
  a9 := Tryz.isAgg9
  z9 := Tryz.sizeOf9
  v9 := Tryz.zeroValue9
  t46 := Tryz.underlying117
  a46 := Tryz.isAgg117
  z46 := Tryz.sizeOf117
  v46 := Tryz.zeroValue117
  t51 := Tryz.underlying106
  a51 := Tryz.isAgg106
  z51 := Tryz.sizeOf106
  v51 := Tryz.zeroValue106
  t59 := Tryz.underlying270
  a59 := Tryz.isAgg270
  z59 := Tryz.sizeOf270
  v59 := Tryz.zeroValue270
  t146 := Tryz.underlying510
  a146 := Tryz.isAgg510
  z146 := Tryz.sizeOf510
  v146 := Tryz.zeroValue510
  g1 := by kernel_rfl }
open Go.RowKit Go.Lib in
/-- strings.Cut: "Cut slices s around the first instance of sep, returning the text before and after sep. The found result reports whether sep appears in s. If sep does not appear in s, cut returns s, "", false.": IT RETURNS 'Lib.cut s sep'; the world is as it was but for the count of draws. (LAID: no walk: one application.) -/
theorem Tryz.strings_Cut (s sep : ByteArray) (m : Int) (w : World) (hs : s.size < 4294967281) (hm : w.cell? ⟨0, 0, none⟩ = some (.int .i64 m)) :
    Calls Tryz.prog 166 #[.string s, .string sep] w fun e w' => e = .returned (.tuple #[.string ⟨(Lib.cut s.data.toList sep.data.toList).1.toArray⟩, .string ⟨(Lib.cut s.data.toList sep.data.toList).2.1.toArray⟩, .bool (Lib.cut s.data.toList sep.data.toList).2.2]) ∧ ∃ n, w' = w.drewN n := Any.strings_Cut Tryz.lays145 s sep m w hs hm
open Go.RowKit Go.Lib in
def Tryz.lays189_ren : Go.Shelf.Ren := ⟨fun | 189 => 79 | 125 => 109 | 257 => 108 | 128 => 179 | 129 => 180 | 294 => 170 | 295 => 171 | 296 => 172 | 297 => 173 | 298 => 174 | 299 => 175 | 216 => 176 | 300 => 177 | 301 => 178 | 328 => 258 | 329 => 259 | 330 => 260 | 331 => 261 | 332 => 262 | 215 => 159 | 343 => 326 | n => n, fun | 28 => 22 | 3 => 3 | 46 => 117 | 0 => 0 | 51 => 106 | 53 => 29 | 4 => 4 | 183 => 275 | 182 => 274 | 131 => 279 | 5 => 5 | 9 => 9 | 218 => 354 | 222 => 358 | 228 => 428 | 229 => 429 | n => n, fun | n => n⟩
theorem Tryz.lays189 : Go.Proofs.Lays.n189 Tryz.prog Tryz.lays189_ren := {
  mixed := by kernel_rfl
  f125 := Tryz.func109.trans (congrArg some (by kernel_rfl))
  f128 := Tryz.func179.trans (congrArg some (by kernel_rfl))
  f129 := Tryz.func180.trans (congrArg some (by kernel_rfl))
  f189 := Tryz.func79.trans (congrArg some (by kernel_rfl))
  f215 := Tryz.func159.trans (congrArg some (by kernel_rfl))
  f216 := Tryz.func176.trans (congrArg some (by kernel_rfl))
  f257 := Tryz.func108.trans (congrArg some (by kernel_rfl))
  f294 := Tryz.func170.trans (congrArg some (by kernel_rfl))
  f295 := Tryz.func171.trans (congrArg some (by kernel_rfl))
  f296 := Tryz.func172.trans (congrArg some (by kernel_rfl))
  f297 := Tryz.func173.trans (congrArg some (by kernel_rfl))
  f298 := Tryz.func174.trans (congrArg some (by kernel_rfl))
  f299 := Tryz.func175.trans (congrArg some (by kernel_rfl))
  f300 := Tryz.func177.trans (congrArg some (by kernel_rfl))
  f301 := Tryz.func178.trans (congrArg some (by kernel_rfl))
  f328 := Tryz.func258.trans (congrArg some (by kernel_rfl))
  f329 := Tryz.func259.trans (congrArg some (by kernel_rfl))
  f330 := Tryz.func260.trans (congrArg some (by kernel_rfl))
  f331 := Tryz.func261.trans (congrArg some (by kernel_rfl))
  f332 := Tryz.func262.trans (congrArg some (by kernel_rfl))
  f343 := Tryz.func326.trans (congrArg some (by kernel_rfl))
  t0 := Tryz.underlying0
  a0 := Tryz.isAgg0
  z0 := Tryz.sizeOf0
  v0 := Tryz.zeroValue0
  t3 := Tryz.underlying3
  a3 := Tryz.isAgg3
  z3 := Tryz.sizeOf3
  v3 := Tryz.zeroValue3
  t4 := Tryz.underlying4
  a4 := Tryz.isAgg4
  z4 := Tryz.sizeOf4
  v4 := Tryz.zeroValue4
  t5 := Tryz.underlying5
  a5 := Tryz.isAgg5
  z5 := Tryz.sizeOf5
  v5 := Tryz.zeroValue5
  t9 := Tryz.underlying9
  a9 := Tryz.isAgg9
  z9 := Tryz.sizeOf9
  v9 := Tryz.zeroValue9
  t28 := Tryz.underlying22
  a28 := Tryz.isAgg22
  z28 := Tryz.sizeOf22
  v28 := Tryz.zeroValue22
  t46 := Tryz.underlying117
  a46 := Tryz.isAgg117
  z46 := Tryz.sizeOf117
  v46 := Tryz.zeroValue117
  t51 := Tryz.underlying106
  a51 := Tryz.isAgg106
  z51 := Tryz.sizeOf106
  v51 := Tryz.zeroValue106
  t53 := Tryz.underlying29
  a53 := Tryz.isAgg29
  z53 := Tryz.sizeOf29
  v53 := Tryz.zeroValue29
  t131 := Tryz.underlying279
  a131 := Tryz.isAgg279
  z131 := Tryz.sizeOf279
  v131 := Tryz.zeroValue279
  t182 := Tryz.underlying274
  a182 := Tryz.isAgg274
  z182 := Tryz.sizeOf274
  v182 := Tryz.zeroValue274
  t183 := Tryz.underlying275
  a183 := Tryz.isAgg275
  z183 := Tryz.sizeOf275
  v183 := Tryz.zeroValue275
  t218 := Tryz.underlying354
  a218 := Tryz.isAgg354
  z218 := Tryz.sizeOf354
  v218 := Tryz.zeroValue354
  t222 := Tryz.underlying358
  a222 := Tryz.isAgg358
  z222 := Tryz.sizeOf358
  v222 := Tryz.zeroValue358
  t228 := Tryz.underlying428
  a228 := Tryz.isAgg428
  z228 := Tryz.sizeOf428
  v228 := Tryz.zeroValue428
  t229 := Tryz.underlying429
  a229 := Tryz.isAgg429
  z229 := Tryz.sizeOf429
  v229 := Tryz.zeroValue429 }
open Go.Sort Go.RowKit in
theorem Tryz.slices_Sort_int (blk off cap : Nat) (zs : List Int) (w : World) (hH : Holds (Value.int .i64) w blk off zs.toArray) (hblk : blk < w.heap.size) (hsz : zs.length < 4611686018427387904) :
    Calls Tryz.prog 79 #[.slice (some ⟨blk, off, none⟩) zs.length cap] w fun e w' =>
      e = .returned (.tuple #[]) ∧ ∃ n os, w' = grow (putRow (Value.int .i64) (Sort.ahead w n) blk off (zs.mergeSort fun x y => decide (x ≤ y)).toArray) os := Any.slices_Sort_int Tryz.lays189 blk off cap zs w hH hblk hsz
open Go.RowKit Go.Lib in
def Tryz.lays155_ren : Go.Shelf.Ren := ⟨fun | 155 => 69 | 154 => 100 | 138 => 160 | 165 => 161 | 143 => 162 | 166 => 163 | 197 => 164 | 169 => 165 | 195 => 251 | 218 => 252 | 240 => 253 | 241 => 254 | 219 => 255 | 260 => 256 | 276 => 320 | 277 => 321 | 217 => 322 | 225 => 323 | 224 => 324 | 267 => 325 | 266 => 383 | 314 => 384 | n => n, fun | 9 => 9 | 3 => 3 | 4 => 4 | 72 => 261 | 0 => 0 | 76 => 265 | 105 => 267 | 21 => 21 | 5 => 5 | 70 => 259 | 20 => 20 | 37 => 78 | 75 => 264 | 127 => 353 | 164 => 421 | 46 => 117 | 119 => 424 | 139 => 427 | 138 => 426 | 146 => 510 | 51 => 106 | 80 => 269 | n => n, fun | 1 => 0 | 3 => 1 | 4 => 2 | n => n⟩
theorem Tryz.lays155 : Go.Proofs.Lays.n155 Tryz.prog Tryz.lays155_ren := {
  mixed := by kernel_rfl
  f138 := Tryz.func160.trans (congrArg some (by kernel_rfl))
  f143 := Tryz.func162.trans (congrArg some (by kernel_rfl))
  f154 := Tryz.func100.trans (congrArg some (by kernel_rfl))
  f155 := Tryz.func69.trans (congrArg some (by kernel_rfl))
  f165 := Tryz.func161.trans (congrArg some (by kernel_rfl))
  f166 := Tryz.func163.trans (congrArg some (by kernel_rfl))
  f169 := Tryz.func165.trans (congrArg some (by kernel_rfl))
  f195 := Tryz.func251.trans (congrArg some (by kernel_rfl))
  f197 := Tryz.func164.trans (congrArg some (by kernel_rfl))
  f217 := Tryz.func322.trans (congrArg some (by kernel_rfl))
  f218 := Tryz.func252.trans (congrArg some (by kernel_rfl))
  f219 := Tryz.func255.trans (congrArg some (by kernel_rfl))
  f224 := Tryz.func324.trans (congrArg some (by kernel_rfl))
  f225 := Tryz.func323.trans (congrArg some (by kernel_rfl))
  f240 := Tryz.func253.trans (congrArg some (by kernel_rfl))
  f241 := Tryz.func254.trans (congrArg some (by kernel_rfl))
  f260 := Tryz.func256.trans (congrArg some (by kernel_rfl))
  f266 := Tryz.func383.trans (congrArg some (by kernel_rfl))
  f267 := Tryz.func325.trans (congrArg some (by kernel_rfl))
  f276 := Tryz.func320.trans (congrArg some (by kernel_rfl))
  f277 := Tryz.func321.trans (congrArg some (by kernel_rfl))
  f314 := Tryz.func384.trans (congrArg some (by kernel_rfl))
  t0 := Tryz.underlying0
  a0 := Tryz.isAgg0
  z0 := Tryz.sizeOf0
  v0 := Tryz.zeroValue0
  t3 := Tryz.underlying3
  a3 := Tryz.isAgg3
  z3 := Tryz.sizeOf3
  v3 := Tryz.zeroValue3
  t4 := Tryz.underlying4
  a4 := Tryz.isAgg4
  z4 := Tryz.sizeOf4
  v4 := Tryz.zeroValue4
  t5 := Tryz.underlying5
  a5 := Tryz.isAgg5
  z5 := Tryz.sizeOf5
  v5 := Tryz.zeroValue5
  t9 := Tryz.underlying9
  a9 := Tryz.isAgg9
  z9 := Tryz.sizeOf9
  v9 := Tryz.zeroValue9
  t20 := Tryz.underlying20
  a20 := Tryz.isAgg20
  z20 := Tryz.sizeOf20
  v20 := Tryz.zeroValue20
  t21 := Tryz.underlying21
  a21 := Tryz.isAgg21
  z21 := Tryz.sizeOf21
  v21 := Tryz.zeroValue21
  t37 := Tryz.underlying78
  a37 := Tryz.isAgg78
  z37 := Tryz.sizeOf78
  v37 := Tryz.zeroValue78
  t46 := Tryz.underlying117
  a46 := Tryz.isAgg117
  z46 := Tryz.sizeOf117
  v46 := Tryz.zeroValue117
  t51 := Tryz.underlying106
  a51 := Tryz.isAgg106
  z51 := Tryz.sizeOf106
  v51 := Tryz.zeroValue106
  t70 := Tryz.underlying259
  a70 := Tryz.isAgg259
  z70 := Tryz.sizeOf259
  v70 := Tryz.zeroValue259
  t72 := Tryz.underlying261
  a72 := Tryz.isAgg261
  z72 := Tryz.sizeOf261
  v72 := Tryz.zeroValue261
  t75 := Tryz.underlying264
  a75 := Tryz.isAgg264
  z75 := Tryz.sizeOf264
  v75 := Tryz.zeroValue264
  t76 := Tryz.underlying265
  a76 := Tryz.isAgg265
  z76 := Tryz.sizeOf265
  v76 := Tryz.zeroValue265
  t105 := Tryz.underlying267
  a105 := Tryz.isAgg267
  z105 := Tryz.sizeOf267
  v105 := Tryz.zeroValue267
  t119 := Tryz.underlying424
  a119 := Tryz.isAgg424
  z119 := Tryz.sizeOf424
  t127 := Tryz.underlying353
  a127 := Tryz.isAgg353
  z127 := Tryz.sizeOf353
  v127 := Tryz.zeroValue353
  t138 := Tryz.underlying426
  a138 := Tryz.isAgg426
  z138 := Tryz.sizeOf426
  v138 := Tryz.zeroValue426
  t139 := Tryz.underlying427
  a139 := Tryz.isAgg427
  z139 := Tryz.sizeOf427
  v139 := Tryz.zeroValue427
  t146 := Tryz.underlying510
  a146 := Tryz.isAgg510
  z146 := Tryz.sizeOf510
  v146 := Tryz.zeroValue510
  t164 := Tryz.underlying421
  a164 := Tryz.isAgg421
  z164 := Tryz.sizeOf421
  v164 := Tryz.zeroValue421
  g1 := by kernel_rfl
  g3 := by kernel_rfl
  g4 := by kernel_rfl }
theorem Tryz.Builder_Extra_155 : Builder.Extra Tryz.prog Tryz.lays155_ren := {
  sizeBuilder := by kernel_rfl
  liesBuilder := by kernel_rfl
  t5 := Tryz.underlying5
  a5 := Tryz.isAgg5
  z5 := Tryz.sizeOf5
  v5 := Tryz.zeroValue5
  infoByte := by kernel_rfl
  cellsByte := by kernel_rfl
  sizeByte := by kernel_rfl
  neB5 := by decide }
open Go.RowKit Go.Lib in
/-- strings.ReplaceAll: "ReplaceAll returns a copy of the string s with all non-overlapping instances of old replaced by new.": AT AN old THAT IS NOT EMPTY: 'Lib.replaceAll s old new'. (LAID: no walk: one application.) -/
theorem Tryz.strings_ReplaceAll (s old new : ByteArray) (m : Int) (w : World) (hs : s.size < 4294967281) (hm : w.cell? ⟨0, 0, none⟩ = some (.int .i64 m)) (h1 : 1 ≤ old.size) (hlen : s.size + Lib.countB s old * new.size ≤ 140737488355328) :
    Calls Tryz.prog 69 #[.string s, .string old, .string new] w fun e w' =>
      e = .returned (.string ⟨(Lib.replaceAll s.data.toList old.data.toList new.data.toList).toArray⟩) ∧ Below w.heap.size w w' := Any.strings_ReplaceAll Tryz.lays155 Tryz.Builder_Extra_155 s old new m w hs hm h1 hlen
end Go.Proofs

set_option maxRecDepth 4000
namespace Go.Proofs.YtnklkkagpkcmfaaGreatDoor
open Go.Eng Go.Eng.Limb Go.RowKit Go.Sort Go.Lib
def gv : Gp where
  P := fun w => ∃ m, w.cell? ⟨0, 0, none⟩ = some (.int .i64 m)
  bl := fun b => b = 0
  stable := by
    rintro w w' ⟨m, h1⟩ hk
    refine ⟨m, ?_⟩
    rw [World.cell?_of_block (hk 0 rfl)]; exact h1
  low := by
    rintro w ⟨m, h1⟩ b rfl
    rcases Nat.lt_or_ge 0 w.heap.size with h | h
    · exact h
    · simp [World.cell?, Array.getElem?_eq_none h] at h1
theorem two_args {w : World} {N : Nat → Prop} {xs : List Value} {v u : V} (hl : xs.length = [v, u].length) (hp : ∀ (i : Nat) x z, xs[i]? = some x → [v, u][i]? = some z → Pur w N x z) : ∃ x y, xs = [x, y] ∧ Pur w N x v ∧ Pur w N y u := by
  cases xs with
  | nil => simp at hl
  | cons x r => cases r with
    | nil => simp at hl
    | cons y r => cases r with
      | nil => exact ⟨x, y, rfl, hp 0 x v rfl rfl, hp 1 y u rfl rfl⟩
      | cons _ _ => simp at hl
theorem below_drewN (w : World) (k : Nat) : Below w.heap.size w (w.drewN k) := by
  have := Lib.below_grow w.heap.size w (Nat.le_refl _) k #[]
  simpa using this
theorem cut_acq (s sep : List UInt8) (hs : s.length < 4294967281) : ACQ gv Tryz.prog 166 [.str s, .str sep] (fun r => r = .tup [.str (Lib.cut s sep).1, .str (Lib.cut s sep).2.1, .bool (Lib.cut s sep).2.2]) := by
  intro w N xs hG _ hl hp
  obtain ⟨x, y, rfl, hx, hy⟩ := two_args hl hp
  cases hx; cases hy
  obtain ⟨m, hm⟩ := hG
  refine (Tryz.strings_Cut ⟨s.toArray⟩ ⟨sep.toArray⟩ m w (by rw [Lib.size_eq]; simpa using hs) hm).mono ?_
  rintro e w' ⟨rfl, k, rfl⟩
  refine ⟨_, _, rfl, rfl, .tup _ _ rfl ?_, below_drewN w k⟩
  intro i x c hx hc
  rcases i with _ | _ | _ | i
  · simp at hx hc; subst hx; subst hc; exact .str _
  · simp at hx hc; subst hx; subst hc; exact .str _
  · simp at hx hc; subst hx; subst hc; exact .bool _
  · simp at hx
end Go.Proofs.YtnklkkagpkcmfaaGreatDoor

set_option maxRecDepth 4000
namespace Go.Proofs.YtnklkkagpkcmfaaGreatDoor
open Go.Eng Go.Eng.Limb
abbrev strs (l : List (List UInt8)) : List V := l.map V.str
theorem nthS {l : List UInt8} {k : Nat} (h : k < l.length) : nth l k = some l[k] := by rw [nth_eq]; simp [h]
def okB (c : UInt8) : Bool := (decide (65 ≤ c.toNat) && decide (c.toNat ≤ 90)) || (decide (48 ≤ c.toNat) && decide (c.toNat ≤ 57))
def okSeg (s : List UInt8) : Bool := s.all okB && (decide (1 ≤ s.length) && decide (s.length ≤ 8))
set_option maxHeartbeats 1000000 in
theorem validSegment_ac (s : List UInt8) (hs : s.length ≤ 1000) : AC Tryz.prog 102 [.str s] (fun r => r = .bool (okSeg s)) := by
  have hg := fun (k : Nat) (h : k < s.length) => nthS h
  refine ac_intro Tryz.func102 rfl (by show (1 : Nat) ≤ 40; omega) (fun w0 N0 => ?_)
  refine aw_step [0] [] (by simp [Tryz.ntmps102] <;> rfl) ?_
  refine aw_seq ?_
  refine aw_step [0, 3] [] (by simp <;> rfl) ?_
  refine aw_block ?_
  refine aw_count (fun k nx => ⟨[(0, .str s), (3, .int .i64 k)], [], nx, 40⟩) (fun k => (s.take k).all okB = true) s.length _ (by simp) (AS.le_refl _) ?_
  intro k nx hk hI
  refine aw_seq ?_
  refine aw_step [0, 3, 7] [] (by simp <;> rfl) ?_
  refine aw_cond rfl (fun h1 => aw_skip ?_) (fun h1 => ?_)   -- if t7
  · have hlt : k < s.length := by simp at h1; omega
    have ga := hg k hlt
    have hw := wrap_succ (k := k) (by omega)
    have htk := List.take_succ_eq_append_getElem (l := s) (i := k) hlt
    have hmem : s[k] ∈ s := List.getElem_mem hlt
    generalize s[k] = c at ga htk hmem
    refine aw_seq ?_
    refine aw_block ?_
    refine aw_step [0, 3, 31] [] (by simp [ga, hlt] <;> rfl) ?_
    refine aw_cond rfl (fun h2 => ?_) (fun h2 => aw_skip ?_)   -- if t31
    · refine aw_step [2] [] (by simp <;> rfl) ?_
      refine aw_ret (ends_ret (by simp [Tryz.results102] <;> rfl) ?_)
      have : s.all okB = false := List.all_eq_false.2 ⟨c, hmem, by simp [okB] at h2 ⊢; omega⟩
      simp [okSeg, this]
    have hc : okB c = true := by simp [okB] at h2 ⊢; omega
    refine aw_one [0, 3] [] (by simp [hw] <;> rfl) ?_
    exact ⟨hlt, by rw [htk, List.all_append, hI]; simp [hc], _, AS.le_refl _⟩
  · refine aw_exit ?_
    refine aw_step [2] [] (by simp <;> rfl) ?_
    refine aw_ret (ends_ret (by simp [Tryz.results102] <;> rfl) ?_)
    have hke : k = s.length := by simp at h1; omega
    rw [hke, List.take_length] at hI
    have e1 : ((1 : Int) ≤ s.length) = (1 ≤ s.length) := by simp; omega
    have e2 : ((s.length : Int) ≤ 8) = (s.length ≤ 8) := by simp; omega
    simp [okSeg, hI, e1, e2]
def segA : Nat → List (List UInt8) → List UInt8 → List (List UInt8) × Nat × Bool
  | 0, done, _ => (done, 0, false)
  | n + 1, done, code =>
    if (Lib.cut code [46]).2.2 = false then (done ++ [(Lib.cut code [46]).1] ++ List.replicate n [], done.length + 1, true)
    else segA n (done ++ [(Lib.cut code [46]).1]) (Lib.cut code [46]).2.1
def segV (p : List (List UInt8) × Nat × Bool) : V := .tup [.agg (strs p.1), .int .i64 p.2.1, .bool p.2.2]
theorem cut_len (s sep : List UInt8) : (Lib.cut s sep).2.1.length ≤ s.length ∧ (Lib.cut s sep).1.length ≤ s.length := by
  unfold Lib.cut
  split
  · simp only [List.length_take, List.length_drop]; omega
  · simp
theorem segA_len : ∀ (n : Nat) (done : List (List UInt8)) (code : List UInt8), (segA n done code).1.length = done.length + n
  | 0, done, code => by simp [segA]
  | n + 1, done, code => by
    rw [segA]
    split
    · simp
    · rw [segA_len n]; simp; omega
theorem five {α : Type} : ∀ (l : List α), l.length = 5 → ∃ a b c d e, l = [a, b, c, d, e]
  | [a, b, c, d, e], _ => ⟨a, b, c, d, e, rfl⟩
set_option maxHeartbeats 1000000 in
theorem segments_acq (code : List UInt8) (hs : code.length ≤ 1000) : ACQ gv Tryz.prog 101 [.str code] (fun r => r = segV (segA 5 [] code)) := by
  refine acq_intro Tryz.func101 rfl (by show (1 : Nat) ≤ 30; omega) (fun w0 N0 hG => ?_)
  refine aw_step [0, 2] [2] (by simp [Tryz.ntmps101] <;> rfl) ?_
  refine aw_step [0, 2, 5] [2, 5] (by simp <;> rfl) ?_
  refine aw_seq ?_
  refine aw_step [0, 2, 5, 10] [2, 5] (by simp <;> rfl) ?_
  refine aw_block ?_
  refine aw_loop (fun p : List (List UInt8) × List UInt8 × Nat => ⟨[(0, .str p.2.1), (2, .bp 2 0 5 0 0), (5, .bp 5 3 5 0 0), (10, .int .i64 p.1.length)], [(2, ⟨0, 5, 186, [.agg [.str [], .str [], .str [], .str [], .str []]]⟩), (5, ⟨3, 5, 186, [.agg (strs (p.1 ++ List.replicate (5 - p.1.length) []))]⟩)], p.2.2, 30⟩)
    (fun p => p.1.length ≤ 5 ∧ p.2.1.length ≤ 1000 ∧ segA (5 - p.1.length) p.1 p.2.1 = segA 5 [] code) (fun p => 5 - p.1.length) ([], code, _) ⟨by simp, hs, rfl⟩ (AS.le_refl _) ?_
  rintro ⟨done, cd, nx⟩ ⟨hd, hcl, hI⟩
  simp only at hd hcl hI
  have hlA : (strs (done ++ List.replicate (5 - done.length) [])).length = 5 := by simp; omega
  by_cases hlt : done.length < 5
  · obtain ⟨n, hn⟩ : ∃ n, 5 - done.length = n + 1 := ⟨4 - done.length, by omega⟩
    rw [hn] at hI hlA ⊢
    rw [segA] at hI
    have hc := cut_acq cd [46] (by omega)
    have hcl2 := cut_len cd [46]
    have htk : (strs (done ++ List.replicate (n + 1) [])).take done.length = strs done := by simp
    have hdr : (strs (done ++ List.replicate (n + 1) [])).drop (done.length + 1) = strs (List.replicate n []) := by
      have e : strs (done ++ List.replicate (n + 1) []) = strs done ++ (V.str [] :: strs (List.replicate n [])) := by simp [List.replicate_succ]
      have hl : done.length + 1 = (strs done ++ [V.str []]).length := by simp
      have e2 : strs done ++ (V.str [] :: strs (List.replicate n [])) = (strs done ++ [V.str []]) ++ strs (List.replicate n []) := by simp
      rw [e, e2, hl, List.drop_left]
    generalize Lib.cut cd [46] = ct at hc hI hcl2
    obtain ⟨hd1, tl, more⟩ := ct
    simp only at hc hI hcl2
    obtain ⟨k, hk⟩ : ∃ k, done.length = k := ⟨_, rfl⟩
    have hnew : strs (done ++ [hd1] ++ List.replicate n []) = strs done ++ .str hd1 :: strs (List.replicate n []) := by simp
    generalize hav : strs (done ++ List.replicate (n + 1) []) = av at hlA htk hdr ⊢
    rw [hk] at htk hdr hlt hn ⊢
    have hki : (k : Int) < 5 := by omega
    have hwk := wrap_succ (k := k) (by omega)
    have hk4 : k ≤ 4 := by omega
    have hst : av.take k ++ .str hd1 :: av.drop (k + 1) = strs (done ++ [hd1] ++ List.replicate n []) := by rw [htk, hdr, hnew]
    have hfin : more = false → segV (segA 5 [] code) = .tup [.agg (strs (done ++ [hd1] ++ List.replicate n [])), .int .i64 (k + 1 : Nat), .bool true] := fun h => by
      rw [← hI, if_pos h, segV, hk]
    have hsuc : more ≠ false → segA n (done ++ [hd1]) tl = segA 5 [] code := fun h => by rw [if_neg h] at hI; exact hI
    have hlN : (done ++ [hd1] ++ List.replicate n []).length = 5 := by simp; omega
    obtain ⟨a, b, c, d, f, hnv⟩ := five _ hlN
    rw [hnv] at hst hfin
    simp only [strs, List.map_cons, List.map_nil] at hst hfin
    refine aw_step [0, 2, 5, 10, 11] [2, 5] (by simp <;> rfl) ?_
    refine aw_seq ?_
    refine aw_cond rfl (fun h1 => aw_skip ?_) (fun h1 => by simp at h1; omega)   -- if t11
    refine aw_seq ?_
    refine aw_block ?_
    refine aw_step [0, 2, 5, 6, 10] [2, 5] (by simp <;> rfl) ?_
    refine aw_seq (aw_region ?_)
    refine awl_go 1 (by simp <;> rfl) ?_
    refine awl_callQ hG hc Tryz.func166 rfl (by kernel_rfl) (by simp) rfl rfl rfl (by simp <;> rfl) (by simp) (by simp <;> rfl) ?_
    refine awl_end [2, 5, 6, 7, 8, 9, 10] [2, 5] (by simp <;> rfl) ?_
    refine aw_step [2, 5, 6, 8, 9, 10] [2, 5] (by simp [hki, hlA, hk4, hst] <;> rfl) ?_
    refine aw_seq ?_
    refine aw_step [2, 5, 6, 8, 10, 23] [2, 5] (by simp <;> rfl) ?_
    refine aw_cond rfl (fun h2 => ?_) (fun h2 => aw_skip ?_)   -- if t23
    · refine aw_step [2, 3, 4] [2] (by simp [hwk] <;> rfl) ?_
      refine aw_ret (ends_ret (by simp [Tryz.results101] <;> rfl) ?_)
      rw [hfin (by simpa using h2)]
      have hc1 : ((k + 1 : Nat) : Int) = (k : Int) + 1 := by omega
      rw [hc1]
    refine aw_one [0, 2, 5, 10] [2, 5] (by simp <;> rfl) ?_
    refine aw_one [0, 2, 5, 10] [2, 5] (by simp [hwk] <;> rfl) ?_
    refine ⟨(done ++ [hd1], tl, nx + 1 + 2 + 9 + 4 + 2 + 2 + 2), ⟨by simp; omega, by simp only; omega, ?_⟩, by simp; omega, ?_⟩
    · simp only [List.length_append, List.length_cons, List.length_nil, hk]
      rw [show 5 - (k + (0 + 1)) = n by omega]
      exact hsuc (by simpa using h2)
    · have hc1 : ((k + 1 : Nat) : Int) = (k : Int) + 1 := by omega
      have hn1 : 5 - (k + 1) = n := by omega
      simp only [List.length_append, List.length_cons, List.length_nil, hk, Nat.zero_add, hc1, hn1, hnv, strs, List.map_cons, List.map_nil]
      exact AS.le_refl _
  · have h5 : done.length = 5 := by omega
    obtain ⟨a, b, c, d, f, rfl⟩ := five _ h5
    rw [h5, Nat.sub_self, segA] at hI
    refine aw_step [0, 2, 5, 10, 11] [2, 5] (by simp <;> rfl) ?_
    refine aw_seq ?_
    refine aw_cond rfl (fun h1 => by simp at h1) (fun h1 => ?_)   -- if t11
    refine aw_exit ?_
    refine aw_step [2, 3, 4] [2] (by simp <;> rfl) ?_
    refine aw_ret (ends_ret (by simp [Tryz.results101] <;> rfl) ?_)
    rw [← hI]; rfl
theorem segA_small : ∀ (n : Nat) (done : List (List UInt8)) (code : List UInt8), (∀ x ∈ done, x.length ≤ 1000) → code.length ≤ 1000 → ∀ x ∈ (segA n done code).1, x.length ≤ 1000
  | 0, done, code, h, _ => by simpa [segA] using h
  | n + 1, done, code, h, hc => by
    have hcl := cut_len code [46]
    rw [segA]
    split
    · intro x hx
      rcases List.mem_append.1 hx with hx | hx
      · rcases List.mem_append.1 hx with hx | hx
        · exact h x hx
        · simp at hx; subst hx; omega
      · have := (List.mem_replicate.1 hx).2; subst this; simp
    · refine segA_small n _ _ (fun x hx => ?_) (by omega)
      rcases List.mem_append.1 hx with hx | hx
      · exact h x hx
      · simp at hx; subst hx; omega
theorem segA_n : ∀ (n : Nat) (done : List (List UInt8)) (code : List UInt8), (segA n done code).2.1 ≤ done.length + n
  | 0, done, code => by simp [segA]
  | n + 1, done, code => by
    rw [segA]
    split
    · simp
    · have := segA_n n (done ++ [(Lib.cut code [46]).1]) (Lib.cut code [46]).2.1
      simp at this
      omega
def cValid (code : List UInt8) : Bool := decide (code.length ≤ 24) && ((segA 5 [] code).2.2 && ((segA 5 [] code).1.take (segA 5 [] code).2.1).all okSeg)
set_option maxHeartbeats 1000000 in
theorem cValid_acq (code : List UInt8) : ACQ gv Tryz.prog 70 [.str code] (fun r => r = .bool (cValid code)) := by
  refine acq_intro Tryz.func70 rfl (by show (1 : Nat) ≤ 30; omega) (fun w0 N0 hG => ?_)
  refine aw_step [0] [] (by simp [Tryz.ntmps70] <;> rfl) ?_
  refine aw_seq ?_
  refine aw_step [0, 10] [] (by simp <;> rfl) ?_
  refine aw_cond rfl (fun h1 => ?_) (fun h1 => aw_skip ?_)   -- if t10
  · refine aw_step [2] [] (by simp <;> rfl) ?_
    refine aw_ret (ends_ret (by simp [Tryz.results70] <;> rfl) ?_)
    have : ¬ code.length ≤ 24 := by simp at h1; omega
    simp [cValid, this]
  have hle : code.length ≤ 24 := by simp at h1; omega
  have hc := segments_acq code (by omega)
  have hsm := segA_small 5 [] code (by simp) (by omega)
  have hn := segA_n 5 [] code
  have hln := segA_len 5 [] code
  have hcv : cValid code = ((segA 5 [] code).2.2 && ((segA 5 [] code).1.take (segA 5 [] code).2.1).all okSeg) := by simp [cValid, hle]
  generalize segA 5 [] code = p at hc hsm hn hln hcv
  obtain ⟨A, n, ok⟩ := p
  simp only [List.length_nil, Nat.zero_add] at hsm hn hln hcv
  rw [segV] at hc
  simp only at hc
  obtain ⟨a, b, c, d, f, hA⟩ := five A hln
  have hAs : strs A = [.str a, .str b, .str c, .str d, .str f] := by rw [hA]; rfl
  rw [hAs] at hc
  refine aw_seq (aw_region ?_)
  refine awl_go 1 (by simp <;> rfl) ?_
  refine awl_callQ hG hc Tryz.func101 rfl (by kernel_rfl) (by simp) rfl rfl rfl (by simp <;> rfl) (by simp) (by simp <;> rfl) ?_
  refine awl_end [3, 4, 5] [3] (by simp <;> rfl) ?_
  refine aw_seq ?_
  refine aw_step [3, 4, 18] [3] (by simp <;> rfl) ?_
  refine aw_cond rfl (fun h2 => ?_) (fun h2 => aw_skip ?_)   -- if t18
  · refine aw_step [2] [] (by simp <;> rfl) ?_
    refine aw_ret (ends_ret (by simp [Tryz.results70] <;> rfl) ?_)
    have : ok = false := by simpa using h2
    simp [hcv, this]
  have hok : ok = true := by simpa using h2
  rw [hok, Bool.true_and] at hcv
  refine aw_freeze 3 [3, 4] [] (by simp <;> rfl) ?_
  have hni : (n : Int) ≤ 5 := by omega
  refine aw_seq ?_
  refine aw_step [20, 21, 22] [] (by simp [hni] <;> rfl) ?_
  have htake : List.take n [V.str a, .str b, .str c, .str d, .str f] = strs (A.take n) := by rw [← hAs]; simp [strs]
  have hlT : (A.take n).length = n := by simp; omega
  have hgT := fun (k : Nat) (h : k < (A.take n).length) => (show nth (strs (A.take n)) k = some (.str (A.take n)[k]) by rw [nth_eq, strs, List.getElem?_map, List.getElem?_eq_getElem h]; rfl)
  have hsT : ∀ x ∈ A.take n, x.length ≤ 1000 := fun x hx => hsm x (List.mem_of_mem_take hx)
  have hlS : (strs (A.take n)).length = n := by simp; omega
  have hmn : min n 5 = n := by omega
  simp only [htake, hmn]
  generalize A.take n = sl at hcv hlT hgT hsT hlS ⊢
  generalize strs sl = sv at hgT hlS ⊢
  refine aw_block ?_
  refine aw_count (fun k nx => ⟨[(20, .ro 1 sv), (21, .int .i64 n), (22, .int .i64 k)], [], nx, 30⟩) (fun k => (sl.take k).all okSeg = true) n _ (by simp) (AS.le_refl _) ?_
  intro k nx hk hI
  refine aw_step [20, 21, 22, 23] [] (by simp <;> rfl) ?_
  refine aw_seq ?_
  refine aw_cond rfl (fun h3 => aw_skip ?_) (fun h3 => ?_)   -- if t23
  · have hlt : k < sl.length := by simp at h3; omega
    have hlt' : k < sv.length := by omega
    have ga := hgT k hlt
    have hw := wrap_succ (k := k) (by omega)
    have htk := List.take_succ_eq_append_getElem (l := sl) (i := k) hlt
    have hmem : sl[k] ∈ sl := List.getElem_mem hlt
    have hvs := validSegment_ac sl[k] (hsT _ hmem)
    generalize sl[k] = x at ga htk hmem hvs
    refine aw_seq ?_
    refine aw_block ?_
    refine aw_step [7, 20, 21, 22] [] (by simp [ga, hlt'] <;> rfl) ?_
    refine aw_seq (aw_region ?_)
    refine awl_go 1 (by simp <;> rfl) ?_
    refine awl_call1 hvs Tryz.func102 rfl (by kernel_rfl) rfl rfl rfl rfl rfl (by simp <;> rfl) ?_
    refine awl_end [20, 21, 22, 28] [] (by simp <;> rfl) ?_
    refine aw_cond rfl (fun h4 => ?_) (fun h4 => aw_skip ?_)   -- if t28
    · refine aw_step [2] [] (by simp <;> rfl) ?_
      refine aw_ret (ends_ret (by simp [Tryz.results70] <;> rfl) ?_)
      have : sl.all okSeg = false := List.all_eq_false.2 ⟨x, hmem, by simpa using h4⟩
      rw [hcv, this]
    refine aw_one [20, 21, 22] [] (by simp [hw] <;> rfl) ?_
    exact ⟨by omega, by rw [htk, List.all_append, hI]; simp; simpa using h4, _, AS.le_refl _⟩
  · refine aw_exit ?_
    refine aw_step [2] [] (by simp <;> rfl) ?_
    refine aw_ret (ends_ret (by simp [Tryz.results70] <;> rfl) ?_)
    have hke : k = sl.length := by simp at h3; omega
    rw [hke, List.take_length] at hI
    rw [hcv, hI]
end Go.Proofs.YtnklkkagpkcmfaaGreatDoor

set_option maxRecDepth 4000
namespace Go.Proofs.YtnklkkagpkcmfaaGreatDoor
open Go.Eng Go.Eng.Limb Go.RowKit Go.Sort
theorem flatI (l : List Int) : (ints l).all flatE = true := by
  rw [List.all_eq_true]; intro x hx; simp only [ints, List.mem_map] at hx; obtain ⟨n, _, rfl⟩ := hx; rfl
theorem sort_int_none (p : Option Addr) (cap : Nat) (w : World) : Calls Tryz.prog 79 #[.slice p 0 cap] w fun e w' => e = .returned (.tuple #[]) ∧ w' = w := Any.slices_Sort_int_none Tryz.lays189 p cap w
theorem ints_fits (zs : List Int) : ∀ e ∈ ints zs, e.fits 1 := by
  intro x hx
  simp only [ints, List.mem_map] at hx
  obtain ⟨h, _, rfl⟩ := hx
  exact ⟨rfl, by simp [V.cells, V.isCell]⟩
theorem row_holds {w : World} {g cap : Nat} {ty : TypeId} {zs : List Int} (h : RowAt w g ty 1 cap (ints zs)) : Holds (Value.int .i64) w g 0 zs.toArray ∧ g < w.heap.size ∧ ∃ arr, w.heap[g]? = some (.cells arr ty (0, 0)) ∧ arr.size = cap := by
  obtain ⟨h1, h2, arr, h3, h4, h5⟩ := h
  refine ⟨fun j hj => ?_, (Array.getElem?_eq_some_iff.1 h3).1, arr, h3, by omega⟩
  simp only [List.size_toArray] at hj
  obtain ⟨x, hx, hp⟩ := h5 j (.int .i64 zs[j]) 0 (.int .i64 zs[j]) (by simp [ints, hj]) rfl
  simp only [Nat.mul_one, Nat.add_zero] at hx
  cases hp
  constructor
  · simp [World.cell?, h3, hx, hj]
  · simp [World.frozen?, h3]
theorem row_put {w : World} {g cap n : Nat} {ty : TypeId} {os : Array Obj} {arr : Array Value} {ts us : List Int} (hb : w.heap[g]? = some (.cells arr ty (0, 0))) (hs : arr.size = cap) (hl : us.length ≤ ts.length) (ht : ts.length ≤ cap) (hpre : ts.take us.length = us) :
    RowAt (grow (putRow (Value.int .i64) (Go.Sort.ahead w n) g 0 ts.toArray) os) g ty 1 cap (ints us) := by
  refine ⟨by rw [ints_len]; omega, ints_fits us, _, heap_sortedI _ hb, by simp [putCells, hs], fun k e j c he hj => ?_⟩
  simp only [ints, List.getElem?_map, Option.map_eq_some_iff] at he
  obtain ⟨z, hz, rfl⟩ := he
  have hj0 : j = 0 := by
    rcases j with _ | j
    · rfl
    · simp [V.cells] at hj
  subst hj0
  simp only [V.cells, List.getElem?_cons_zero, Option.some.injEq] at hj
  subst hj
  have hk : k < us.length := (List.getElem?_eq_some_iff.1 hz).1
  have hkt : ts[k]? = some z := by
    rw [← hpre] at hz
    rw [List.getElem?_take_of_lt hk] at hz
    exact hz
  refine ⟨.int .i64 z, ?_, .int _ _⟩
  have hk2 : k < arr.size := by omega
  have hk3 : k < ts.length := by omega
  simp [putCells, hk2, hk3]
  exact (List.getElem?_eq_some_iff.1 hkt).2
def sortI (zs : List Int) : List Int := zs.mergeSort fun x y => decide (x ≤ y)
theorem sort_aci (zs : List Int) (hz : zs.length ≤ 17592186044416) : ACI Tryz.prog 79 1 3 (ints zs) (ints (sortI zs)) (fun _ _ => .tup []) := by
  refine ⟨fun w g cap hcap hrow => ?_, fun he => ?_⟩
  · obtain ⟨hH, hg, arr, hb, hs⟩ := row_holds hrow
    have hlen := hrow.1
    rw [ints_len] at hlen ⊢
    refine (Tryz.slices_Sort_int g 0 cap zs w hH hg (by omega)).mono ?_
    rintro e w' ⟨rfl, n, os, rfl⟩
    exact ⟨_, rfl, grownBy_sortedI _, row_put (us := sortI zs) hb hs (Nat.le_refl _) (by simpa using hlen) List.take_length, fun d v μ N' _ => .pur (.tup [] [] rfl (by simp))⟩
  · have : zs = [] := by simpa [ints] using he
    subst this
    refine ⟨by simp [sortI, ints], fun w A => (sort_int_none A 0 w).mono ?_⟩
    rintro e w' ⟨rfl, rfl⟩
    exact ⟨_, rfl, ⟨rfl, rfl, rfl, Nat.le_refl _, fun _ _ _ => rfl⟩, fun d v μ N' _ => .pur (.tup [] [] rfl (by simp))⟩
end Go.Proofs.YtnklkkagpkcmfaaGreatDoor

set_option maxRecDepth 4000
namespace Go.Proofs.YtnklkkagpkcmfaaGreatDoor
open Go.Eng Go.Eng.Limb
def idxA {α : Type} (p : α → Bool) : List α → Nat → Int
  | [], _ => -1
  | x :: r, i => if p x = true then (i : Int) else idxA p r (i + 1)
theorem idxF_drop {α : Type} (p : α → Bool) {l : List α} {k : Nat} (h : k < l.length) : idxA p (l.drop k) k = if p l[k] = true then (k : Int) else idxA p (l.drop (k + 1)) (k + 1) := by
  rw [List.drop_eq_getElem_cons h, idxA]
theorem idxF_any {α : Type} (p : α → Bool) : ∀ (l : List α) (i : Nat), decide (0 ≤ idxA p l i) = l.any p
  | [], _ => rfl
  | x :: r, i => by
    rw [idxA, List.any_cons]
    split
    · rename_i h; rw [h]; simp
    · rename_i h; rw [idxF_any p r (i + 1), Bool.eq_false_iff.2 h]; rfl
theorem indexI_ac (l : List Int) (x : Int) : AC Tryz.prog 53 [.ro 1 (ints l), .int .i64 x] (fun r => r = .int .i64 (idxA (fun y => decide (x = y)) l 0)) := by
  refine ac_lenR 0 rfl (fun hmx => ?_)
  have hq := fun (k : Nat) (h : k < l.length) => ints_nth h
  have lq := ints_len l
  rw [lq] at hmx
  have hbig : (l.length : Int) ≤ 9223372036854775807 := by
    have : maxLen ≤ 9223372036854775807 := by decide
    omega
  generalize ints l = lv at *
  refine ac_intro Tryz.func53 rfl (by show (2 : Nat) ≤ 19; omega) (fun w0 N0 => ?_)
  refine aw_step [0, 1] [] (by simp [Tryz.ntmps53] <;> rfl) ?_
  refine aw_seq ?_
  refine aw_step [0, 1, 7, 8] [] (by simp <;> rfl) ?_
  refine aw_block ?_
  refine aw_count (fun k nx => ⟨[(0, V.ro 1 lv), (1, V.int .i64 x), (7, V.int .i64 lv.length), (8, V.int .i64 k)], [], nx, 19⟩) (fun k => idxA (fun y => decide (x = y)) (l.drop k) k = idxA (fun y => decide (x = y)) l 0) l.length _ rfl (AS.le_refl _) ?_
  intro k nx hk hI
  refine aw_step [0, 1, 7, 8, 9] [] (by simp <;> rfl) ?_
  refine aw_seq ?_
  refine aw_cond rfl (fun h1 => aw_skip ?_) (fun h1 => ?_)   -- if t9
  · have hlt : k < l.length := by simp at h1; omega
    have hltq : k < lv.length := by omega
    have ga := hq k hlt
    have hw1 := wrap_succ (k := k) (by omega)
    rw [idxF_drop _ hlt] at hI
    generalize l[k] = y at ga hI
    refine aw_seq ?_
    refine aw_block ?_
    refine aw_step [0, 1, 5, 7, 8] [] (by simp <;> rfl) ?_
    refine aw_step [0, 1, 5, 7, 8, 16] [] (by simp [ga, hltq] <;> rfl) ?_
    refine aw_cond rfl (fun h2 => ?_) (fun h2 => aw_skip ?_)   -- if t16
    · refine aw_step [4] [] (by simp <;> rfl) ?_
      exact aw_ret (ends_ret (by simp [Tryz.results53] <;> rfl) (by rw [← hI, if_pos h2]))
    refine aw_one [0, 1, 7, 8] [] (by simp [hw1] <;> rfl) ?_
    exact ⟨hlt, by rw [← hI, if_neg (by rw [h2]; decide)], _, AS.le_refl _⟩
  · refine aw_exit ?_
    have hke : k = l.length := by simp at h1; omega
    rw [hke, List.drop_length, idxA] at hI
    refine aw_step [4] [] (by simp <;> rfl) ?_
    exact aw_ret (ends_ret (by simp [Tryz.results53] <;> rfl) (by rw [← hI]))
theorem hasI_ac (l : List Int) (x : Int) : AC Tryz.prog 52 [.ro 1 (ints l), .int .i64 x] (fun r => r = .bool (decide (x ∈ l))) := by
  have c82 := indexI_ac l x
  have e1 : decide (x ∈ l) = decide (0 ≤ idxA (fun y => decide (x = y)) l 0) := by
    rw [idxF_any]
    by_cases h : x ∈ l
    · rw [decide_eq_true h]; symm; rw [List.any_eq_true]; exact ⟨x, h, by simp⟩
    · rw [decide_eq_false h]; symm; rw [List.any_eq_false]; intro y hy; simp; exact fun e => h (e ▸ hy)
  rw [e1]
  have pl := ints_pure l
  generalize ints l = lv at *
  generalize idxA (fun y => decide (x = y)) l 0 = z at *
  refine ac_intro Tryz.func52 rfl (by show (2 : Nat) ≤ 9; omega) (fun w0 N0 => ?_)
  refine aw_step [0, 1] [] (by simp [Tryz.ntmps52] <;> rfl) ?_
  refine aw_seq (aw_region ?_)
  refine awl_go 2 (by simp <;> rfl) ?_
  refine awl_call1 c82 Tryz.func53 rfl (by kernel_rfl) rfl rfl rfl (by simp <;> rfl) (by simp [pl]) (by simp <;> rfl) ?_
  refine awl_end [4] [] (by simp <;> rfl) ?_
  exact aw_ret (ends_ret (by simp [Tryz.results52] <;> rfl) (rfl))
end Go.Proofs.YtnklkkagpkcmfaaGreatDoor

set_option maxRecDepth 4000
namespace Go.Proofs.YtnklkkagpkcmfaaGreatDoor
open Go.Eng Go.Eng.Limb
def hasP (s t : List UInt8) : Bool := decide (t.length ≤ s.length) && decide (s.take t.length = t)
set_option maxHeartbeats 1000000 in
theorem lhasPrefix_ac (s t : List UInt8) : AC Tryz.prog 168 [.str s, .str t] (fun r => r = .bool (hasP s t)) := by
  unfold hasP
  refine ac_intro Tryz.func168 rfl (by show (2 : Nat) ≤ 18; omega) (fun w0 N0 => ?_)
  refine aw_step [0, 1] [] (by simp [Tryz.ntmps168] <;> rfl) ?_
  by_cases h : t.length ≤ s.length
  · have h' : (t.length : Int) ≤ s.length := by omega
    refine aw_step [4] [] (by simp [h, h'] <;> rfl) ?_
    exact aw_ret (ends_ret (by simp [Tryz.results168] <;> rfl) (by simp [h]))
  · have h' : ¬ (t.length : Int) ≤ s.length := by omega
    refine aw_step [4] [] (by simp [h, h'] <;> rfl) ?_
    exact aw_ret (ends_ret (by simp [Tryz.results168] <;> rfl) (by simp [h]))
set_option maxHeartbeats 1000000 in
theorem hasPrefix_ac (s t : List UInt8) : AC Tryz.prog 105 [.str s, .str t] (fun r => r = .bool (hasP s t)) := by
  have hc := lhasPrefix_ac s t
  refine ac_intro Tryz.func105 rfl (by show (2 : Nat) ≤ 8; omega) (fun w0 N0 => ?_)
  refine aw_step [0, 1] [] (by simp [Tryz.ntmps105] <;> rfl) ?_
  refine aw_seq (aw_region ?_)
  refine awl_go 2 (by simp <;> rfl) ?_
  refine awl_call1 hc Tryz.func168 rfl (by kernel_rfl) rfl rfl rfl (by simp <;> rfl) (by simp) (by simp <;> rfl) ?_
  refine awl_end [4] [] (by simp <;> rfl) ?_
  refine aw_ret (ends_ret (by simp [Tryz.results105] <;> rfl) ?_)
  rfl
end Go.Proofs.YtnklkkagpkcmfaaGreatDoor

set_option maxRecDepth 4000
namespace Go.Proofs.YtnklkkagpkcmfaaGreatDoor
open Go.Eng Go.Eng.Limb
theorem sortI_len (l : List Int) : (sortI l).length = l.length := by simp [sortI]
end Go.Proofs.YtnklkkagpkcmfaaGreatDoor

set_option maxRecDepth 4000
namespace Go.Proofs.YtnklkkagpkcmfaaGreatDoor
open Go.Eng Go.Eng.Limb
theorem any_step {α : Type} {l : List α} {f : α → Bool} {k : Nat} (h : k < l.length) (hI : (l.take k).any f = false) (hf : f l[k] = false) : (l.take (k + 1)).any f = false := by
  rw [List.take_succ_eq_append_getElem h, List.any_append, hI]; simp [hf]
end Go.Proofs.YtnklkkagpkcmfaaGreatDoor

set_option maxRecDepth 4000
namespace Go.Proofs.YtnklkkagpkcmfaaGreatDoor
open Go.Eng Go.Eng.Limb
theorem getD_lt {α : Type} {l : List α} {k : Nat} (h : k < l.length) (d : α) : l.getD k d = l[k] := by simp [List.getD, h]
end Go.Proofs.YtnklkkagpkcmfaaGreatDoor

set_option maxRecDepth 4000
namespace Go.Proofs.YtnklkkagpkcmfaaGreatDoor
open Go.Eng Go.Eng.Limb
theorem ints_gD {l : List Int} {k : Nat} (h : k < l.length) : nth (ints l) k = some (.int .i64 (l.getD k 0)) := by rw [getD_lt h]; exact ints_nth h
theorem all_gD {α : Type} {l : List α} {P : α → Prop} (h : ∀ x ∈ l, P x) {k : Nat} (hk : k < l.length) (d : α) : P (l.getD k d) := by rw [getD_lt hk]; exact h _ (List.getElem_mem hk)
end Go.Proofs.YtnklkkagpkcmfaaGreatDoor

set_option maxRecDepth 4000
namespace Go.Proofs.YtnklkkagpkcmfaaGreatDoor
open Go.Eng Go.Eng.Limb
def mx0 (f : Int) : Int := if f < 0 then 0 else f
end Go.Proofs.YtnklkkagpkcmfaaGreatDoor

set_option maxRecDepth 4000
namespace Go.Proofs.YtnklkkagpkcmfaaGreatDoor
open Go.Eng Go.Eng.Limb
theorem range_take_all (n k : Nat) (f : Nat → Bool) (hk : k < n) (hI : ((List.range n).take k).any f = false) (hf : f k = false) : ((List.range n).take (k + 1)).any f = false :=
  any_step (by simpa using hk) hI (by simpa using hf)
theorem range_hit {n k : Nat} {f : Nat → Bool} (hk : k < n) (hf : f k = true) : (List.range n).any f = true := List.any_eq_true.2 ⟨k, List.mem_range.2 hk, hf⟩
end Go.Proofs.YtnklkkagpkcmfaaGreatDoor

set_option maxRecDepth 4000
namespace Go.Proofs.YtnklkkagpkcmfaaGreatDoor
open Go.Eng Go.Eng.Limb
structure It where
  id : Int
  ver : Int
  kind : Int
  stem : List UInt8
  opts : List (List UInt8)
  ch : List Int
  val : Int
  tol : Int
  txts : List (List UInt8)
  pts : Int
  code : List UInt8
  fam : Int
  set : Int
  wo : Int
  se : Int
  ass : List Int
  rub : Int
def strsV (l : List (List UInt8)) : List V := l.map V.str
@[simp] theorem strsV_len (l : List (List UInt8)) : (strsV l).length = l.length := by simp [strsV]
theorem strsV_gD {l : List (List UInt8)} {k : Nat} (h : k < l.length) : nth (strsV l) k = some (.str (l.getD k [])) := by rw [nth_eq, getD_lt h]; simp [strsV, h]
theorem strsV_pure (l : List (List UInt8)) : (strsV l).all V.pureE = true := by
  rw [List.all_eq_true]; intro x hx; simp only [strsV, List.mem_map] at hx; obtain ⟨n, _, rfl⟩ := hx; rfl
def It.v (it : It) : V := V.agg [.int .i64 it.id, .int .i64 it.ver, .int .i64 it.kind, .str it.stem, .ro 1 (strsV it.opts), .ro 1 (ints it.ch), .int .i64 it.val, .int .i64 it.tol, .ro 1 (strsV it.txts), .int .i64 it.pts, .str it.code, .int .i64 it.fam, .int .i64 it.set, .int .i64 it.wo, .int .i64 it.se, .ro 1 (ints it.ass), .int .i64 it.rub]
def inB3 (n lo hi : Int) : Bool := decide (lo ≤ n) && decide (n ≤ hi)
theorem within3_ac (n lo hi : Int) : AC Tryz.prog 38 [.int .i64 n, .int .i64 lo, .int .i64 hi] (fun r => r = .bool (inB3 n lo hi)) := by
  unfold inB3
  refine ac_intro Tryz.func38 rfl (by show (3 : Nat) ≤ 15; omega) (fun w0 N0 => ?_)
  refine aw_step [0, 1, 2] [] (by simp [Tryz.ntmps38] <;> rfl) ?_
  refine aw_step [6] [] (by simp <;> rfl) ?_
  exact aw_ret (ends_ret (by simp [Tryz.results38] <;> rfl) (rfl))
def numsB (it : It) : Bool :=
  inB3 it.id 1 9999999 && inB3 it.ver 1 50 && inB3 it.pts 1 5 && inB3 it.wo 0 2000 && inB3 it.se 1 2000 && inB3 it.fam 0 9999999 && inB3 it.set 0 9999999 && inB3 it.rub 0 9999999
set_option maxHeartbeats 4000000 in
theorem nums_ac (it : It) : AC Tryz.prog 37 [it.v] (fun r => r = .bool (numsB it)) := by
  have c93 := within3_ac
  unfold numsB
  have eit : it.v = V.agg [.int .i64 it.id, .int .i64 it.ver, .int .i64 it.kind, .str it.stem, .ro 1 (strsV it.opts), .ro 1 (ints it.ch), .int .i64 it.val, .int .i64 it.tol, .ro 1 (strsV it.txts), .int .i64 it.pts, .str it.code, .int .i64 it.fam, .int .i64 it.set, .int .i64 it.wo, .int .i64 it.se, .ro 1 (ints it.ass), .int .i64 it.rub] := rfl
  rw [eit]
  have i1 := strsV_pure it.opts
  have i2 := ints_pure it.ch
  have i3 := strsV_pure it.txts
  have i4 := ints_pure it.ass
  have li1 := strsV_len it.opts
  have li2 := ints_len it.ch
  have li3 := strsV_len it.txts
  have li4 := ints_len it.ass
  generalize strsV it.opts = ov at *
  generalize ints it.ch = cv at *
  generalize strsV it.txts = xv at *
  generalize ints it.ass = av at *
  have ei1 : ov = [] ↔ it.opts = [] := by rw [← List.length_eq_zero_iff, li1, List.length_eq_zero_iff]
  have ei2 : cv = [] ↔ it.ch = [] := by rw [← List.length_eq_zero_iff, li2, List.length_eq_zero_iff]
  have ei3 : xv = [] ↔ it.txts = [] := by rw [← List.length_eq_zero_iff, li3, List.length_eq_zero_iff]
  generalize inB3 = wi at *
  refine ac_intro Tryz.func37 rfl (by show (1 : Nat) ≤ 41; omega) (fun w0 N0 => ?_)
  refine aw_step [1] [1] (by simp [Tryz.ntmps37] <;> rfl) ?_
  refine aw_seq (aw_region ?_)
  refine awl_go 2 (by simp <;> rfl) ?_
  refine awl_call1 (c93 it.id 1 9999999) Tryz.func38 rfl (by kernel_rfl) rfl rfl rfl (by simp <;> rfl) (by simp) (by simp <;> rfl) ?_
  refine awl_go 3 (by simp <;> rfl) ?_
  refine awl_gcall (fun hg => c93 it.ver 1 50) Tryz.func38 rfl (by kernel_rfl) (by simp <;> rfl) rfl rfl (by simp <;> rfl) (by simp) (by simp <;> rfl) ?_
  refine awl_go 4 (by simp <;> rfl) ?_
  refine awl_gcall (fun hg => c93 it.pts 1 5) Tryz.func38 rfl (by kernel_rfl) (by simp <;> rfl) rfl rfl (by simp <;> rfl) (by simp) (by simp <;> rfl) ?_
  refine awl_go 4 (by simp <;> rfl) ?_
  refine awl_gcall (fun hg => c93 it.wo 0 2000) Tryz.func38 rfl (by kernel_rfl) (by simp <;> rfl) rfl rfl (by simp <;> rfl) (by simp) (by simp <;> rfl) ?_
  refine awl_go 4 (by simp <;> rfl) ?_
  refine awl_gcall (fun hg => c93 it.se 1 2000) Tryz.func38 rfl (by kernel_rfl) (by simp <;> rfl) rfl rfl (by simp <;> rfl) (by simp) (by simp <;> rfl) ?_
  refine awl_go 4 (by simp <;> rfl) ?_
  refine awl_gcall (fun hg => c93 it.fam 0 9999999) Tryz.func38 rfl (by kernel_rfl) (by simp <;> rfl) rfl rfl (by simp <;> rfl) (by simp) (by simp <;> rfl) ?_
  refine awl_go 4 (by simp <;> rfl) ?_
  refine awl_gcall (fun hg => c93 it.set 0 9999999) Tryz.func38 rfl (by kernel_rfl) (by simp <;> rfl) rfl rfl (by simp <;> rfl) (by simp) (by simp <;> rfl) ?_
  refine awl_go 4 (by simp <;> rfl) ?_
  refine awl_gcall (fun hg => c93 it.rub 0 9999999) Tryz.func38 rfl (by kernel_rfl) (by simp <;> rfl) rfl rfl (by simp <;> rfl) (by simp) (by simp <;> rfl) ?_
  refine awl_end [2] [] (by simp <;> rfl) ?_
  exact aw_ret (ends_ret (by simp [Tryz.results37] <;> rfl) (rfl))
def prb (b : UInt8) : Bool := decide (32 ≤ b.toNat) && decide (b.toNat ≤ 126)
def prB (s : List UInt8) (most : Int) : Bool := s.all prb && decide ((1 : Int) ≤ s.length) && decide ((s.length : Int) ≤ most)
set_option maxHeartbeats 4000000 in
theorem prB_ac (s : List UInt8) (most : Int) (hs : s.length ≤ 4000000000) : AC Tryz.prog 68 [.str s, .int .i64 most] (fun r => r = .bool (prB s most)) := by
  unfold prB
  refine ac_intro Tryz.func68 rfl (by show (2 : Nat) ≤ 31; omega) (fun w0 N0 => ?_)
  refine aw_step [0, 1] [] (by simp [Tryz.ntmps68] <;> rfl) ?_
  refine aw_seq ?_
  refine aw_step [0, 1, 5] [] (by simp <;> rfl) ?_
  refine aw_block ?_
  refine aw_count (fun k nx => ⟨[(0, V.str s), (1, V.int .i64 most), (5, V.int .i64 k)], [], nx, 31⟩) (fun k => (s.take k).all prb = true) s.length _ (by simp) (AS.le_refl _) ?_
  intro k nx hk hI
  refine aw_seq ?_
  refine aw_step [0, 1, 5, 9] [] (by simp <;> rfl) ?_
  refine aw_cond rfl (fun h1 => aw_skip ?_) (fun h1 => ?_)   -- if t9
  · have hlt : k < s.length := by simp at h1; omega
    have hw1 := wrap_succ (k := k) (by omega)
    have gb : nth s k = some s[k] := by rw [nth_eq]; simp [hlt]
    have hst : prb s[k] = true → (s.take (k + 1)).all prb = true := fun h => by rw [List.take_succ_eq_append_getElem hlt, List.all_append, hI]; simp [h]
    have hno : prb s[k] = false → s.all prb = false := fun h => by rw [List.all_eq_false]; exact ⟨s[k], List.getElem_mem hlt, by rw [h]; simp⟩
    have hpb : prb s[k] = (decide (32 ≤ s[k].toNat) && decide (s[k].toNat ≤ 126)) := rfl
    generalize s[k] = b at *
    refine aw_seq ?_
    refine aw_block ?_
    refine aw_step [0, 1, 5, 21] [] (by simp [hlt, gb] <;> rfl) ?_
    refine aw_cond rfl (fun h2 => ?_) (fun h2 => aw_skip ?_)   -- if t21
    · refine aw_step [4] [] (by simp <;> rfl) ?_
      exact aw_ret (ends_ret (by simp [Tryz.results68] <;> rfl) (by rw [hno (by rw [hpb]; simp at h2 ⊢; omega)]; rfl))
    refine aw_one [0, 1, 5] [] (by simp [hw1] <;> rfl) ?_
    exact ⟨hlt, hst (by rw [hpb]; simp at h2 ⊢; omega), _, AS.le_refl _⟩
  · refine aw_exit ?_
    have hke : k = s.length := by simp at h1; omega
    rw [hke, List.take_length] at hI
    refine aw_step [4] [] (by simp <;> rfl) ?_
    exact aw_ret (ends_ret (by simp [Tryz.results68] <;> rfl) (by rw [hI]; simp))
def badR3 (l : List Int) (lo hi : Int) (k : Nat) : Bool := !inB3 (l.getD k 0) lo hi || (decide (0 < k) && decide (l.getD k 0 ≤ l.getD (k - 1) 0))
def risB (l : List Int) (lo hi : Int) : Bool := !(List.range l.length).any (badR3 l lo hi)
set_option maxHeartbeats 8000000 in
theorem ris_ac (l : List Int) (lo hi : Int) (hl : l.length ≤ 4000000000) : AC Tryz.prog 42 [.ro 1 (ints l), .int .i64 lo, .int .i64 hi] (fun r => r = .bool (risB l lo hi)) := by
  have c93 := fun n => within3_ac n lo hi
  have qe := fun (k : Nat) (h : k < l.length) => ints_gD h
  have le := ints_len l
  have pl := ints_pure l
  unfold risB
  have hbe : ∀ k, badR3 l lo hi k = (!inB3 (l.getD k 0) lo hi || (decide (0 < k) && decide (l.getD k 0 ≤ l.getD (k - 1) 0))) := fun k => rfl
  generalize ints l = lv at *
  generalize badR3 l lo hi = be at *
  refine ac_intro Tryz.func42 rfl (by show (3 : Nat) ≤ 35; omega) (fun w0 N0 => ?_)
  refine aw_step [0, 1, 2] [] (by simp [Tryz.ntmps42] <;> rfl) ?_
  refine aw_seq ?_
  refine aw_step [0, 1, 2, 9, 10, 11] [] (by simp <;> rfl) ?_
  refine aw_block ?_
  refine aw_count (fun k nx => ⟨[(0, V.ro 1 lv), (1, V.int .i64 lo), (2, V.int .i64 hi), (9, V.ro 1 lv), (10, V.int .i64 lv.length), (11, V.int .i64 k)], [], nx, 35⟩) (fun k => ((List.range l.length).take k).any be = false) l.length _ (by simp) (AS.le_refl _) ?_
  intro k nx hk hI
  refine aw_step [0, 1, 2, 9, 10, 11, 12] [] (by simp <;> rfl) ?_
  refine aw_seq ?_
  refine aw_cond rfl (fun h1 => aw_skip ?_) (fun h1 => ?_)   -- if t12
  · have hlt : k < l.length := by simp at h1; omega
    have hltq : k < lv.length := by omega
    have ga := qe k hlt
    have hb := hbe k
    have hw1 := wrap_succ (k := k) (by omega)
    have hst := fun h => range_take_all l.length k be hlt hI h
    have hhi := fun h => range_hit (f := be) hlt h
    have hpv : ∀ j, k = j + 1 → be k = (!inB3 (l.getD k 0) lo hi || decide (l.getD k 0 ≤ l.getD j 0)) := fun j hj => by rw [hb, hj]; simp
    generalize l.getD k 0 = x at *
    have c93x := c93 x
    refine aw_seq ?_
    refine aw_block ?_
    refine aw_step [0, 1, 2, 7, 8, 9, 10, 11] [] (by simp [ga, hltq] <;> rfl) ?_
    cases hfd : inB3 x lo hi
    · rw [hfd] at c93x
      refine aw_seq (aw_region ?_)
      refine awl_go 3 (by simp <;> rfl) ?_
      refine awl_call1 c93x Tryz.func38 rfl (by kernel_rfl) rfl rfl rfl (by simp <;> rfl) (by simp) (by simp <;> rfl) ?_
      refine awl_go 2 (by simp <;> rfl) ?_
      refine awl_skips 11 (by simp <;> rfl) ?_
      refine awl_end [0, 1, 2, 9, 10, 11, 33] [] (by simp <;> rfl) ?_
      refine aw_cond rfl (fun h2 => ?_) (fun h2 => by simp at h2)
      refine aw_step [6] [] (by simp <;> rfl) ?_
      exact aw_ret (ends_ret (by simp [Tryz.results42] <;> rfl) (by rw [hhi (by rw [hb, hfd]; rfl)]; rfl))
    rw [hfd] at c93x
    rcases k with _ | j
    · refine aw_seq (aw_region ?_)
      refine awl_go 3 (by simp <;> rfl) ?_
      refine awl_call1 c93x Tryz.func38 rfl (by kernel_rfl) rfl rfl rfl (by simp <;> rfl) (by simp) (by simp <;> rfl) ?_
      refine awl_go 5 (by simp <;> rfl) ?_
      refine awl_skips 7 (by simp <;> rfl) ?_
      refine awl_end [0, 1, 2, 9, 10, 11, 33] [] (by simp <;> rfl) ?_
      refine aw_cond rfl (fun h2 => by simp at h2) (fun h2 => aw_skip ?_)
      refine aw_one [0, 1, 2, 9, 10, 11] [] (by simp [hw1] <;> rfl) ?_
      exact ⟨hlt, hst (by rw [hb, hfd]; simp), _, AS.le_refl _⟩
    · have gp := qe j (by omega)
      have hlj : j < lv.length := by omega
      have hwj : IntKind.i64.wrap (((j + 1 : Nat) : Int) - 1) = (j : Int) := by rw [wrap_in (by omega) (by omega)]; omega
      have hwj2 : IntKind.i64.wrap (j : Int) = (j : Int) := wrap_in (by omega) (by omega)
      have hb2 := hpv j rfl
      generalize l.getD j 0 = y at *
      refine aw_seq (aw_region ?_)
      refine awl_go 3 (by simp <;> rfl) ?_
      refine awl_call1 c93x Tryz.func38 rfl (by kernel_rfl) rfl rfl rfl (by simp <;> rfl) (by simp) (by simp <;> rfl) ?_
      refine awl_end [0, 1, 2, 9, 10, 11, 33] [] (by simp [gp, hlj, hwj, hwj2, -Int.natCast_add] <;> rfl) ?_
      refine aw_cond rfl (fun h2 => ?_) (fun h2 => aw_skip ?_)
      · refine aw_step [6] [] (by simp <;> rfl) ?_
        exact aw_ret (ends_ret (by simp [Tryz.results42] <;> rfl) (by rw [hhi (by rw [hb2, hfd]; simpa using h2)]; rfl))
      have hw2 : IntKind.i64.wrap ((j : Int) + 1 + 1) = ((j + 1 + 1 : Nat) : Int) := by rw [wrap_in (by omega) (by omega)]; omega
      refine aw_one [0, 1, 2, 9, 10, 11] [] (by simp [hw2, -Int.natCast_add] <;> rfl) ?_
      exact ⟨hlt, hst (by rw [hb2, hfd]; simpa using h2), _, AS.le_refl _⟩
  · refine aw_exit ?_
    have hke : k = l.length := by simp at h1; omega
    rw [hke, List.take_of_length_le (by simp)] at hI
    refine aw_step [6] [] (by simp <;> rfl) ?_
    exact aw_ret (ends_ret (by simp [Tryz.results42] <;> rfl) (by rw [hI]; rfl))
def onlyB (it : It) : Bool :=
  if 3 < it.kind ∧ (it.opts ≠ [] ∨ it.ch ≠ []) then false
  else if it.kind ≠ 4 ∧ (it.val ≠ 0 ∨ it.tol ≠ 0) then false
  else (decide (it.kind = 5) || decide (it.txts = [])) && (decide (it.kind = 6) || decide (it.rub = 0))
set_option maxHeartbeats 4000000 in
theorem only_ac (it : It) : AC Tryz.prog 40 [it.v] (fun r => r = .bool (onlyB it)) := by
  unfold onlyB
  have eit : it.v = V.agg [.int .i64 it.id, .int .i64 it.ver, .int .i64 it.kind, .str it.stem, .ro 1 (strsV it.opts), .ro 1 (ints it.ch), .int .i64 it.val, .int .i64 it.tol, .ro 1 (strsV it.txts), .int .i64 it.pts, .str it.code, .int .i64 it.fam, .int .i64 it.set, .int .i64 it.wo, .int .i64 it.se, .ro 1 (ints it.ass), .int .i64 it.rub] := rfl
  rw [eit]
  have i1 := strsV_pure it.opts
  have i2 := ints_pure it.ch
  have i3 := strsV_pure it.txts
  have i4 := ints_pure it.ass
  have li1 := strsV_len it.opts
  have li2 := ints_len it.ch
  have li3 := strsV_len it.txts
  have li4 := ints_len it.ass
  generalize strsV it.opts = ov at *
  generalize ints it.ch = cv at *
  generalize strsV it.txts = xv at *
  generalize ints it.ass = av at *
  have ei1 : ov = [] ↔ it.opts = [] := by rw [← List.length_eq_zero_iff, li1, List.length_eq_zero_iff]
  have ei2 : cv = [] ↔ it.ch = [] := by rw [← List.length_eq_zero_iff, li2, List.length_eq_zero_iff]
  have ei3 : xv = [] ↔ it.txts = [] := by rw [← List.length_eq_zero_iff, li3, List.length_eq_zero_iff]
  refine ac_intro Tryz.func40 rfl (by show (1 : Nat) ≤ 50; omega) (fun w0 N0 => ?_)
  refine aw_step [1] [1] (by simp [Tryz.ntmps40] <;> rfl) ?_
  refine aw_seq ?_
  refine aw_step [1, 17] [1] (by simp <;> rfl) ?_
  refine aw_cond rfl (fun h1 => ?_) (fun h1 => aw_skip ?_)   -- if t17
  · refine aw_step [2] [] (by simp <;> rfl) ?_
    exact aw_ret (ends_ret (by simp [Tryz.results40] <;> rfl) (by rw [if_pos (by simpa [List.length_pos_iff, ei1, ei2] using h1)]))
  rw [if_neg (by simpa [List.length_pos_iff, ei1, ei2] using h1)]
  refine aw_seq ?_
  refine aw_step [1, 30] [1] (by simp <;> rfl) ?_
  refine aw_cond rfl (fun h2 => ?_) (fun h2 => aw_skip ?_)   -- if t30
  · refine aw_step [2] [] (by simp <;> rfl) ?_
    exact aw_ret (ends_ret (by simp [Tryz.results40] <;> rfl) (by rw [if_pos (by simpa using h2)]))
  rw [if_neg (by simpa using h2)]
  refine aw_step [2] [] (by simp <;> rfl) ?_
  exact aw_ret (ends_ret (by simp [Tryz.results40] <;> rfl) (by simp [ei3]))
end Go.Proofs.YtnklkkagpkcmfaaGreatDoor

set_option maxRecDepth 4000
namespace Go.Proofs.YtnklkkagpkcmfaaGreatDoor
open Go.Eng Go.Eng.Limb
section
open Go.RowKit Go.Sort Go.Lib
def repl (s : List UInt8) (a b : UInt8) : List UInt8 := Lib.replaceAll s [a] [b]
theorem repl_acq (s : List UInt8) (a b : UInt8) (hs : s.length < 4294967281) : ACQ gv Tryz.prog 69 [.str s, .str [a], .str [b]] (fun r => r = .str (repl s a b)) := by
  intro w N xs hG _ hl hp
  obtain ⟨x, y, z, rfl, hx, hy, hz⟩ : ∃ x y z, xs = [x, y, z] ∧ Pur w N x (.str s) ∧ Pur w N y (.str [a]) ∧ Pur w N z (.str [b]) := by
    match xs, hl with
    | [x, y, z], _ => exact ⟨x, y, z, rfl, hp 0 x _ rfl rfl, hp 1 y _ rfl rfl, hp 2 z _ rfl rfl⟩
  cases hx; cases hy; cases hz
  obtain ⟨m, hm⟩ := hG
  have hsz : (⟨s.toArray⟩ : ByteArray).size = s.length := by rw [Lib.size_eq]
  have h1 : (⟨#[a]⟩ : ByteArray).size = 1 := rfl
  have hc := Lib.countB_le ⟨#[a]⟩ (Nat.le_of_eq h1.symm) _ ⟨s.toArray⟩ (Nat.le_refl _)
  refine (Tryz.strings_ReplaceAll ⟨s.toArray⟩ ⟨#[a]⟩ ⟨#[b]⟩ m w (by omega) hm (Nat.le_of_eq h1.symm) (by show _ + _ * 1 ≤ _; omega)).mono ?_
  rintro e w' ⟨rfl, hb⟩
  exact ⟨_, _, rfl, rfl, .str _, hb⟩
theorem con_acq (s sub : List UInt8) (hs : s.length < 4294967281) : ACQ gv Tryz.prog 107 [.str s, .str sub] (fun r => r = .bool (Lib.contains s sub)) := by
  intro w N xs hG _ hl hp
  obtain ⟨x, y, rfl, hx, hy⟩ := two_args hl hp
  cases hx; cases hy
  obtain ⟨m, hm⟩ := hG
  refine (Tryz.strings_Contains ⟨s.toArray⟩ ⟨sub.toArray⟩ m w (by rw [Lib.size_eq]; simpa using hs) hm).mono ?_
  rintro e w' ⟨rfl, rfl⟩
  exact ⟨_, _, rfl, rfl, .bool _, Below.refl _ _⟩
end
def sfB (s : List UInt8) : Bool := decide (1 ≤ s.length) && decide (s.drop (s.length - 1) = [32])
theorem hasSuf_ac (s : List UInt8) (hs2 : s.length ≤ 4000000000) : AC Tryz.prog 169 [.str s, .str [32]] (fun r => r = .bool (sfB s)) := by
  unfold sfB
  by_cases hs : s = []
  · subst hs
    refine ac_intro Tryz.func169 rfl (by show (2 : Nat) ≤ 21; omega) (fun w0 N0 => ?_)
    refine aw_step [0, 1] [] (by simp [Tryz.ntmps169] <;> rfl) ?_
    refine aw_seq (aw_region ?_)
    refine awl_go 6 (by simp <;> rfl) ?_
    refine awl_skips 9 (by simp <;> rfl) ?_
    refine awl_end [4] [] (by simp <;> rfl) ?_
    exact aw_ret (ends_ret (by simp [Tryz.results169] <;> rfl) rfl)
  · have hl : 1 ≤ s.length := List.length_pos_iff.2 hs
    have hl2 : (1 : Int) ≤ s.length := by omega
    have hw : IntKind.i64.wrap ((s.length : Int) - 1) = ((s.length - 1 : Nat) : Int) := by rw [wrap_in (by omega) (by omega)]; omega
    have hh : ((s.length - 1 : Nat) : Int) ≤ s.length := by omega
    have ht : (s.drop (s.length - 1)).take (s.length - (s.length - 1)) = s.drop (s.length - 1) := List.take_of_length_le (by simp)
    refine ac_intro Tryz.func169 rfl (by show (2 : Nat) ≤ 21; omega) (fun w0 N0 => ?_)
    refine aw_step [0, 1] [] (by simp [Tryz.ntmps169] <;> rfl) ?_
    refine aw_step [4] [] (by simp [hl, hl2, hw, hh, ht] <;> rfl) ?_
    exact aw_ret (ends_ret (by simp [Tryz.results169] <;> rfl) (by simp [hl]))
theorem hasSuffix_ac (s : List UInt8) (hs2 : s.length ≤ 4000000000) : AC Tryz.prog 106 [.str s, .str [32]] (fun r => r = .bool (sfB s)) := by
  have c219 := hasSuf_ac s hs2
  generalize sfB s = b at *
  refine ac_intro Tryz.func106 rfl (by show (2 : Nat) ≤ 8; omega) (fun w0 N0 => ?_)
  refine aw_step [0, 1] [] (by simp [Tryz.ntmps106] <;> rfl) ?_
  refine aw_seq (aw_region ?_)
  refine awl_go 2 (by simp <;> rfl) ?_
  refine awl_call1 c219 Tryz.func169 rfl (by kernel_rfl) rfl rfl rfl (by simp <;> rfl) (by simp) (by simp <;> rfl) ?_
  refine awl_end [4] [] (by simp <;> rfl) ?_
  exact aw_ret (ends_ret (by simp [Tryz.results106] <;> rfl) (rfl))
def nrm (b : UInt8) : Bool := decide ((b.toNat : Int) = 32) || inB3 b.toNat 97 122 || inB3 b.toNat 48 57
def nrmB (s : List UInt8) : Bool := if s.all nrm = false then false else !hasP s [32] && !sfB s && !Lib.contains s [32, 32]
set_option maxHeartbeats 8000000 in
theorem nrm_acq (s : List UInt8) (hs : s.length ≤ 4000000000) : ACQ gv Tryz.prog 73 [.str s] (fun r => r = .bool (nrmB s)) := by
  have c93 := within3_ac
  have c168 := hasPrefix_ac s [32]
  have c177 := hasSuffix_ac s hs
  have c178 := con_acq s [32, 32] (by omega)
  unfold nrmB
  generalize hasP s [32] = hp at *
  generalize sfB s = sf at *
  generalize Lib.contains s [32, 32] = ct at *
  refine acq_intro Tryz.func73 rfl (by show (1 : Nat) ≤ 43; omega) (fun w0 N0 hG => ?_)
  refine aw_step [0] [] (by simp [Tryz.ntmps73] <;> rfl) ?_
  refine aw_seq ?_
  refine aw_step [0, 3] [] (by simp <;> rfl) ?_
  refine aw_block ?_
  refine aw_count (fun k nx => ⟨[(0, V.str s), (3, V.int .i64 k)], [], nx, 43⟩) (fun k => (s.take k).all nrm = true) s.length _ (by simp) (AS.le_refl _) ?_
  intro k nx hk hI
  refine aw_seq ?_
  refine aw_step [0, 3, 7] [] (by simp <;> rfl) ?_
  refine aw_cond rfl (fun h1 => aw_skip ?_) (fun h1 => ?_)   -- if t7
  · have hlt : k < s.length := by simp at h1; omega
    have hw1 := wrap_succ (k := k) (by omega)
    have gb : nth s k = some s[k] := by rw [nth_eq]; simp [hlt]
    have hst : nrm s[k] = true → (s.take (k + 1)).all nrm = true := fun h => by rw [List.take_succ_eq_append_getElem hlt, List.all_append, hI]; simp [h]
    have hno : nrm s[k] = false → s.all nrm = false := fun h => by rw [List.all_eq_false]; exact ⟨s[k], List.getElem_mem hlt, by rw [h]; simp⟩
    have hpb : nrm s[k] = (decide ((s[k].toNat : Int) = 32) || inB3 s[k].toNat 97 122 || inB3 s[k].toNat 48 57) := rfl
    have hw8 : IntKind.i64.wrap (s[k].toNat : Int) = (s[k].toNat : Int) := by have := s[k].toNat_lt; rw [wrap_in (by omega) (by omega)]
    generalize s[k] = b at *
    refine aw_seq ?_
    refine aw_block ?_
    refine aw_seq (aw_region ?_)
    refine awl_go 9 (by simp [hlt, gb, hw8] <;> rfl) ?_
    refine awl_gcall (c := !decide ((b.toNat : Int) = 32)) (fun hg => c93 b.toNat 97 122) Tryz.func38 rfl (by kernel_rfl) (by simp <;> rfl) rfl rfl (by simp <;> rfl) (by simp) (by simp <;> rfl) ?_
    refine awl_go 7 (by simp [hlt, gb, hw8] <;> rfl) ?_
    refine awl_gcall (c := !decide ((b.toNat : Int) = 32) && !inB3 b.toNat 97 122) (fun hg => c93 b.toNat 48 57) Tryz.func38 rfl (by kernel_rfl) (by simp <;> rfl) rfl rfl (by simp <;> rfl) (by simp) (by simp <;> rfl) ?_
    refine awl_end [0, 3, 29] [] (by simp <;> rfl) ?_
    refine aw_cond rfl (fun h2 => ?_) (fun h2 => aw_skip ?_)   -- if t29
    · refine aw_step [2] [] (by simp <;> rfl) ?_
      exact aw_ret (ends_ret (by simp [Tryz.results73] <;> rfl) (by rw [if_pos (hno (by rw [hpb]; simpa [and_assoc] using h2))]))
    refine aw_one [0, 3] [] (by simp [hw1] <;> rfl) ?_
    exact ⟨hlt, hst (by rw [hpb]; by_cases e : (b.toNat : Int) = 32 <;> cases e2 : inB3 b.toNat 97 122 <;> simp_all), _, AS.le_refl _⟩
  · refine aw_exit ?_
    have hke : k = s.length := by simp at h1; omega
    rw [hke, List.take_length] at hI
    rw [if_neg (by rw [hI]; simp)]
    refine aw_seq (aw_region ?_)
    refine awl_go 1 (by simp <;> rfl) ?_
    refine awl_call1 c168 Tryz.func105 rfl (by kernel_rfl) rfl rfl rfl (by simp <;> rfl) (by simp) (by simp <;> rfl) ?_
    refine awl_go 3 (by simp <;> rfl) ?_
    refine awl_gcall (c := !hp) (fun hg => c177) Tryz.func106 rfl (by kernel_rfl) (by simp <;> rfl) rfl rfl (by simp <;> rfl) (by simp) (by simp <;> rfl) ?_
    refine awl_go 4 (by simp <;> rfl) ?_
    refine awl_gcallQ (c := !hp && !sf) hG (fun hg => c178) Tryz.func107 rfl (by kernel_rfl) (by simp <;> rfl) rfl rfl (by simp <;> rfl) (by simp) (by simp <;> rfl) ?_
    refine awl_end [2] [] (by simp <;> rfl) ?_
    exact aw_ret (ends_ret (by simp [Tryz.results73] <;> rfl) (by simp))
def strB (it : It) : Bool :=
  if prB (repl it.stem 10 32) 2000 = false then false
  else if it.opts.all (fun s => prB s 200) = false then false
  else if it.txts.all (fun s => prB s 200) = false then false else cValid it.code
structure It.small (it : It) : Prop where
  stem : it.stem.length ≤ 2000000
  opts : it.opts.length ≤ 2000000 ∧ ∀ s ∈ it.opts, s.length ≤ 2000000
  txts : it.txts.length ≤ 2000000 ∧ ∀ s ∈ it.txts, s.length ≤ 2000000
  ch : it.ch.length ≤ 2000000
  ass : it.ass.length ≤ 2000000
theorem replK_len (a b : UInt8) : ∀ (k : Nat) (s : List UInt8), (Lib.replaceK [a] [b] k s).length ≤ s.length + k
  | 0, s => by simp [Lib.replaceK]
  | k + 1, s => by
    rw [Lib.replaceK]
    split
    · omega
    · have ih := replK_len a b k (s.drop ((Lib.index s [a]).toNat + [a].length))
      simp only [List.length_append, List.length_take, List.length_drop, List.length_cons, List.length_nil] at ih ⊢
      omega
theorem repl_len (s : List UInt8) (hs : s.length ≤ 2000000) : (repl s 10 32).length ≤ 4000001 := by
  have hc := Lib.count_le s [10]
  have h1 := replK_len 10 32 (Lib.replaceNum s [10] (-1)) s
  have h2 : Lib.replaceNum s [10] (-1) ≤ s.length + 1 := by
    unfold Lib.replaceNum; rw [if_pos (by omega)]
    exact hc
  unfold repl Lib.replaceAll Lib.replace
  split <;> omega
set_option maxHeartbeats 8000000 in
theorem strB_acq (it : It) (hi : it.small) : ACQ gv Tryz.prog 39 [it.v] (fun r => r = .bool (strB it)) := by
  have hst := hi.stem
  have ho := hi.opts.1
  have ht := hi.txts.1
  have c138 := repl_acq it.stem 10 32 (by omega)
  have c137 := prB_ac (repl it.stem 10 32) 2000 (by have := repl_len it.stem hst; omega)
  have c137o := fun (k : Nat) (h : k < it.opts.length) => prB_ac (it.opts.getD k []) 200 (Nat.le_trans (all_gD hi.opts.2 h []) (by decide))
  have c137t := fun (k : Nat) (h : k < it.txts.length) => prB_ac (it.txts.getD k []) 200 (Nat.le_trans (all_gD hi.txts.2 h []) (by decide))
  have c90 := cValid_acq it.code
  have qo := fun (k : Nat) (h : k < it.opts.length) => strsV_gD h
  have qt := fun (k : Nat) (h : k < it.txts.length) => strsV_gD h
  unfold strB
  generalize prB (repl it.stem 10 32) 2000 = b1 at *
  generalize cValid it.code = b4 at *
  generalize hpf : (fun s : List UInt8 => prB s 200) = pf at *
  have hpf2 : ∀ s, prB s 200 = pf s := fun s => by rw [← hpf]
  have eit : it.v = V.agg [.int .i64 it.id, .int .i64 it.ver, .int .i64 it.kind, .str it.stem, .ro 1 (strsV it.opts), .ro 1 (ints it.ch), .int .i64 it.val, .int .i64 it.tol, .ro 1 (strsV it.txts), .int .i64 it.pts, .str it.code, .int .i64 it.fam, .int .i64 it.set, .int .i64 it.wo, .int .i64 it.se, .ro 1 (ints it.ass), .int .i64 it.rub] := rfl
  rw [eit]
  have i1 := strsV_pure it.opts
  have i2 := ints_pure it.ch
  have i3 := strsV_pure it.txts
  have i4 := ints_pure it.ass
  have li1 := strsV_len it.opts
  have li2 := ints_len it.ch
  have li3 := strsV_len it.txts
  have li4 := ints_len it.ass
  generalize strsV it.opts = ov at *
  generalize ints it.ch = cv at *
  generalize strsV it.txts = xv at *
  generalize ints it.ass = av at *
  have ei1 : ov = [] ↔ it.opts = [] := by rw [← List.length_eq_zero_iff, li1, List.length_eq_zero_iff]
  have ei2 : cv = [] ↔ it.ch = [] := by rw [← List.length_eq_zero_iff, li2, List.length_eq_zero_iff]
  have ei3 : xv = [] ↔ it.txts = [] := by rw [← List.length_eq_zero_iff, li3, List.length_eq_zero_iff]
  refine acq_intro Tryz.func39 rfl (by show (1 : Nat) ≤ 37; omega) (fun w0 N0 hG => ?_)
  refine aw_step [1] [1] (by simp [Tryz.ntmps39] <;> rfl) ?_
  refine aw_seq ?_
  refine aw_seq (aw_region ?_)
  refine awl_go 2 (by simp <;> rfl) ?_
  refine awl_callQ hG c138 Tryz.func69 rfl (by kernel_rfl) (by simp) rfl rfl rfl (by simp <;> rfl) (by simp) (by simp <;> rfl) ?_
  refine awl_call1 c137 Tryz.func68 rfl (by kernel_rfl) rfl rfl rfl (by simp <;> rfl) (by simp) (by simp <;> rfl) ?_
  refine awl_end [1, 11] [1] (by simp <;> rfl) ?_
  refine aw_cond rfl (fun h1 => ?_) (fun h1 => aw_skip ?_)   -- if t11
  · refine aw_step [2] [] (by simp <;> rfl) ?_
    exact aw_ret (ends_ret (by simp [Tryz.results39] <;> rfl) (by rw [if_pos (by simpa using h1)]))
  rw [if_neg (by simpa using h1)]
  refine aw_seq ?_
  refine aw_step [1, 13, 14, 15] [1] (by simp <;> rfl) ?_
  refine aw_block ?_
  refine aw_count (fun k nx => ⟨[(1, V.bp 1 0 17 0 0), (13, V.ro 1 ov), (14, V.int .i64 ov.length), (15, V.int .i64 k)], [(1, ⟨0, 17, 39, [V.agg [.int .i64 it.id, .int .i64 it.ver, .int .i64 it.kind, .str it.stem, .ro 1 ov, .ro 1 cv, .int .i64 it.val, .int .i64 it.tol, .ro 1 xv, .int .i64 it.pts, .str it.code, .int .i64 it.fam, .int .i64 it.set, .int .i64 it.wo, .int .i64 it.se, .ro 1 av, .int .i64 it.rub]]⟩)], nx, 37⟩) (fun k => (it.opts.take k).all pf = true) it.opts.length _ (by simp) (AS.le_refl _) ?_
  intro k nx hk hI
  refine aw_step [1, 13, 14, 15, 16] [1] (by simp <;> rfl) ?_
  refine aw_seq ?_
  refine aw_cond rfl (fun h2 => aw_skip ?_) (fun h2 => ?_)   -- if t16
  · have hlt : k < it.opts.length := by simp at h2; omega
    have hltq : k < ov.length := by omega
    have ga := qo k hlt
    have hw1 := wrap_succ (k := k) (by omega)
    have c1 := c137o k hlt
    rw [hpf2] at c1
    have hst1 : pf (it.opts.getD k []) = true → (it.opts.take (k + 1)).all pf = true := fun h => by rw [List.take_succ_eq_append_getElem hlt, List.all_append, hI]; rw [getD_lt hlt] at h; simp [h]
    have hno : pf (it.opts.getD k []) = false → it.opts.all pf = false := fun h => by rw [getD_lt hlt] at h; rw [List.all_eq_false]; exact ⟨_, List.getElem_mem hlt, by rw [h]; simp⟩
    generalize it.opts.getD k [] = s at *
    refine aw_seq ?_
    refine aw_block ?_
    refine aw_step [1, 4, 13, 14, 15] [1] (by simp [ga, hltq] <;> rfl) ?_
    refine aw_seq (aw_region ?_)
    refine awl_go 1 (by simp <;> rfl) ?_
    refine awl_call1 c1 Tryz.func68 rfl (by kernel_rfl) rfl rfl rfl (by simp <;> rfl) (by simp) (by simp <;> rfl) ?_
    refine awl_end [1, 13, 14, 15, 21] [1] (by simp <;> rfl) ?_
    refine aw_cond rfl (fun h3 => ?_) (fun h3 => aw_skip ?_)   -- if t21
    · refine aw_step [2] [] (by simp <;> rfl) ?_
      exact aw_ret (ends_ret (by simp [Tryz.results39] <;> rfl) (by rw [if_pos (hno (by simpa using h3))]))
    refine aw_one [1, 13, 14, 15] [1] (by simp [hw1] <;> rfl) ?_
    exact ⟨hlt, hst1 (by simpa using h3), _, AS.le_refl _⟩
  · refine aw_exit ?_
    have hke : k = it.opts.length := by simp at h2; omega
    rw [hke, List.take_length] at hI
    rw [if_neg (by rw [hI]; simp)]
    refine aw_seq ?_
    refine aw_step [1, 24, 25, 26] [1] (by simp <;> rfl) ?_
    refine aw_block ?_
    refine aw_count (fun k nx => ⟨[(1, V.bp 1 0 17 0 0), (24, V.ro 1 xv), (25, V.int .i64 xv.length), (26, V.int .i64 k)], [(1, ⟨0, 17, 39, [V.agg [.int .i64 it.id, .int .i64 it.ver, .int .i64 it.kind, .str it.stem, .ro 1 ov, .ro 1 cv, .int .i64 it.val, .int .i64 it.tol, .ro 1 xv, .int .i64 it.pts, .str it.code, .int .i64 it.fam, .int .i64 it.set, .int .i64 it.wo, .int .i64 it.se, .ro 1 av, .int .i64 it.rub]]⟩)], nx, 37⟩) (fun k => (it.txts.take k).all pf = true) it.txts.length _ (by simp) (AS.le_refl _) ?_
    intro k nx hk hI2
    refine aw_step [1, 24, 25, 26, 27] [1] (by simp <;> rfl) ?_
    refine aw_seq ?_
    refine aw_cond rfl (fun h4 => aw_skip ?_) (fun h4 => ?_)   -- if t27
    · have hlt : k < it.txts.length := by simp at h4; omega
      have hltq : k < xv.length := by omega
      have ga := qt k hlt
      have hw1 := wrap_succ (k := k) (by omega)
      have c1 := c137t k hlt
      rw [hpf2] at c1
      have hst1 : pf (it.txts.getD k []) = true → (it.txts.take (k + 1)).all pf = true := fun h => by rw [List.take_succ_eq_append_getElem hlt, List.all_append, hI2]; rw [getD_lt hlt] at h; simp [h]
      have hno : pf (it.txts.getD k []) = false → it.txts.all pf = false := fun h => by rw [getD_lt hlt] at h; rw [List.all_eq_false]; exact ⟨_, List.getElem_mem hlt, by rw [h]; simp⟩
      generalize it.txts.getD k [] = s at *
      refine aw_seq ?_
      refine aw_block ?_
      refine aw_step [1, 6, 24, 25, 26] [1] (by simp [ga, hltq] <;> rfl) ?_
      refine aw_seq (aw_region ?_)
      refine awl_go 1 (by simp <;> rfl) ?_
      refine awl_call1 c1 Tryz.func68 rfl (by kernel_rfl) rfl rfl rfl (by simp <;> rfl) (by simp) (by simp <;> rfl) ?_
      refine awl_end [1, 24, 25, 26, 32] [1] (by simp <;> rfl) ?_
      refine aw_cond rfl (fun h5 => ?_) (fun h5 => aw_skip ?_)   -- if t32
      · refine aw_step [2] [] (by simp <;> rfl) ?_
        exact aw_ret (ends_ret (by simp [Tryz.results39] <;> rfl) (by rw [if_pos (hno (by simpa using h5))]))
      refine aw_one [1, 24, 25, 26] [1] (by simp [hw1] <;> rfl) ?_
      exact ⟨hlt, hst1 (by simpa using h5), _, AS.le_refl _⟩
    · refine aw_exit ?_
      have hke : k = it.txts.length := by simp at h4; omega
      rw [hke, List.take_length] at hI2
      rw [if_neg (by rw [hI2]; simp)]
      refine aw_seq (aw_region ?_)
      refine awl_go 2 (by simp <;> rfl) ?_
      refine awl_callQ hG c90 Tryz.func70 rfl (by kernel_rfl) (by simp) rfl rfl rfl (by simp <;> rfl) (by simp) (by simp <;> rfl) ?_
      refine awl_end [2] [] (by simp <;> rfl) ?_
      exact aw_ret (ends_ret (by simp [Tryz.results39] <;> rfl) (rfl))
end Go.Proofs.YtnklkkagpkcmfaaGreatDoor

set_option maxRecDepth 4000
namespace Go.Proofs.YtnklkkagpkcmfaaGreatDoor
open Go.Eng Go.Eng.Limb
theorem valuesI_ac (l : List Int) : AC Tryz.prog 72 [.ro 1 (ints l)] (fun r => r = .fc 104 [] [.rp (.ro 1 (ints l))]) := by
  have pl := ints_pure l
  generalize ints l = lv at *
  refine ac_intro Tryz.func72 rfl (by show (1 : Nat) ≤ 4; omega) (fun w0 N0 => ?_)
  refine aw_step [1] [1] (by simp [Tryz.ntmps72] <;> rfl) ?_
  refine aw_freeze 1 [1] [] (by simp [pl] <;> rfl) ?_
  refine aw_step [2] [] (by simp <;> rfl) ?_
  exact aw_ret (ends_ret (by simp [Tryz.results72, pl] <;> rfl) (rfl))
def SortedC : Prop := ∀ l : List Int, l.length ≤ 2000000 → AC Tryz.prog 71 [.fc 104 [] [.rp (.ro 1 (ints l))]] (fun r => r = .ro 1 (ints (sortI l)))
def leS (a b : List UInt8) : Bool := Op.bytesLess a b || decide (a = b)
def badT (l : List (List UInt8)) (k : Nat) : Bool := !nrmB (l.getD k []) || (decide (0 < k) && leS (l.getD k []) (l.getD (k - 1) []))
def keyB (it : It) : Bool :=
  if it.kind = 1 then decide (1 ≤ (it.opts.length : Int) - 1) && decide ((it.ch.length : Int) = 1) && inB3 (it.ch.getD 0 0) 0 ((it.opts.length : Int) - 1)
  else if it.kind = 2 then decide (1 ≤ (it.opts.length : Int) - 1) && decide ((1 : Int) ≤ it.ch.length) && risB it.ch 0 ((it.opts.length : Int) - 1)
  else if it.kind = 3 then decide (1 ≤ (it.opts.length : Int) - 1) && decide ((it.ch.length : Int) = it.opts.length) && risB (sortI it.ch) 0 ((it.opts.length : Int) - 1)
  else if it.kind = 4 then inB3 it.val (-9999999) 9999999 && inB3 it.tol 0 9999999
  else if it.kind = 5 then (if (List.range it.txts.length).any (badT it.txts) = true then false else decide ((1 : Int) ≤ it.txts.length))
  else decide (1 ≤ it.rub)
set_option maxHeartbeats 16000000 in
theorem keyB_acq (hS : SortedC) (it : It) (hi : it.small) : ACQ gv Tryz.prog 41 [it.v] (fun r => r = .bool (keyB it)) := by
  have ho := hi.opts.1
  have ht := hi.txts.1
  have hc := hi.ch
  have c93 := within3_ac
  have c97 := ris_ac it.ch 0 ((it.opts.length : Int) - 1) (by omega)
  have c97s := ris_ac (sortI it.ch) 0 ((it.opts.length : Int) - 1) (by rw [sortI_len]; omega)
  have c140 := valuesI_ac it.ch
  have c139 := hS it.ch hc
  have c141 := fun (k : Nat) (h : k < it.txts.length) => nrm_acq (it.txts.getD k []) (Nat.le_trans (all_gD hi.txts.2 h []) (by decide))
  have qt := fun (k : Nat) (h : k < it.txts.length) => strsV_gD h
  have qc := fun (k : Nat) (h : k < it.ch.length) => ints_gD h
  have psr := ints_pure (sortI it.ch)
  have hbe : ∀ k, badT it.txts k = (!nrmB (it.txts.getD k []) || (decide (0 < k) && leS (it.txts.getD k []) (it.txts.getD (k - 1) []))) := fun k => rfl
  have hwl : IntKind.i64.wrap ((it.opts.length : Int) - 1) = (it.opts.length : Int) - 1 := wrap_in (by omega) (by omega)
  have hwl2 : IntKind.i64.wrap ((it.opts.length : Int) - 1 + 1) = (it.opts.length : Int) := by rw [wrap_in (by omega) (by omega)]; omega
  have hwl3 : IntKind.i64.wrap (it.opts.length : Int) = (it.opts.length : Int) := wrap_in (by omega) (by omega)
  unfold keyB
  generalize risB (sortI it.ch) 0 ((it.opts.length : Int) - 1) = rs at *
  generalize risB it.ch 0 ((it.opts.length : Int) - 1) = rc at *
  generalize ints (sortI it.ch) = sv at *
  generalize badT it.txts = be at *
  have eit : it.v = V.agg [.int .i64 it.id, .int .i64 it.ver, .int .i64 it.kind, .str it.stem, .ro 1 (strsV it.opts), .ro 1 (ints it.ch), .int .i64 it.val, .int .i64 it.tol, .ro 1 (strsV it.txts), .int .i64 it.pts, .str it.code, .int .i64 it.fam, .int .i64 it.set, .int .i64 it.wo, .int .i64 it.se, .ro 1 (ints it.ass), .int .i64 it.rub] := rfl
  rw [eit]
  have i1 := strsV_pure it.opts
  have i2 := ints_pure it.ch
  have i3 := strsV_pure it.txts
  have i4 := ints_pure it.ass
  have li1 := strsV_len it.opts
  have li2 := ints_len it.ch
  have li3 := strsV_len it.txts
  have li4 := ints_len it.ass
  generalize strsV it.opts = ov at *
  generalize ints it.ch = cv at *
  generalize strsV it.txts = xv at *
  generalize ints it.ass = av at *
  have ei1 : ov = [] ↔ it.opts = [] := by rw [← List.length_eq_zero_iff, li1, List.length_eq_zero_iff]
  have ei2 : cv = [] ↔ it.ch = [] := by rw [← List.length_eq_zero_iff, li2, List.length_eq_zero_iff]
  have ei3 : xv = [] ↔ it.txts = [] := by rw [← List.length_eq_zero_iff, li3, List.length_eq_zero_iff]
  refine acq_intro Tryz.func41 rfl (by show (1 : Nat) ≤ 111; omega) (fun w0 N0 hG => ?_)
  refine aw_step [1] [1] (by simp [Tryz.ntmps41] <;> rfl) ?_
  refine aw_step [1, 3] [1] (by simp [li1, hwl] <;> rfl) ?_
  refine aw_seq ?_
  refine aw_step [1, 3, 11] [1] (by simp <;> rfl) ?_
  refine aw_block ?_
  refine aw_step [1, 3, 11, 12] [1] (by simp <;> rfl) ?_
  refine aw_cond rfl (fun h1 => ?_) (fun h1 => ?_)   -- if t12
  · rw [if_pos (by simpa using h1)]
    by_cases he : it.ch = []
    · have hcv := ei2.2 he
      refine aw_seq (aw_region ?_)
      refine awl_go 9 (by simp [hcv] <;> rfl) ?_
      refine awl_skips 6 (by simp <;> rfl) ?_
      refine awl_end [2] [] (by simp <;> rfl) ?_
      exact aw_ret (ends_ret (by simp [Tryz.results41] <;> rfl) (by simp [he]))
    have hl0 : 0 < it.ch.length := List.length_pos_iff.2 he
    have g0 := qc 0 hl0
    have hl1 : 0 < cv.length := by omega
    have cw := c93 (it.ch.getD 0 0) 0 ((it.opts.length : Int) - 1)
    generalize it.ch.getD 0 0 = x0 at *
    refine aw_seq (aw_region ?_)
    refine awl_go 14 (by simp [g0, hl1] <;> rfl) ?_
    refine awl_gcall (c := decide (1 ≤ (it.opts.length : Int) - 1) && decide ((cv.length : Int) = 1)) (fun hg => cw) Tryz.func38 rfl (by kernel_rfl) (by simp <;> rfl) rfl rfl (by simp <;> rfl) (by simp) (by simp <;> rfl) ?_
    refine awl_end [2] [] (by simp <;> rfl) ?_
    exact aw_ret (ends_ret (by simp [Tryz.results41] <;> rfl) (by simp [li2]))
  · rw [if_neg (by simpa using h1)]
    refine aw_step [1, 3, 11, 30] [1] (by simp <;> rfl) ?_
    refine aw_cond rfl (fun h2 => ?_) (fun h2 => ?_)   -- if t30
    · rw [if_pos (by simpa using h2)]
      refine aw_seq (aw_region ?_)
      refine awl_go 12 (by simp <;> rfl) ?_
      refine awl_gcall (c := decide (1 ≤ (it.opts.length : Int) - 1) && decide (1 ≤ (cv.length : Int))) (fun hg => c97) Tryz.func42 rfl (by kernel_rfl) (by simp <;> rfl) rfl rfl (by simp <;> rfl) (by simp [i1, i2, i3, i4]) (by simp <;> rfl) ?_
      refine awl_end [2] [] (by simp <;> rfl) ?_
      exact aw_ret (ends_ret (by simp [Tryz.results41] <;> rfl) (by simp [li2]))
    · rw [if_neg (by simpa using h2)]
      refine aw_step [1, 3, 11, 46] [1] (by simp <;> rfl) ?_
      refine aw_cond rfl (fun h3 => ?_) (fun h3 => ?_)   -- if t46
      · rw [if_pos (by simpa using h3)]
        refine aw_seq (aw_region ?_)
        refine awl_go 13 (by simp [hwl2, hwl3] <;> rfl) ?_
        refine awl_gcall (c := decide (1 ≤ (it.opts.length : Int) - 1) && decide ((cv.length : Int) = it.opts.length)) (fun hg => c140) Tryz.func72 rfl (by kernel_rfl) (by simp <;> rfl) rfl rfl (by simp <;> rfl) (by simp [i1, i2, i3, i4, psr]) (by simp <;> rfl) ?_
        refine awl_gcall (c := decide (1 ≤ (it.opts.length : Int) - 1) && decide ((cv.length : Int) = it.opts.length)) (fun hg => c139) Tryz.func71 rfl (by kernel_rfl) (by simp <;> rfl) rfl rfl (by simp <;> rfl) (by simp [i1, i2, i3, i4, psr]) (by simp <;> rfl) ?_
        refine awl_go 1 (by simp <;> rfl) ?_
        refine awl_gcall (c := decide (1 ≤ (it.opts.length : Int) - 1) && decide ((cv.length : Int) = it.opts.length)) (fun hg => c97s) Tryz.func42 rfl (by kernel_rfl) (by simp <;> rfl) rfl rfl (by simp <;> rfl) (by simp [i1, i2, i3, i4, psr]) (by simp <;> rfl) ?_
        refine awl_end [2] [] (by simp <;> rfl) ?_
        exact aw_ret (ends_ret (by simp [Tryz.results41] <;> rfl) (by simp [li2]))
      · rw [if_neg (by simpa using h3)]
        refine aw_step [1, 11, 66] [1] (by simp <;> rfl) ?_
        refine aw_cond rfl (fun h4 => ?_) (fun h4 => ?_)   -- if t66
        · rw [if_pos (by simpa using h4)]
          refine aw_seq (aw_region ?_)
          refine awl_go 2 (by simp <;> rfl) ?_
          refine awl_call1 (c93 it.val (-9999999) 9999999) Tryz.func38 rfl (by kernel_rfl) rfl rfl rfl (by simp <;> rfl) (by simp) (by simp <;> rfl) ?_
          refine awl_go 3 (by simp <;> rfl) ?_
          refine awl_gcall (c := inB3 it.val (-9999999) 9999999) (fun hg => c93 it.tol 0 9999999) Tryz.func38 rfl (by kernel_rfl) (by simp <;> rfl) rfl rfl (by simp <;> rfl) (by simp) (by simp <;> rfl) ?_
          refine awl_end [2] [] (by simp <;> rfl) ?_
          exact aw_ret (ends_ret (by simp [Tryz.results41] <;> rfl) (by simp))
        · rw [if_neg (by simpa using h4)]
          refine aw_step [1, 76] [1] (by simp <;> rfl) ?_
          refine aw_cond rfl (fun h5 => ?_) (fun h5 => aw_skip ?_)   -- if t76
          · rw [if_pos (by simpa using h5)]
            refine aw_seq ?_
            refine aw_step [1, 79, 80, 81] [1] (by simp <;> rfl) ?_
            refine aw_block ?_
            refine aw_count (fun k nx => ⟨[(1, V.bp 1 0 17 0 0), (79, V.ro 1 xv), (80, V.int .i64 xv.length), (81, V.int .i64 k)], [(1, ⟨0, 17, 39, [V.agg [.int .i64 it.id, .int .i64 it.ver, .int .i64 it.kind, .str it.stem, .ro 1 ov, .ro 1 cv, .int .i64 it.val, .int .i64 it.tol, .ro 1 xv, .int .i64 it.pts, .str it.code, .int .i64 it.fam, .int .i64 it.set, .int .i64 it.wo, .int .i64 it.se, .ro 1 av, .int .i64 it.rub]]⟩)], nx, 111⟩) (fun k => ((List.range it.txts.length).take k).any be = false) it.txts.length _ (by simp) (AS.le_refl _) ?_
            intro k nx hk hI
            refine aw_step [1, 79, 80, 81, 82] [1] (by simp <;> rfl) ?_
            refine aw_seq ?_
            refine aw_cond rfl (fun h6 => aw_skip ?_) (fun h6 => ?_)   -- if t82
            · have hlt : k < it.txts.length := by simp at h6; omega
              have hltq : k < xv.length := by omega
              have ga := qt k hlt
              have hb := hbe k
              have hw1 := wrap_succ (k := k) (by omega)
              have hst := fun h => range_take_all it.txts.length k be hlt hI h
              have hhi := fun h => range_hit (f := be) hlt h
              have hpv : ∀ j, k = j + 1 → be k = (!nrmB (it.txts.getD k []) || leS (it.txts.getD k []) (it.txts.getD j [])) := fun j hj => by rw [hb, hj]; simp
              have c141x := c141 k hlt
              generalize it.txts.getD k [] = x at *
              refine aw_seq ?_
              refine aw_block ?_
              refine aw_step [1, 4, 5, 79, 80, 81] [1] (by simp [ga, hltq] <;> rfl) ?_
              cases hfd : nrmB x
              · rw [hfd] at c141x
                refine aw_seq (aw_region ?_)
                refine awl_go 1 (by simp <;> rfl) ?_
                refine awl_callQ hG c141x Tryz.func73 rfl (by kernel_rfl) (by simp) rfl rfl rfl (by simp <;> rfl) (by simp) (by simp <;> rfl) ?_
                refine awl_go 2 (by simp <;> rfl) ?_
                refine awl_skips 12 (by simp <;> rfl) ?_
                refine awl_end [1, 79, 80, 81, 102] [1] (by simp <;> rfl) ?_
                refine aw_cond rfl (fun h7 => ?_) (fun h7 => by simp at h7)
                refine aw_step [2] [] (by simp <;> rfl) ?_
                exact aw_ret (ends_ret (by simp [Tryz.results41] <;> rfl) (by rw [if_pos (hhi (by rw [hb, hfd]; rfl))]))
              rw [hfd] at c141x
              rcases k with _ | j
              · refine aw_seq (aw_region ?_)
                refine awl_go 1 (by simp <;> rfl) ?_
                refine awl_callQ hG c141x Tryz.func73 rfl (by kernel_rfl) (by simp) rfl rfl rfl (by simp <;> rfl) (by simp) (by simp <;> rfl) ?_
                refine awl_go 5 (by simp <;> rfl) ?_
                refine awl_skips 8 (by simp <;> rfl) ?_
                refine awl_end [1, 79, 80, 81, 102] [1] (by simp <;> rfl) ?_
                refine aw_cond rfl (fun h7 => by simp at h7) (fun h7 => aw_skip ?_)
                refine aw_one [1, 79, 80, 81] [1] (by simp [hw1] <;> rfl) ?_
                exact ⟨hlt, hst (by rw [hb, hfd]; simp), _, AS.le_refl _⟩
              · have gp := qt j (by omega)
                have hlj : j < xv.length := by omega
                have hwj : IntKind.i64.wrap (((j + 1 : Nat) : Int) - 1) = (j : Int) := by rw [wrap_in (by omega) (by omega)]; omega
                have hwj2 : IntKind.i64.wrap (j : Int) = (j : Int) := wrap_in (by omega) (by omega)
                have hw2 : IntKind.i64.wrap ((j : Int) + 1 + 1) = ((j + 1 + 1 : Nat) : Int) := by rw [wrap_in (by omega) (by omega)]; omega
                have hb2 := hpv j rfl
                generalize it.txts.getD j [] = y at *
                refine aw_seq (aw_region ?_)
                refine awl_go 1 (by simp <;> rfl) ?_
                refine awl_callQ hG c141x Tryz.func73 rfl (by kernel_rfl) (by simp) rfl rfl rfl (by simp <;> rfl) (by simp) (by simp <;> rfl) ?_
                refine awl_end [1, 79, 80, 81, 102] [1] (by simp [gp, hlj, hwj, hwj2, -Int.natCast_add] <;> rfl) ?_
                refine aw_cond rfl (fun h7 => ?_) (fun h7 => aw_skip ?_)
                · refine aw_step [2] [] (by simp <;> rfl) ?_
                  exact aw_ret (ends_ret (by simp [Tryz.results41] <;> rfl) (by rw [if_pos (hhi (by rw [hb2, hfd]; unfold leS; simpa using h7))]))
                refine aw_one [1, 79, 80, 81] [1] (by simp [hw2, -Int.natCast_add] <;> rfl) ?_
                exact ⟨hlt, hst (by rw [hb2, hfd]; unfold leS; simpa using h7), _, AS.le_refl _⟩
            · refine aw_exit ?_
              have hke : k = it.txts.length := by simp at h6; omega
              rw [hke, List.take_of_length_le (by simp)] at hI
              rw [if_neg (by rw [hI]; simp)]
              refine aw_step [2] [] (by simp <;> rfl) ?_
              exact aw_ret (ends_ret (by simp [Tryz.results41] <;> rfl) (by simp [li3]))
          rw [if_neg (by simpa using h5)]
          refine aw_step [2] [] (by simp <;> rfl) ?_
          exact aw_ret (ends_ret (by simp [Tryz.results41] <;> rfl) (by simp))
end Go.Proofs.YtnklkkagpkcmfaaGreatDoor

set_option maxRecDepth 4000
namespace Go.Proofs.YtnklkkagpkcmfaaGreatDoor
open Go.Eng Go.Eng.Limb
def itemE (it : It) : Int :=
  if numsB it = false then 3 else if inB3 it.kind 1 6 = false then 1 else if strB it = false then 2
  else if (10 : Int) < it.opts.length ∨ (10 : Int) < it.txts.length ∨ (8 : Int) < it.ass.length then 5
  else if onlyB it = false ∨ keyB it = false then 19 else if risB it.ass 1 9999999 = false then 23 else 0
set_option maxHeartbeats 8000000 in
theorem item_acq (hS : SortedC) (it : It) (hi : it.small) : ACQ gv Tryz.prog 21 [it.v] (fun r => r = .int .i64 (itemE it)) := by
  have ha := hi.ass
  have c92 := nums_ac it
  have c93 := within3_ac it.kind 1 6
  have c94 := strB_acq it hi
  have c95 := only_ac it
  have c96 := keyB_acq hS it hi
  have c97 := ris_ac it.ass 1 9999999 (by omega)
  unfold itemE
  generalize numsB it = b1 at *
  generalize inB3 it.kind 1 6 = b2 at *
  generalize strB it = b3 at *
  generalize onlyB it = b4 at *
  generalize keyB it = b5 at *
  generalize risB it.ass 1 9999999 = b6 at *
  have eit : it.v = V.agg [.int .i64 it.id, .int .i64 it.ver, .int .i64 it.kind, .str it.stem, .ro 1 (strsV it.opts), .ro 1 (ints it.ch), .int .i64 it.val, .int .i64 it.tol, .ro 1 (strsV it.txts), .int .i64 it.pts, .str it.code, .int .i64 it.fam, .int .i64 it.set, .int .i64 it.wo, .int .i64 it.se, .ro 1 (ints it.ass), .int .i64 it.rub] := rfl
  rw [eit] at c92 c94 c95 c96 ⊢
  have i1 := strsV_pure it.opts
  have i2 := ints_pure it.ch
  have i3 := strsV_pure it.txts
  have i4 := ints_pure it.ass
  have li1 := strsV_len it.opts
  have li2 := ints_len it.ch
  have li3 := strsV_len it.txts
  have li4 := ints_len it.ass
  generalize strsV it.opts = ov at *
  generalize ints it.ch = cv at *
  generalize strsV it.txts = xv at *
  generalize ints it.ass = av at *
  have ei1 : ov = [] ↔ it.opts = [] := by rw [← List.length_eq_zero_iff, li1, List.length_eq_zero_iff]
  have ei2 : cv = [] ↔ it.ch = [] := by rw [← List.length_eq_zero_iff, li2, List.length_eq_zero_iff]
  have ei3 : xv = [] ↔ it.txts = [] := by rw [← List.length_eq_zero_iff, li3, List.length_eq_zero_iff]
  refine acq_intro Tryz.func21 rfl (by show (1 : Nat) ≤ 47; omega) (fun w0 N0 hG => ?_)
  refine aw_step [1] [1] (by simp [Tryz.ntmps21] <;> rfl) ?_
  refine aw_seq ?_
  refine aw_block ?_
  refine aw_seq (aw_region ?_)
  refine awl_go 1 (by simp <;> rfl) ?_
  refine awl_call1 c92 Tryz.func37 rfl (by kernel_rfl) rfl rfl rfl (by simp <;> rfl) (by simp [i1, i2, i3, i4]) (by simp <;> rfl) ?_
  refine awl_end [1, 3] [1] (by simp <;> rfl) ?_
  refine aw_cond rfl (fun h1 => ?_) (fun h1 => ?_)   -- if t3
  · refine aw_step [2] [] (by simp <;> rfl) ?_
    exact aw_ret (ends_ret (by simp [Tryz.results21] <;> rfl) (by rw [if_pos (by simpa using h1)]))
  · rw [if_neg (by simpa using h1)]
    refine aw_seq (aw_region ?_)
    refine awl_go 2 (by simp <;> rfl) ?_
    refine awl_call1 c93 Tryz.func38 rfl (by kernel_rfl) rfl rfl rfl (by simp <;> rfl) (by simp [i1, i2, i3, i4]) (by simp <;> rfl) ?_
    refine awl_end [1, 7] [1] (by simp <;> rfl) ?_
    refine aw_cond rfl (fun h2 => ?_) (fun h2 => ?_)   -- if t7
    · refine aw_step [2] [] (by simp <;> rfl) ?_
      exact aw_ret (ends_ret (by simp [Tryz.results21] <;> rfl) (by rw [if_pos (by simpa using h2)]))
    · rw [if_neg (by simpa using h2)]
      refine aw_seq (aw_region ?_)
      refine awl_go 1 (by simp <;> rfl) ?_
      refine awl_callQ hG c94 Tryz.func39 rfl (by kernel_rfl) (by simp) rfl rfl rfl (by simp <;> rfl) (by simp [i1, i2, i3, i4]) (by simp <;> rfl) ?_
      refine awl_end [1, 12] [1] (by simp <;> rfl) ?_
      refine aw_cond rfl (fun h3 => ?_) (fun h3 => ?_)   -- if t12
      · refine aw_step [2] [] (by simp <;> rfl) ?_
        exact aw_ret (ends_ret (by simp [Tryz.results21] <;> rfl) (by rw [if_pos (by simpa using h3)]))
      · rw [if_neg (by simpa using h3)]
        refine aw_step [1, 16] [1] (by simp [li1, li3, li4] <;> rfl) ?_
        refine aw_cond rfl (fun h4 => ?_) (fun h4 => ?_)   -- if t16
        · refine aw_step [2] [] (by simp <;> rfl) ?_
          exact aw_ret (ends_ret (by simp [Tryz.results21] <;> rfl) (by rw [if_pos (by simpa [or_assoc] using h4)]))
        · rw [if_neg (by simpa [or_assoc, and_assoc] using h4)]
          refine aw_seq (aw_region ?_)
          refine awl_go 1 (by simp <;> rfl) ?_
          refine awl_call1 c95 Tryz.func40 rfl (by kernel_rfl) rfl rfl rfl (by simp <;> rfl) (by simp [i1, i2, i3, i4]) (by simp <;> rfl) ?_
          refine awl_go 3 (by simp <;> rfl) ?_
          refine awl_gcallQ (c := b4) hG (fun hg => c96) Tryz.func41 rfl (by kernel_rfl) (by simp <;> rfl) rfl rfl (by simp <;> rfl) (by simp [i1, i2, i3, i4]) (by simp <;> rfl) ?_
          refine awl_end [1, 33] [1] (by simp <;> rfl) ?_
          refine aw_cond rfl (fun h5 => ?_) (fun h5 => ?_)   -- if t33
          · refine aw_step [2] [] (by simp <;> rfl) ?_
            exact aw_ret (ends_ret (by simp [Tryz.results21] <;> rfl) (by rw [if_pos (by simpa using h5)]))
          · rw [if_neg (by simpa using h5)]
            refine aw_seq (aw_region ?_)
            refine awl_go 2 (by simp <;> rfl) ?_
            refine awl_call1 c97 Tryz.func42 rfl (by kernel_rfl) rfl rfl rfl (by simp <;> rfl) (by simp [i1, i2, i3, i4]) (by simp <;> rfl) ?_
            refine awl_end [42] [] (by simp <;> rfl) ?_
            refine aw_cond rfl (fun h6 => ?_) (fun h6 => aw_skip ?_)   -- if t42
            · refine aw_step [2] [] (by simp <;> rfl) ?_
              exact aw_ret (ends_ret (by simp [Tryz.results21] <;> rfl) (by rw [if_pos (by simpa using h6)]))
            rw [if_neg (by simpa using h6)]
            refine aw_step [2] [] (by simp <;> rfl) ?_
            exact aw_ret (ends_ret (by simp [Tryz.results21] <;> rfl) (rfl))
end Go.Proofs.YtnklkkagpkcmfaaGreatDoor

set_option maxRecDepth 4000
namespace Go.Proofs.YtnklkkagpkcmfaaGreatDoor
open Go.Eng Go.Eng.Limb
def badK (l : List Int) (k : Nat) : Bool := decide (l.getD (k + 1) 0 ≤ l.getD k 0)
def risK (l : List Int) : Bool := !(List.range (l.length - 1)).any (badK l)
set_option maxHeartbeats 8000000 in
theorem risK_ac (l : List Int) (hl : l.length ≤ 4000000000) : AC Tryz.prog 78 [.ro 1 (ints l)] (fun r => r = .bool (risK l)) := by
  have qe := fun (k : Nat) (h : k < l.length) => ints_gD h
  have le := ints_len l
  unfold risK
  have hbe : ∀ k, badK l k = decide (l.getD (k + 1) 0 ≤ l.getD k 0) := fun k => rfl
  generalize ints l = lv at *
  generalize badK l = be at *
  refine ac_intro Tryz.func78 rfl (by show (1 : Nat) ≤ 20; omega) (fun w0 N0 => ?_)
  refine aw_step [0] [] (by simp [Tryz.ntmps78] <;> rfl) ?_
  refine aw_seq ?_
  refine aw_step [0, 3] [] (by simp <;> rfl) ?_
  refine aw_block ?_
  refine aw_count (fun k nx => ⟨[(0, V.ro 1 lv), (3, V.int .i64 ((k + 1 : Nat) : Int))], [], nx, 20⟩) (fun k => ((List.range (l.length - 1)).take k).any be = false) (l.length - 1) _ (by simp) (AS.le_refl _) ?_
  intro k nx hk hI
  refine aw_seq ?_
  refine aw_step [0, 3, 7] [] (by simp <;> rfl) ?_
  refine aw_cond rfl (fun h1 => aw_skip ?_) (fun h1 => ?_)   -- if t7
  · have hlt : k < l.length - 1 := by simp at h1; omega
    have hl1 : k < lv.length := by omega
    have hl2 : k + 1 < lv.length := by omega
    have hl3 : ((k : Int) + 1) < lv.length := by omega
    have hl0 : (0 : Int) ≤ (k : Int) + 1 := by omega
    have ga := qe k (by omega)
    have gb := qe (k + 1) (by omega)
    have hb := hbe k
    have hst := fun h => range_take_all (l.length - 1) k be hlt hI h
    have hhi := fun h => range_hit (f := be) hlt h
    generalize l.getD k 0 = x at *
    generalize l.getD (k + 1) 0 = y at *
    have hwk : IntKind.i64.wrap (((k + 1 : Nat) : Int) - 1) = (k : Int) := by rw [wrap_in (by omega) (by omega)]; omega
    have hwk2 : IntKind.i64.wrap (k : Int) = (k : Int) := wrap_in (by omega) (by omega)
    have hw2 : IntKind.i64.wrap ((k : Int) + 1 + 1) = ((k + 1 + 1 : Nat) : Int) := by rw [wrap_in (by omega) (by omega)]; omega
    refine aw_seq ?_
    refine aw_block ?_
    refine aw_dstep [(0, []), (1, []), (2, []), (4, []), (5, []), (6, []), (7, []), (3, []), (8, []), (9, [])] [0, 3, 19] [] hmixA (by kernel_rfl) (by simp [ga, gb, hl0, hl1, hl2, hl3, hwk, hwk2, -Int.natCast_add] <;> rfl) ?_
    refine aw_cond rfl (fun h2 => ?_) (fun h2 => aw_skip ?_)   -- if t19
    · refine aw_step [2] [] (by simp <;> rfl) ?_
      exact aw_ret (ends_ret (by simp [Tryz.results78] <;> rfl) (by rw [hhi (by rw [hb]; simpa using h2)]; rfl))
    refine aw_one [0, 3] [] (by simp [hw2, -Int.natCast_add] <;> rfl) ?_
    exact ⟨hlt, hst (by rw [hb]; simpa using h2), _, AS.le_refl _⟩
  · refine aw_exit ?_
    have hke : k = l.length - 1 := by simp at h1; omega
    rw [hke, List.take_of_length_le (by simp)] at hI
    refine aw_step [2] [] (by simp <;> rfl) ?_
    exact aw_ret (ends_ret (by simp [Tryz.results78] <;> rfl) (by rw [hI]; rfl))
def chcB (k : Int) : Bool := decide (k = 1) || decide (k = 2) || decide (k = 3)
theorem chc_ac (k : Int) : AC Tryz.prog 49 [.int .i64 k] (fun r => r = .bool (chcB k)) := by
  unfold chcB
  refine ac_intro Tryz.func49 rfl (by show (1 : Nat) ≤ 13; omega) (fun w0 N0 => ?_)
  refine aw_step [0] [] (by simp [Tryz.ntmps49] <;> rfl) ?_
  refine aw_step [2] [] (by simp <;> rfl) ?_
  exact aw_ret (ends_ret (by simp [Tryz.results49] <;> rfl) (by simp [Bool.or_assoc]))
def txtB (k : Int) : Bool := decide (k = 5) || decide (k = 6)
theorem txt_ac (k : Int) : AC Tryz.prog 50 [.int .i64 k] (fun r => r = .bool (txtB k)) := by
  unfold txtB
  refine ac_intro Tryz.func50 rfl (by show (1 : Nat) ≤ 9; omega) (fun w0 N0 => ?_)
  refine aw_step [0] [] (by simp [Tryz.ntmps50] <;> rfl) ?_
  refine aw_step [2] [] (by simp <;> rfl) ?_
  exact aw_ret (ends_ret (by simp [Tryz.results50] <;> rfl) (by simp [Bool.or_assoc]))
def badC (n : Int) (c : Int) : Bool := decide (c < 0) || decide (n ≤ c)
def fitC (it : It) (ch : List Int) : Bool :=
  if it.kind = 1 then decide ((ch.length : Int) = 1) else if it.kind = 2 then risK ch
  else if it.kind = 3 then decide ((ch.length : Int) = it.opts.length) && risK (sortI ch) else false
def cchE (it : It) (ch : List Int) : Int := if ch.any (badC it.opts.length) = true then 3 else if fitC it ch = false then 23 else 0
theorem clone110b_aco (es : List V) (hp : es.all V.pureE = true) (hfl : es.all flatE = true) (hsm : es.length ≤ 2000000) : ACO Tryz.prog 23 [.ro 1 es] 1 3 (fun F es' => (F = fun d q => .sl d q 1 es.length) ∧ es' = es) := by
  have hro : es.length ≤ maxLen ∧ es.length * 8 ≤ 140737488355328 := ⟨Nat.le_trans hsm (by decide), by omega⟩
  refine aco_intro Tryz.func23 rfl (by show (1 : Nat) ≤ 8; omega) (fun w0 N0 => ?_)
  refine aw_step [0] [] (by simp [Tryz.ntmps23] <;> rfl) ?_
  refine aw_seq ?_
  refine aw_seq (aw_region ?_)
  refine awl_go 1 (by simp <;> rfl) ?_
  refine awl_isnil rfl rfl (by simp <;> rfl) rfl (by kernel_rfl) (fun b hb => ⟨_, by simp <;> rfl, ?_⟩)
  refine awl_end [0, 4] [] (by simp <;> rfl) ?_
  refine aw_cond rfl (fun h1 => ?_) (fun h1 => aw_skip ?_)   -- if t4
  · refine aw_step [2] [] (by simp <;> rfl) ?_
    have h0 := List.length_eq_zero_iff.1 (hb h1)
    subst h0
    refine aw_adoptS 2 2 1 3 [2] [2] (by simp <;> rfl) (by simp <;> rfl) ?_
    exact aw_ret (endso_row 2 (by simp <;> rfl) rfl rfl (by simp) (by simp [Tryz.results23] <;> rfl) ⟨rfl, rfl⟩)
  refine aw_step [2] [5] (by simp [hro] <;> rfl) ?_
  exact aw_ret (endso_row 5 (by simp <;> rfl) rfl rfl (by simpa using hfl) (by simp [Tryz.results23] <;> rfl) ⟨rfl, rfl⟩)
theorem clone110b_ac (es : List V) (hp : es.all V.pureE = true) (hfl : es.all flatE = true) (hsm : es.length ≤ 2000000) : AC Tryz.prog 23 [.ro 1 es] (fun r => r = .ro 1 es) := by
  refine (clone110b_aco es hp hfl hsm).ac ?_
  rintro F es' ⟨rfl, rfl⟩
  exact ⟨_, by simp [hp] <;> rfl, rfl⟩
set_option maxHeartbeats 16000000 in
theorem cch_ac (it : It) (ch : List Int) (hc : ch.length ≤ 2000000) (ho : it.opts.length ≤ 2000000) : AC Tryz.prog 51 [it.v, .ro 1 (ints ch)] (fun r => r = .int .i64 (cchE it ch)) := by
  have c120 := risK_ac ch (by omega)
  have c120s := risK_ac (sortI ch) (by rw [sortI_len]; omega)
  have c110 := clone110b_aco (ints ch) (ints_pure ch) (flatI ch) (by rw [ints_len]; omega)
  have hcs := sort_aci ch (by omega)
  have qc := fun (k : Nat) (h : k < ch.length) => ints_gD h
  have lch := ints_len ch
  have lsr := ints_len (sortI ch)
  have psr := ints_pure (sortI ch)
  have fch := flatI ch
  have fsr := flatI (sortI ch)
  have pch := ints_pure ch
  have sln := sortI_len ch
  unfold cchE fitC
  generalize risK (sortI ch) = rs at *
  generalize risK ch = rc at *
  generalize ints (sortI ch) = sv at *
  generalize ints ch = hv at *
  generalize hbc : badC it.opts.length = bc at *
  have eit : it.v = V.agg [.int .i64 it.id, .int .i64 it.ver, .int .i64 it.kind, .str it.stem, .ro 1 (strsV it.opts), .ro 1 (ints it.ch), .int .i64 it.val, .int .i64 it.tol, .ro 1 (strsV it.txts), .int .i64 it.pts, .str it.code, .int .i64 it.fam, .int .i64 it.set, .int .i64 it.wo, .int .i64 it.se, .ro 1 (ints it.ass), .int .i64 it.rub] := rfl
  rw [eit]
  have i1 := strsV_pure it.opts
  have i2 := ints_pure it.ch
  have i3 := strsV_pure it.txts
  have i4 := ints_pure it.ass
  have li1 := strsV_len it.opts
  have li2 := ints_len it.ch
  have li3 := strsV_len it.txts
  have li4 := ints_len it.ass
  generalize strsV it.opts = ov at *
  generalize ints it.ch = cv at *
  generalize strsV it.txts = xv at *
  generalize ints it.ass = av at *
  have ei1 : ov = [] ↔ it.opts = [] := by rw [← List.length_eq_zero_iff, li1, List.length_eq_zero_iff]
  have ei2 : cv = [] ↔ it.ch = [] := by rw [← List.length_eq_zero_iff, li2, List.length_eq_zero_iff]
  have ei3 : xv = [] ↔ it.txts = [] := by rw [← List.length_eq_zero_iff, li3, List.length_eq_zero_iff]
  refine ac_intro Tryz.func51 rfl (by show (2 : Nat) ≤ 54; omega) (fun w0 N0 => ?_)
  refine aw_step [1, 2] [2] (by simp [Tryz.ntmps51] <;> rfl) ?_
  refine aw_step [1, 2, 5] [2] (by simp <;> rfl) ?_
  refine aw_seq ?_
  refine aw_step [1, 2, 5, 13, 14, 15] [2] (by simp <;> rfl) ?_
  refine aw_block ?_
  refine aw_count (fun k nx => ⟨[(1, V.ro 1 hv), (2, V.bp 2 0 17 0 0), (5, V.int .i64 it.opts.length), (13, V.ro 1 hv), (14, V.int .i64 hv.length), (15, V.int .i64 k)], [(2, ⟨0, 17, 39, [V.agg [.int .i64 it.id, .int .i64 it.ver, .int .i64 it.kind, .str it.stem, .ro 1 ov, .ro 1 cv, .int .i64 it.val, .int .i64 it.tol, .ro 1 xv, .int .i64 it.pts, .str it.code, .int .i64 it.fam, .int .i64 it.set, .int .i64 it.wo, .int .i64 it.se, .ro 1 av, .int .i64 it.rub]]⟩)], nx, 54⟩) (fun k => (ch.take k).any bc = false) ch.length _ (by simp) (by simp only [li1]; exact AS.le_refl _) ?_
  intro k nx hk hI
  refine aw_step [1, 2, 5, 13, 14, 15, 16] [2] (by simp <;> rfl) ?_
  refine aw_seq ?_
  refine aw_cond rfl (fun h1 => aw_skip ?_) (fun h1 => ?_)   -- if t16
  · have hlt : k < ch.length := by simp at h1; omega
    have hltq : k < hv.length := by omega
    have ga := qc k hlt
    have hw1 := wrap_succ (k := k) (by omega)
    have hst : bc (ch.getD k 0) = false → (ch.take (k + 1)).any bc = false := fun h => by rw [List.take_succ_eq_append_getElem hlt, List.any_append, hI]; rw [getD_lt hlt] at h; simp [h]
    have hhi : bc (ch.getD k 0) = true → ch.any bc = true := fun h => by rw [getD_lt hlt] at h; exact List.any_eq_true.2 ⟨_, List.getElem_mem hlt, h⟩
    generalize ch.getD k 0 = x at *
    have hbx : bc x = (decide (x < 0) || decide ((it.opts.length : Int) ≤ x)) := by rw [← hbc]; rfl
    refine aw_seq ?_
    refine aw_block ?_
    refine aw_step [1, 2, 5, 7, 13, 14, 15] [2] (by simp [ga, hltq] <;> rfl) ?_
    refine aw_step [1, 2, 5, 13, 14, 15, 25] [2] (by simp <;> rfl) ?_
    refine aw_cond rfl (fun h2 => ?_) (fun h2 => aw_skip ?_)   -- if t25
    · refine aw_step [4] [] (by simp <;> rfl) ?_
      exact aw_ret (ends_ret (by simp [Tryz.results51] <;> rfl) (by rw [if_pos (hhi (by rw [hbx]; simpa using h2))]))
    refine aw_one [1, 2, 5, 13, 14, 15] [2] (by simp [hw1] <;> rfl) ?_
    exact ⟨hlt, hst (by rw [hbx]; simpa using h2), _, AS.le_refl _⟩
  · refine aw_exit ?_
    have hke : k = ch.length := by simp at h1; omega
    rw [hke, List.take_length] at hI
    rw [if_neg (by rw [hI]; simp)]
    refine aw_step [1, 2, 5, 8] [2] (by simp <;> rfl) ?_
    refine aw_seq ?_
    refine aw_step [1, 5, 8, 28] [] (by simp <;> rfl) ?_
    refine aw_block ?_
    refine aw_step [1, 5, 8, 28, 29] [] (by simp <;> rfl) ?_
    refine aw_cond rfl (fun h3 => ?_) (fun h3 => ?_)   -- if t29
    · rw [if_pos (show it.kind = 1 by simpa using h3)]
      refine aw_one [8] [] (by simp <;> rfl) ?_
      refine aw_seq ?_
      refine aw_step [53] [] (by simp <;> rfl) ?_
      refine aw_cond rfl (fun h4 => ?_) (fun h4 => aw_skip ?_)   -- if t53
      · refine aw_step [4] [] (by simp <;> rfl) ?_
        exact aw_ret (ends_ret (by simp [Tryz.results51] <;> rfl) (by rw [if_pos (by simpa [lch] using h4)]))
      refine aw_step [4] [] (by simp <;> rfl) ?_
      exact aw_ret (ends_ret (by simp [Tryz.results51] <;> rfl) (by rw [if_neg (by simpa [lch] using h4)]))
    · rw [if_neg (show ¬ it.kind = 1 by simpa using h3)]
      refine aw_step [1, 5, 8, 28, 34] [] (by simp <;> rfl) ?_
      refine aw_cond rfl (fun h5 => ?_) (fun h5 => ?_)   -- if t34
      · rw [if_pos (show it.kind = 2 by simpa using h5)]
        refine aw_region ?_
        refine awl_go 1 (by simp <;> rfl) ?_
        refine awl_call1 c120 Tryz.func78 rfl (by kernel_rfl) rfl rfl rfl (by simp <;> rfl) (by simp [pch]) (by simp <;> rfl) ?_
        refine awl_end [8] [] (by simp <;> rfl) ?_
        refine aw_seq ?_
        refine aw_step [53] [] (by simp <;> rfl) ?_
        refine aw_cond rfl (fun h6 => ?_) (fun h6 => aw_skip ?_)   -- if t53
        · refine aw_step [4] [] (by simp <;> rfl) ?_
          exact aw_ret (ends_ret (by simp [Tryz.results51] <;> rfl) (by rw [if_pos (by simpa using h6)]))
        refine aw_step [4] [] (by simp <;> rfl) ?_
        exact aw_ret (ends_ret (by simp [Tryz.results51] <;> rfl) (by rw [if_neg (by simpa using h6)]))
      · rw [if_neg (show ¬ it.kind = 2 by simpa using h5)]
        refine aw_step [1, 5, 8, 38] [] (by simp <;> rfl) ?_
        refine aw_cond rfl (fun h7 => ?_) (fun h7 => aw_skip ?_)   -- if t38
        · rw [if_pos (show it.kind = 3 by simpa using h7)]
          refine aw_seq (aw_region ?_)
          refine awl_go 1 (by simp <;> rfl) ?_
          refine awl_callO1 110 c110 Tryz.func23 rfl (by kernel_rfl) rfl rfl rfl (by simp <;> rfl) (by simp [AS.views, AS.view, AS.viewL, AS.viewC, pch] <;> rfl) (by simp <;> rfl) ?_
          refine awl_end [1, 5, 9] [110] (by simp <;> rfl) ?_
          refine aw_seq (aw_region ?_)
          refine awl_go 1 (by simp <;> rfl) ?_
          refine awl_callI (d := 110) (v := _) hcs fch fsr Tryz.func79 rfl (by kernel_rfl) rfl rfl rfl (by simp [lch] <;> rfl) (by simp [lch] <;> rfl) (by simp [lch] <;> rfl) ?_
          refine awl_end [1, 5, 9] [110] (by simp <;> rfl) ?_
          refine aw_freeze 110 [1, 5, 9] [] (by simp [psr, lch, lsr, sln] <;> rfl) ?_
          refine aw_region ?_
          refine awl_go 6 (by simp <;> rfl) ?_
          refine awl_gcall (c := decide ((hv.length : Int) = it.opts.length)) (fun hg => c120s) Tryz.func78 rfl (by kernel_rfl) (by simp <;> rfl) rfl rfl (by simp <;> rfl) (by simp [psr]) (by simp <;> rfl) ?_
          refine awl_end [8] [] (by simp <;> rfl) ?_
          refine aw_seq ?_
          refine aw_step [53] [] (by simp <;> rfl) ?_
          refine aw_cond rfl (fun h8 => ?_) (fun h8 => aw_skip ?_)   -- if t53
          · refine aw_step [4] [] (by simp <;> rfl) ?_
            exact aw_ret (ends_ret (by simp [Tryz.results51] <;> rfl) (by rw [if_pos (by simp [lch] at h8 ⊢; exact fun e => h8.resolve_left (fun n => n e))]))
          refine aw_step [4] [] (by simp <;> rfl) ?_
          exact aw_ret (ends_ret (by simp [Tryz.results51] <;> rfl) (by rw [if_neg (by simpa [lch] using h8)]))
        rw [if_neg (show ¬ it.kind = 3 by simpa using h7)]
        refine aw_seq ?_
        refine aw_step [53] [] (by simp <;> rfl) ?_
        refine aw_cond rfl (fun h9 => ?_) (fun h9 => by simp at h9)   -- if t53
        · refine aw_step [4] [] (by simp <;> rfl) ?_
          exact aw_ret (ends_ret (by simp [Tryz.results51] <;> rfl) (by rw [if_pos rfl]))
end Go.Proofs.YtnklkkagpkcmfaaGreatDoor

set_option maxRecDepth 4000
namespace Go.Proofs.YtnklkkagpkcmfaaGreatDoor
open Go.Eng Go.Eng.Limb
structure An where
  item : Int
  ch : List Int
  val : Int
  txt : List UInt8
  om : Bool
def An.v (a : An) : V := V.agg [.int .i64 a.item, .ro 1 (ints a.ch), .int .i64 a.val, .str a.txt, .bool a.om]
def ansB (it : It) (a : An) : Bool :=
  ((decide (0 < a.ch.length) && (a.om || !chcB it.kind)) || (!decide (a.val = 0) && (a.om || !decide (it.kind = 4)))) || (!decide (a.txt = []) && (a.om || !txtB it.kind))
def valE (it : It) (a : An) : Int :=
  if itemE it ≠ 0 then itemE it else if a.item ≠ it.id then 6 else if ansB it a = true then 1 else if a.om = true then 0
  else if it.kind = 4 then (if a.val < -9999999 ∨ 9999999 < a.val then 3 else 0)
  else if it.kind = 5 then (if (200 : Int) < a.txt.length then 5 else 0)
  else if it.kind = 6 then (if (2000 : Int) < a.txt.length then 5 else 0) else cchE it a.ch
structure An.small (a : An) : Prop where
  ch : a.ch.length ≤ 2000000
  txt : a.txt.length ≤ 2000000
set_option maxHeartbeats 16000000 in
theorem keyValid_acq (hS : SortedC) (it : It) (a : An) (hi : it.small) (ha : a.small) : ACQ gv Tryz.prog 26 [it.v, a.v] (fun r => r = .int .i64 (valE it a)) := by
  have c61 := item_acq hS it hi
  have c79 := chc_ac it.kind
  have c80 := txt_ac it.kind
  have c81 := cch_ac it a.ch ha.ch hi.opts.1
  unfold valE ansB
  generalize itemE it = ie at *
  generalize chcB it.kind = b1 at *
  generalize txtB it.kind = b2 at *
  generalize cchE it a.ch = ce at *
  have eit : it.v = V.agg [.int .i64 it.id, .int .i64 it.ver, .int .i64 it.kind, .str it.stem, .ro 1 (strsV it.opts), .ro 1 (ints it.ch), .int .i64 it.val, .int .i64 it.tol, .ro 1 (strsV it.txts), .int .i64 it.pts, .str it.code, .int .i64 it.fam, .int .i64 it.set, .int .i64 it.wo, .int .i64 it.se, .ro 1 (ints it.ass), .int .i64 it.rub] := rfl
  have ean : a.v = V.agg [.int .i64 a.item, .ro 1 (ints a.ch), .int .i64 a.val, .str a.txt, .bool a.om] := rfl
  rw [eit] at c61 c81 ⊢
  rw [ean]
  have i1 := strsV_pure it.opts
  have i2 := ints_pure it.ch
  have i3 := strsV_pure it.txts
  have i4 := ints_pure it.ass
  have li1 := strsV_len it.opts
  have li2 := ints_len it.ch
  have li3 := strsV_len it.txts
  have li4 := ints_len it.ass
  generalize strsV it.opts = ov at *
  generalize ints it.ch = cv at *
  generalize strsV it.txts = xv at *
  generalize ints it.ass = av at *
  have ei1 : ov = [] ↔ it.opts = [] := by rw [← List.length_eq_zero_iff, li1, List.length_eq_zero_iff]
  have ei2 : cv = [] ↔ it.ch = [] := by rw [← List.length_eq_zero_iff, li2, List.length_eq_zero_iff]
  have ei3 : xv = [] ↔ it.txts = [] := by rw [← List.length_eq_zero_iff, li3, List.length_eq_zero_iff]
  have i5 := ints_pure a.ch
  have li5 := ints_len a.ch
  generalize ints a.ch = hv at *
  refine acq_intro Tryz.func26 rfl (by show (2 : Nat) ≤ 89; omega) (fun w0 N0 hG => ?_)
  refine aw_step [2, 3] [2, 3] (by simp [Tryz.ntmps26] <;> rfl) ?_
  refine aw_seq ?_
  refine aw_seq (aw_region ?_)
  refine awl_go 1 (by simp <;> rfl) ?_
  refine awl_callQ hG c61 Tryz.func21 rfl (by kernel_rfl) (by simp) rfl rfl rfl (by simp <;> rfl) (by simp [i1, i2, i3, i4, i5]) (by simp <;> rfl) ?_
  refine awl_end [2, 3, 5] [2, 3] (by simp <;> rfl) ?_
  refine aw_step [2, 3, 5, 9] [2, 3] (by simp <;> rfl) ?_
  refine aw_cond rfl (fun h1 => ?_) (fun h1 => aw_skip ?_)   -- if t9
  · refine aw_step [4] [] (by simp <;> rfl) ?_
    exact aw_ret (ends_ret (by simp [Tryz.results26] <;> rfl) (by rw [if_pos (by simpa using h1)]))
  rw [if_neg (by simpa using h1)]
  refine aw_seq ?_
  refine aw_step [2, 3, 15] [2, 3] (by simp <;> rfl) ?_
  refine aw_cond rfl (fun h2 => ?_) (fun h2 => aw_skip ?_)   -- if t15
  · refine aw_step [4] [] (by simp <;> rfl) ?_
    exact aw_ret (ends_ret (by simp [Tryz.results26] <;> rfl) (by rw [if_pos (by simpa using h2)]))
  rw [if_neg (by simpa using h2)]
  refine aw_seq ?_
  refine aw_seq (aw_region ?_)
  refine awl_go 10 (by simp <;> rfl) ?_
  refine awl_gcall (c := decide (0 < hv.length) && !a.om) (fun hg => c79) Tryz.func49 rfl (by kernel_rfl) (by simp <;> rfl) rfl rfl (by simp <;> rfl) (by simp) (by simp <;> rfl) ?_
  refine awl_go 27 (by simp <;> rfl) ?_
  refine awl_gcall (c := (!((decide (0 < hv.length) && (a.om || !b1)) || (!decide (a.val = 0) && (a.om || !decide (it.kind = 4)))) && !decide (a.txt = [])) && !a.om) (fun hg => c80) Tryz.func50 rfl (by kernel_rfl) (by simp <;> rfl) rfl rfl (by simp <;> rfl) (by simp) (by simp <;> rfl) ?_
  refine awl_end [2, 3, 58] [2, 3] (by simp <;> rfl) ?_
  refine aw_cond rfl (fun h3 => ?_) (fun h3 => aw_skip ?_)   -- if t58
  · refine aw_step [4] [] (by simp <;> rfl) ?_
    exact aw_ret (ends_ret (by simp [Tryz.results26] <;> rfl) (by rw [if_pos (by rw [← li5]; simpa using h3)]))
  rw [if_neg (by rw [← li5]; simpa using h3)]
  refine aw_seq ?_
  refine aw_step [2, 3, 60] [2, 3] (by simp <;> rfl) ?_
  refine aw_cond rfl (fun h4 => ?_) (fun h4 => aw_skip ?_)   -- if t60
  · refine aw_step [4] [] (by simp <;> rfl) ?_
    exact aw_ret (ends_ret (by simp [Tryz.results26] <;> rfl) (by rw [if_pos (by simpa using h4)]))
  rw [if_neg (by simpa using h4)]
  refine aw_seq ?_
  refine aw_step [2, 3, 62] [2, 3] (by simp <;> rfl) ?_
  refine aw_block ?_
  refine aw_step [2, 3, 62, 67] [2, 3] (by simp <;> rfl) ?_
  refine aw_cond rfl (fun h5 => ?_) (fun h5 => ?_)   -- if t67
  · rw [if_pos (show it.kind = 4 by simpa using h5)]
    refine aw_step [76] [] (by simp <;> rfl) ?_
    refine aw_cond rfl (fun h6 => ?_) (fun h6 => aw_skip ?_)   -- if t76
    · refine aw_step [4] [] (by simp <;> rfl) ?_
      exact aw_ret (ends_ret (by simp [Tryz.results26] <;> rfl) (by rw [if_pos (by simpa using h6)]))
    refine aw_step [4] [] (by simp <;> rfl) ?_
    exact aw_ret (ends_ret (by simp [Tryz.results26] <;> rfl) (by rw [if_neg (by simpa using h6)]))
  · rw [if_neg (show ¬ it.kind = 4 by simpa using h5)]
    refine aw_step [2, 3, 62, 77] [2, 3] (by simp <;> rfl) ?_
    refine aw_cond rfl (fun h7 => ?_) (fun h7 => ?_)   -- if t77
    · rw [if_pos (show it.kind = 5 by simpa using h7)]
      refine aw_step [82] [] (by simp <;> rfl) ?_
      refine aw_cond rfl (fun h8 => ?_) (fun h8 => aw_skip ?_)   -- if t82
      · refine aw_step [4] [] (by simp <;> rfl) ?_
        exact aw_ret (ends_ret (by simp [Tryz.results26] <;> rfl) (by rw [if_pos (by simpa using h8)]))
      refine aw_step [4] [] (by simp <;> rfl) ?_
      exact aw_ret (ends_ret (by simp [Tryz.results26] <;> rfl) (by rw [if_neg (by simpa using h8)]))
    · rw [if_neg (show ¬ it.kind = 5 by simpa using h7)]
      refine aw_step [2, 3, 83] [2, 3] (by simp <;> rfl) ?_
      refine aw_cond rfl (fun h9 => ?_) (fun h9 => ?_)   -- if t83
      · rw [if_pos (show it.kind = 6 by simpa using h9)]
        refine aw_step [88] [] (by simp <;> rfl) ?_
        refine aw_cond rfl (fun h10 => ?_) (fun h10 => aw_skip ?_)   -- if t88
        · refine aw_step [4] [] (by simp <;> rfl) ?_
          exact aw_ret (ends_ret (by simp [Tryz.results26] <;> rfl) (by rw [if_pos (by simpa using h10)]))
        refine aw_step [4] [] (by simp <;> rfl) ?_
        exact aw_ret (ends_ret (by simp [Tryz.results26] <;> rfl) (by rw [if_neg (by simpa using h10)]))
      · rw [if_neg (show ¬ it.kind = 6 by simpa using h9)]
        refine aw_seq (aw_region ?_)
        refine awl_go 3 (by simp <;> rfl) ?_
        refine awl_call1 c81 Tryz.func51 rfl (by kernel_rfl) rfl rfl rfl (by simp <;> rfl) (by simp [i1, i2, i3, i4, i5]) (by simp <;> rfl) ?_
        refine awl_end [4] [] (by simp <;> rfl) ?_
        exact aw_ret (ends_ret (by simp [Tryz.results26] <;> rfl) (rfl))
end Go.Proofs.YtnklkkagpkcmfaaGreatDoor

set_option maxRecDepth 4000
namespace Go.Proofs.YtnklkkagpkcmfaaGreatDoor
open Go.Eng Go.Eng.Limb
set_option maxHeartbeats 4000000 in
theorem indexS_ac (l : List (List UInt8)) (x : List UInt8) : AC Tryz.prog 54 [.ro 1 (strsV l), .str x] (fun r => r = .int .i64 (idxA (fun y => decide (x = y)) l 0)) := by
  refine ac_lenR 0 rfl (fun hmx => ?_)
  have hq : ∀ (k : Nat) (h : k < l.length), nth (strsV l) k = some (.str l[k]) := fun k h => by rw [strsV_gD h, getD_lt h]
  have lq := strsV_len l
  rw [lq] at hmx
  have hML : maxLen ≤ 9223372036854775807 := by decide
  generalize strsV l = lv at *
  refine ac_intro Tryz.func54 rfl (by show (2 : Nat) ≤ 19; omega) (fun w0 N0 => ?_)
  refine aw_step [0, 1] [] (by simp [Tryz.ntmps54] <;> rfl) ?_
  refine aw_seq ?_
  refine aw_step [0, 1, 7, 8] [] (by simp <;> rfl) ?_
  refine aw_block ?_
  refine aw_count (fun k nx => ⟨[(0, V.ro 1 lv), (1, V.str x), (7, V.int .i64 lv.length), (8, V.int .i64 k)], [], nx, 19⟩) (fun k => idxA (fun y => decide (x = y)) (l.drop k) k = idxA (fun y => decide (x = y)) l 0) l.length _ rfl (AS.le_refl _) ?_
  intro k nx hk hI
  refine aw_step [0, 1, 7, 8, 9] [] (by simp <;> rfl) ?_
  refine aw_seq ?_
  refine aw_cond rfl (fun h1 => aw_skip ?_) (fun h1 => ?_)   -- if t9
  · have hlt : k < l.length := by simp at h1; omega
    have hltq : k < lv.length := by omega
    have ga := hq k hlt
    have hw1 := wrap_succ (k := k) (by omega)
    rw [idxF_drop _ hlt] at hI
    generalize l[k] = y at ga hI
    refine aw_seq ?_
    refine aw_block ?_
    refine aw_step [0, 1, 5, 7, 8] [] (by simp <;> rfl) ?_
    refine aw_step [0, 1, 5, 7, 8, 16] [] (by simp [ga, hltq] <;> rfl) ?_
    refine aw_cond rfl (fun h2 => ?_) (fun h2 => aw_skip ?_)   -- if t16
    · refine aw_step [4] [] (by simp <;> rfl) ?_
      exact aw_ret (ends_ret (by simp [Tryz.results54] <;> rfl) (by rw [← hI, if_pos h2]))
    refine aw_one [0, 1, 7, 8] [] (by simp [hw1] <;> rfl) ?_
    exact ⟨hlt, by rw [← hI, if_neg (by rw [h2]; decide)], _, AS.le_refl _⟩
  · refine aw_exit ?_
    have hke : k = l.length := by simp at h1; omega
    rw [hke, List.drop_length, idxA] at hI
    refine aw_step [4] [] (by simp <;> rfl) ?_
    exact aw_ret (ends_ret (by simp [Tryz.results54] <;> rfl) (by rw [← hI]))
theorem hasS_ac (l : List (List UInt8)) (x : List UInt8) : AC Tryz.prog 29 [.ro 1 (strsV l), .str x] (fun r => r = .bool (decide (x ∈ l))) := by
  have c83 := indexS_ac l x
  have e1 : decide (x ∈ l) = decide (0 ≤ idxA (fun y => decide (x = y)) l 0) := by
    rw [idxF_any]
    by_cases h : x ∈ l
    · rw [decide_eq_true h]; symm; rw [List.any_eq_true]; exact ⟨x, h, by simp⟩
    · rw [decide_eq_false h]; symm; rw [List.any_eq_false]; intro y hy; simp; exact fun e => h (e ▸ hy)
  rw [e1]
  have pl := strsV_pure l
  generalize strsV l = lv at *
  generalize idxA (fun y => decide (x = y)) l 0 = z at *
  refine ac_intro Tryz.func29 rfl (by show (2 : Nat) ≤ 9; omega) (fun w0 N0 => ?_)
  refine aw_step [0, 1] [] (by simp [Tryz.ntmps29] <;> rfl) ?_
  refine aw_seq (aw_region ?_)
  refine awl_go 2 (by simp <;> rfl) ?_
  refine awl_call1 c83 Tryz.func54 rfl (by kernel_rfl) rfl rfl rfl (by simp <;> rfl) (by simp [pl]) (by simp <;> rfl) ?_
  refine awl_end [4] [] (by simp <;> rfl) ?_
  exact aw_ret (ends_ret (by simp [Tryz.results29] <;> rfl) (rfl))
def netK (it : It) (ch : List Int) : Nat → Int
  | 0 => 0
  | k + 1 => if ch.getD k 0 ∈ it.ch then IntKind.i64.wrap (netK it ch k + 1) else IntKind.i64.wrap (netK it ch k - 1)
def mulV (it : It) (ch : List Int) : Int := IntKind.i64.wrap ((IntKind.i64.wrap (mx0 (netK it ch ch.length) * it.pts)).tdiv it.ch.length)
set_option maxHeartbeats 8000000 in
theorem multi_ac (it : It) (ch : List Int) (hne : it.ch ≠ []) (hl : ch.length ≤ 2000000) : AC Tryz.prog 27 [it.v, .ro 1 (ints ch)] (fun r => r = .int .i64 (mulV it ch)) := by
  have c64 := hasI_ac it.ch
  have qc := fun (k : Nat) (h : k < ch.length) => ints_gD h
  have lch := ints_len ch
  have pch := ints_pure ch
  have hl0 : 0 < it.ch.length := List.length_pos_iff.2 hne
  unfold mulV
  have hk1 : ∀ k, netK it ch (k + 1) = if ch.getD k 0 ∈ it.ch then IntKind.i64.wrap (netK it ch k + 1) else IntKind.i64.wrap (netK it ch k - 1) := fun k => rfl
  have hk0 : netK it ch 0 = 0 := rfl
  generalize netK it ch = nk at *
  generalize ints ch = hv at *
  have eit : it.v = V.agg [.int .i64 it.id, .int .i64 it.ver, .int .i64 it.kind, .str it.stem, .ro 1 (strsV it.opts), .ro 1 (ints it.ch), .int .i64 it.val, .int .i64 it.tol, .ro 1 (strsV it.txts), .int .i64 it.pts, .str it.code, .int .i64 it.fam, .int .i64 it.set, .int .i64 it.wo, .int .i64 it.se, .ro 1 (ints it.ass), .int .i64 it.rub] := rfl
  rw [eit]
  have i1 := strsV_pure it.opts
  have i2 := ints_pure it.ch
  have i3 := strsV_pure it.txts
  have i4 := ints_pure it.ass
  have li1 := strsV_len it.opts
  have li2 := ints_len it.ch
  have li3 := strsV_len it.txts
  have li4 := ints_len it.ass
  generalize strsV it.opts = ov at *
  generalize ints it.ch = cv at *
  generalize strsV it.txts = xv at *
  generalize ints it.ass = av at *
  have ei1 : ov = [] ↔ it.opts = [] := by rw [← List.length_eq_zero_iff, li1, List.length_eq_zero_iff]
  have ei2 : cv = [] ↔ it.ch = [] := by rw [← List.length_eq_zero_iff, li2, List.length_eq_zero_iff]
  have ei3 : xv = [] ↔ it.txts = [] := by rw [← List.length_eq_zero_iff, li3, List.length_eq_zero_iff]
  refine ac_intro Tryz.func27 rfl (by show (2 : Nat) ≤ 32; omega) (fun w0 N0 => ?_)
  refine aw_step [1, 2] [2] (by simp [Tryz.ntmps27] <;> rfl) ?_
  refine aw_step [1, 2, 5] [2] (by simp <;> rfl) ?_
  refine aw_seq ?_
  refine aw_step [2, 5, 8, 9, 10] [2] (by simp <;> rfl) ?_
  refine aw_block ?_
  refine aw_count (fun k nx => ⟨[(2, V.bp 2 0 17 0 0), (5, V.int .i64 (nk k)), (8, V.ro 1 hv), (9, V.int .i64 hv.length), (10, V.int .i64 k)], [(2, ⟨0, 17, 39, [V.agg [.int .i64 it.id, .int .i64 it.ver, .int .i64 it.kind, .str it.stem, .ro 1 ov, .ro 1 cv, .int .i64 it.val, .int .i64 it.tol, .ro 1 xv, .int .i64 it.pts, .str it.code, .int .i64 it.fam, .int .i64 it.set, .int .i64 it.wo, .int .i64 it.se, .ro 1 av, .int .i64 it.rub]]⟩)], nx, 32⟩) (fun k => True) ch.length _ trivial (by simp only [hk0]; exact AS.le_refl _) ?_
  intro k nx hk hI
  refine aw_step [2, 5, 8, 9, 10, 11] [2] (by simp <;> rfl) ?_
  refine aw_seq ?_
  refine aw_cond rfl (fun h1 => aw_skip ?_) (fun h1 => ?_)   -- if t11
  · have hlt : k < ch.length := by simp at h1; omega
    have hltq : k < hv.length := by omega
    have ga := qc k hlt
    have hkk := hk1 k
    have hw1 := wrap_succ (k := k) (by omega)
    generalize ch.getD k 0 = x at *
    have c64x := c64 x
    refine aw_seq ?_
    refine aw_block ?_
    refine aw_step [2, 5, 7, 8, 9, 10] [2] (by simp [ga, hltq] <;> rfl) ?_
    refine aw_seq (aw_region ?_)
    refine awl_go 3 (by simp <;> rfl) ?_
    refine awl_call1 c64x Tryz.func52 rfl (by kernel_rfl) rfl rfl rfl (by simp <;> rfl) (by simp [i1, i2, i3, i4]) (by simp <;> rfl) ?_
    refine awl_end [2, 5, 8, 9, 10, 17] [2] (by simp <;> rfl) ?_
    refine aw_cond rfl (fun h2 => ?_) (fun h2 => ?_)   -- if t17
    · refine aw_one [2, 5, 8, 9, 10] [2] (by simp <;> rfl) ?_
      refine aw_one [2, 5, 8, 9, 10] [2] (by simp [hw1] <;> rfl) ?_
      exact ⟨hlt, trivial, _, by rw [hkk, if_pos (by simpa using h2)]; exact AS.le_refl _⟩
    · refine aw_one [2, 5, 8, 9, 10] [2] (by simp <;> rfl) ?_
      refine aw_one [2, 5, 8, 9, 10] [2] (by simp [hw1] <;> rfl) ?_
      exact ⟨hlt, trivial, _, by rw [hkk, if_neg (by simpa using h2)]; exact AS.le_refl _⟩
  · refine aw_exit ?_
    have hke : k = ch.length := by simp at h1; omega
    subst hke
    have hd0 : ¬ it.ch = [] := hne
    refine aw_step [4] [] (by simp [li2, hd0] <;> rfl) ?_
    exact aw_ret (ends_ret (by simp [Tryz.results27] <;> rfl) (by unfold mx0; rfl))
def fIx (it : It) (x : Int) : Int := idxA (fun y => decide (x = y)) it.ch 0
def inK (it : It) (ch : List Int) (k : Nat) (s : Int × Int) : Nat → Int × Int
  | 0 => s
  | j + 1 => (if fIx it (ch.getD k 0) < fIx it (ch.getD (k + 1 + j) 0) then IntKind.i64.wrap ((inK it ch k s j).1 + 1) else IntKind.i64.wrap ((inK it ch k s j).1 - 1), IntKind.i64.wrap ((inK it ch k s j).2 + 1))
def outK (it : It) (ch : List Int) : Nat → Int × Int
  | 0 => (0, 0)
  | k + 1 => inK it ch k (outK it ch k) (ch.length - (k + 1))
def ordV (it : It) (ch : List Int) : Int := IntKind.i64.wrap ((IntKind.i64.wrap (mx0 (outK it ch ch.length).1 * it.pts)).tdiv (outK it ch ch.length).2)
theorem inK_two (it : It) (ch : List Int) (k : Nat) (s : Int × Int) (h0 : 0 ≤ s.2 ∧ s.2 ≤ 1000000000) : ∀ j : Nat, j ≤ 1000 → (inK it ch k s j).2 = s.2 + j
  | 0, _ => by simp [inK]
  | j + 1, h => by
    rw [inK]
    simp only
    rw [inK_two it ch k s h0 j (by omega), wrap_in (by omega) (by omega)]; omega
theorem outK_two (it : It) (ch : List Int) (hl : ch.length ≤ 1000) : ∀ k : Nat, k ≤ ch.length → (0 ≤ (outK it ch k).2 ∧ (outK it ch k).2 ≤ 1000 * (k : Int)) ∧ (1 ≤ k → 2 ≤ ch.length → 1 ≤ (outK it ch k).2)
  | 0, _ => by simp [outK]
  | k + 1, h => by
    have ih := outK_two it ch hl k (by omega)
    rw [outK, inK_two it ch k _ ⟨ih.1.1, by omega⟩ _ (by omega)]
    refine ⟨by omega, fun _ h2 => ?_⟩
    by_cases hk : 1 ≤ k
    · have := ih.2 hk h2; omega
    · omega
set_option maxHeartbeats 16000000 in
theorem order_ac (it : It) (ch : List Int) (h2 : 2 ≤ ch.length) (hl : ch.length ≤ 1000) : AC Tryz.prog 28 [it.v, .ro 1 (ints ch)] (fun r => r = .int .i64 (ordV it ch)) := by
  have c82 : ∀ x, AC Tryz.prog 53 [.ro 1 (ints it.ch), .int .i64 x] (fun r => r = .int .i64 (fIx it x)) := fun x => indexI_ac it.ch x
  have qc := fun (k : Nat) (h : k < ch.length) => ints_gD h
  have qd : ∀ (k j : Nat), k + 1 + j < ch.length → nth ((ints ch).drop (k + 1)) j = some (.int .i64 (ch.getD (k + 1 + j) 0)) := fun k j h => by
    rw [nth_eq, List.getElem?_drop, ← nth_eq]; exact ints_gD h
  have ldr : ∀ k, ((ints ch).drop (k + 1)).length = ch.length - (k + 1) := fun k => by simp
  have lch := ints_len ch
  have pch := ints_pure ch
  have hne : ¬ (outK it ch ch.length).2 = 0 := by have := (outK_two it ch hl ch.length (Nat.le_refl _)).2 (by omega) h2; omega
  unfold ordV
  have hi1 : ∀ k s j, inK it ch k s (j + 1) = (if fIx it (ch.getD k 0) < fIx it (ch.getD (k + 1 + j) 0) then IntKind.i64.wrap ((inK it ch k s j).1 + 1) else IntKind.i64.wrap ((inK it ch k s j).1 - 1), IntKind.i64.wrap ((inK it ch k s j).2 + 1)) := fun k s j => rfl
  have hi0 : ∀ k s, inK it ch k s 0 = s := fun k s => rfl
  have ho1 : ∀ k, outK it ch (k + 1) = inK it ch k (outK it ch k) (ch.length - (k + 1)) := fun k => rfl
  have ho0 : outK it ch 0 = (0, 0) := rfl
  generalize outK it ch = ok at *
  generalize inK it ch = ik at *
  generalize fIx it = fi at *
  generalize ints ch = hv at *
  have eit : it.v = V.agg [.int .i64 it.id, .int .i64 it.ver, .int .i64 it.kind, .str it.stem, .ro 1 (strsV it.opts), .ro 1 (ints it.ch), .int .i64 it.val, .int .i64 it.tol, .ro 1 (strsV it.txts), .int .i64 it.pts, .str it.code, .int .i64 it.fam, .int .i64 it.set, .int .i64 it.wo, .int .i64 it.se, .ro 1 (ints it.ass), .int .i64 it.rub] := rfl
  rw [eit]
  have i1 := strsV_pure it.opts
  have i2 := ints_pure it.ch
  have i3 := strsV_pure it.txts
  have i4 := ints_pure it.ass
  have li1 := strsV_len it.opts
  have li2 := ints_len it.ch
  have li3 := strsV_len it.txts
  have li4 := ints_len it.ass
  generalize strsV it.opts = ov at *
  generalize ints it.ch = cv at *
  generalize strsV it.txts = xv at *
  generalize ints it.ass = av at *
  have ei1 : ov = [] ↔ it.opts = [] := by rw [← List.length_eq_zero_iff, li1, List.length_eq_zero_iff]
  have ei2 : cv = [] ↔ it.ch = [] := by rw [← List.length_eq_zero_iff, li2, List.length_eq_zero_iff]
  have ei3 : xv = [] ↔ it.txts = [] := by rw [← List.length_eq_zero_iff, li3, List.length_eq_zero_iff]
  refine ac_intro Tryz.func28 rfl (by show (2 : Nat) ≤ 51; omega) (fun w0 N0 => ?_)
  refine aw_step [1, 2] [2] (by simp [Tryz.ntmps28] <;> rfl) ?_
  refine aw_step [1, 2, 5, 6] [2] (by simp <;> rfl) ?_
  refine aw_seq ?_
  refine aw_step [1, 2, 5, 6, 11, 12, 13] [2] (by simp <;> rfl) ?_
  refine aw_block ?_
  refine aw_count (fun k nx => ⟨[(1, V.ro 1 hv), (2, V.bp 2 0 17 0 0), (5, V.int .i64 (ok k).1), (6, V.int .i64 (ok k).2), (11, V.ro 1 hv), (12, V.int .i64 hv.length), (13, V.int .i64 k)], [(2, ⟨0, 17, 39, [V.agg [.int .i64 it.id, .int .i64 it.ver, .int .i64 it.kind, .str it.stem, .ro 1 ov, .ro 1 cv, .int .i64 it.val, .int .i64 it.tol, .ro 1 xv, .int .i64 it.pts, .str it.code, .int .i64 it.fam, .int .i64 it.set, .int .i64 it.wo, .int .i64 it.se, .ro 1 av, .int .i64 it.rub]]⟩)], nx, 51⟩) (fun k => True) ch.length _ trivial (by simp only [ho0]; exact AS.le_refl _) ?_
  intro k nx hk hI
  refine aw_step [1, 2, 5, 6, 11, 12, 13, 14] [2] (by simp <;> rfl) ?_
  refine aw_seq ?_
  refine aw_cond rfl (fun h1 => aw_skip ?_) (fun h1 => ?_)   -- if t14
  · have hlt : k < ch.length := by simp at h1; omega
    have hltq : k < hv.length := by omega
    have ga := qc k hlt
    have hoo := ho1 k
    have hw1 := wrap_succ (k := k) (by omega)
    have gdr := qd k
    have ldk := ldr k
    have hik := hi1 k (ok k)
    have hik0 := hi0 k (ok k)
    generalize ch.getD k 0 = x at *
    have c82x := c82 x
    have hsl : (0 : Int) ≤ (k : Int) + 1 ∧ (k : Int) + 1 ≤ hv.length := by omega
    have hdt : (hv.drop (k + 1)).take (hv.length - (k + 1)) = hv.drop (k + 1) := List.take_of_length_le (by simp)
    generalize ik k (ok k) = ii at *
    refine aw_seq ?_
    refine aw_block ?_
    refine aw_step [1, 2, 5, 6, 7, 8, 11, 12, 13] [2] (by simp [ga, hltq] <;> rfl) ?_
    refine aw_step [1, 2, 5, 6, 8, 11, 12, 13, 21, 22, 23] [2] (by simp [hsl, hdt, hw1] <;> rfl) ?_
    generalize hv.drop (k + 1) = dv at *
    refine aw_block ?_
    refine aw_count (fun j nx => ⟨[(1, V.ro 1 hv), (2, V.bp 2 0 17 0 0), (5, V.int .i64 (ii j).1), (6, V.int .i64 (ii j).2), (8, V.int .i64 x), (11, V.ro 1 hv), (12, V.int .i64 hv.length), (13, V.int .i64 k), (21, V.ro 1 dv), (22, V.int .i64 ((hv.length - (k + 1) : Nat) : Int)), (23, V.int .i64 j)], [(2, ⟨0, 17, 39, [V.agg [.int .i64 it.id, .int .i64 it.ver, .int .i64 it.kind, .str it.stem, .ro 1 ov, .ro 1 cv, .int .i64 it.val, .int .i64 it.tol, .ro 1 xv, .int .i64 it.pts, .str it.code, .int .i64 it.fam, .int .i64 it.set, .int .i64 it.wo, .int .i64 it.se, .ro 1 av, .int .i64 it.rub]]⟩)], nx, 51⟩) (fun j => True) (ch.length - (k + 1)) _ trivial (by simp only [hik0]; exact AS.le_refl _) ?_
    intro j nx hj hI2
    refine aw_step [1, 2, 5, 6, 8, 11, 12, 13, 21, 22, 23, 24] [2] (by simp <;> rfl) ?_
    refine aw_seq ?_
    refine aw_cond rfl (fun h2 => aw_skip ?_) (fun h2 => ?_)   -- if t24
    · have hjt : j < ch.length - (k + 1) := by simp at h2; omega
      have hjq : j < dv.length := by omega
      have gj := gdr j (by omega)
      have hii := hik j
      have hwj := wrap_succ (k := j) (by omega)
      generalize ch.getD (k + 1 + j) 0 = y at *
      have c82y := c82 y
      refine aw_seq ?_
      refine aw_block ?_
      refine aw_step [1, 2, 5, 6, 8, 10, 11, 12, 13, 21, 22, 23] [2] (by simp [gj, hjq] <;> rfl) ?_
      refine aw_step [1, 2, 5, 6, 8, 10, 11, 12, 13, 21, 22, 23] [2] (by simp <;> rfl) ?_
      refine aw_seq (aw_draw [(0, []), (2, []), (4, []), (6, []), (1, []), (3, []), (5, []), (7, []), (8, [])] hmixA (by kernel_rfl) ?_)
      refine awo_go 5 (by simp <;> rfl) ?_
      refine awo_call (fun hg => c82x) Tryz.func53 rfl (by kernel_rfl) rfl rfl (by simp <;> rfl) rfl rfl (by simp <;> rfl) (by simp [i1, i2, i3, i4]) (by simp <;> rfl) ?_
      refine awo_go 1 (by simp <;> rfl) ?_
      refine awo_call (fun hg => c82y) Tryz.func53 rfl (by kernel_rfl) rfl rfl (by simp <;> rfl) rfl rfl (by simp <;> rfl) (by simp [i1, i2, i3, i4]) (by simp <;> rfl) ?_
      refine awo_end [1, 2, 5, 6, 8, 11, 12, 13, 21, 22, 23, 37] [2] (by simp <;> rfl) ?_
      refine aw_cond rfl (fun h3 => ?_) (fun h3 => ?_)   -- if t37
      · refine aw_one [1, 2, 5, 6, 8, 11, 12, 13, 21, 22, 23] [2] (by simp <;> rfl) ?_
        refine aw_one [1, 2, 5, 6, 8, 11, 12, 13, 21, 22, 23] [2] (by simp [hwj] <;> rfl) ?_
        exact ⟨hjt, trivial, _, by rw [hii, if_pos (by simpa using h3)]; exact AS.le_refl _⟩
      · refine aw_one [1, 2, 5, 6, 8, 11, 12, 13, 21, 22, 23] [2] (by simp <;> rfl) ?_
        refine aw_one [1, 2, 5, 6, 8, 11, 12, 13, 21, 22, 23] [2] (by simp [hwj] <;> rfl) ?_
        exact ⟨hjt, trivial, _, by rw [hii, if_neg (by simpa using h3)]; exact AS.le_refl _⟩
    · refine aw_exit ?_
      have hje : j = ch.length - (k + 1) := by simp at h2; omega
      rw [hje, ← hoo]
      refine aw_one [1, 2, 5, 6, 11, 12, 13] [2] (by simp [hw1] <;> rfl) ?_
      exact ⟨hlt, trivial, _, AS.le_refl _⟩
  · refine aw_exit ?_
    have hke : k = ch.length := by simp at h1; omega
    subst hke
    refine aw_step [4] [] (by simp [hne] <;> rfl) ?_
    exact aw_ret (ends_ret (by simp [Tryz.results28] <;> rfl) (by unfold mx0; rfl))
end Go.Proofs.YtnklkkagpkcmfaaGreatDoor

set_option maxRecDepth 4000
namespace Go.Proofs.YtnklkkagpkcmfaaGreatDoor
open Go.Eng Go.Eng.Limb
def u8v (l : List UInt8) : List V := l.map fun b => V.int .u8 (b.toNat : Int)
theorem u8v_app (l m : List UInt8) : u8v (l ++ m) = u8v l ++ u8v m := by simp [u8v]
theorem u8v_one (b : UInt8) : u8v [b] = [V.int .u8 (b.toNat : Int)] := rfl
theorem u8v_len (l : List UInt8) : (u8v l).length = l.length := by simp [u8v]
theorem u8v_pure (l : List UInt8) : (u8v l).all V.pureE = true := by
  rw [List.all_eq_true]; intro x hx; simp only [u8v, List.mem_map] at hx; obtain ⟨n, _, rfl⟩ := hx; rfl
theorem u8v_bytes : ∀ l : List UInt8, bytesV (u8v l) = some l
  | [] => rfl
  | b :: r => by
    have ih := u8v_bytes r
    have h1 : (0 : Int) ≤ (b.toNat : Int) ∧ (b.toNat : Int) < 256 := by have := b.toNat_lt; omega
    simp only [u8v, List.map_cons] at ih ⊢
    rw [bytesV, ih]
    simp [h1]
def nPush (s : List UInt8 × Bool) (c : UInt8) : List UInt8 × Bool := if s.2 = true then (s.1 ++ [32] ++ [c], false) else (s.1 ++ [c], s.2)
def nStep (s : List UInt8 × Bool) (b : UInt8) : List UInt8 × Bool :=
  if 65 ≤ b.toNat ∧ b.toNat ≤ 90 then nPush s (b + 32)
  else if 97 ≤ b.toNat ∧ b.toNat ≤ 122 then nPush s b
  else if 48 ≤ b.toNat ∧ b.toNat ≤ 57 then nPush s b
  else if b.toNat = 32 then (s.1, decide (0 < s.1.length)) else s
def nK (s : List UInt8) : Nat → List UInt8 × Bool
  | 0 => ([], false)
  | k + 1 => nStep (nK s k) (s.getD k 0)
def normF (s : List UInt8) : List UInt8 := (nK s s.length).1
theorem nPush_len (s : List UInt8 × Bool) (c : UInt8) : (nPush s c).1.length ≤ s.1.length + 2 := by unfold nPush; split <;> simp
theorem nStep_len (s : List UInt8 × Bool) (b : UInt8) : (nStep s b).1.length ≤ s.1.length + 2 := by
  unfold nStep
  have := nPush_len s (b + 32)
  have := nPush_len s b
  (repeat' split) <;> first | omega | (dsimp only; omega)
theorem nK_len (s : List UInt8) : ∀ k, (nK s k).1.length ≤ 2 * k
  | 0 => by simp [nK]
  | k + 1 => by have := nStep_len (nK s k) (s.getD k 0); have := nK_len s k; rw [nK]; omega
set_option maxHeartbeats 16000000 in
theorem normal51_ac (s : List UInt8) (hs : s.length ≤ 2000000) : AC Tryz.prog 30 [.str s] (fun r => r = .str (normF s)) := by
  have hk1 : ∀ k, nK s (k + 1) = nStep (nK s k) (s.getD k 0) := fun k => rfl
  have hkl := nK_len s
  have hst : ∀ st b, nStep st b = if 65 ≤ b.toNat ∧ b.toNat ≤ 90 then nPush st (b + 32) else if 97 ≤ b.toNat ∧ b.toNat ≤ 122 then nPush st b else if 48 ≤ b.toNat ∧ b.toNat ≤ 57 then nPush st b else if b.toNat = 32 then (st.1, decide (0 < st.1.length)) else st := fun st b => rfl
  have hpu : ∀ st c, nPush st c = if st.2 = true then (st.1 ++ [32] ++ [c], false) else (st.1 ++ [c], st.2) := fun st c => rfl
  refine ac_intro Tryz.func30 rfl (by show (1 : Nat) ≤ 54; omega) (fun w0 N0 => ?_)
  refine aw_step [0] [] (by simp [Tryz.ntmps30] <;> rfl) ?_
  refine aw_step [0, 3] [] (by simp <;> rfl) ?_
  refine aw_step [0, 3, 4] [] (by simp <;> rfl) ?_
  refine aw_seq ?_
  refine aw_step [0, 3, 4, 8, 9] [] (by simp <;> rfl) ?_
  refine aw_adoptS 3 100 1 5 [0, 3, 4, 8, 9] [100] (by simp <;> rfl) (by simp <;> rfl) ?_
  refine aw_block ?_
  refine aw_loop (fun x : Nat × Nat × Nat => ⟨[(0, V.str s), (3, .sl 100 x.2.1 1 (nK s x.1).1.length), (4, V.bool (nK s x.1).2), (8, V.int .i64 s.length), (9, V.int .i64 (x.1 : Nat))], [(100, ⟨x.2.1, 1, 5, u8v (nK s x.1).1⟩)], x.2.2, 54⟩) (fun x => x.1 ≤ s.length) (fun x => s.length - x.1) (0, _, _) (Nat.zero_le _) (AS.le_refl _) ?_
  rintro ⟨k, qv, nx⟩ hk
  simp only at hk ⊢
  refine aw_step [0, 3, 4, 8, 9, 10] [100] (by simp <;> rfl) ?_
  refine aw_seq ?_
  refine aw_cond rfl (fun h1 => aw_skip ?_) (fun h1 => ?_)   -- if t10
  · have hlt : k < s.length := by simp at h1; omega
    have gb : nth s k = some (s.getD k 0) := by rw [nth_eq, getD_lt hlt]; simp [hlt]
    have hw1 := wrap_succ (k := k) (by omega)
    have hkk := hk1 k
    have hln := hkl k
    rw [hst] at hkk
    have hb8 := (s.getD k 0).toNat_lt
    generalize s.getD k 0 = b at *
    generalize nK s k = st at *
    obtain ⟨out, bl⟩ := st
    simp only at hkk hln ⊢
    have hl1 := u8v_len out
    refine aw_seq ?_
    refine aw_block ?_
    refine aw_step [0, 3, 4, 5, 8, 9] [100] (by simp <;> rfl) ?_
    refine aw_step [0, 3, 4, 6, 8, 9] [100] (by simp [hlt, gb] <;> rfl) ?_
    refine aw_seq ?_
    refine aw_block ?_
    refine aw_step [0, 3, 4, 6, 8, 9, 15] [100] (by simp <;> rfl) ?_
    refine aw_cond rfl (fun h2 => ?_) (fun h2 => ?_)   -- if t15
    · have h2' : 65 ≤ b.toNat ∧ b.toNat ≤ 90 := by simp at h2; omega
      rw [if_pos h2'] at hkk
      have hps := hkk.trans (hpu _ _)
      simp only at hps
      have hbt : ((b + 32).toNat : Int) = (b.toNat : Int) + 32 := by
        have h : (b + 32).toNat = (b.toNat + 32) % 256 := by simp [UInt8.toNat_add]
        rw [h, Nat.mod_eq_of_lt (by omega)]; omega
      have hwb : IntKind.u8.wrap ((b.toNat : Int) + 32) = ((b + 32).toNat : Int) := by rw [hbt, IntKind.wrap_u8]; omega
      generalize b + 32 = c at *
      have hap1 : out.length + 1 ≤ maxLen ∧ out.length + 1 ≤ 140737488355328 := by constructor; exact Nat.le_trans (show out.length + 1 ≤ 5000000 by omega) (by decide); omega
      have hap2 : out.length + 1 + 1 ≤ maxLen ∧ out.length + 1 + 1 ≤ 140737488355328 := by constructor; exact Nat.le_trans (show out.length + 1 + 1 ≤ 5000000 by omega) (by decide); omega
      have hl2 : True := trivial
      refine aw_one [0, 3, 4, 6, 8, 9] [100] (by simp [hwb] <;> rfl) ?_
      refine aw_seq ?_
      refine aw_step [0, 3, 4, 6, 8, 9, 43] [100] (by simp <;> rfl) ?_
      refine aw_cond rfl (fun h3 => ?_) (fun h3 => aw_skip ?_)   -- if t43
      · refine aw_step [0, 3, 6, 8, 9] [100] (by simp [hap1, hl1] <;> rfl) ?_
        refine aw_one [0, 3, 4, 6, 8, 9] [100] (by simp <;> rfl) ?_
        refine aw_one [0, 3, 4, 8, 9] [100] (by simp [hap2, hl1, hl2] <;> rfl) ?_
        refine aw_one [0, 3, 4, 8, 9] [100] (by simp [hw1] <;> rfl) ?_
        rw [if_pos (by simpa using h3)] at hps
        exact ⟨(k + 1, _, _), hlt, by simp only; omega, by simp only [hps, u8v_app, u8v_one, List.length_append, List.length_cons, List.length_nil]; simp [u8v]; exact AS.le_refl _⟩
      refine aw_one [0, 3, 4, 8, 9] [100] (by simp [hap1, hl1] <;> rfl) ?_
      refine aw_one [0, 3, 4, 8, 9] [100] (by simp [hw1] <;> rfl) ?_
      rw [if_neg (by simpa using h3)] at hps
      exact ⟨(k + 1, _, _), hlt, by simp only; omega, by simp only [hps, u8v_app, u8v_one, List.length_append, List.length_cons, List.length_nil]; exact AS.le_refl _⟩
    · have h2' : ¬ (65 ≤ b.toNat ∧ b.toNat ≤ 90) := by simp at h2; omega
      rw [if_neg h2'] at hkk
      have hap1 : out.length + 1 ≤ maxLen ∧ out.length + 1 ≤ 140737488355328 := by constructor; exact Nat.le_trans (show out.length + 1 ≤ 5000000 by omega) (by decide); omega
      have hap2 : out.length + 1 + 1 ≤ maxLen ∧ out.length + 1 + 1 ≤ 140737488355328 := by constructor; exact Nat.le_trans (show out.length + 1 + 1 ≤ 5000000 by omega) (by decide); omega
      have hl2 : True := trivial
      refine aw_seq ?_
      refine aw_step [0, 3, 4, 6, 8, 9, 24] [100] (by simp <;> rfl) ?_
      refine aw_cond rfl (fun h4 => aw_skip ?_) (fun h4 => ?_)   -- if t24
      · have h4' : 97 ≤ b.toNat ∧ b.toNat ≤ 122 := by simp at h4; omega
        rw [if_pos h4'] at hkk
        have hps := hkk.trans (hpu _ _)
        simp only at hps
        refine aw_cond rfl (fun h5 => aw_skip ?_) (fun h5 => by simp at h4 h5; omega)   -- if t24
        · refine aw_seq ?_
          refine aw_step [0, 3, 4, 6, 8, 9, 43] [100] (by simp <;> rfl) ?_
          refine aw_cond rfl (fun h6 => ?_) (fun h6 => aw_skip ?_)   -- if t43
          · refine aw_step [0, 3, 6, 8, 9] [100] (by simp [hap1, hl1] <;> rfl) ?_
            refine aw_one [0, 3, 4, 6, 8, 9] [100] (by simp <;> rfl) ?_
            refine aw_one [0, 3, 4, 8, 9] [100] (by simp [hap2, hl1, hl2] <;> rfl) ?_
            refine aw_one [0, 3, 4, 8, 9] [100] (by simp [hw1] <;> rfl) ?_
            rw [if_pos (by simpa using h6)] at hps
            exact ⟨(k + 1, _, _), hlt, by simp only; omega, by simp only [hps, u8v_app, u8v_one, List.length_append, List.length_cons, List.length_nil]; simp [u8v]; exact AS.le_refl _⟩
          refine aw_one [0, 3, 4, 8, 9] [100] (by simp [hap1, hl1] <;> rfl) ?_
          refine aw_one [0, 3, 4, 8, 9] [100] (by simp [hw1] <;> rfl) ?_
          rw [if_neg (by simpa using h6)] at hps
          exact ⟨(k + 1, _, _), hlt, by simp only; omega, by simp only [hps, u8v_app, u8v_one, List.length_append, List.length_cons, List.length_nil]; exact AS.le_refl _⟩
      · have h4' : ¬ (97 ≤ b.toNat ∧ b.toNat ≤ 122) := by simp at h4; omega
        rw [if_neg h4'] at hkk
        refine aw_one [0, 3, 4, 6, 8, 9, 24] [100] (by simp <;> rfl) ?_
        refine aw_cond rfl (fun h8 => aw_skip ?_) (fun h8 => ?_)   -- if t24
        · have h8' : 48 ≤ b.toNat ∧ b.toNat ≤ 57 := by simp at h8; omega
          rw [if_pos h8'] at hkk
          have hps := hkk.trans (hpu _ _)
          simp only at hps
          refine aw_seq ?_
          refine aw_step [0, 3, 4, 6, 8, 9, 43] [100] (by simp <;> rfl) ?_
          refine aw_cond rfl (fun h9 => ?_) (fun h9 => aw_skip ?_)   -- if t43
          · refine aw_step [0, 3, 6, 8, 9] [100] (by simp [hap1, hl1] <;> rfl) ?_
            refine aw_one [0, 3, 4, 6, 8, 9] [100] (by simp <;> rfl) ?_
            refine aw_one [0, 3, 4, 8, 9] [100] (by simp [hap2, hl1, hl2] <;> rfl) ?_
            refine aw_one [0, 3, 4, 8, 9] [100] (by simp [hw1] <;> rfl) ?_
            rw [if_pos (by simpa using h9)] at hps
            exact ⟨(k + 1, _, _), hlt, by simp only; omega, by simp only [hps, u8v_app, u8v_one, List.length_append, List.length_cons, List.length_nil]; simp [u8v]; exact AS.le_refl _⟩
          refine aw_one [0, 3, 4, 8, 9] [100] (by simp [hap1, hl1] <;> rfl) ?_
          refine aw_one [0, 3, 4, 8, 9] [100] (by simp [hw1] <;> rfl) ?_
          rw [if_neg (by simpa using h9)] at hps
          exact ⟨(k + 1, _, _), hlt, by simp only; omega, by simp only [hps, u8v_app, u8v_one, List.length_append, List.length_cons, List.length_nil]; exact AS.le_refl _⟩
        · have h8' : ¬ (48 ≤ b.toNat ∧ b.toNat ≤ 57) := by simp at h8; omega
          rw [if_neg h8'] at hkk
          refine aw_step [0, 3, 4, 8, 9, 37] [100] (by simp <;> rfl) ?_
          refine aw_cond rfl (fun h10 => ?_) (fun h10 => ?_)   -- if t37
          · rw [if_pos (show b.toNat = 32 by simp at h10; omega)] at hkk
            refine aw_step [0, 3, 4, 8, 9] [100] (by simp <;> rfl) ?_
            refine aw_exit ?_
            refine aw_one [0, 3, 4, 8, 9] [100] (by simp [hw1] <;> rfl) ?_
            exact ⟨(k + 1, _, _), hlt, by simp only; omega, by simp only [hkk]; exact AS.le_refl _⟩
          · rw [if_neg (show ¬ b.toNat = 32 by simp at h10; omega)] at hkk
            refine aw_exit ?_
            refine aw_one [0, 3, 4, 8, 9] [100] (by simp [hw1] <;> rfl) ?_
            exact ⟨(k + 1, _, _), hlt, by simp only; omega, by simp only [hkk]; exact AS.le_refl _⟩
  · refine aw_exit ?_
    have hke : k = s.length := by simp at h1; omega
    subst hke
    refine aw_freeze 100 [3] [] (by simp [u8v_pure, u8v_len] <;> rfl) ?_
    refine aw_step [2] [] (by simp [u8v_bytes] <;> rfl) ?_
    exact aw_ret (ends_ret (by simp [Tryz.results30] <;> rfl) (rfl))
end Go.Proofs.YtnklkkagpkcmfaaGreatDoor

set_option maxRecDepth 4000
namespace Go.Proofs.YtnklkkagpkcmfaaGreatDoor
open Go.Eng Go.Eng.Limb
theorem val_ok {it : It} {a : An} (h : valE it a = 0) : itemE it = 0 ∧ a.item = it.id ∧ (a.om = false → it.kind ≠ 4 → it.kind ≠ 5 → it.kind ≠ 6 → cchE it a.ch = 0) := by
  unfold valE at h
  split at h
  · rename_i h1; exact absurd h h1
  rename_i h1
  split at h
  · omega
  rename_i h2
  refine ⟨by omega, by omega, fun ho h4 h5 h6 => ?_⟩
  rw [if_neg h4, if_neg h5, if_neg h6, ho] at h
  split at h
  · omega
  · simpa using h
theorem item_key {it : It} (h : itemE it = 0) : keyB it = true ∧ inB3 it.kind 1 6 = true := by
  unfold itemE at h
  (repeat' split at h) <;> try omega
  rename_i h1 h2 h3 h4 h5 h6
  constructor
  · cases e : keyB it
    · exact absurd (.inr e) h5
    · rfl
  · cases e : inB3 it.kind 1 6
    · exact absurd e h2
    · rfl
theorem key_one {it : It} (h : keyB it = true) (hk : it.kind = 1) : it.ch.length = 1 := by
  unfold keyB at h
  rw [if_pos hk] at h
  simp at h; omega
theorem key_two {it : It} (h : keyB it = true) (hk : it.kind = 2) : it.ch ≠ [] := by
  unfold keyB at h
  rw [if_neg (by omega), if_pos hk] at h
  simp at h
  intro e; rw [e] at h; simp at h
theorem key_three {it : It} (h : keyB it = true) (hk : it.kind = 3) : 2 ≤ it.opts.length := by
  unfold keyB at h
  rw [if_neg (by omega), if_neg (by omega), if_pos hk] at h
  simp at h; omega
theorem cch_one {it : It} {ch : List Int} (h : cchE it ch = 0) : fitC it ch = true := by
  unfold cchE at h
  (repeat' split at h) <;> try omega
  rename_i h1 h2
  simpa using h2
def maxI (x y : Int) : Int := if x < y then y else x
def rigB (it : It) (a : An) : Bool :=
  if it.kind = 1 then decide (a.ch.getD 0 0 = it.ch.getD 0 0)
  else if it.kind = 4 then decide (maxI (IntKind.i64.wrap (a.val - it.val)) (IntKind.i64.wrap (it.val - a.val)) ≤ it.tol)
  else if it.kind = 5 then decide (normF a.txt ∈ it.txts) else false
def scoF (it : It) (a : An) : Int × Int :=
  if valE it a ≠ 0 then (0, valE it a) else if it.kind = 6 then (0, 8) else if a.om = true then (0, 0)
  else if it.kind = 2 then (mulV it a.ch, 0) else if it.kind = 3 then (ordV it a.ch, 0)
  else if rigB it a = true then (it.pts, 0) else (0, 0)
set_option maxHeartbeats 16000000 in
theorem score_acq (hS : SortedC) (it : It) (a : An) (hi : it.small) (ha : a.small) (hal : a.ch.length ≤ 2000000) :
    ACQ gv Tryz.prog 12 [it.v, a.v] (fun r => r = .tup [.int .i64 (scoF it a).1, .int .i64 (scoF it a).2]) := by
  have c47 := keyValid_acq hS it a hi ha
  have c48 := fun h => multi_ac it a.ch h ha.ch
  have c49 := fun h1 h2 => order_ac it a.ch h1 h2
  have c51 := normal51_ac a.txt ha.txt
  have c50 := hasS_ac it.txts (normF a.txt)
  have hop : itemE it = 0 → it.opts.length ≤ 10 := fun h => by
    unfold itemE at h
    (repeat' split at h) <;> omega
  have hvk := fun (h : valE it a = 0) => val_ok h
  have hik := fun (h : itemE it = 0) => item_key h
  have hk1 := fun h => key_one (it := it) h
  have hk2 := fun h => key_two (it := it) h
  have hk3 := fun h => key_three (it := it) h
  have hfc : cchE it a.ch = 0 → it.kind = 1 → a.ch.length = 1 := fun h hk => by
    have := cch_one h; unfold fitC at this; rw [if_pos hk] at this; simp at this; omega
  have hf3 : cchE it a.ch = 0 → it.kind = 3 → a.ch.length = it.opts.length := fun h hk => by
    have := cch_one h; unfold fitC at this; rw [if_neg (by omega), if_neg (by omega), if_pos hk] at this; simp at this; omega
  have q1 := fun (h : 0 < it.ch.length) => ints_gD h
  have q2 := fun (h : 0 < a.ch.length) => ints_gD h
  unfold scoF rigB
  generalize valE it a = ve at *
  generalize mulV it a.ch = mv at *
  generalize ordV it a.ch = ov' at *
  generalize normF a.txt = nf at *
  generalize it.ch.getD 0 0 = y0 at *
  generalize a.ch.getD 0 0 = x0 at *
  have eit : it.v = V.agg [.int .i64 it.id, .int .i64 it.ver, .int .i64 it.kind, .str it.stem, .ro 1 (strsV it.opts), .ro 1 (ints it.ch), .int .i64 it.val, .int .i64 it.tol, .ro 1 (strsV it.txts), .int .i64 it.pts, .str it.code, .int .i64 it.fam, .int .i64 it.set, .int .i64 it.wo, .int .i64 it.se, .ro 1 (ints it.ass), .int .i64 it.rub] := rfl
  have ean : a.v = V.agg [.int .i64 a.item, .ro 1 (ints a.ch), .int .i64 a.val, .str a.txt, .bool a.om] := rfl
  rw [eit, ean] at c47
  rw [eit] at c48 c49
  rw [eit, ean]
  have i1 := strsV_pure it.opts
  have i2 := ints_pure it.ch
  have i3 := strsV_pure it.txts
  have i4 := ints_pure it.ass
  have li1 := strsV_len it.opts
  have li2 := ints_len it.ch
  have li3 := strsV_len it.txts
  have li4 := ints_len it.ass
  generalize strsV it.opts = ov at *
  generalize ints it.ch = cv at *
  generalize strsV it.txts = xv at *
  generalize ints it.ass = av at *
  have ei1 : ov = [] ↔ it.opts = [] := by rw [← List.length_eq_zero_iff, li1, List.length_eq_zero_iff]
  have ei2 : cv = [] ↔ it.ch = [] := by rw [← List.length_eq_zero_iff, li2, List.length_eq_zero_iff]
  have ei3 : xv = [] ↔ it.txts = [] := by rw [← List.length_eq_zero_iff, li3, List.length_eq_zero_iff]
  have i5 := ints_pure a.ch
  have li5 := ints_len a.ch
  generalize ints a.ch = hv at *
  refine acq_intro Tryz.func12 rfl (by show (2 : Nat) ≤ 71; omega) (fun w0 N0 hG => ?_)
  refine aw_step [2, 3] [2, 3] (by simp [Tryz.ntmps12] <;> rfl) ?_
  refine aw_seq ?_
  refine aw_seq (aw_region ?_)
  refine awl_go 2 (by simp <;> rfl) ?_
  refine awl_callQ hG c47 Tryz.func26 rfl (by kernel_rfl) (by simp) rfl rfl rfl (by simp <;> rfl) (by simp [i1, i2, i3, i4, i5]) (by simp <;> rfl) ?_
  refine awl_end [2, 3, 6] [2, 3] (by simp <;> rfl) ?_
  refine aw_step [2, 3, 6, 12] [2, 3] (by simp <;> rfl) ?_
  refine aw_cond rfl (fun h1 => ?_) (fun h1 => aw_skip ?_)   -- if t12
  · refine aw_step [4, 5] [] (by simp <;> rfl) ?_
    exact aw_ret (ends_ret (by simp [Tryz.results12] <;> rfl) (by rw [if_pos (by simpa using h1)]))
  have hv0 : ve = 0 := by simpa using h1
  obtain ⟨hi0, hid, hcc⟩ := hvk hv0
  have hik' := hik hi0
  rw [if_neg (by simpa using h1)]
  refine aw_seq ?_
  refine aw_step [2, 3, 16] [2, 3] (by simp <;> rfl) ?_
  refine aw_cond rfl (fun h2 => ?_) (fun h2 => aw_skip ?_)   -- if t16
  · refine aw_step [4, 5] [] (by simp <;> rfl) ?_
    exact aw_ret (ends_ret (by simp [Tryz.results12] <;> rfl) (by rw [if_pos (by simpa using h2)]))
  have hn6 : ¬ it.kind = 6 := by simpa using h2
  rw [if_neg hn6]
  refine aw_seq ?_
  refine aw_step [2, 3, 18] [2, 3] (by simp <;> rfl) ?_
  refine aw_cond rfl (fun h3 => ?_) (fun h3 => aw_skip ?_)   -- if t18
  · refine aw_step [4, 5] [] (by simp <;> rfl) ?_
    exact aw_ret (ends_ret (by simp [Tryz.results12] <;> rfl) (by rw [if_pos (by simpa using h3)]))
  have hom : a.om = false := by simpa using h3
  rw [if_neg (by simpa using h3)]
  refine aw_step [2, 3, 7] [2, 3] (by simp <;> rfl) ?_
  refine aw_seq ?_
  refine aw_step [2, 3, 7, 20] [2, 3] (by simp <;> rfl) ?_
  refine aw_block ?_
  refine aw_step [2, 3, 7, 20, 21] [2, 3] (by simp <;> rfl) ?_
  refine aw_cond rfl (fun h4 => ?_) (fun h4 => ?_)   -- if t21
  · have hk : it.kind = 2 := by simpa using h4
    rw [if_pos hk]
    replace c48 := c48 (hk2 hik'.1 hk)
    refine aw_seq (aw_region ?_)
    refine awl_go 3 (by simp <;> rfl) ?_
    refine awl_call1 c48 Tryz.func27 rfl (by kernel_rfl) rfl rfl rfl (by simp <;> rfl) (by simp [i1, i2, i3, i4, i5]) (by simp <;> rfl) ?_
    refine awl_end [4, 5] [] (by simp <;> rfl) ?_
    exact aw_ret (ends_ret (by simp [Tryz.results12] <;> rfl) (rfl))
  · have hn2 : ¬ it.kind = 2 := by simpa using h4
    rw [if_neg hn2]
    refine aw_step [2, 3, 7, 20, 27] [2, 3] (by simp <;> rfl) ?_
    refine aw_cond rfl (fun h5 => ?_) (fun h5 => ?_)   -- if t27
    · have hk : it.kind = 3 := by simpa using h5
      rw [if_pos hk]
      have hop' := hop hi0
      have hle := hf3 (hcc hom (by omega) (by omega) hn6) hk
      have h32 := hk3 hik'.1 hk
      replace c49 := c49 (by omega) (by omega)
      refine aw_seq (aw_region ?_)
      refine awl_go 3 (by simp <;> rfl) ?_
      refine awl_call1 c49 Tryz.func28 rfl (by kernel_rfl) rfl rfl rfl (by simp <;> rfl) (by simp [i1, i2, i3, i4, i5]) (by simp <;> rfl) ?_
      refine awl_end [4, 5] [] (by simp <;> rfl) ?_
      exact aw_ret (ends_ret (by simp [Tryz.results12] <;> rfl) (rfl))
    · have hn3 : ¬ it.kind = 3 := by simpa using h5
      rw [if_neg hn3]
      refine aw_step [2, 3, 7, 20, 33] [2, 3] (by simp <;> rfl) ?_
      refine aw_cond rfl (fun h6 => ?_) (fun h6 => ?_)   -- if t33
      · have hk : it.kind = 1 := by simpa using h6
        rw [if_pos hk]
        have l1 := hk1 hik'.1 hk
        have l2 := hfc (hcc hom (by omega) (by omega) hn6) hk
        have g1 := q1 (by omega)
        have g2 := q2 (by omega)
        have k1 : 0 < cv.length := by omega
        have k2 : 0 < hv.length := by omega
        refine aw_done [(0, []), (4, []), (1, []), (2, []), (3, []), (5, []), (6, []), (7, []), (8, []), (9, [])] [2, 7] [2] hmixA (by kernel_rfl) (by simp [g1, g2, k1, k2] <;> rfl) ?_
        refine aw_seq ?_
        refine aw_step [2, 68] [2] (by simp <;> rfl) ?_
        refine aw_cond rfl (fun h7 => ?_) (fun h7 => aw_skip ?_)   -- if t68
        · refine aw_step [4, 5] [] (by simp <;> rfl) ?_
          exact aw_ret (ends_ret (by simp [Tryz.results12] <;> rfl) (by rw [if_pos (by simpa using h7)]))
        refine aw_step [4, 5] [] (by simp <;> rfl) ?_
        exact aw_ret (ends_ret (by simp [Tryz.results12] <;> rfl) (by rw [if_neg (by simpa using h7)]))
      · have hn1 : ¬ it.kind = 1 := by simpa using h6
        rw [if_neg hn1]
        refine aw_step [2, 3, 7, 20, 44] [2, 3] (by simp <;> rfl) ?_
        refine aw_cond rfl (fun h8 => ?_) (fun h8 => ?_)   -- if t44
        · have hk : it.kind = 4 := by simpa using h8
          rw [if_pos hk]
          refine aw_one [2, 7] [2] (by simp <;> rfl) ?_
          refine aw_seq ?_
          refine aw_step [2, 68] [2] (by simp <;> rfl) ?_
          refine aw_cond rfl (fun h9 => ?_) (fun h9 => aw_skip ?_)   -- if t68
          · refine aw_step [4, 5] [] (by simp <;> rfl) ?_
            exact aw_ret (ends_ret (by simp [Tryz.results12] <;> rfl) (by unfold maxI; rw [if_pos (by simpa using h9)]))
          refine aw_step [4, 5] [] (by simp <;> rfl) ?_
          exact aw_ret (ends_ret (by simp [Tryz.results12] <;> rfl) (by unfold maxI; rw [if_neg (by simpa using h9)]))
        · have hn4 : ¬ it.kind = 4 := by simpa using h8
          rw [if_neg hn4]
          refine aw_step [2, 3, 7, 60] [2, 3] (by simp <;> rfl) ?_
          refine aw_cond rfl (fun h10 => ?_) (fun h10 => aw_skip ?_)   -- if t60
          · have hk : it.kind = 5 := by simpa using h10
            rw [if_pos hk]
            refine aw_draw [(0, []), (2, []), (1, []), (3, []), (4, []), (5, []), (6, [])] hmixA (by kernel_rfl) ?_
            refine awo_go 4 (by simp <;> rfl) ?_
            refine awo_call (fun hg => c51) Tryz.func30 rfl (by kernel_rfl) rfl rfl (by simp <;> rfl) rfl rfl (by simp <;> rfl) (by simp [i1, i2, i3, i4, i5]) (by simp <;> rfl) ?_
            refine awo_call (fun hg => c50) Tryz.func29 rfl (by kernel_rfl) rfl rfl (by simp <;> rfl) rfl rfl (by simp <;> rfl) (by simp [i1, i2, i3, i4, i5]) (by simp <;> rfl) ?_
            refine awo_end [2, 7] [2] (by simp <;> rfl) ?_
            refine aw_seq ?_
            refine aw_step [2, 68] [2] (by simp <;> rfl) ?_
            refine aw_cond rfl (fun h11 => ?_) (fun h11 => aw_skip ?_)   -- if t68
            · refine aw_step [4, 5] [] (by simp <;> rfl) ?_
              exact aw_ret (ends_ret (by simp [Tryz.results12] <;> rfl) (by rw [if_pos (by simpa using h11)]))
            refine aw_step [4, 5] [] (by simp <;> rfl) ?_
            exact aw_ret (ends_ret (by simp [Tryz.results12] <;> rfl) (by rw [if_neg (by simpa using h11)]))
          have hn5 : ¬ it.kind = 5 := by simpa using h10
          rw [if_neg hn5]
          refine aw_seq ?_
          refine aw_step [2, 68] [2] (by simp <;> rfl) ?_
          refine aw_cond rfl (fun h12 => by simp at h12) (fun h12 => aw_skip ?_)   -- if t68
          refine aw_step [4, 5] [] (by simp <;> rfl) ?_
          exact aw_ret (ends_ret (by simp [Tryz.results12] <;> rfl) (by simp))
end Go.Proofs.YtnklkkagpkcmfaaGreatDoor

namespace Go.Proofs.YtnklkkagpkcmfaaGreatDoor
open Go.RowKit Go.Shelf
attribute [local go_sem] Oper.semAt_some
def uptoF (zs : List Int) (k : Nat) : List Int := (List.range k).map fun j => zs[j]?.getD 0
theorem uptoF_succ (zs : List Int) (k : Nat) : uptoF zs (k + 1) = uptoF zs k ++ [zs[k]?.getD 0] := by simp [uptoF, List.range_succ]
theorem uptoF_len (zs : List Int) (k : Nat) : (uptoF zs k).length = k := by simp [uptoF]
theorem uptoF_all (zs : List Int) : uptoF zs zs.length = zs := by
  apply List.ext_getElem
  · simp [uptoF]
  · intro i h1 h2
    simp [uptoF, h2]
def IntsAt (n₀ : Nat) (W : World) (sv : Value) (zs : List Int) : Prop :=
  ∃ A cap, sv = .slice A zs.length cap ∧ (0 < zs.length → ∃ ad : Addr, A = some ad ∧ ad.block < n₀ ∧ ∀ j, j < zs.length → W.cell? (ad.add j) = some (.int .i64 (zs[j]?.getD 0)))
theorem IntsAt.below {n₀ : Nat} {A B : World} (h : Below n₀ A B) {sv : Value} {zs : List Int} : IntsAt n₀ A sv zs → IntsAt n₀ B sv zs
  | ⟨X, cap, e, hc⟩ => ⟨X, cap, e, fun h0 => by
      obtain ⟨ad, e1, hb, h2⟩ := hc h0
      exact ⟨ad, e1, hb, fun j hj => (h.cell (p := ad.add j) (by rw [Go.Eng.add_block]; exact hb)).trans (h2 j hj)⟩⟩
set_option maxRecDepth 100000 in
set_option maxHeartbeats 2000000 in
theorem values1 (F : Fence) (n : Nat) (h7 : F.fn 104) (hro : F.round = none) (hn : 1 ≤ n) (l n₀ : Nat) (bd : Addr) (sv : Value) (zs : List Int) (hreach : zs.length * 8 ≤ 140737488351232) (J Jx : List Int → World → Prop)
    (hY : ∀ pre x W, J pre W → pre.length < zs.length → YieldAt F (n - 1) Tryz.prog l #[.int .i64 x] W fun e W' =>
      (e = .returned (.bool true) ∧ J (pre ++ [x]) W' ∧ Below n₀ W W') ∨ (e = .returned (.bool false) ∧ Jx (pre ++ [x]) W'))
    (W : World) (hBs : W.cell? bd = some sv) (hI : IntsAt n₀ W sv zs) (h0 : J [] W) :
    CallsIn F n Tryz.prog 104 #[.func (.yield l) #[] #[], .pointer (some bd)] W fun e W' => (∃ v, e = .returned v) ∧
      ((∃ ys, ys = zs ∧ J ys W') ∨ (∃ pre, pre <+: zs ∧ Jx pre W')) := by
  obtain ⟨A, cap, rfl, hc⟩ := hI
  refine callsIn_of_wp Tryz.func104 rfl h7 ?_ hro
  simp only [Tryz.ntmps104, List.size_toArray, List.length_cons, List.length_nil, Nat.reduceAdd, Nat.reduceSub, Array.replicate_succ, Array.replicate_zero, List.push_toArray, List.append_toArray, List.nil_append, List.cons_append]
  gi_wp2
  gi_loopw [7] (fun i wr => ∃ k : Nat, k ≤ zs.length ∧ i = .int .i64 k ∧ J (uptoF zs k) wr ∧ Below n₀ W wr)
    (fun i _ => zs.length - (intOf i).toNat)
  case atStart => exact ⟨0, Nat.zero_le _, rfl, h0, Below.refl _ _⟩
  case round =>
    obtain ⟨k, hk, rfl, hJs, hnx⟩ := hrel
    by_cases hlt : k < zs.length
    · obtain ⟨ad, rfl, hb, hcs⟩ := hc (by omega)
      have hcx' : wr.cell? (ad.add k) = some (.int .i64 (zs[k]?.getD 0)) := (hnx.cell (p := ad.add k) (by rw [Go.Eng.add_block]; exact hb)).trans (hcs k hlt)
      have ex : zs[k]?.getD 0 = zs[k] := by simp [hlt]
      rw [ex] at hcx'
      have hup : uptoF zs (k + 1) = uptoF zs k ++ [zs[k]] := by rw [uptoF_succ, ex]
      obtain ⟨fn, tmps, assign, body, hy, hR⟩ := hY _ zs[k] wr hJs (by rw [uptoF_len]; exact hlt)
      gi_wp2
      refine hR.mono ?_
      rintro e W3 (⟨rfl, hJ3, hk3⟩ | ⟨rfl, hJx3⟩)
      · gi_wp2
        go_roundw
        case rel => exact ⟨k + 1, by omega, by simp, by rw [hup]; exact hJ3, hnx.trans hk3⟩
        case measure => simp [intOf]; omega
      · gi_wp2
        refine bodyPost_ret (results_none rfl _ _ _) rfl ?_
        refine ⟨⟨_, rfl⟩, .inr ⟨uptoF zs (k + 1), ?_, by rw [hup]; exact hJx3⟩⟩
        have : uptoF zs (k + 1) = zs.take (k + 1) := by
          apply List.ext_getElem
          · simp [uptoF]; omega
          · intro i h1 h2
            have : i < zs.length := by simp [uptoF] at h1; omega
            simp [uptoF, this]
        rw [this]; exact List.take_prefix _ _
    · obtain rfl : k = zs.length := by omega
      gi_wp2
      go_end0
      exact ⟨⟨_, rfl⟩, .inl ⟨_, uptoF_all zs, hJs⟩⟩
theorem values_stops (F : Fence) (n : Nat) (h7 : F.fn 104) (hro : F.round = none) (hn : 1 ≤ n) (bd : Addr) (n₀ : Nat) (sv : Value) (zs : List Int) (hreach : zs.length * 8 ≤ 140737488351232) (w : World) (hBs : bd.block < w.heap.size) (hn₀ : n₀ ≤ w.heap.size)
    (hc : w.cell? bd = some sv) (hI : IntsAt n₀ w sv zs) :
    SeqStopsK F n Tryz.prog 104 #[.pointer (some bd)] (fun x : Int => #[Value.int .i64 x]) (Below n₀) (fun ys => ys = zs) (fun pre => pre <+: zs) zs.length w := fun l J Jx W hW _ _ hY h0 =>
  values1 F n h7 hro hn l n₀ bd sv zs hreach J Jx hY W ((hW.cell (p := bd) hBs).trans hc) (hI.below (hW.mono hn₀)) h0
end Go.Proofs.YtnklkkagpkcmfaaGreatDoor

namespace Go.Proofs.YtnklkkagpkcmfaaGreatDoor
open Go.RowKit Go.Shelf Go.Sort
attribute [local go_sem] Oper.semAt_some
theorem info3 : (Tryz.prog.info? 3).map (fun i => (i.zero, i.size, i.bytes)) = some (some (.int .i64 0), 1, 8) := by kernel_rfl
set_option maxRecDepth 100000 in
set_option maxHeartbeats 2000000 in
theorem append_in (F : Fence) (n : Nat) (h3 : F.fn 167) (h5 : F.fn 104) (hro : F.round = none) (hn : 3 ≤ n) (bd : Addr) (sv : Value) (zs : List Int) (hlen : zs.length ≤ maxLen) (hbytes : zs.length * 8 ≤ 140737488351232) (w : World)
    (hbd : bd.block < w.heap.size) (hsv : w.cell? bd = some sv) (hI : IntsAt w.heap.size w sv zs) :
    CallsIn F n Tryz.prog 167 #[.slice none 0 0, .func (.func 104) #[] #[.pointer (some bd)]] w fun e W' => ∃ v, e = .returned v ∧ W'.ownsRow w.heap.size 3 1 v zs.length (zs.map (Value.int .i64)) ∧ Below w.heap.size w W' := by
  have h1 : 1 ≤ n := by omega
  obtain ⟨i0, hi, hz0, hz1, hz2⟩ := info_parts info3
  refine callsIn_of_wp_marks Tryz.func167 rfl h3 ?_ hro
  simp only [Tryz.ntmps167, List.size_toArray, List.length_cons, List.length_nil, Nat.reduceAdd, Nat.reduceSub, Array.replicate_succ, Array.replicate_zero, List.push_toArray, List.append_toArray, List.nil_append, List.cons_append]
  gi_wp2
  have bO := Boxed.new w 22 (.slice none 0 0)
  have hB0 : Below w.heap.size w (w.alloc (.cells #[.slice none 0 0] 22)) := (Below.refl _ w).alloc (Nat.le_refl _) _
  refine wpIn_rangeFunc_ownG hro h1 (gf := 104) (lb := #[.pointer (some bd)]) rfl h5 (enters_of Tryz.func104 (by kernel_rfl) rfl)
    (values_stops F (n - 1) h5 hro (by omega) bd w.heap.size sv zs hbytes _ (by simp; omega) (by simp) ((hB0.cell (p := bd) hbd).trans hsv) (hI.below hB0)) belowK_t (belowK_b (by simp)) (Below.refl _ _) (fun _ => rfl)
    (fun pre W => (∃ v, Boxed W w.heap.size 22 v ∧ W.ownsRow w.heap.size 3 1 v pre.length (pre.map (Value.int .i64)) ∧ True) ∧ Below w.heap.size w W)
    (fun _ _ _ => False)
    (OwnFrom.and (Own.from (holdsRow_own w.heap.size w.heap.size 22 3 1 (fun pre : List Int => pre.length) (fun pre => pre.map (Value.int .i64)) (fun _ _ => True)) _) (ownFrom_below (Nat.le_refl _) (by simp)))
    (fun _ _ _ _ _ hs _ _ => hs)
    ⟨⟨_, bO, World.ownsRow_nil _ _ _ _, trivial⟩, hB0⟩
    (fun x => { tmps := #[.slice none 0 0, (.func (.func 104) #[] #[.pointer (some bd)]), .pointer (some ⟨w.heap.size, 0, none⟩), undef, .slice none 0 0, .int .i64 x, (.func (.func 104) #[] #[.pointer (some bd)]), .int .i64 x, undef, undef, undef, undef, undef], defers := [] }) ?assign ?body ?done ?stop
  case assign =>
    intro l x W K hK
    gi_wp2
    exact hK
  case body =>
    rintro l pre x W ⟨⟨v, hv, hrow, _⟩, hB⟩ hlt
    have hc := hv.cell
    gi_wp2_with (gi_at_builtin; refine wpListIn_append_own _ rfl _ _ 22 rfl w.heap.size 3 i0 (.int .i64 0) 1 8 Tryz.underlying22 hi hz0 hz1 hz2 rfl (by decide) _ _ _ rfl (hrow.alloc _) ⟨W.heap.size, 0, none⟩ 1 1 [.int .i64 x] rfl rfl (cell_one_new _ _ _) (by simp [Value.oneCell']) (by omega) (by omega) (by have := hB.size; simp; omega) ?_; intro v' w1 hown' hgrow _; obtain ⟨g', cap', rfl⟩ := ownsRow_succ hown'; obtain ⟨hv1, hv2, hr2, hk2, hb2⟩ := hv.appended (by decide) hrow hB.size (Nat.le_refl _) hown' hgrow; have hc1 := hv1.cell; have hf1 := hv1.frozen)
    exact ⟨hk2.from _, hb2, ⟨_, hv2, by simpa using hr2, trivial⟩, hB.trans hb2⟩
  case done =>
    rintro D ys W hD rfl ⟨⟨v, hv, hrow, _⟩, hB⟩ hK
    have hc := hv.cell
    gi_wp2
    refine ⟨by simp, .inl ⟨_, _, rfl, run_takeDeferred hK, ?_⟩⟩
    exact ⟨_, results_tmp rfl _ _ _, v, rfl, ownsRow_putObj hrow _ hK rfl, hB.trans (belowK_b (w := w) (Nat.le_refl _) W D _ _ (by simp at hD; omega) hK rfl rfl)⟩
  case stop =>
    rintro D c pre W _ _ h _
    exact h.elim
set_option maxHeartbeats 1000000 in
theorem collect_in (F : Fence) (n : Nat) (h1 : F.fn 103) (h3 : F.fn 167) (h5 : F.fn 104) (hro : F.round = none) (hn : 4 ≤ n) (bd : Addr) (sv : Value) (zs : List Int) (hlen : zs.length ≤ maxLen) (hbytes : zs.length * 8 ≤ 140737488351232) (w : World)
    (hbd : bd.block < w.heap.size) (hsv : w.cell? bd = some sv) (hI : IntsAt w.heap.size w sv zs) :
    CallsIn F n Tryz.prog 103 #[.func (.func 104) #[] #[.pointer (some bd)]] w fun e W' => ∃ v, e = .returned v ∧ W'.ownsRow w.heap.size 3 1 v zs.length (zs.map (Value.int .i64)) ∧ Below w.heap.size w W' := by
  have hn1 : 1 ≤ n := by omega
  have cA := append_in F (n - 1) h3 h5 hro (by omega) bd sv zs hlen hbytes w hbd hsv hI
  refine callsIn_of_wp Tryz.func103 rfl h1 ?_ hro
  simp only [Tryz.ntmps103, List.size_toArray, List.length_cons, List.length_nil, Nat.reduceAdd, Nat.reduceSub, Array.replicate_succ, Array.replicate_zero, List.push_toArray, List.append_toArray, List.nil_append, List.cons_append]
  gi_wp2_with (gi_at_call 167; refine cA.mono ?_; rintro e w' ⟨v, rfl, hrow, hb⟩)
  go_ret
  exact ⟨v, rfl, hrow, hb⟩
set_option maxHeartbeats 1000000 in
theorem sorted_in (bd : Addr) (sv : Value) (zs : List Int) (hlen : zs.length ≤ maxLen) (hbytes : zs.length * 8 ≤ 140737488351232) (w : World)
    (hbd : bd.block < w.heap.size) (hsv : w.cell? bd = some sv) (hI : IntsAt w.heap.size w sv zs) :
    Calls Tryz.prog 71 #[.func (.func 104) #[] #[.pointer (some bd)]] w fun e W' => ∃ v, e = .returned v ∧ W'.ownsRow w.heap.size 3 1 v zs.length ((sortI zs).map (Value.int .i64)) ∧ Below w.heap.size w W' := by
  refine (callsIn_wide (n := 6)).1 ?_
  have cC := collect_in Fence.wide 5 trivial trivial trivial rfl (by omega) bd sv zs hlen hbytes w hbd hsv hI
  have hf1 : Fence.wide.fn 103 := trivial
  have hf2 : Fence.wide.fn 79 := trivial
  refine callsIn_of_wp Tryz.func71 rfl trivial ?_ rfl
  simp only [Tryz.ntmps71, List.size_toArray, List.length_cons, List.length_nil, Nat.reduceAdd, Nat.reduceSub, Array.replicate_succ, Array.replicate_zero, List.push_toArray, List.append_toArray, List.nil_append, List.cons_append]
  gi_wp2_with (gi_at_call 103; refine cC.mono ?_; rintro e W ⟨v, rfl, hrow, hb⟩)
  rcases hrow.2 with ⟨rfl, hz⟩ | ⟨gb, cap, cur, rfl, hbase, hgb, r1, r2, r3, r4⟩
  · have hss : zs = [] := List.eq_nil_of_length_eq_zero hz
    subst hss
    have cS : CallsIn Fence.wide 5 Tryz.prog 79 #[.slice none 0 0] W fun e w' => e = .returned (.tuple #[]) ∧ w' = W := callsIn_wide.2 (sort_int_none none 0 W)
    gi_wp2_with (gi_at_call 79; refine cS.mono ?_; rintro e w' ⟨rfl, rfl⟩)
    go_ret
    exact ⟨.slice none 0 0, rfl, by simpa [sortI] using hrow, hb⟩
  · have hH : Holds (Value.int .i64) W gb 0 zs.toArray := holds_of_block_i hgb (by simpa using r4)
    have hgl : gb < W.heap.size := (Array.getElem?_eq_some_iff.1 hgb).1
    have cS : CallsIn Fence.wide 5 Tryz.prog 79 #[.slice (some ⟨gb, 0, none⟩) zs.length cap] W fun e w' => e = .returned (.tuple #[]) ∧ ∃ n os, w' = grow (putRow (Value.int .i64) (Sort.ahead W n) gb 0 (zs.mergeSort fun x y => decide (x ≤ y)).toArray) os :=
      callsIn_wide.2 (Tryz.slices_Sort_int gb 0 cap zs W hH hgl (by omega))
    gi_wp2_with (gi_at_call 79; refine cS.mono ?_; rintro e w' ⟨rfl, nn, os, rfl⟩)
    go_ret
    exact ⟨_, rfl, ownsRow_sorted_i (by simp) hbase hgb r1 r2 r3, hb.grown (grownBy_sorted_i _) hb.size (fun j hj => by cases hj; exact hbase)⟩
end Go.Proofs.YtnklkkagpkcmfaaGreatDoor

namespace Go.Proofs.YtnklkkagpkcmfaaGreatDoor
open Go.Eng Go.Eng.Limb Go.RowKit
theorem ownsRow_pur {w : World} {base : Nat} {N : Nat → Prop} {v : Value} {zs : List Int} (hN : ∀ b, base ≤ b → ¬ N b) (h : w.ownsRow base 3 1 v zs.length (zs.map (Value.int .i64))) : Pur w N v (.ro 1 (ints zs)) := by
  rcases h.2 with ⟨rfl, hz⟩ | ⟨g, cap, cur, rfl, hbase, hgb, r1, r2, r3, r4⟩
  · have : zs = [] := List.eq_nil_of_length_eq_zero hz
    subst this
    exact (Pur.nils none).nils_ro 1
  · have hlt := (Array.getElem?_eq_some_iff.1 hgb).1
    have hcell : ∀ k, k < zs.length → w.cell? ((⟨g, 0, none⟩ : Addr).add k) = some (.int .i64 (zs.getD k 0)) := fun k hk => by
      have h1 : cur[k]? = some (.int .i64 (zs.getD k 0)) := by
        have h2 : (cur.toList.take (zs.length * 1))[k]? = (zs.map (Value.int .i64))[k]? := by rw [r4]
        rw [List.getElem?_take, if_pos (by omega), List.getElem?_map, List.getElem?_eq_getElem hk] at h2
        rw [List.getD_eq_getElem?_getD, List.getElem?_eq_getElem hk]
        simpa using h2
      unfold Addr.add
      split
      · rename_i h0
        subst h0
        simp [World.cell?, hgb, h1]
      · simp [World.cell?, hgb, h1]
    refine .ro (some ⟨g, 0, none⟩) ⟨g, 0, none⟩ zs.length cap 1 (ints zs) (fun k _ => .int .i64 (zs.getD k 0)) (ints_len zs) r1 r2 (fun _ => ⟨rfl, hlt, hN g hbase⟩) (ints_fits zs) (fun k e j c he hj => ?_) (fun k e j c he hj => ?_)
    all_goals
      simp only [ints, List.getElem?_map, Option.map_eq_some_iff] at he
      obtain ⟨z, hz, rfl⟩ := he
      have hk : k < zs.length := (List.getElem?_eq_some_iff.1 hz).1
      have hj0 : j = 0 := by
        rcases j with _ | j
        · rfl
        · simp [V.cells] at hj
      subst hj0
      simp only [V.cells, List.getElem?_cons_zero, Option.some.injEq] at hj
      subst hj
      have hzz : zs.getD k 0 = z := by rw [List.getD_eq_getElem?_getD, hz]; rfl
    · rw [Nat.mul_one, Nat.add_zero]; exact hcell k hk
    · rw [hzz]; exact .int _ _
theorem sortedC : SortedC := by
  intro l hl w N xs hN hlen hx
  obtain ⟨x0, rfl⟩ : ∃ x0, xs = [x0] := by
    match xs, hlen with
    | [x0], _ => exact ⟨x0, rfl⟩
  have h0 := hx 0 x0 _ rfl rfl
  cases h0 with
  | fc f us ys us' vs' hl1 hl2 h k =>
    have hus : us = [] := List.eq_nil_of_length_eq_zero hl1
    subst hus
    obtain ⟨y, rfl⟩ : ∃ y, ys = [y] := by
      match ys, hl2 with
      | [y], _ => exact ⟨y, rfl⟩
    have hy := k 0 y _ rfl rfl
    cases hy with
    | rp ad sz e g hb hN' hf hc h =>
      have hc0 := hc 0 _ rfl
      rw [show ad.add 0 = ad from by unfold Addr.add; rw [if_pos rfl]] at hc0
      have hp := h 0 (.ro 1 (ints l)) rfl
      generalize g 0 = sv at hc0 hp
      have hI : IntsAt w.heap.size w sv l := by
        cases hp with
        | ro A ad2 n cap sz2 es g2 hn hcap hmax hA hf2 hc2 h2 =>
          rw [ints_len] at hn
          subst hn
          refine ⟨A, cap, rfl, fun hpos => ?_⟩
          obtain ⟨a1, a2, a3⟩ := hA hpos
          refine ⟨ad2, a1, a2, fun j hj => ?_⟩
          have he : (ints l)[j]? = some (V.int .i64 l[j]) := by simp [ints, hj]
          have h3 := hc2 j _ 0 (V.int .i64 l[j]) he rfl
          have h4 := h2 j _ 0 (V.int .i64 l[j]) he rfl
          rw [Nat.mul_one, Nat.add_zero] at h3
          rw [h3]
          generalize g2 j 0 = gv at h4
          cases h4
          simp [hj]
      refine (sorted_in ad sv l (Nat.le_trans hl (by decide)) (by omega) w hb hc0 hI).mono ?_
      rintro e w' ⟨v, rfl, hrow, hbl⟩
      refine ⟨v, _, rfl, rfl, ?_, hbl⟩
      have hsl := sortI_len l
      rw [← hsl] at hrow
      exact ownsRow_pur (fun b hb hNb => Nat.lt_irrefl _ (Nat.lt_of_lt_of_le (hN b hNb) hb)) hrow
end Go.Proofs.YtnklkkagpkcmfaaGreatDoor
