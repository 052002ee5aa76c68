import Derived.Test.YtmkbhognijicjaaGreatDoorGF
import Derived.WalkKit
import Derived.LaidEql
import Derived.Stop.Asserts
import Derived.RowKitTokens
import Derived.Test.YtmkbhognijicjaaGreatDoorE8
/- Joins: errors.As at a *broken target, after the kit's worked proof of errors.As. No condition. -/
set_option linter.unusedSimpArgs false
set_option maxRecDepth 4000
namespace Go.Proofs.YtmkbhognijicjaaGreatDoor
open Go.RowKit Go.Extern.Stop Go.Stop Go.Extern

theorem as_nil (t : Value) (w : World) : Calls Tryz.prog 48 #[.nilIface, t] w fun e w' => e = .returned (.bool false) ∧ w' = w := by
  go_enter Tryz.func48, Tryz.ntmps48
  go_wp2
  go_ret
  exact ⟨rfl, rfl⟩

theorem valueOf66 (t : Addr) (w : World) : (ReflectliteValue.unpack (.iface 76 (.pointer (some t)))).run Tryz.prog w
    = .ok (.agg #[.pointer (some ⟨1, 76, none⟩), .pointer (some ⟨w.heap.size, 0, none⟩), .int .u64 150]) (w.alloc (.cells #[.pointer (some t)] 76)) := by kernel_rfl
theorem type66 (a : Addr) (w : World) : (ReflectliteValue.methodAny (ReflectliteValue.valueError "reflectlite.Value.Type" 0) (fun t _ _ _ => ReflectliteType.toType t) #[.agg #[.pointer (some ⟨1, 76, none⟩), .pointer (some a), .int .u64 150]]).run Tryz.prog w
    = .ok (.iface 118 (.agg #[.pointer (some ⟨1, 76, none⟩)])) w := by kernel_rfl
theorem methodKind (h : Value) (w : World) : (Go.method 272 118 (.agg #[h]) "Kind").run Tryz.prog w = .ok (114, h) w := by kernel_rfl
theorem kind66 (w : World) : ((ReflectliteType.abiMethod fun t => (fun a : Nat => Value.int IntKind.u8 (a : Int)) <$> Rtype.kind t) #[.pointer (some ⟨1, 76, none⟩)]).run Tryz.prog w = .ok (.int .u8 22) w := by kernel_rfl
theorem kind64 (w : World) : ((ReflectliteType.abiMethod fun t => (fun a : Nat => Value.int IntKind.u8 (a : Int)) <$> Rtype.kind t) #[.pointer (some ⟨1, 74, none⟩)]).run Tryz.prog w = .ok (.int .u8 25) w := by kernel_rfl
theorem rlm (z : Sem Value) (f : TypeId → Addr → Nat → Nat → Sem Value) (v : Value) :
    ReflectliteValue.method z f #[v] = (do match ← ReflectliteValue.parts v with | none => z | some (t, a, fl) => f t a fl (fl % 32)) := rfl
theorem parts66 (a : Addr) (w : World) : (ReflectliteValue.parts (.agg #[.pointer (some ⟨1, 76, none⟩), .pointer (some a), .int .u64 150])).run Tryz.prog w = .ok (some (76, a, 150)) w := by kernel_rfl
theorem isNil66 (a p : Addr) (W : World) (ha : W.cell? a = some (.pointer (some p))) :
    (ReflectliteValue.method (ReflectliteValue.valueError "reflectlite.Value.IsNil" 0) ReflectliteValue.isNil #[.agg #[.pointer (some ⟨1, 76, none⟩), .pointer (some a), .int .u64 150]]).run Tryz.prog W = .ok (.bool false) W := by
  rw [rlm]
  simp only [Sem.run_bind, parts66, Result.andThen]
  simp [ReflectliteValue.isNil, loadVar, isAgg, underlying, Tryz.underlying76, ha, Result.andThen]
theorem methodElem (h : Value) (w : World) : (Go.method 272 118 (.agg #[h]) "Elem").run Tryz.prog w = .ok (124, .agg #[h]) w := by kernel_rfl
theorem methodImplements (h : Value) (w : World) : (Go.method 272 118 (.agg #[h]) "Implements").run Tryz.prog w = .ok (125, .agg #[h]) w := by kernel_rfl
theorem methodAssignableTo (h : Value) (w : World) : (Go.method 272 118 (.agg #[h]) "AssignableTo").run Tryz.prog w = .ok (122, .agg #[h]) w := by kernel_rfl
theorem elem66 (w : World) : (ReflectliteType.method ReflectliteType.elem #[.agg #[.pointer (some ⟨1, 76, none⟩)]]).run Tryz.prog w = .ok (.iface 118 (.agg #[.pointer (some ⟨1, 74, none⟩)])) w := by kernel_rfl
theorem implements64 (w : World) : (ReflectliteType.relation "Implements" ReflectliteType.implements_ #[.agg #[.pointer (some ⟨1, 74, none⟩)], .iface 118 (.agg #[.pointer (some ⟨1, 70, none⟩)])]).run Tryz.prog w = .ok (.bool true) w := by kernel_rfl
theorem typeOf64 (v : Value) (w : World) : (ReflectliteType.typeOf #[.iface 74 v]).run Tryz.prog w = .ok (.iface 118 (.agg #[.pointer (some ⟨1, 74, none⟩)])) w := by kernel_rfl
theorem assignable64 (w : World) : (ReflectliteType.relation "AssignableTo" ReflectliteType.assignableTo #[.agg #[.pointer (some ⟨1, 74, none⟩)], .iface 118 (.agg #[.pointer (some ⟨1, 74, none⟩)])]).run Tryz.prog w = .ok (.bool true) w := by kernel_rfl
theorem valueOf64 (k : Value) (w : World) : (ReflectliteValue.unpack (.iface 74 (.agg #[k]))).run Tryz.prog w
    = .ok (.agg #[.pointer (some ⟨1, 74, none⟩), .pointer (some ⟨w.heap.size, 0, none⟩), .int .u64 153]) (w.alloc (.cells #[k] 74)) := by kernel_rfl
theorem elemOf66 (w : World) : (Rtype.elem? 76).run Tryz.prog w = .ok (some 74) w := by kernel_rfl
theorem mk64 (p : Addr) (w : World) : (ReflectliteValue.mk 74 p ReflectliteValue.flagAddr).run Tryz.prog w = .ok (.agg #[.pointer (some ⟨1, 74, none⟩), .pointer (some p), .int .u64 409]) w := by kernel_rfl
theorem elemV66 (a p : Addr) (W : World) (ha : W.cell? a = some (.pointer (some p))) :
    (ReflectliteValue.method (ReflectliteValue.valueError "reflectlite.Value.Elem" 0) ReflectliteValue.elem #[.agg #[.pointer (some ⟨1, 76, none⟩), .pointer (some a), .int .u64 150]]).run Tryz.prog W
      = .ok (.agg #[.pointer (some ⟨1, 74, none⟩), .pointer (some p), .int .u64 409]) W := by
  rw [rlm]
  simp only [Sem.run_bind, parts66, Result.andThen]
  simp [ReflectliteValue.elem, loadVar, isAgg, underlying, Tryz.underlying76, ha, Result.andThen, elemOf66, mk64]
theorem rls (v x : Value) : ReflectliteValue.set #[v, x] = (do
    let (some (dst, a, fl), some (src, b, _)) := (← ReflectliteValue.parts v, ← ReflectliteValue.parts x)
      | unsupported (.noEntry "extern/(internal/reflectlite.Value).Set.zeroValue")
    if fl / ReflectliteValue.flagAddr % 2 == 0 then unsupported (.noEntry "extern/(internal/reflectlite.Value).Set.unaddressable")
    let val ← loadVar src b
    if ← Rtype.directlyAssignable dst src then storeVar dst a val
    else if ← Rtype.implements dst src then
      if (← Rtype.kind src) == 20 then
        match val with
        | .nilIface => unsupported (.noEntry "extern/reflectlite: a nil value of one interface type handed on as a value of another")
        | _ => storeVar dst a val
      else storeVar dst a (.iface src val)
    else panicString ("reflectlite.Set: value of type " ++ (← Rtype.spelt src) ++ " is not assignable to type " ++ (← Rtype.spelt dst))
    pure (.tuple #[])) := rfl
theorem parts64a (a : Addr) (w : World) : (ReflectliteValue.parts (.agg #[.pointer (some ⟨1, 74, none⟩), .pointer (some a), .int .u64 409])).run Tryz.prog w = .ok (some (74, a, 409)) w := by kernel_rfl
theorem parts64 (a : Addr) (w : World) : (ReflectliteValue.parts (.agg #[.pointer (some ⟨1, 74, none⟩), .pointer (some a), .int .u64 153])).run Tryz.prog w = .ok (some (74, a, 153)) w := by kernel_rfl
theorem direct64 (w : World) : (Rtype.directlyAssignable 74 74).run Tryz.prog w = .ok true w := by kernel_rfl
theorem size64 (w : World) : (sizeOf 74).run Tryz.prog w = .ok 1 w := by kernel_rfl
theorem load64 (b : Addr) (e : Value) (W : World) (hb : W.cell? b = some e) : (loadVar 74 b).run Tryz.prog W = .ok (.agg #[e]) W := by
  simp [loadVar, isAgg, underlying, Tryz.underlying74, Result.andThen, size64, loadCells, loadCellsFrom, Addr.add, hb]
theorem store64 (ta : Addr) (k : Int) (old : Value) (W : World) (ht : W.cell? ta = some old) (hf : W.frozen? ta = false) : (storeVar 74 ta (.agg #[.int .i64 k])).run Tryz.prog W = .ok () (W.setCell ta (.int .i64 k)) := by
  simp only [storeVar, Value.cells, Sem.run_bind, size64, Result.andThen]
  simp [storeCells, Addr.add]
  rw [run_store Tryz.prog W ta _ _ (by rfl)]
  simp [ht, hf]
theorem set64 (ta b : Addr) (k : Int) (old : Value) (W : World) (hb : W.cell? b = some (.int .i64 k)) (ht : W.cell? ta = some old) (hf : W.frozen? ta = false) :
    (ReflectliteValue.set #[.agg #[.pointer (some ⟨1, 74, none⟩), .pointer (some ta), .int .u64 409], .agg #[.pointer (some ⟨1, 74, none⟩), .pointer (some b), .int .u64 153]]).run Tryz.prog W
      = .ok (.tuple #[]) (W.setCell ta (.int .i64 k)) := by
  rw [rls]
  simp only [Sem.run_bind, parts64a, parts64, Result.andThen]
  simp [ReflectliteValue.flagAddr, load64 b (.int .i64 k) W hb, Result.andThen, direct64, store64 ta k old W ht hf]
end Go.Proofs.YtmkbhognijicjaaGreatDoor

/- Joins: errors.As, the hit. No condition. -/
set_option linter.unusedSimpArgs false
set_option maxRecDepth 4000
namespace Go.Proofs.YtmkbhognijicjaaGreatDoor
open Go.RowKit Go.Extern.Stop Go.Stop Go.Extern
set_option maxHeartbeats 4000000 in
theorem as_hit (k : Int) (t : Addr) (old : Value) (w : World) (hg : w.cell? ⟨0, 0, none⟩ = some (.iface 118 (.agg #[.pointer (some ⟨1, 70, none⟩)]))) (ht0 : w.cell? t = some old) (hf0 : w.frozen? t = false) :
    Calls Tryz.prog 48 #[.iface 74 (.agg #[.int .i64 k]), .iface 76 (.pointer (some t))] w fun ev w' => ev = .returned (.bool true) ∧ w' = ((((w.alloc (.cells #[.pointer (some t)] 76)).alloc (.cells #[.pointer (some ⟨1, 76, none⟩), .pointer (some ⟨w.heap.size, 0, none⟩), .int .u64 150] 96)).alloc (.cells #[.pointer (some ⟨1, 76, none⟩), .pointer (some ⟨w.heap.size, 0, none⟩), .int .u64 150] 96)).alloc (.cells #[.int .i64 k] 74)).setCell t (.int .i64 k) := by
  have h6 := @run_callFunc_extern Tryz.prog 72 _ (fun args => ReflectliteValue.unpack (args.getD 0 (.tuple #[]))) Tryz.func72 (by kernel_rfl) (by kernel_rfl) (by kernel_rfl) (by kernel_rfl)
  have h7 := @run_callFunc_extern Tryz.prog 73 _ (ReflectliteValue.methodAny (ReflectliteValue.valueError "reflectlite.Value.Type" 0) (fun t _ _ _ => ReflectliteType.toType t)) Tryz.func73 (by kernel_rfl) (by kernel_rfl) (by kernel_rfl) (by kernel_rfl)
  have h8 := @run_callFunc_extern Tryz.prog 74 _ (ReflectliteValue.method (ReflectliteValue.valueError "reflectlite.Value.IsNil" 0) ReflectliteValue.isNil) Tryz.func74 (by kernel_rfl) (by kernel_rfl) (by kernel_rfl) (by kernel_rfl)
  have h27 := @run_callFunc_extern Tryz.prog 114 _ (ReflectliteType.abiMethod fun t => do pure (.int .u8 (← Rtype.kind t))) Tryz.func114 (by kernel_rfl) (by kernel_rfl) (by kernel_rfl) (by kernel_rfl)
  have h37 := @run_callFunc_extern Tryz.prog 124 _ (ReflectliteType.method ReflectliteType.elem) Tryz.func124 (by kernel_rfl) (by kernel_rfl) (by kernel_rfl) (by kernel_rfl)
  have h38 := @run_callFunc_extern Tryz.prog 125 _ (ReflectliteType.relation "Implements" ReflectliteType.implements_) Tryz.func125 (by kernel_rfl) (by kernel_rfl) (by kernel_rfl) (by kernel_rfl)
  have h10 := @run_callFunc_extern Tryz.prog 87 _ ReflectliteType.typeOf Tryz.func87 (by kernel_rfl) (by kernel_rfl) (by kernel_rfl) (by kernel_rfl)
  have h35 := @run_callFunc_extern Tryz.prog 122 _ (ReflectliteType.relation "AssignableTo" ReflectliteType.assignableTo) Tryz.func122 (by kernel_rfl) (by kernel_rfl) (by kernel_rfl) (by kernel_rfl)
  have h11 := @run_callFunc_extern Tryz.prog 88 _ (ReflectliteValue.method (ReflectliteValue.valueError "reflectlite.Value.Elem" 0) ReflectliteValue.elem) Tryz.func88 (by kernel_rfl) (by kernel_rfl) (by kernel_rfl) (by kernel_rfl)
  have h12 := @run_callFunc_extern Tryz.prog 89 _ ReflectliteValue.set Tryz.func89 (by kernel_rfl) (by kernel_rfl) (by kernel_rfl) (by kernel_rfl)
  have tO := typeOf64
  have mA := methodAssignableTo
  have a25 := assignable64
  have v25 := valueOf64
  have f6 := valueOf66
  have f7 := type66
  have mK := methodKind
  have mE := methodElem
  have mI := methodImplements
  have k27 := kind66
  have k25 := kind64
  have e27 := elem66
  have i25 := implements64
  have n8 := isNil66 ⟨w.heap.size, 0, none⟩ t ((w.alloc (.cells #[.pointer (some t)] 76)).alloc (.cells #[.pointer (some ⟨1, 76, none⟩), .pointer (some ⟨w.heap.size, 0, none⟩), .int .u64 150] 96)) (by simp)
  have hlt : 0 < w.heap.size := by
    rcases Nat.eq_zero_or_pos w.heap.size with h0 | h
    · simp [World.cell?, h0] at hg
    · exact h
  have hg2 : ((w.alloc (.cells #[.pointer (some t)] 76)).alloc (.cells #[.pointer (some ⟨1, 76, none⟩), .pointer (some ⟨w.heap.size, 0, none⟩), .int .u64 150] 96)).cell? ⟨0, 0, none⟩ = some (.iface 118 (.agg #[.pointer (some ⟨1, 70, none⟩)])) := by
    rw [World.cell?_alloc_lt _ _ ⟨0, 0, none⟩ (by simp), World.cell?_alloc_lt _ _ ⟨0, 0, none⟩ hlt]; exact hg
  have htl : t.block < w.heap.size := by
    rcases Nat.lt_or_ge t.block w.heap.size with h | h
    · exact h
    · simp [World.cell?, Array.getElem?_eq_none h] at ht0
  have el := elemV66 ⟨w.heap.size, 0, none⟩ t (((w.alloc (.cells #[.pointer (some t)] 76)).alloc (.cells #[.pointer (some ⟨1, 76, none⟩), .pointer (some ⟨w.heap.size, 0, none⟩), .int .u64 150] 96)).alloc (.cells #[.pointer (some ⟨1, 76, none⟩), .pointer (some ⟨w.heap.size, 0, none⟩), .int .u64 150] 96)) (by rw [World.cell?_alloc_lt _ _ ⟨w.heap.size, 0, none⟩ (by simp; try omega)]; simp)
  have st := set64 t ⟨w.heap.size + 1 + 1 + 1, 0, none⟩ k old ((((w.alloc (.cells #[.pointer (some t)] 76)).alloc (.cells #[.pointer (some ⟨1, 76, none⟩), .pointer (some ⟨w.heap.size, 0, none⟩), .int .u64 150] 96)).alloc (.cells #[.pointer (some ⟨1, 76, none⟩), .pointer (some ⟨w.heap.size, 0, none⟩), .int .u64 150] 96)).alloc (.cells #[.int .i64 k] 74))
    (by rw [World.cell?_alloc_at _ _ _ _ (by simp)]; rfl)
    (by rw [World.cell?_alloc_lt _ _ t (by simp; omega), World.cell?_alloc_lt _ _ t (by simp; omega), World.cell?_alloc_lt _ _ t (by simp; omega), World.cell?_alloc_lt _ _ t htl]; exact ht0)
    (by rw [World.frozen?_alloc_old _ _ t (by simp; omega), World.frozen?_alloc_old _ _ t (by simp; omega), World.frozen?_alloc_old _ _ t (by simp; omega), World.frozen?_alloc_old _ _ t (Nat.ne_of_lt htl)]; exact hf0)
  go_enter Tryz.func48, Tryz.ntmps48
  go_wp2
  refine wp_loop_rounds 1 ?_
  rw [rounds_succ]
  go_wp2
  go_ret
  exact ⟨rfl, rfl⟩
end Go.Proofs.YtmkbhognijicjaaGreatDoor

/- Joins: errors.As as contracts over own objects. No condition. -/
set_option linter.unusedSimpArgs false
set_option maxRecDepth 4000
namespace Go.Proofs.YtmkbhognijicjaaGreatDoor
open Go.Eng Go.RowKit

/-- What errors.errorType reads as. -/
abbrev errT : Value := .iface 118 (.agg #[.pointer (some ⟨1, 70, none⟩)])
abbrev Gt := Glb 0 errT

theorem two {xs : List Value} (h : xs.length = 2) : ∃ a b, xs = [a, b] := by
  match xs, h with
  | [a, b], _ => exact ⟨a, b, rfl⟩

theorem as_nil_acs (t : V) : ACSG 0 errT Tryz.prog 48 [.nili, t] [] (fun r q => r = .bool false ∧ q = []) := by
  intro B N μ nx xs hG hlen hdf hrel
  obtain ⟨x0, x1, rfl⟩ := two hlen
  obtain ⟨_, h0⟩ := hrel.env 0 .nili (by simp [env0, Eng.get])
  have h1 : x0 = .nilIface := by
    simp at h0
    cases h0 with
    | pur h0 => cases h0; rfl
  rw [h1]
  refine (as_nil x1 B.w).mono ?_
  rintro e w' ⟨rfl, rfl⟩
  refine ⟨_, _, [], nx, μ, rfl, ⟨rfl, rfl⟩, Nat.le_refl _, ⟨hdf.symm ▸ rfl, rfl, hrel.below, hrel.n0, hrel.fresh, fun d o hd => by simp [Eng.get] at hd, fun d o _ _ _ _ _ hd => by simp [Eng.get] at hd, fun t v hv => ?_⟩⟩
  simp only [Eng.get] at hv
  split at hv
  · rename_i ht
    subst ht
    injection hv with hv
    subst hv
    exact ⟨by show (0 : Nat) < 1; omega, .pur (.bool _)⟩
  · cases hv

theorem as_hit_acs (d v : Nat) (j k : Int) : ACSG 0 errT Tryz.prog 48 [.ifc 74 (.agg [.int .i64 k]), .ifc 76 (.bp d v 1 0 0)] [(d, ⟨v, 1, 74, [.agg [.int .i64 j]]⟩)] (fun r q => r = .bool true ∧ q = [(d, ⟨v, 1, 74, [.agg [.int .i64 k]]⟩)]) := by
  intro B N μ nx xs hG hlen hdf hrel
  obtain ⟨x0, x1, rfl⟩ := two hlen
  obtain ⟨_, h0⟩ := hrel.env 0 (.ifc 74 (.agg [.int .i64 k])) (by simp [env0, Eng.get])
  obtain ⟨_, h1⟩ := hrel.env 1 (.ifc 76 (.bp d v 1 0 0)) (by simp [env0, Eng.get])
  simp at h0 h1
  have e0 : x0 = .iface 74 (.agg #[.int .i64 k]) := by
    cases h0 with
    | pur h0 => cases h0 with
      | ifc _ y _ _ hy => cases hy with
        | agg ys cs hl hc hh =>
          match ys, hl with
          | [y0], _ =>
            have := hh 0 y0 _ rfl rfl
            cases this
            rfl
    | ifc _ y _ hc _ => simp [V.isCell] at hc
  obtain ⟨g, cap, hm, e1⟩ : ∃ g cap, μ d v = some (some (g, cap)) ∧ x1 = .iface 76 (.pointer (some ⟨g, 0, none⟩)) := by
    cases h1 with
    | pur h1 => cases h1 with
      | ifc _ y _ hf hy => cases hy
    | ifc _ y _ hc hy => cases hy with
      | pur hy => cases hy
      | bp _ _ _ _ _ g cap hm => exact ⟨g, cap, hm, by simp⟩
  obtain ⟨l, hl, hob⟩ := hrel.objs d ⟨v, 1, 74, [.agg [.int .i64 j]]⟩ (by simp [Eng.get])
  rw [hm] at hl
  injection hl with hl
  subst hl
  obtain ⟨o1, o2, o3, o4, arr, o5, o6, o7⟩ := hob
  obtain ⟨old, hold, _⟩ := o7 0 (.agg [.int .i64 j]) 0 (.int .i64 j) rfl rfl
  have hcell : B.w.cell? ⟨g, 0, none⟩ = some old := by
    simp only [Nat.zero_mul, Nat.zero_add] at hold
    simp [World.cell?, o5, hold]
  have hfz : B.w.frozen? ⟨g, 0, none⟩ = false := by simp [World.frozen?, o5]
  rw [e0, e1]
  refine (as_hit k ⟨g, 0, none⟩ old B.w hG.cell hcell hfz).mono ?_
  rintro e w' ⟨rfl, hw'⟩
  generalize hW : (((B.w.alloc (.cells #[.pointer (some ⟨g, 0, none⟩)] 76)).alloc (.cells #[.pointer (some ⟨1, 76, none⟩), .pointer (some ⟨B.w.heap.size, 0, none⟩), .int .u64 150] 96)).alloc (.cells #[.pointer (some ⟨1, 76, none⟩), .pointer (some ⟨B.w.heap.size, 0, none⟩), .int .u64 150] 96)).alloc (.cells #[.int .i64 k] 74) = W at hw'
  have hBel : Below B.w.heap.size B.w W := by
    subst hW
    exact ((((Below.refl _ _).alloc (Nat.le_refl _) _).alloc (by simp) _).alloc (by simp; omega) _).alloc (by simp; omega) _
  have hr2 := hrel.later hBel
  have hgl : g < B.w.heap.size := hrel.block_lt (d := d) (o := ⟨v, 1, 74, [.agg [.int .i64 j]]⟩) (by simp [Eng.get]) hm
  have hcell2 : W.cell? ⟨g, 0, none⟩ = some old := by
    unfold World.cell? at hcell ⊢
    rw [hBel.block g hgl]
    exact hcell
  have hfz2 : W.frozen? ⟨g, 0, none⟩ = false := by
    unfold World.frozen? at hfz ⊢
    rw [hBel.block g hgl]
    exact hfz
  obtain ⟨w2, hst, hr3⟩ := eff_store (P := Tryz.prog) hr2 (t := 74) (d := d) (v := v) (k := 0) (off := 0) (n := 1) (x := .pointer (some ⟨g, 0, none⟩)) (y := .agg #[.int .i64 k]) (u := .agg [.int .i64 k]) (e := .agg [.int .i64 j]) (o := ⟨v, 1, 74, [.agg [.int .i64 j]]⟩)
    (by have := Enc.bp (w := W) (N := Own N μ ⟨env0 0 [.ifc 74 (.agg [.int .i64 k]), .ifc 76 (.bp d v 1 0 0)], [(d, ⟨v, 1, 74, [.agg [.int .i64 j]]⟩)], nx, 2⟩) d v 1 0 0 g cap hm; simpa using this) (.pur (.agg [.int .i64 k] [.int .i64 k] rfl (fun c hc => by simp at hc; subst hc; rfl) (fun i x c h1 h2 => by
      match i, h1, h2 with
      | 0, h1, h2 => simp at h1 h2; subst h1; subst h2; exact .int _ _
      | i + 1, h1, h2 => simp at h1))) (by simp) (by simp [Eng.get]) rfl rfl rfl (by omega) rfl (by simp [V.cells])
  have hw2 : w2 = w' := by
    have h5 := store64 ⟨g, 0, none⟩ k old W hcell2 hfz2
    simp [Instr.storeAt, Instr.sureAddr, h5] at hst
    rw [hw', ← hst]
  subst hw2
  have hge : ∀ d1 o1, Eng.get [(d, (⟨v, 1, 74, [.agg [.int .i64 k]]⟩ : Ob))] d1 = some o1 → Eng.get ((d, (⟨v, 1, 74, [.agg [.int .i64 k]]⟩ : Ob)) :: [(d, ⟨v, 1, 74, [.agg [.int .i64 j]]⟩)]) d1 = some o1 := by
    intro d1 o1 h1
    simp only [Eng.get] at h1 ⊢
    split at h1
    · rename_i e; simp [e]; injection h1
    · cases h1
  have hr4 : RelM (fun _ => False) B N μ { (⟨env0 0 [.ifc 74 (.agg [.int .i64 k]), .ifc 76 (.bp d v 1 0 0)], [(d, ⟨v, 1, 74, [.agg [.int .i64 j]]⟩)], nx, 2⟩ : AS) with objs := (d, ⟨v, 1, 74, [.agg [.int .i64 k]]⟩) :: [(d, ⟨v, 1, 74, [.agg [.int .i64 j]]⟩)] } ⟨[.iface 74 (.agg #[.int .i64 k]), .iface 76 (.pointer (some ⟨g, 0, none⟩))].toArray, []⟩ w2 := by
    rw [← e0, ← e1]
    simpa [V.setPart, List.set] using hr3
  refine ⟨_, _, [(d, ⟨v, 1, 74, [.agg [.int .i64 k]]⟩)], nx, μ, rfl, ⟨rfl, rfl⟩, Nat.le_refl _, ⟨hdf.symm ▸ rfl, rfl, hr4.below, hr4.n0, hr4.fresh, fun d1 o1 hd => ?_, fun d1 o1 d2 o2 g1 c1 c2 h1 h2 => hr4.inj d1 o1 d2 o2 g1 c1 c2 (hge _ _ h1) (hge _ _ h2), fun t v hv => ?_⟩⟩
  · obtain ⟨l, h5, h6⟩ := hr4.objs d1 o1 (hge _ _ hd)
    refine ⟨l, h5, h6.keep (Keeps.refl _ _) (fun b _ hb => ?_) (fun _ _ _ hh => hh) (fun _ _ _ => rfl)⟩
    rcases hb with hb | ⟨d2, o2, c2, h7, h8⟩
    · exact .inl hb
    · exact .inr ⟨d2, o2, c2, hge _ _ h7, h8⟩
  · simp only [Eng.get] at hv
    split at hv
    · rename_i ht
      subst ht
      injection hv with hv
      subst hv
      exact ⟨by show (0 : Nat) < 1; omega, .pur (.bool _)⟩
    · cases hv
end Go.Proofs.YtmkbhognijicjaaGreatDoor
