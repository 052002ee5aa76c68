import Derived.Test.YtnklkkagpkcmfaaGreatDoorSI5
import Derived.Test.YtnklkkagpkcmfaaGreatDoorSJ
import Derived.Test.YtnklkkagpkcmfaaGreatDoorE6
import Derived.Test.YtnklkkagpkcmfaaGreatDoorJD1
import Derived.Test.YtnklkkagpkcmfaaGreatDoorCards
import Derived.ChangeSame
import Derived.ChangeVars
import Derived.JoinedOf
import Derived.RowKit
import Derived.LaidLaws
import Derived.LaidHandle
import Derived.LaidSub
import Derived.Stop.Joined
import Derived.Deep.DeepHandedRow
import Derived.SevenTiedAt
import Derived.Test.YtnklkkagpkcmfaaGreatDoorJgo
import Derived.Test.YtnklkkagpkcmfaaGreatDoorJlooks
import Derived.Test.YtnklkkagpkcmfaaGreatDoorJL
import Derived.Test.YtnklkkagpkcmfaaGreatDoorJpin
import Derived.Test.YtnklkkagpkcmfaaGreatDoorJtw
import Derived.Test.YtnklkkagpkcmfaaGreatDoorJtw2
import Derived.Test.YtnklkkagpkcmfaaGreatDoorJtr
import Derived.Test.YtnklkkagpkcmfaaGreatDoorJtg
import Derived.Test.YtnklkkagpkcmfaaGreatDoorJtn
import Derived.Test.YtnklkkagpkcmfaaGreatDoorJtd
import Derived.Test.YtnklkkagpkcmfaaGreatDoorJt1
import Derived.Test.YtnklkkagpkcmfaaGreatDoorJt2
import Derived.Test.YtnklkkagpkcmfaaGreatDoorJt3
import Derived.Test.YtnklkkagpkcmfaaGreatDoorJD2
import Derived.Test.YtnklkkagpkcmfaaGreatDoorJD9
import Derived.Test.YtnklkkagpkcmfaaGreatDoorJD10
import Derived.Test.YtnklkkagpkcmfaaGreatDoorJD11
import Derived.Test.YtnklkkagpkcmfaaGreatDoorJD12
import Derived.Test.YtnklkkagpkcmfaaGreatDoorJD22
import Derived.Test.YtnklkkagpkcmfaaGreatDoorJD24
import Derived.Test.YtnklkkagpkcmfaaGreatDoorJD25
import Derived.Test.YtnklkkagpkcmfaaGreatDoorJDn
set_option linter.all false
set_option maxRecDepth 4000
namespace Go.Proofs.YtnklkkagpkcmfaaGreatDoor
open Go.Eng Go.Eng.Limb

theorem awake_ac : AC Tryz.prog 9 [] (fun r => r = .bool true) := ac_of_okc e1253_ok
theorem abV_tup (g : Gr) (s : Int) : ∃ q d e, abV g s = .tup [.int .i64 q, .int .u64 d, .int .i64 e] := by unfold abV; split <;> exact ⟨_, _, _, rfl⟩
theorem reV_tup (m : Mo) (q s : Int) : ∃ k d e, reV m q s = .tup [.int .i64 k, .int .u64 d, .int .i64 e] := by unfold reV; (repeat' split) <;> exact ⟨_, _, _, rfl⟩
set_option maxHeartbeats 1000000 in
theorem draws_ac (g : Gr) (m : Mo) (x y : Int) : AC Tryz.prog 3 [g.v, moV m, .agg [.int .i64 x, .int .i64 y]] (fun r => r = .bool true) := by
  have c5 := ability_ac g (IntKind.u64.wrap y)
  have c6 := rability_ac g (IntKind.u64.wrap y)
  have c7 := respond_ac m x (IntKind.u64.wrap y)
  have c8 := rrespond_ac m x (IntKind.u64.wrap y)
  have c9 := awake_ac
  obtain ⟨a1, a2, a3, ha⟩ := abV_tup g (IntKind.u64.wrap y)
  obtain ⟨b1, b2, b3, hb⟩ := reV_tup m x (IntKind.u64.wrap y)
  rw [ha] at c5 c6
  rw [hb] at c7 c8
  have hn := fun (k : Nat) (h : k < m.length) => rowsV_nth h
  have hl := rowsV_len m
  have pm := rowsV_pure m
  have pp := ints_pure g.pts
  have pq := ints_pure g.pri
  have ev : g.v = .agg [.ro 1 (ints g.pts), .ro 1 (ints g.pri)] := rfl
  rw [ev] at c5 c6 ⊢
  unfold moV at c7 c8 ⊢
  generalize ints g.pts = pv at *
  generalize ints g.pri = qv at *
  generalize rowsV m = mv at *
  generalize hs : IntKind.u64.wrap y = s at *
  refine ac_intro Tryz.func3 rfl (by show (3 : Nat) ≤ 115; omega) (fun w0 N0 => ?_)
  refine aw_step [3, 4, 5] [3, 4, 5] (by simp [Tryz.ntmps3] <;> rfl) ?_
  refine aw_seq ?_
  refine aw_step [3, 4, 5, 37] [3, 4, 5] (by simp <;> rfl) ?_
  refine aw_cond rfl (fun h1 => ?_) (fun h1 => aw_skip ?_)   -- if t37
  · refine aw_step [6] [] (by simp <;> rfl) ?_
    exact aw_ret (ends_ret (by simp [Tryz.results3] <;> rfl) rfl)
  have hm30 : mv.length ≤ 30 := by simp at h1; omega
  refine aw_seq ?_
  refine aw_step [3, 4, 5, 39, 40, 41] [3, 4, 5] (by simp <;> rfl) ?_
  refine aw_block ?_
  refine aw_count (fun k nx => ⟨[(3, .bp 3 0 2 0 0), (4, .bp 4 1 1 0 0), (5, .bp 5 2 2 0 0), (39, .ro 1 mv), (40, .int .i64 mv.length), (41, V.int .i64 k)], [(3, ⟨0, 2, 24, [.agg [.ro 1 pv, .ro 1 qv]]⟩), (4, ⟨1, 1, 27, [.agg [.ro 1 mv]]⟩), (5, ⟨2, 2, 28, [.agg [.int .i64 x, .int .i64 y]]⟩)], nx, 115⟩) (fun k => True) m.length _ trivial (AS.le_refl _) ?_
  intro k nx hk hI
  refine aw_step [3, 4, 5, 39, 40, 41, 42] [3, 4, 5] (by simp <;> rfl) ?_
  refine aw_seq ?_
  refine aw_cond rfl (fun h2 => aw_skip ?_) (fun h2 => ?_)   -- if t42
  · have hlt : k < m.length := by simp at h2; omega
    have hltm : k < mv.length := by omega
    have gk := hn k hlt
    have hw := wrap_succ (k := k) (by omega)
    have lr := ints_len m[k]
    generalize ints m[k] = rv at gk lr
    refine aw_seq ?_
    refine aw_block ?_
    refine aw_step [3, 4, 5, 8, 39, 40, 41] [3, 4, 5] (by simp [gk, hltm] <;> rfl) ?_
    refine aw_step [3, 4, 5, 39, 40, 41, 47] [3, 4, 5] (by simp <;> rfl) ?_
    refine aw_cond rfl (fun h3 => ?_) (fun h3 => aw_skip ?_)   -- if t47
    · refine aw_step [6] [] (by simp <;> rfl) ?_
      exact aw_ret (ends_ret (by simp [Tryz.results3] <;> rfl) rfl)
    refine aw_one [3, 4, 5, 39, 40, 41] [3, 4, 5] (by simp [hw] <;> rfl) ?_
    exact ⟨hlt, trivial, _, AS.le_refl _⟩
  · refine aw_exit ?_
    refine aw_step [3, 4, 5, 9] [3, 4, 5] (by simp [hs] <;> rfl) ?_
    refine aw_seq (aw_region ?_)
    refine awl_go 2 (by simp <;> rfl) ?_
    refine awl_call1 c5 Tryz.func5 rfl (by kernel_rfl) rfl rfl rfl (by simp <;> rfl) (by simp [pp, pq]) (by simp <;> rfl) ?_
    refine awl_end [3, 4, 5, 9, 10, 11, 12] [3, 4, 5] (by simp <;> rfl) ?_
    refine aw_seq (aw_region ?_)
    refine awl_go 2 (by simp <;> rfl) ?_
    refine awl_call1 c6 Tryz.func6 rfl (by kernel_rfl) rfl rfl rfl (by simp <;> rfl) (by simp [pp, pq]) (by simp <;> rfl) ?_
    refine awl_end [4, 5, 9, 10, 11, 12, 13, 14, 15] [4, 5] (by simp <;> rfl) ?_
    refine aw_seq (aw_region ?_)
    refine awl_go 4 (by simp <;> rfl) ?_
    refine awl_call1 c7 Tryz.func7 rfl (by kernel_rfl) rfl rfl rfl (by simp <;> rfl) (by simp [pm]) (by simp <;> rfl) ?_
    refine awl_end [4, 5, 9, 10, 11, 12, 13, 14, 15, 16, 17, 18] [4, 5] (by simp <;> rfl) ?_
    refine aw_seq (aw_region ?_)
    refine awl_go 4 (by simp <;> rfl) ?_
    refine awl_call1 c8 Tryz.func8 rfl (by kernel_rfl) rfl rfl rfl (by simp <;> rfl) (by simp [pm]) (by simp <;> rfl) ?_
    refine awl_end [10, 11, 12, 13, 14, 15, 16, 17, 18, 19, 20, 21] [] (by simp <;> rfl) ?_
    refine aw_seq (aw_region ?_)
    refine awl_go 29 (by simp <;> rfl) ?_
    refine awl_gcall (fun hg => c9) Tryz.func9 rfl (by kernel_rfl) (by simp <;> rfl) rfl rfl (by simp <;> rfl) (by simp) (by simp <;> rfl) ?_
    refine awl_end [6] [] (by simp <;> rfl) ?_
    exact aw_ret (ends_ret (by simp [Tryz.results3] <;> rfl) rfl)
end Go.Proofs.YtnklkkagpkcmfaaGreatDoor

set_option maxRecDepth 10000
namespace Go.Proofs.YtnklkkagpkcmfaaGreatDoor
open Go.Eng Go.Eng.Limb Go.ChangeShapes Go.WideShapes Go.ChangeAt Go.RowKit

theorem own : ownKnob Tryz.prog.godebug = none := by kernel_rfl
theorem rd_one {vs : List V} {n : Nat} (h : Rd Tryz.prog n 3 vs) : ∃ x : Int, vs = [.int .i64 x] := by
  obtain ⟨a, rfl, _⟩ := rd_int Tryz.underlying3 h
  exact ⟨a, rfl⟩
theorem rd_ints {vs : List V} {n : Nat} (h : Rd Tryz.prog n 22 vs) : ∃ l : List Int, vs = [.ro 1 (ints l)] := by
  obtain ⟨es, rfl, _, hes⟩ := rd_slice Tryz.underlying22 h
  obtain ⟨l, he, _⟩ := map_map_of (g := mkV (tagg Tryz.prog 3)) (f := fun x : Int => [V.int .i64 x]) (f' := V.int .i64) (fun x hx => by
    exact rd_one (hes x hx)) (fun y => by rw [tyA3]; rfl)
  refine ⟨l, ?_⟩
  rw [he, show Tryz.prog.cellsOf 3 = 1 by kernel_rfl]
  rfl
theorem rd_rows {vs : List V} {n : Nat} (h : Rd Tryz.prog n 25 vs) : ∃ m : Mo, vs = [.ro 1 (rowsV m)] := by
  obtain ⟨es, rfl, _, hes⟩ := rd_slice Tryz.underlying25 h
  obtain ⟨l, he, _⟩ := map_map_of (g := mkV (tagg Tryz.prog 22)) (f := fun x : List Int => [V.ro 1 (ints x)]) (f' := fun x => V.ro 1 (ints x)) (fun x hx => rd_ints (hes x hx)) (fun y => by rw [show tagg Tryz.prog 22 = some false by kernel_rfl]; rfl)
  refine ⟨l, ?_⟩
  rw [he, show Tryz.prog.cellsOf 22 = 1 by kernel_rfl]
  rfl
theorem rd_grid {v : V} (h : RdA Tryz.prog 24 v) : ∃ g : Gr, v = g.v := by
  obtain ⟨n, vs, hr, rfl⟩ := h.w Tryz.underlying24 (fun _ _ => by simp)
  obtain ⟨u0, w0, rfl, h0, u1, w1, rfl, h1, rfl⟩ := rd_struct Tryz.underlying24 hr
  obtain ⟨a, rfl⟩ := rd_ints h0
  obtain ⟨b, rfl⟩ := rd_ints h1
  exact ⟨⟨a, b⟩, by rw [show tagg Tryz.prog 24 = some true by kernel_rfl]; rfl⟩
theorem rd_model {v : V} (h : RdA Tryz.prog 27 v) : ∃ m : Mo, v = moV m := by
  obtain ⟨n, vs, hr, rfl⟩ := h.w Tryz.underlying27 (fun _ _ => by simp)
  obtain ⟨u0, w0, rfl, h0, rfl⟩ := rd_struct Tryz.underlying27 hr
  obtain ⟨m, rfl⟩ := rd_rows h0
  exact ⟨m, by rw [show tagg Tryz.prog 27 = some true by kernel_rfl]; rfl⟩
theorem rd_pair {v : V} (h : RdA Tryz.prog 28 v) : ∃ x y : Int, v = .agg [.int .i64 x, .int .i64 y] := by
  unfold RdA at h
  rw [Tryz.underlying28] at h
  obtain ⟨k, is, hk, hl, _, rfl⟩ := h
  rw [Tryz.underlying3] at hk
  cases hk
  match is, hl with
  | [x, y], _ => exact ⟨x, y, rfl⟩

abbrev laidL : List (String × DataW Unit) := Rows.simulateDrawsRow.laid
def errT : Value := .iface 589 (.agg #[.pointer (some ⟨4, 264, none⟩)])
def litV : DataW Unit → Value
  | .lit (.int k n) => .int k n
  | _ => undef
def litL (l : List (DataW Unit)) : List Value := l.flatMap fun
  | .agg m => m.map litV
  | x => [litV x]
noncomputable def layVar (h : Array Obj) (x : String × DataW Unit) : Array Obj := match Tryz.prog.globalNamed x.1, x.2 with
  | some g, .agg l => h.modify g fun
      | .cells _ t frozen => .cells (litL l).toArray t frozen
      | o => o
  | _, _ => h
noncomputable def laidWorld (os : Os) : World :=
  { World.holding Tryz.prog os ⟨#[], #[], []⟩ with heap := (laidL.foldl layVar (World.holding Tryz.prog os ⟨#[], #[], []⟩).heap).modify 3 fun
      | .cells _ t frozen => .cells #[errT] t frozen
      | o => o }
def zI : Value := .int .i64 0
def zS : Value := .slice none 0 0
def dI {H : Type} : DataW H := .lit (.int .i64 0)
def zD : Array Value := #[.agg #[zS, zS], .agg #[zS], .agg #[zI, zI]]
theorem laid_metD (os : Os) : laidMetH Tryz.prog laidL ((laidWorld os).forCall (fun _ _ => 0) ⟨#[], zD, []⟩).memory :=
  laidMetH_of_parts (laidMet_of_run' 8 (by kernel_rfl) (by kernel_rfl)) (by kernel_rfl)
theorem readsD (os : Os) {H : Type} (enc : TypeId × Value → H) : ∃ ds places, DataW.whole enc Tryz.prog ((laidWorld os).forCall (fun _ _ => 0) ⟨#[], zD, []⟩).memory Tryz.f3.params.toList Rows.simulateDrawsSpec.vars false zD.toList 8 = some (ds, [], places) :=
  ⟨[.agg [.nil, .nil], .agg [.nil], .agg [dI, dI]], [], by kernel_rfl⟩
end Go.Proofs.YtnklkkagpkcmfaaGreatDoor

set_option maxRecDepth 10000
namespace Go.Proofs.YtnklkkagpkcmfaaGreatDoor
open Go.Eng Go.Eng.Limb Go.ChangeShapes Go.WideShapes Go.ChangeAt Go.RowKit

theorem bt {a b : Bool} (h1 : a = true) (h2 : b = true) : (a && b) = true := by rw [h1, h2]; rfl
theorem tieS : Tryz.prog.laidByTextLater [("unicode/utf8.acceptRanges", Rows.laid_unicode_utf8_acceptRanges), ("errors.errorType", Rows.laid_errors_errorType)] [.data, .handle] true :=
  Program.laidByTextLater_by_run_h 400 8 tw tw2 tr tk tg tn td t1 t2 t3
theorem fitsS : Tryz.pinned.checked.prog.listedFits [("unicode/utf8.first", Rows.laid_unicode_utf8_first), ("unicode/utf8.acceptRanges", Rows.laid_unicode_utf8_acceptRanges), ("errors.errorType", Rows.laid_errors_errorType)] = true := by
  unfold Program.listedFits
  rw [noOwnU]
  kernel_rfl
theorem tieD : Rows.simulateDrawsRow.laidByTextAt .later Tryz.pinned [.pinned, .data, .handle] true :=
  OpenClaim.laidByTextAt_pinned rfl rfl tieS rfl rfl rfl rfl (fun y hy _e => by
    simp only [Rows.simulateDrawsRow, List.zip_cons_cons, List.zip_nil_right, List.mem_cons, List.mem_nil_iff, or_false] at hy
    rcases hy with rfl | rfl | rfl
    · exact ⟨pinF, by kernel_rfl⟩
    · cases _e
    · cases _e) fitsS
theorem factsD : joinedFacts Tryz.prog 3 Tryz.f3 (OpenSpec.ofChange Rows.simulateDrawsSpec).bare Rows.simulateDrawsRow = true := by
  unfold joinedFacts
  exact bt (bt (bt (bt (bt (bt (bt (bt (bt (bt (bt (bt (bt (bt (bt (bt (bt (bt (bt (bt (bt (bt (bt (bt (bt (bt (bt (bt (bt (bt (bt (jD0) jD1) jD2) jD3) jD4) jD5) jD6) jD7) jD8) jD9) jD10) jD11) jD12) jD13) jD14) jD15) jD16) jD17) jD18) jD19) jD20) jD21) jD22) jD23) jD24) jD25) jD26) jD27) jD28) jD29) jD30) jD31

set_option maxRecDepth 100000 in
theorem drawsLifted (os : Os) (started : os.Started) (H : Type) (enc : TypeId × Value → H) (F : Stop.Interp) :
    ReturnsInHanded {} Tryz.checked os 3 .any ((OpenSpec.ofChange Rows.simulateDrawsSpec).preRow enc Tryz.prog Tryz.f3 Rows.simulateDrawsRow.domain false Rows.simulateDrawsRow.laid) (((OpenSpec.ofChange Rows.simulateDrawsSpec).at F).post enc Tryz.prog Tryz.f3 false true false false) := by
  obtain ⟨ds, places, hx⟩ := readsD os enc
  refine returnsInHanded_of_row (C := Tryz.checked) (s := OpenSpec.ofChange Rows.simulateDrawsSpec) own started (by kernel_rfl) Tryz.func3
    (witness_row_at (enc := enc) (C := Tryz.checked) false (laidWorld os) zD rfl (by kernel_rfl) (by kernel_rfl) (by kernel_rfl)
      (OpenSpec.preRow_of_cond 8 hx (by kernel_rfl) (fun k hk => by cases hk) (by kernel_rfl) (laid_metD os))) ?_
  intro W base args ds gs before hval hW _ hcond _ hL hS _
  refine row_contractA (s := Rows.simulateDrawsSpec) (L := [24, 27, 25, 22, 3, 4]) (tb := 4) (ts := [24, 27, 28]) (by rw [Tryz.params3]) (by kernel_rfl) (by kernel_rfl) jD1 rfl Tryz.underlying4 rfl (fun ds hl => ?_) (fun vs hvs => ?_) hval hW
  · match ds, hl with
    | [d1, d2, d3], _ => rfl
  · obtain ⟨v0, r0, rfl, h0, v1, r1, rfl, h1, v2, r2, rfl, h2, rfl⟩ := hvs
    obtain ⟨g, rfl⟩ := rd_grid h0
    obtain ⟨m, rfl⟩ := rd_model h1
    obtain ⟨x, y, rfl⟩ := rd_pair h2
    exact draws_ac g m x y
theorem drawsOver : Rows.SimulateDrawsSaid :=
  OpenClaim.holds_of_cond 3 Tryz.f3 rfl rfl rfl rfl rfl rfl rfl ⟨rfl, rfl, rfl, rfl, rfl⟩ rfl rfl rfl rfl rfl jDnamed Tryz.func3 factsD
    (of_decide_eq_true (by kernel_rfl)) (by unfold Func.isWrapper; first | (rw [if_pos (by decide +kernel)]; kernel_rfl) | (rw [if_neg (by decide +kernel)]; exact ⟨rfl, rfl⟩))
    (fun os started H enc _ F => by rw [OpenClaim.pre_eq_preRow]; exact drawsLifted os started H enc F)
theorem drawsPlain (f : FuncId) (fn : Func) (hf : Tryz.pinned.checked.prog.funcNamed "examboard/examboardlaw58.SimulateDraws" = some f) (hfn : Tryz.pinned.checked.prog.funcs[f]? = some fn) :
    true = Tryz.pinned.checked.prog.looks [] ∧ ∀ (j : Nat) t, fn.params[j]? = some t → Tryz.pinned.checked.prog.wantsStandIn t = false := by
  obtain rfl : f = 3 := Option.some.inj (jDnamed.symm.trans hf) |>.symm
  obtain rfl : fn = Tryz.f3 := (Option.some.inj (Tryz.func3.symm.trans hfn)).symm
  refine ⟨lks, fun j t ht => ?_⟩
  rw [Tryz.params3] at ht
  have h3 : t = 24 ∨ t = 27 ∨ t = 28 := by
    have := Array.mem_of_getElem? ht
    simp at this
    omega
  rcases h3 with rfl | rfl | rfl
  · exact (show Tryz.prog.wantsStandIn 24 = false by kernel_rfl)
  · exact (show Tryz.prog.wantsStandIn 27 = false by kernel_rfl)
  · exact (show Tryz.prog.wantsStandIn 28 = false by kernel_rfl)
theorem simulateDrawsProved : Rows.SimulateDrawsCardSaid :=
  Claim7.holds_tied_plain_at .later [] _ _ _ _ drawsOver (fun _ h => by cases h) jDwft (fun _ h => by cases h) tieD rfl ⟨rfl, rfl⟩ mainS rfl drawsPlain jDgoes
end Go.Proofs.YtnklkkagpkcmfaaGreatDoor
