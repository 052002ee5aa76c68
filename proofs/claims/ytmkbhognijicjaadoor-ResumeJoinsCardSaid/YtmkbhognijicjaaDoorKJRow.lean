import Derived.Test.YtmkbhognijicjaaDoorGJ
import Derived.Test.YtmkbhognijicjaaDoorE8
import Derived.Test.YtmkbhognijicjaaDoorRows
import Derived.Test.YtmkbhognijicjaaDoorCards
import Derived.Test.YtmkbhognijicjaaDoorTie
import Derived.ChangeSame
import Derived.ChangeVars
import Derived.JoinedOf
import Derived.RowKit
import Derived.RowKitTokens
import Derived.LaidLaws
import Derived.LaidHandle
import Derived.Stop.Joined
import Derived.SevenTiedAt
/- Joins: ResumeJoins, the given statement. No condition. -/
set_option linter.unusedSimpArgs false
set_option maxRecDepth 4000
namespace Go.Proofs.YtmkbhognijicjaaDoor
open Go.Eng Go.ChangeShapes Go.WideShapes Go.ChangeAt Go.RowKit

theorem own : ownKnob Tryd.prog.godebug = none := by kernel_rfl
theorem laidOut : laidOutB Tryd.prog = true := by kernel_rfl

theorem rd_one {vs : List V} {n : Nat} (h : Rd Tryd.prog n 3 vs) : ∃ x : Int, vs = [.int .i64 x] := by
  obtain ⟨a, rfl, _⟩ := rd_int Tryd.underlying3 h
  exact ⟨a, rfl⟩
theorem rd_ints {vs : List V} {n : Nat} (h : Rd Tryd.prog n 27 vs) : ∃ l : List Int, vs = [.ro 1 (nums l)] := by
  obtain ⟨es, rfl, _, hes⟩ := rd_slice Tryd.underlying27 h
  obtain ⟨l, he, _⟩ := map_map_of (g := mkV (tagg Tryd.prog 3)) (f' := V.int .i64) (fun x hx => rd_one (hes x hx)) (fun y => by rw [tyA3]; rfl)
  refine ⟨l, ?_⟩
  rw [he, show Tryd.prog.cellsOf 3 = 1 by kernel_rfl]
  rfl
theorem rd_event {vs : List V} {n : Nat} (hr : Rd Tryd.prog n 33 vs) : ∃ e : Ev, vs = [.int .i64 e.kind, .int .i64 e.time, .int .i64 e.item, .ro 1 (nums e.ch), .int .i64 e.value, .str e.text, .bool e.om, .int .i64 e.ik, .int .i64 e.it, .int .i64 e.il, .int .i64 e.ig] := by
  obtain ⟨u0, w0, rfl, h0, u1, w1, rfl, h1, u2, w2, rfl, h2, u3, w3, rfl, h3, rfl⟩ := rd_struct Tryd.underlying33 hr
  obtain ⟨kind, rfl⟩ := rd_one h0
  obtain ⟨time, rfl⟩ := rd_one h1
  obtain ⟨a0, b0, rfl, g0, a1, b1, rfl, g1, a2, b2, rfl, g2, a3, b3, rfl, g3, a4, b4, rfl, g4, rfl⟩ := rd_struct Tryd.underlying29 h2
  obtain ⟨item, rfl⟩ := rd_one g0
  obtain ⟨ch, rfl⟩ := rd_ints g1
  obtain ⟨value, rfl⟩ := rd_one g2
  obtain ⟨text, rfl, _⟩ := rd_str Tryd.underlying9 g3
  obtain ⟨om, rfl⟩ := rd_bool Tryd.underlying4 g4
  obtain ⟨a5, b5, rfl, g5, a6, b6, rfl, g6, a7, b7, rfl, g7, a8, b8, rfl, g8, rfl⟩ := rd_struct Tryd.underlying31 h3
  obtain ⟨ik, rfl⟩ := rd_one g5
  obtain ⟨it, rfl⟩ := rd_one g6
  obtain ⟨il, rfl⟩ := rd_one g7
  obtain ⟨ig, rfl⟩ := rd_one g8
  exact ⟨⟨kind, time, item, ch, value, text, om, ik, it, il, ig⟩, rfl⟩
theorem rd_events {v : V} (h : RdW Tryd.prog 22 v) : ∃ l : List Ev, v = .ro 11 (l.map Ev.v) := by
  obtain ⟨n, vs, hr, rfl⟩ := h
  obtain ⟨es, rfl, _, hes⟩ := rd_slice Tryd.underlying22 hr
  obtain ⟨l, he, _⟩ := map_map_of (g := mkV (tagg Tryd.prog 33)) (f' := Ev.v) (fun x hx => rd_event (hes x hx)) (fun y => by rw [tyA33]; rfl)
  refine ⟨l, ?_⟩
  rw [he, tyA22, show Tryd.prog.cellsOf 33 = 11 by kernel_rfl]
  rfl
theorem rd_num {v : V} (h : RdW Tryd.prog 3 v) : ∃ a, v = .int .i64 a := by
  obtain ⟨n, vs, hr, rfl⟩ := h
  obtain ⟨a, rfl⟩ := rd_one hr
  exact ⟨a, by rw [tyA3]; rfl⟩

theorem glob0 : Tryd.prog.globalNamed "errors.errorType" = some 0 := by kernel_rfl
theorem cutRt : (Tryd.prog.cutTypes.find? (·.1 == "internal/reflectlite.rtype")).map (·.2) = some 96 := by kernel_rfl
theorem oneRow : ((List.range 145).filter fun t => Tryd.prog.rowNamed t [101, 114, 114, 111, 114]) = [60] := by kernel_rfl
theorem tsize : Tryd.prog.types.size = 145 := by kernel_rfl
abbrev laidL {H : Type} : List (String × DataW H) := [("errors.errorType", Rows.laid_errors_errorType)]
theorem handle_of_laid {W : World} (h : laidMetH Tryd.prog [("errors.errorType", Rows.laid_errors_errorType)] W) : Glw 0 errT W := by
  have h' : laidMet Tryd.prog [] W ∧ handlesMet Tryd.prog [("errors.errorType", Rows.laid_errors_errorType)] W := h
  obtain ⟨name, u, ty, e1, e2, e3, e4, e5⟩ := h'.2 _ (List.mem_singleton.2 rfl)
  have en : name = [101, 114, 114, 111, 114] := (Option.some.inj e1).symm
  subst en
  obtain rfl := Option.some.inj (cutRt.symm.trans e2)
  have hm : ty ∈ (List.range 145).filter fun t => Tryd.prog.rowNamed t [101, 114, 114, 111, 114] := List.mem_filter.2 ⟨List.mem_range.2 (by rw [← tsize]; exact e3), e4⟩
  rw [oneRow] at hm
  obtain rfl := List.mem_singleton.1 hm
  have hh : typeHandle Tryd.prog 60 = .pointer (some ⟨1, 60, none⟩) := by kernel_rfl
  rw [hh] at e5
  have := World.var?_cell glob0 e5 0
  unfold Glw
  simpa using this
noncomputable def laidWorld (os : Os) : World :=
  let w0 := World.holding Tryd.prog os ⟨#[], #[], []⟩
  { w0 with heap := w0.heap.modify 0 fun
      | .cells _ t frozen => .cells #[.iface 96 (.agg #[.pointer (some ⟨1, 60, none⟩)])] t frozen
      | o => o }
theorem laidWorld_met (os : Os) (args : Array Value) : laidMetH Tryd.prog [("errors.errorType", Rows.laid_errors_errorType)] ((laidWorld os).forCall (fun _ _ => 0) ⟨#[], args, []⟩).memory :=
  laidMetH_of_parts (laidMet_nil _ _) (by kernel_rfl)

set_option maxRecDepth 100000 in
theorem resumeJoinsLifted (os : Os) (started : os.Started) (H : Type) (enc : TypeId × Value → H) :
    ReturnsInHanded {} Tryd.checked os 3 .any (fun w args => (Rows.resumeJoinsSpec.pre enc Tryd.prog Tryd.f3 [] false w args ∧ laidMetH Tryd.prog [("errors.errorType", Rows.laid_errors_errorType)] w) ∧ sizedMet enc Tryd.prog Tryd.f3 (OpenSpec.ofChange Rows.resumeJoinsSpec) false w args)
      (Rows.resumeJoinsSpec.post enc Tryd.prog Tryd.f3 false true false false) := by
  refine returnsInHanded_of_change_and (C := Tryd.checked) (X := fun w _ => laidMetH Tryd.prog [("errors.errorType", Rows.laid_errors_errorType)] w) (fun _ _ _ hh h => h.of_heap hh) own started (by kernel_rfl) Tryd.func3
    (ChangeSpec.witness_at (enc := enc) (C := Tryd.checked) (os := os) (X := fun w _ => laidMetH Tryd.prog [("errors.errorType", Rows.laid_errors_errorType)] w) false (laidWorld os) #[.slice none 0 0, .slice none 0 0, .int .i64 0] 8 rfl (by kernel_rfl) (by kernel_rfl) (by kernel_rfl) (by kernel_rfl) (by kernel_rfl) (laidWorld_met os _)) ?_
  intro W base args ds gs before hval hW _ _ hL _
  refine row_contractLG (L := [22, 33, 3, 29, 31, 27, 9, 4]) (tb := 4) (ts := [22, 22, 3]) (by rw [Tryd.params3]) (by kernel_rfl) (by kernel_rfl) laidOut rfl Tryd.underlying4 rfl (fun ds hl => ?_) (fun vs hvs => ?_) (handle_of_laid hL) hval hW
  · match ds, hl with
    | [d1, d2, d3], _ => rfl
  · obtain ⟨v0, r0, rfl, h0, v1, r1, rfl, h1, v2, r2, rfl, h2, rfl⟩ := hvs
    obtain ⟨es, rfl⟩ := rd_events h0
    obtain ⟨fs, rfl⟩ := rd_events h1
    obtain ⟨c, rfl⟩ := rd_num h2
    exact law_acg es fs c

theorem resumeJoinsOver : Rows.ResumeJoinsSaid :=
  OpenClaim.holds_of_wide 3 Tryd.f3 rfl rfl rfl rfl rfl rfl rfl ⟨rfl, rfl, rfl, rfl, rfl⟩ rfl rfl rfl rfl rfl (by kernel_rfl) Tryd.func3 (by kernel_rfl)
    (of_decide_eq_true (by kernel_rfl)) (by unfold Func.isWrapper; first | (rw [if_pos (by decide +kernel)]; kernel_rfl) | (rw [if_neg (by decide +kernel)]; exact ⟨rfl, rfl⟩))
    (fun os started H enc _ => resumeJoinsLifted os started H enc)

theorem resumeJoinsProved : Rows.ResumeJoinsCardSaid :=
  Claim7.holds_tied_plain_at .later [] [.handle] true (true, "2d8b6cf4fd30fcf14a83446d3cee2f02ad3c2e8cc2a076fbcd8c8aae073d22b4") true
    resumeJoinsOver (fun _ h => by cases h) (by kernel_rfl) (fun _ h => by cases h) resumeJoins_row_tie rfl ⟨rfl, rfl⟩ (by kernel_rfl) rfl
    (fun f fn hf hfn => by
      obtain rfl : f = 3 := Option.some.inj ((show Tryd.prog.funcNamed "examboard/examboardlaw52.ResumeJoins" = some 3 by kernel_rfl).symm.trans hf) |>.symm
      obtain rfl : fn = Tryd.f3 := (Option.some.inj (Tryd.func3.symm.trans hfn)).symm
      exact ⟨by kernel_rfl, fun j t ht => by
        rw [Tryd.params3] at ht
        have h3 : t = 22 ∨ t = 3 := by
          match j, ht with
          | 0, ht => left; simpa using ht.symm
          | 1, ht => left; simpa using ht.symm
          | 2, ht => right; simpa using ht.symm
          | j + 3, ht => simp at ht
        rcases h3 with rfl | rfl
        · exact (show Tryd.prog.wantsStandIn 22 = false by kernel_rfl)
        · exact (show Tryd.prog.wantsStandIn 3 = false by kernel_rfl)⟩)
    (by kernel_rfl)
#print axioms resumeJoinsProved
end Go.Proofs.YtmkbhognijicjaaDoor
