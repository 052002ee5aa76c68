import Derived.Test.YtmkbhognijicjaaGreatDoorGO
import Derived.Test.YtmkbhognijicjaaGreatDoorE8
import Derived.Test.YtmkbhognijicjaaGreatDoorRows
import Derived.Test.YtmkbhognijicjaaGreatDoorCards
import Derived.Test.YtmkbhognijicjaaGreatDoorTie
import Derived.ChangeSame
import Derived.ChangeVars
import Derived.JoinedOf
import Derived.RowKit
import Derived.RowKitTokens
import Derived.LaidLaws
import Derived.LaidHandle
import Derived.Stop.Joined
import Derived.SevenTiedAt
/- Journals: ResumeJournals, the given statement. No condition. -/
set_option linter.unusedSimpArgs false
set_option maxRecDepth 4000
namespace Go.Proofs.YtmkbhognijicjaaGreatDoor
open Go.Eng Go.ChangeShapes Go.WideShapes Go.ChangeAt Go.RowKit

theorem own : ownKnob Tryz.prog.godebug = none := by kernel_rfl
theorem laidOut : laidOutB Tryz.prog = true := by kernel_rfl

theorem wf64 {x : Int} (h : (Lit.int .i64 x).wf = true) : I64 x := by
  simp only [Lit.wf, Bool.and_eq_true, decide_eq_true_eq] at h
  have e1 : IntKind.i64.min = -9223372036854775808 := by kernel_rfl
  have e2 : IntKind.i64.max = 9223372036854775807 := by kernel_rfl
  unfold I64
  omega
theorem rd_one {vs : List V} {n : Nat} (h : Rd Tryz.prog n 3 vs) : ∃ x : Int, vs = [.int .i64 x] ∧ I64 x := by
  obtain ⟨a, rfl, hw⟩ := rd_int Tryz.underlying3 h
  exact ⟨a, rfl, wf64 hw⟩
theorem rd_byte {vs : List V} {n : Nat} (h : Rd Tryz.prog n 5 vs) : ∃ c : UInt8, vs = [byV c] := by
  obtain ⟨a, rfl, hw⟩ := rd_int Tryz.underlying5 h
  simp only [Lit.wf, Bool.and_eq_true, decide_eq_true_eq] at hw
  have e1 : IntKind.u8.min = 0 := by kernel_rfl
  have e2 : IntKind.u8.max = 255 := by kernel_rfl
  refine ⟨UInt8.ofNat a.toNat, ?_⟩
  rw [byV_of (by omega), show ((a.toNat : Nat) : Int) = a by omega]
theorem rd_bytes {v : V} (h : RdW Tryz.prog 22 v) : ∃ l : List UInt8, v = .ro 1 (bys l) := by
  obtain ⟨n, vs, hr, rfl⟩ := h
  obtain ⟨es, rfl, _, hes⟩ := rd_slice Tryz.underlying22 hr
  obtain ⟨l, he, _⟩ := map_map_of (g := mkV (tagg Tryz.prog 5)) (f' := byV) (fun x hx => rd_byte (hes x hx)) (fun y => by rw [tyA5]; rfl)
  refine ⟨l, ?_⟩
  rw [he, tyA22, show Tryz.prog.cellsOf 5 = 1 by kernel_rfl]
  rfl
theorem rd_ints {vs : List V} {n : Nat} (h : Rd Tryz.prog n 23 vs) : ∃ l : List Int, vs = [.ro 1 (nums l)] ∧ ∀ c ∈ l, I64 c := by
  obtain ⟨es, rfl, _, hes⟩ := rd_slice Tryz.underlying23 h
  obtain ⟨l, he, hl⟩ := map_map_of (g := mkV (tagg Tryz.prog 3)) (f := fun x : {x : Int // I64 x} => [V.int .i64 x.1]) (f' := fun x : {x : Int // I64 x} => V.int .i64 x.1) (fun x hx => by
    obtain ⟨y, h1, h2⟩ := rd_one (hes x hx)
    exact ⟨⟨y, h2⟩, h1⟩) (fun y => by rw [tyA3]; rfl)
  refine ⟨l.map Subtype.val, ?_, ?_⟩
  · rw [he, show Tryz.prog.cellsOf 3 = 1 by kernel_rfl]
    simp [nums]
  · intro c hc
    obtain ⟨y, _, rfl⟩ := List.mem_map.1 hc
    exact y.2
theorem rd_event {v : V} (h : RdW Tryz.prog 29 v) : ∃ e : Ev, v = e.v ∧ EvOk e := by
  obtain ⟨n, vs, hr, rfl⟩ := h
  obtain ⟨u0, w0, rfl, h0, u1, w1, rfl, h1, u2, w2, rfl, h2, u3, w3, rfl, h3, rfl⟩ := rd_struct Tryz.underlying29 hr
  obtain ⟨kind, rfl, o1⟩ := rd_one h0
  obtain ⟨time, rfl, o2⟩ := rd_one h1
  obtain ⟨a0, b0, rfl, g0, a1, b1, rfl, g1, a2, b2, rfl, g2, a3, b3, rfl, g3, a4, b4, rfl, g4, rfl⟩ := rd_struct Tryz.underlying25 h2
  obtain ⟨item, rfl, o3⟩ := rd_one g0
  obtain ⟨ch, rfl, o4⟩ := rd_ints g1
  obtain ⟨value, rfl, o5⟩ := rd_one g2
  obtain ⟨text, rfl, _⟩ := rd_str Tryz.underlying9 g3
  obtain ⟨om, rfl⟩ := rd_bool Tryz.underlying4 g4
  obtain ⟨a5, b5, rfl, g5, a6, b6, rfl, g6, a7, b7, rfl, g7, a8, b8, rfl, g8, rfl⟩ := rd_struct Tryz.underlying27 h3
  obtain ⟨ik, rfl, o6⟩ := rd_one g5
  obtain ⟨it, rfl, _⟩ := rd_one g6
  obtain ⟨il, rfl, o7⟩ := rd_one g7
  obtain ⟨ig, rfl, o8⟩ := rd_one g8
  exact ⟨⟨kind, time, item, ch, value, text, om, ik, it, il, ig⟩, by rw [tyA29]; rfl, o1, o2, o3, o4, o5, o6, o7, o8⟩

theorem glob0 : Tryz.prog.globalNamed "errors.errorType" = some 0 := by kernel_rfl
theorem cutRt : (Tryz.prog.cutTypes.find? (·.1 == "internal/reflectlite.rtype")).map (·.2) = some 118 := by kernel_rfl
theorem oneRow : ((List.range 172).filter fun t => Tryz.prog.rowNamed t [101, 114, 114, 111, 114]) = [70] := by kernel_rfl
theorem tsize : Tryz.prog.types.size = 172 := by kernel_rfl
abbrev laidL {H : Type} : List (String × DataW H) := [("errors.errorType", Rows.laid_errors_errorType)]
theorem handle_of_laid {W : World} (h : laidMetH Tryz.prog [("errors.errorType", Rows.laid_errors_errorType)] W) : Glw 0 errT W := by
  have h' : laidMet Tryz.prog [] W ∧ handlesMet Tryz.prog [("errors.errorType", Rows.laid_errors_errorType)] W := h
  obtain ⟨name, u, ty, e1, e2, e3, e4, e5⟩ := h'.2 _ (List.mem_singleton.2 rfl)
  have en : name = [101, 114, 114, 111, 114] := (Option.some.inj e1).symm
  subst en
  obtain rfl := Option.some.inj (cutRt.symm.trans e2)
  have hm : ty ∈ (List.range 172).filter fun t => Tryz.prog.rowNamed t [101, 114, 114, 111, 114] := List.mem_filter.2 ⟨List.mem_range.2 (by rw [← tsize]; exact e3), e4⟩
  rw [oneRow] at hm
  obtain rfl := List.mem_singleton.1 hm
  have hh : typeHandle Tryz.prog 70 = .pointer (some ⟨1, 70, none⟩) := by kernel_rfl
  rw [hh] at e5
  have := World.var?_cell glob0 e5 0
  unfold Glw
  simpa using this
noncomputable def laidWorld (os : Os) : World :=
  let w0 := World.holding Tryz.prog os ⟨#[], #[], []⟩
  { w0 with heap := w0.heap.modify 0 fun
      | .cells _ t frozen => .cells #[.iface 118 (.agg #[.pointer (some ⟨1, 70, none⟩)])] t frozen
      | o => o }
theorem laidWorld_met (os : Os) (args : Array Value) : laidMetH Tryz.prog [("errors.errorType", Rows.laid_errors_errorType)] ((laidWorld os).forCall (fun _ _ => 0) ⟨#[], args, []⟩).memory :=
  laidMetH_of_parts (laidMet_nil _ _) (by kernel_rfl)

set_option maxRecDepth 100000 in
theorem resumeJournalsLifted (os : Os) (started : os.Started) (H : Type) (enc : TypeId × Value → H) :
    ReturnsInHanded {} Tryz.checked os 3 .any (fun w args => (Rows.resumeJournalsSpec.pre enc Tryz.prog Tryz.f3 [] false w args ∧ laidMetH Tryz.prog [("errors.errorType", Rows.laid_errors_errorType)] w) ∧ sizedMet enc Tryz.prog Tryz.f3 (OpenSpec.ofChange Rows.resumeJournalsSpec) false w args)
      (Rows.resumeJournalsSpec.post enc Tryz.prog Tryz.f3 false true false false) := by
  refine returnsInHanded_of_change_and (C := Tryz.checked) (X := fun w _ => laidMetH Tryz.prog [("errors.errorType", Rows.laid_errors_errorType)] w) (fun _ _ _ hh h => h.of_heap hh) own started (by kernel_rfl) Tryz.func3
    (ChangeSpec.witness_at (enc := enc) (C := Tryz.checked) (os := os) (X := fun w _ => laidMetH Tryz.prog [("errors.errorType", Rows.laid_errors_errorType)] w) false (laidWorld os) #[.slice none 0 0, .slice none 0 0, .agg #[.int .i64 0, .int .i64 0, .int .i64 0, .slice none 0 0, .int .i64 0, .string ⟨#[]⟩, .bool false, .int .i64 0, .int .i64 0, .int .i64 0, .int .i64 0]] 8 rfl (by kernel_rfl) (by kernel_rfl) (by kernel_rfl) (by kernel_rfl) (by kernel_rfl) (laidWorld_met os _)) ?_
  intro W base args ds gs before hval hW _ _ hL _
  refine row_contractLG (L := [22, 5, 29, 25, 27, 23, 3, 9, 4]) (tb := 4) (ts := [22, 22, 29]) (by rw [Tryz.params3]) (by kernel_rfl) (by kernel_rfl) laidOut rfl Tryz.underlying4 rfl (fun ds hl => ?_) (fun vs hvs => ?_) (handle_of_laid hL) hval hW
  · match ds, hl with
    | [d1, d2, d3], _ => rfl
  · obtain ⟨v0, r0, rfl, h0, v1, r1, rfl, h1, v2, r2, rfl, h2, rfl⟩ := hvs
    obtain ⟨a, rfl⟩ := rd_bytes h0
    obtain ⟨b, rfl⟩ := rd_bytes h1
    obtain ⟨e, rfl, ho⟩ := rd_event h2
    exact law_acg a b e ho

theorem resumeJournalsOver : Rows.ResumeJournalsSaid :=
  OpenClaim.holds_of_wide 3 Tryz.f3 rfl rfl rfl rfl rfl rfl rfl ⟨rfl, rfl, rfl, rfl, rfl⟩ rfl rfl rfl rfl rfl (by kernel_rfl) Tryz.func3 (by kernel_rfl)
    (of_decide_eq_true (by kernel_rfl)) (by unfold Func.isWrapper; first | (rw [if_pos (by decide +kernel)]; kernel_rfl) | (rw [if_neg (by decide +kernel)]; exact ⟨rfl, rfl⟩))
    (fun os started H enc _ => resumeJournalsLifted os started H enc)

theorem resumeJournalsProved : Rows.ResumeJournalsCardSaid :=
  Claim7.holds_tied_plain_at .later [] [.handle] true (true, "db97320ef596893e4ba84a1da9b13e39f5e763b7e7251a2c14e771c77d0fe19b") true
    resumeJournalsOver (fun _ h => by cases h) (by kernel_rfl) (fun _ h => by cases h) resumeJournals_row_tie rfl ⟨rfl, rfl⟩ (by kernel_rfl) rfl
    (fun f fn hf hfn => by
      obtain rfl : f = 3 := Option.some.inj ((show Tryz.prog.funcNamed "examboard/examboardlaw52.ResumeJournals" = some 3 by kernel_rfl).symm.trans hf) |>.symm
      obtain rfl : fn = Tryz.f3 := (Option.some.inj (Tryz.func3.symm.trans hfn)).symm
      exact ⟨by kernel_rfl, fun j t ht => by
        rw [Tryz.params3] at ht
        have h3 : t = 22 ∨ t = 29 := by
          match j, ht with
          | 0, ht => left; simpa using ht.symm
          | 1, ht => left; simpa using ht.symm
          | 2, ht => right; simpa using ht.symm
          | j + 3, ht => simp at ht
        rcases h3 with rfl | rfl
        · exact (show Tryz.prog.wantsStandIn 22 = false by kernel_rfl)
        · exact (show Tryz.prog.wantsStandIn 29 = false by kernel_rfl)⟩)
    (by kernel_rfl)
#print axioms resumeJournalsProved
end Go.Proofs.YtmkbhognijicjaaGreatDoor
