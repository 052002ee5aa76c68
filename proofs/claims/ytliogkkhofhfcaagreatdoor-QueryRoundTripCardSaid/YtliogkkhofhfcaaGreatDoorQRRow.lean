import Derived.Test.YtliogkkhofhfcaaGreatDoorGR
import Derived.Test.YtliogkkhofhfcaaGreatDoorGL
import Derived.SevenTiedAt
/- Query: QueryRoundTrip, the given statement. No condition. -/
set_option linter.unusedSimpArgs false
set_option maxRecDepth 10000
namespace Go.Proofs.YtliogkkhofhfcaaGreatDoor
open Go.Eng Go.ChangeShapes Go.WideShapes Go.ChangeAt Go.RowKit

theorem readsR (os : Os) {H : Type} (enc : TypeId × Value → H) : ∃ ds places, DataW.whole enc Tryz.prog ((laidWorld os).forCall (fun _ _ => 0) ⟨#[], #[zq, .string ⟨#[]⟩], []⟩).memory Tryz.f4.params.toList Rows.queryRoundTripSpec.vars false #[zq, .string ⟨#[]⟩].toList 8 = some (ds, [], places) :=
  ⟨[dQ, .lit (.string [])], [], by kernel_rfl⟩
theorem laid_metR (os : Os) : laidMet Tryz.prog laidL ((laidWorld os).forCall (fun _ _ => 0) ⟨#[], #[zq, .string ⟨#[]⟩], []⟩).memory :=
  laidMet_of_run' 8 (by kernel_rfl) (by kernel_rfl)

set_option maxRecDepth 100000 in
theorem roundLifted (os : Os) (started : os.Started) (H : Type) (enc : TypeId × Value → H) (F : Stop.Interp) :
    ReturnsInHanded {} Tryz.checked os 4 .any ((OpenSpec.ofChange Rows.queryRoundTripSpec).preRow enc Tryz.prog Tryz.f4 Rows.queryRoundTripRow.domain false Rows.queryRoundTripRow.laid) (((OpenSpec.ofChange Rows.queryRoundTripSpec).at F).post enc Tryz.prog Tryz.f4 false true false false) := by
  obtain ⟨ds, places, hx⟩ := readsR os enc
  refine returnsInHanded_of_row (C := Tryz.checked) (s := OpenSpec.ofChange Rows.queryRoundTripSpec) own started (by kernel_rfl) Tryz.func4
    (witness_row_at (enc := enc) (C := Tryz.checked) false (laidWorld os) #[zq, .string ⟨#[]⟩] rfl (by kernel_rfl) (by kernel_rfl) (by kernel_rfl)
      (OpenSpec.preRow_of_cond 8 hx (by kernel_rfl) (fun k hk => by cases hk) (by kernel_rfl) (laid_metR os))) ?_
  intro W base args ds gs before hval hW _ hcond _ hL hS _
  refine row_contractQ (s := Rows.queryRoundTripSpec) (L := [24, 22, 9, 3, 4]) (tb := 4) (ts := [24, 9]) (by rw [Tryz.params4]) (by kernel_rfl) (by kernel_rfl) laidOut rfl Tryz.underlying4 rfl (fun ds hl => ?_) (fun vs hvs => ?_) (gv_of hL hS) hval hW
  · match ds, hl with
    | [d1, d2], _ => rfl
  · obtain ⟨v0, r0, rfl, h0, v1, r1, rfl, h1, rfl⟩ := hvs
    obtain ⟨q, rfl⟩ := rdw_query h0
    obtain ⟨n1, w1, q1, rfl⟩ := h1
    obtain ⟨s, rfl, _⟩ := rd_str Tryz.underlying9 q1
    exact round_acq q s

theorem queryRoundTripOver : Rows.QueryRoundTripSaid :=
  OpenClaim.holds_of_cond 4 Tryz.f4 rfl rfl rfl rfl rfl rfl rfl ⟨rfl, rfl, rfl, rfl, rfl⟩ rfl rfl rfl rfl rfl (by kernel_rfl) Tryz.func4 (by kernel_rfl)
    (of_decide_eq_true (by kernel_rfl)) (by unfold Func.isWrapper; first | (rw [if_pos (by decide +kernel)]; kernel_rfl) | (rw [if_neg (by decide +kernel)]; exact ⟨rfl, rfl⟩))
    (fun os started H enc _ F => by rw [OpenClaim.pre_eq_preRow]; exact roundLifted os started H enc F)
theorem roundPlain (f : FuncId) (fn : Func) (hf : Tryz.pinned.checked.prog.funcNamed "examboard/examboardlaw21.QueryRoundTrip" = some f) (hfn : Tryz.pinned.checked.prog.funcs[f]? = some fn) :
    false = Tryz.pinned.checked.prog.looks [] ∧ ∀ (j : Nat) t, fn.params[j]? = some t → Tryz.pinned.checked.prog.wantsStandIn t = false := by
  obtain rfl : f = 4 := Option.some.inj ((show Tryz.prog.funcNamed "examboard/examboardlaw21.QueryRoundTrip" = some 4 by kernel_rfl).symm.trans hf) |>.symm
  obtain rfl : fn = Tryz.f4 := (Option.some.inj (Tryz.func4.symm.trans hfn)).symm
  refine ⟨by kernel_rfl, fun j t ht => ?_⟩
  rw [Tryz.params4] at ht
  have h3 : t = 24 ∨ t = 9 := by
    have := Array.mem_of_getElem? ht
    simp at this
    omega
  rcases h3 with rfl | rfl
  · exact (show Tryz.prog.wantsStandIn 24 = false by kernel_rfl)
  · exact (show Tryz.prog.wantsStandIn 9 = false by kernel_rfl)
theorem queryRoundTripProved : Rows.QueryRoundTripCardSaid :=
  Claim7.holds_tied_plain_at .later [] _ _ _ _ queryRoundTripOver (fun _ h => by cases h) (by kernel_rfl) (fun _ h => by cases h) queryRoundTrip_row_tie rfl ⟨rfl, rfl⟩ (by kernel_rfl) rfl roundPlain (by kernel_rfl)
#print axioms queryRoundTripProved
end Go.Proofs.YtliogkkhofhfcaaGreatDoor
