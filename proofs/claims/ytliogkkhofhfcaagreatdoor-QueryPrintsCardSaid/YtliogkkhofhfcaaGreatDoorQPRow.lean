import Derived.Test.YtliogkkhofhfcaaGreatDoorGU
import Derived.Test.YtliogkkhofhfcaaGreatDoorGL
import Derived.SevenTiedAt
/- Query: QueryPrints, the given statement. No condition. -/
set_option linter.unusedSimpArgs false
set_option maxRecDepth 10000
namespace Go.Proofs.YtliogkkhofhfcaaGreatDoor
open Go.Eng Go.ChangeShapes Go.WideShapes Go.ChangeAt Go.RowKit

theorem readsP (os : Os) {H : Type} (enc : TypeId × Value → H) : ∃ ds places, DataW.whole enc Tryz.prog ((laidWorld os).forCall (fun _ _ => 0) ⟨#[], #[zq], []⟩).memory Tryz.f3.params.toList Rows.queryPrintsSpec.vars false #[zq].toList 8 = some (ds, [], places) :=
  ⟨[dQ], [], by kernel_rfl⟩
theorem laid_metP (os : Os) : laidMet Tryz.prog laidL ((laidWorld os).forCall (fun _ _ => 0) ⟨#[], #[zq], []⟩).memory :=
  laidMet_of_run' 8 (by kernel_rfl) (by kernel_rfl)

set_option maxRecDepth 100000 in
theorem printsLifted (os : Os) (started : os.Started) (H : Type) (enc : TypeId × Value → H) (F : Stop.Interp) :
    ReturnsInHanded {} Tryz.checked os 3 .any ((OpenSpec.ofChange Rows.queryPrintsSpec).preRow enc Tryz.prog Tryz.f3 Rows.queryPrintsRow.domain false Rows.queryPrintsRow.laid) (((OpenSpec.ofChange Rows.queryPrintsSpec).at F).post enc Tryz.prog Tryz.f3 false true false false) := by
  obtain ⟨ds, places, hx⟩ := readsP os enc
  refine returnsInHanded_of_row (C := Tryz.checked) (s := OpenSpec.ofChange Rows.queryPrintsSpec) own started (by kernel_rfl) Tryz.func3
    (witness_row_at (enc := enc) (C := Tryz.checked) false (laidWorld os) #[zq] rfl (by kernel_rfl) (by kernel_rfl) (by kernel_rfl)
      (OpenSpec.preRow_of_cond 8 hx (by kernel_rfl) (fun k hk => by cases hk) (by kernel_rfl) (laid_metP os))) ?_
  intro W base args ds gs before hval hW _ hcond _ hL hS _
  refine row_contractQ (s := Rows.queryPrintsSpec) (L := [24, 22, 9, 3, 4]) (tb := 4) (ts := [24]) (by rw [Tryz.params3]) (by kernel_rfl) (by kernel_rfl) laidOut rfl Tryz.underlying4 rfl (fun ds hl => ?_) (fun vs hvs => ?_) (gv_of hL hS) hval hW
  · match ds, hl with
    | [d1], _ => rfl
  · obtain ⟨v0, r0, rfl, h0, rfl⟩ := hvs
    obtain ⟨q, rfl⟩ := rdw_query h0
    exact prints_acq q

theorem queryPrintsOver : Rows.QueryPrintsSaid :=
  OpenClaim.holds_of_cond 3 Tryz.f3 rfl rfl rfl rfl rfl rfl rfl ⟨rfl, rfl, rfl, rfl, rfl⟩ rfl rfl rfl rfl rfl (by kernel_rfl) Tryz.func3 (by kernel_rfl)
    (of_decide_eq_true (by kernel_rfl)) (by unfold Func.isWrapper; first | (rw [if_pos (by decide +kernel)]; kernel_rfl) | (rw [if_neg (by decide +kernel)]; exact ⟨rfl, rfl⟩))
    (fun os started H enc _ F => by rw [OpenClaim.pre_eq_preRow]; exact printsLifted os started H enc F)
theorem printsPlain (f : FuncId) (fn : Func) (hf : Tryz.pinned.checked.prog.funcNamed "examboard/examboardlaw21.QueryPrints" = some f) (hfn : Tryz.pinned.checked.prog.funcs[f]? = some fn) :
    false = Tryz.pinned.checked.prog.looks [] ∧ ∀ (j : Nat) t, fn.params[j]? = some t → Tryz.pinned.checked.prog.wantsStandIn t = false := by
  obtain rfl : f = 3 := Option.some.inj ((show Tryz.prog.funcNamed "examboard/examboardlaw21.QueryPrints" = some 3 by kernel_rfl).symm.trans hf) |>.symm
  obtain rfl : fn = Tryz.f3 := (Option.some.inj (Tryz.func3.symm.trans hfn)).symm
  refine ⟨by kernel_rfl, fun j t ht => ?_⟩
  rw [Tryz.params3] at ht
  have h3 : t = 24 := by
    have := Array.mem_of_getElem? ht
    simp at this
    omega
  subst h3
  exact (show Tryz.prog.wantsStandIn 24 = false by kernel_rfl)
theorem queryPrintsProved : Rows.QueryPrintsCardSaid :=
  Claim7.holds_tied_plain_at .later [] _ _ _ _ queryPrintsOver (fun _ h => by cases h) (by kernel_rfl) (fun _ h => by cases h) queryPrints_row_tie rfl ⟨rfl, rfl⟩ (by kernel_rfl) rfl printsPlain (by kernel_rfl)
#print axioms queryPrintsProved
end Go.Proofs.YtliogkkhofhfcaaGreatDoor
