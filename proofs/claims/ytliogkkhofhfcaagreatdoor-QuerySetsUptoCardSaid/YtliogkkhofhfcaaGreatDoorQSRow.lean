import Derived.Test.YtliogkkhofhfcaaGreatDoorGN
import Derived.Test.YtliogkkhofhfcaaGreatDoorGL
import Derived.SevenTiedAt
/- Query: QuerySets, the given statement (second form). No condition. -/
set_option linter.unusedSimpArgs false
set_option maxRecDepth 10000
namespace Go.Proofs.YtliogkkhofhfcaaGreatDoor
open Go.Eng Go.ChangeShapes Go.WideShapes Go.ChangeAt Go.RowKit

theorem laid_metS (os : Os) : laidMet Tryz.prog laidL ((laidWorld os).forCall (fun _ _ => 0) ⟨#[], #[zb, zq, zq], []⟩).memory :=
  laidMet_of_run' 8 (by kernel_rfl) (by kernel_rfl)
theorem readsS (os : Os) {H : Type} (enc : TypeId × Value → H) : ∃ ds places, DataW.whole enc Tryz.prog ((laidWorld os).forCall (fun _ _ => 0) ⟨#[], #[zb, zq, zq], []⟩).memory Tryz.f6.params.toList Rows.querySetsSpec.vars false #[zb, zq, zq].toList 8 = some (ds, [], places) ∧ Rows.uptoSmall H (ds ++ []) = true :=
  ⟨[dB, dQ, dQ], [], by kernel_rfl, by kernel_rfl⟩

set_option maxRecDepth 100000 in
theorem setsLifted (os : Os) (started : os.Started) (H : Type) (enc : TypeId × Value → H) (F : Stop.Interp) :
    ReturnsInHanded {} Tryz.checked os 6 .any ((Rows.OpenSpec.upto Rows.querySetsSpec).preRow enc Tryz.prog Tryz.f6 Rows.querySetsUptoRow.domain false Rows.querySetsUptoRow.laid) (((Rows.OpenSpec.upto Rows.querySetsSpec).at F).post enc Tryz.prog Tryz.f6 false true false false) := by
  obtain ⟨ds, places, hx, hsm⟩ := readsS os enc
  refine returnsInHanded_of_row (C := Tryz.checked) (s := Rows.OpenSpec.upto Rows.querySetsSpec) own started (by kernel_rfl) Tryz.func6
    (witness_row_at (enc := enc) (C := Tryz.checked) false (laidWorld os) #[zb, zq, zq] rfl (by kernel_rfl) (by kernel_rfl) (by kernel_rfl)
      (OpenSpec.preRow_of_cond 8 hx (by kernel_rfl) (fun k hk => by cases hk; exact hsm) (by kernel_rfl) (laid_metS os))) ?_
  intro W base args ds gs before hval hW _ hcond _ hL hS _
  refine row_contractQB (s := Rows.querySetsSpec) (L := [42, 51, 24, 22, 36, 34, 37, 189, 38, 191, 39, 40, 105, 43, 69, 67, 46, 44, 193, 49, 47, 3, 9, 4]) (tb := 4) (ts := [42, 24, 24]) (by rw [Tryz.params6]) (by kernel_rfl) (by kernel_rfl) laidOut rfl Tryz.underlying4 rfl (fun ds hl => ?_) (fun vs hvs hsm => ?_) (gv_of hL hS) (bulkOk H) (fun d hd => bulk_bound (hcond _ rfl) d (List.mem_append_left _ hd)) hval hW
  · match ds, hl with
    | [d1, d2, d3], _ => rfl
  · obtain ⟨v0, r0, rfl, h0, v1, r1, rfl, h1, v2, r2, rfl, h2, rfl⟩ := hvs
    obtain ⟨b, rfl⟩ := rdw_bank h0
    obtain ⟨p, rfl⟩ := rdw_query h1
    obtain ⟨q, rfl⟩ := rdw_query h2
    exact sets_acq b p q (sml_bank (hsm _ (by simp))).1 (sml_bank (hsm _ (by simp))).2 (sml_query _ p (Nat.lt_succ_self _) (hsm _ (by simp))) (sml_query _ q (Nat.lt_succ_self _) (hsm _ (by simp)))

theorem querySetsUpto : Rows.QuerySetsUptoSaid :=
  OpenClaim.holds_of_cond 6 Tryz.f6 rfl rfl rfl rfl rfl rfl rfl ⟨rfl, rfl, rfl, rfl, rfl⟩ rfl rfl rfl rfl rfl (by kernel_rfl) Tryz.func6 (by kernel_rfl)
    (of_decide_eq_true (by kernel_rfl)) (by unfold Func.isWrapper; first | (rw [if_pos (by decide +kernel)]; kernel_rfl) | (rw [if_neg (by decide +kernel)]; exact ⟨rfl, rfl⟩))
    (fun os started H enc _ F => by rw [OpenClaim.pre_eq_preRow]; exact setsLifted os started H enc F)
theorem setsPlain (f : FuncId) (fn : Func) (hf : Tryz.pinned.checked.prog.funcNamed "examboard/examboardlaw21.QuerySets" = some f) (hfn : Tryz.pinned.checked.prog.funcs[f]? = some fn) :
    false = Tryz.pinned.checked.prog.looks [] ∧ ∀ (j : Nat) t, fn.params[j]? = some t → Tryz.pinned.checked.prog.wantsStandIn t = false := by
  obtain rfl : f = 6 := Option.some.inj ((show Tryz.prog.funcNamed "examboard/examboardlaw21.QuerySets" = some 6 by kernel_rfl).symm.trans hf) |>.symm
  obtain rfl : fn = Tryz.f6 := (Option.some.inj (Tryz.func6.symm.trans hfn)).symm
  refine ⟨by kernel_rfl, fun j t ht => ?_⟩
  rw [Tryz.params6] at ht
  have h3 : t = 42 ∨ t = 24 := by
    have := Array.mem_of_getElem? ht
    simp at this
    omega
  rcases h3 with rfl | rfl
  · exact (show Tryz.prog.wantsStandIn 42 = false by kernel_rfl)
  · exact (show Tryz.prog.wantsStandIn 24 = false by kernel_rfl)
theorem querySetsProved : Rows.QuerySetsUptoCardSaid :=
  Claim7.holds_tied_plain_at .later [] _ _ _ _ querySetsUpto (fun _ h => by cases h) (by kernel_rfl) (fun _ h => by cases h) querySetsUpto_row_tie rfl ⟨rfl, rfl⟩ (by kernel_rfl) rfl setsPlain (by kernel_rfl)
#print axioms querySetsProved
end Go.Proofs.YtliogkkhofhfcaaGreatDoor
