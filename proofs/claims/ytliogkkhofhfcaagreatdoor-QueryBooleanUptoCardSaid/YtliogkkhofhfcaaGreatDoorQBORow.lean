import Derived.Test.YtliogkkhofhfcaaGreatDoorGM
import Derived.Test.YtliogkkhofhfcaaGreatDoorGL
import Derived.SevenTiedAt
/- Query: QueryBoolean, the given statement (second form). No condition. -/
set_option linter.unusedSimpArgs false
set_option maxRecDepth 10000
namespace Go.Proofs.YtliogkkhofhfcaaGreatDoor
open Go.Eng Go.ChangeShapes Go.WideShapes Go.ChangeAt Go.RowKit

theorem readsB (os : Os) {H : Type} (enc : TypeId × Value → H) : ∃ ds places, DataW.whole enc Tryz.prog ((laidWorld os).forCall (fun _ _ => 0) ⟨#[], #[zb, ze, zq, zq], []⟩).memory Tryz.f5.params.toList Rows.queryBooleanSpec.vars false #[zb, ze, zq, zq].toList 8 = some (ds, [], places) ∧ Rows.uptoSmall H (ds ++ []) = true :=
  ⟨[dB, dE, dQ, dQ], [], by kernel_rfl, by kernel_rfl⟩

set_option maxRecDepth 100000 in
theorem boolLifted (os : Os) (started : os.Started) (H : Type) (enc : TypeId × Value → H) (F : Stop.Interp) :
    ReturnsInHanded {} Tryz.checked os 5 .any ((Rows.OpenSpec.upto Rows.queryBooleanSpec).preRow enc Tryz.prog Tryz.f5 Rows.queryBooleanUptoRow.domain false Rows.queryBooleanUptoRow.laid) (((Rows.OpenSpec.upto Rows.queryBooleanSpec).at F).post enc Tryz.prog Tryz.f5 false true false false) := by
  obtain ⟨ds, places, hx, hsm⟩ := readsB os enc
  refine returnsInHanded_of_row (C := Tryz.checked) (s := Rows.OpenSpec.upto Rows.queryBooleanSpec) own started (by kernel_rfl) Tryz.func5
    (witness_row_at (enc := enc) (C := Tryz.checked) false (laidWorld os) #[zb, ze, zq, zq] rfl (by kernel_rfl) (by kernel_rfl) (by kernel_rfl)
      (OpenSpec.preRow_of_cond 8 hx (by kernel_rfl) (fun k hk => by cases hk; exact hsm) (by kernel_rfl) (laid_metB os))) ?_
  intro W base args ds gs before hval hW _ hcond _ hL hS _
  refine row_contractQB (s := Rows.queryBooleanSpec) (L := [42, 51, 24, 22, 36, 34, 37, 189, 38, 191, 39, 40, 105, 43, 69, 67, 46, 44, 193, 49, 47, 3, 9, 4]) (tb := 4) (ts := [42, 51, 24, 24]) (by rw [Tryz.params5]) (by kernel_rfl) (by kernel_rfl) laidOut rfl Tryz.underlying4 rfl (fun ds hl => ?_) (fun vs hvs hsm => ?_) (gv_of hL hS) (bulkOk H) (fun d hd => bulk_bound (hcond _ rfl) d (List.mem_append_left _ hd)) hval hW
  · match ds, hl with
    | [d1, d2, d3, d4], _ => rfl
  · obtain ⟨v0, r0, rfl, h0, v1, r1, rfl, h1, v2, r2, rfl, h2, v3, r3, rfl, h3, rfl⟩ := hvs
    obtain ⟨b, rfl⟩ := rdw_bank h0
    obtain ⟨e, rfl⟩ := rdw_entry h1
    obtain ⟨p, rfl⟩ := rdw_query h2
    obtain ⟨q, rfl⟩ := rdw_query h3
    exact boolean_acq b e p q (sml_entry (hsm _ (by simp))) (sml_query _ p (Nat.lt_succ_self _) (hsm _ (by simp))) (sml_query _ q (Nat.lt_succ_self _) (hsm _ (by simp)))

theorem queryBooleanUpto : Rows.QueryBooleanUptoSaid :=
  OpenClaim.holds_of_cond 5 Tryz.f5 rfl rfl rfl rfl rfl rfl rfl ⟨rfl, rfl, rfl, rfl, rfl⟩ rfl rfl rfl rfl rfl (by kernel_rfl) Tryz.func5 (by kernel_rfl)
    (of_decide_eq_true (by kernel_rfl)) (by unfold Func.isWrapper; first | (rw [if_pos (by decide +kernel)]; kernel_rfl) | (rw [if_neg (by decide +kernel)]; exact ⟨rfl, rfl⟩))
    (fun os started H enc _ F => by rw [OpenClaim.pre_eq_preRow]; exact boolLifted os started H enc F)
theorem boolPlain (f : FuncId) (fn : Func) (hf : Tryz.pinned.checked.prog.funcNamed "examboard/examboardlaw21.QueryBoolean" = some f) (hfn : Tryz.pinned.checked.prog.funcs[f]? = some fn) :
    false = Tryz.pinned.checked.prog.looks [] ∧ ∀ (j : Nat) t, fn.params[j]? = some t → Tryz.pinned.checked.prog.wantsStandIn t = false := by
  obtain rfl : f = 5 := Option.some.inj ((show Tryz.prog.funcNamed "examboard/examboardlaw21.QueryBoolean" = some 5 by kernel_rfl).symm.trans hf) |>.symm
  obtain rfl : fn = Tryz.f5 := (Option.some.inj (Tryz.func5.symm.trans hfn)).symm
  refine ⟨by kernel_rfl, fun j t ht => ?_⟩
  rw [Tryz.params5] at ht
  have h3 : t = 42 ∨ t = 51 ∨ t = 24 := by
    have := Array.mem_of_getElem? ht
    simp at this
    omega
  rcases h3 with rfl | rfl | rfl
  · exact (show Tryz.prog.wantsStandIn 42 = false by kernel_rfl)
  · exact (show Tryz.prog.wantsStandIn 51 = false by kernel_rfl)
  · exact (show Tryz.prog.wantsStandIn 24 = false by kernel_rfl)
theorem queryBooleanProved : Rows.QueryBooleanUptoCardSaid :=
  Claim7.holds_tied_plain_at .later [] _ _ _ _ queryBooleanUpto (fun _ h => by cases h) (by kernel_rfl) (fun _ h => by cases h) queryBooleanUpto_row_tie rfl ⟨rfl, rfl⟩ (by kernel_rfl) rfl boolPlain (by kernel_rfl)
#print axioms queryBooleanProved
end Go.Proofs.YtliogkkhofhfcaaGreatDoor
