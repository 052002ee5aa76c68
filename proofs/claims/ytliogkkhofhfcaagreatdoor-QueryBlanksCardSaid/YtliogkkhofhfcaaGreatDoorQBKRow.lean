import Derived.Test.YtliogkkhofhfcaaGreatDoorGQ
import Derived.Test.YtliogkkhofhfcaaGreatDoorGL
import Derived.SevenTiedAt
/- Query: QueryBlanks, the given statement. No condition. -/
set_option linter.unusedSimpArgs false
set_option maxRecDepth 10000
namespace Go.Proofs.YtliogkkhofhfcaaGreatDoor
open Go.Eng Go.ChangeShapes Go.WideShapes Go.ChangeAt Go.RowKit

theorem readsK (os : Os) {H : Type} (enc : TypeId × Value → H) : ∃ ds places, DataW.whole enc Tryz.prog ((laidWorld os).forCall (fun _ _ => 0) ⟨#[], #[.string ⟨#[]⟩, .int .u8 0], []⟩).memory Tryz.f7.params.toList Rows.queryBlanksSpec.vars false #[.string ⟨#[]⟩, .int .u8 0].toList 8 = some (ds, [], places) :=
  ⟨[.lit (.string []), .lit (.int .u8 0)], [], by kernel_rfl⟩
theorem laid_metK (os : Os) : laidMet Tryz.prog laidL ((laidWorld os).forCall (fun _ _ => 0) ⟨#[], #[.string ⟨#[]⟩, .int .u8 0], []⟩).memory :=
  laidMet_of_run' 8 (by kernel_rfl) (by kernel_rfl)

set_option maxRecDepth 100000 in
theorem blanksLifted (os : Os) (started : os.Started) (H : Type) (enc : TypeId × Value → H) (F : Stop.Interp) :
    ReturnsInHanded {} Tryz.checked os 7 .any ((OpenSpec.ofChange Rows.queryBlanksSpec).preRow enc Tryz.prog Tryz.f7 Rows.queryBlanksRow.domain false Rows.queryBlanksRow.laid) (((OpenSpec.ofChange Rows.queryBlanksSpec).at F).post enc Tryz.prog Tryz.f7 false true false false) := by
  obtain ⟨ds, places, hx⟩ := readsK os enc
  refine returnsInHanded_of_row (C := Tryz.checked) (s := OpenSpec.ofChange Rows.queryBlanksSpec) own started (by kernel_rfl) Tryz.func7
    (witness_row_at (enc := enc) (C := Tryz.checked) false (laidWorld os) #[.string ⟨#[]⟩, .int .u8 0] rfl (by kernel_rfl) (by kernel_rfl) (by kernel_rfl)
      (OpenSpec.preRow_of_cond 8 hx (by kernel_rfl) (fun k hk => by cases hk) (by kernel_rfl) (laid_metK os))) ?_
  intro W base args ds gs before hval hW _ hcond _ hL hS _
  refine row_contractQ (s := Rows.queryBlanksSpec) (L := [9, 5, 3, 4]) (tb := 4) (ts := [9, 5]) (by rw [Tryz.params7]) (by kernel_rfl) (by kernel_rfl) laidOut rfl Tryz.underlying4 rfl (fun ds hl => ?_) (fun vs hvs => ?_) (gv_of hL hS) hval hW
  · match ds, hl with
    | [d1, d2], _ => rfl
  · obtain ⟨v0, r0, rfl, h0, v1, r1, rfl, h1, rfl⟩ := hvs
    obtain ⟨n0, w0, q0, rfl⟩ := h0
    obtain ⟨s, rfl, _⟩ := rd_str Tryz.underlying9 q0
    obtain ⟨n1, w1, q1, rfl⟩ := h1
    obtain ⟨a, rfl, hw⟩ := rd_int Tryz.underlying5 q1
    simp only [Lit.wf, Bool.and_eq_true, decide_eq_true_eq] at hw
    have e1 : IntKind.u8.min = 0 := by kernel_rfl
    have e2 : IntKind.u8.max = 255 := by kernel_rfl
    obtain ⟨n, rfl⟩ : ∃ n : Nat, a = n := ⟨a.toNat, by omega⟩
    exact blanks_acq s n (by omega)

theorem queryBlanksOver : Rows.QueryBlanksSaid :=
  OpenClaim.holds_of_cond 7 Tryz.f7 rfl rfl rfl rfl rfl rfl rfl ⟨rfl, rfl, rfl, rfl, rfl⟩ rfl rfl rfl rfl rfl (by kernel_rfl) Tryz.func7 (by kernel_rfl)
    (of_decide_eq_true (by kernel_rfl)) (by unfold Func.isWrapper; first | (rw [if_pos (by decide +kernel)]; kernel_rfl) | (rw [if_neg (by decide +kernel)]; exact ⟨rfl, rfl⟩))
    (fun os started H enc _ F => by rw [OpenClaim.pre_eq_preRow]; exact blanksLifted os started H enc F)
theorem blanksPlain (f : FuncId) (fn : Func) (hf : Tryz.pinned.checked.prog.funcNamed "examboard/examboardlaw21.QueryBlanks" = some f) (hfn : Tryz.pinned.checked.prog.funcs[f]? = some fn) :
    false = Tryz.pinned.checked.prog.looks [] ∧ ∀ (j : Nat) t, fn.params[j]? = some t → Tryz.pinned.checked.prog.wantsStandIn t = false := by
  obtain rfl : f = 7 := Option.some.inj ((show Tryz.prog.funcNamed "examboard/examboardlaw21.QueryBlanks" = some 7 by kernel_rfl).symm.trans hf) |>.symm
  obtain rfl : fn = Tryz.f7 := (Option.some.inj (Tryz.func7.symm.trans hfn)).symm
  refine ⟨by kernel_rfl, fun j t ht => ?_⟩
  rw [Tryz.params7] at ht
  have h3 : t = 9 ∨ t = 5 := by
    have := Array.mem_of_getElem? ht
    simp at this
    omega
  rcases h3 with rfl | rfl
  · exact (show Tryz.prog.wantsStandIn 9 = false by kernel_rfl)
  · exact (show Tryz.prog.wantsStandIn 5 = false by kernel_rfl)
theorem queryBlanksProved : Rows.QueryBlanksCardSaid :=
  Claim7.holds_tied_plain_at .later [] _ _ _ _ queryBlanksOver (fun _ h => by cases h) (by kernel_rfl) (fun _ h => by cases h) queryBlanks_row_tie rfl ⟨rfl, rfl⟩ (by kernel_rfl) rfl blanksPlain (by kernel_rfl)
#print axioms queryBlanksProved
end Go.Proofs.YtliogkkhofhfcaaGreatDoor
