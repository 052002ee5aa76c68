import Derived.Test.YtnklkkagpkcmfaaGreatDoorCards
import Derived.SevenTiedAt
set_option linter.all false
set_option maxRecDepth 10000
namespace Go.Proofs.YtnklkkagpkcmfaaGreatDoor
open Go
theorem noGo : Tryz.prog.funcs.any Func.goes = false := by kernel_rfl
theorem goes_no (f : FuncId) : Tryz.prog.goes f = false := by
  unfold Program.goes
  rw [noGo, Bool.and_false, Bool.or_false]
  have h : ∀ g : FuncId, (Tryz.prog.funcs[g]?).any Func.goes = false := fun g => by
    cases hg : Tryz.prog.funcs[g]? with
    | none => rfl
    | some fn =>
      have hm : fn ∈ Tryz.prog.funcs := Array.mem_of_getElem? hg
      have h2 := Array.any_eq_false'.1 noGo fn hm
      simpa using h2
  simp [h]
theorem goesAt_no (s : String) : Tryz.prog.goesAt .entering s = false := by
  unfold Program.goesAt Program.goesFrom
  cases Tryz.prog.funcNamed s with
  | none => rfl
  | some f => simp [goes_no]
theorem jDgoes : false = Rows.simulateDrawsRow.goesBy Tryz.pinned.checked.prog := (goesAt_no _).symm
theorem jAgoes : false = Rows.simulateAnswersUptoRow.goesBy Tryz.pinned.checked.prog := (goesAt_no _).symm
theorem jFgoes : false = Rows.simulateAnswersRow.goesBy Tryz.pinned.checked.prog := (goesAt_no _).symm
end Go.Proofs.YtnklkkagpkcmfaaGreatDoor
