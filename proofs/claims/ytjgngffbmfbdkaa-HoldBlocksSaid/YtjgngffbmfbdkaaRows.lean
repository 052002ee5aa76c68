/-
  No cell of these rows narrows 'for every input' (looked for: loops, veiled, ifaces, maps, wideKeys, modest, calm, conditions, laid).
  DERIVED. THE GIVEN ROWS OF THIS SEAT. 6 by the template 'for every input the law returns true; each argument reads behind the call as it read before'; 0 by the template 'total and deterministic' (their statements: YtjgngffbmfbdkaaTotals.lean).
  GIVEN WITH THE SEED: the statements are not yours to turn. If you find one false, say at which input.
  Laid BY PROGRAM, IN A SANDBOX (cutbox-rows.mjs): the forced cells as the released guide's own fill.sh prints them over the translation 9557577a27be1ddb… (all of the seat's roots in one cut). By AI agents, Wed Nov 11 2026. No macro, syntax, notation, axiom, sorry.
-/
import Derived.Test.YtjgngffbmfbdkaaChecked
import GoSem.Claim
import GoSem.ClaimJoined
import GoSem.ClaimMapViews
import Derived.JoinedTies
import Derived.KernelRfl
namespace Go.Proofs.Ytjgngffbmfbdkaa
/- THE CELL 'sum', in the pinned program and in every row, IS THE sha256 OF THE DUMP (.gsa) THAT YtjgngffbmfbdkaaProg.lean LOADS. Nothing in Lean hashes anything: it is a label: what it is worth is what the hold of that sum in a sandbox is worth. -/
noncomputable def Try.pinned : Pinned := { name := "ytjgngffbmfbdkaa", sum := "9557577a27be1ddba15d669a64da687a5e867cb5e8c249e99e8032baef8e4dcf", checked := Try.checked }
namespace Rows
def none {H : Type} : Left H := { results := [], args := [] }

/-- 'examboardlaw54.HoldPlaces': WHATEVER THE INPUT: true; the input reads as it did. -/
def holdPlacesSpec : ChangeSpec := { name := "holdPlaces", fn := fun _ => fun
  | [d1, d2, d3] => { results := [.lit (.bool true)], args := [d1, d2, d3] }
  | _ => none }
def holdPlacesRow : OpenClaim := { program := "ytjgngffbmfbdkaa", sum := "9557577a27be1ddba15d669a64da687a5e867cb5e8c249e99e8032baef8e4dcf", func := "examboard/examboardlaw54.HoldPlaces", spec := "holdPlaces", apart := false }
def HoldPlacesSaid : Prop := holdPlacesRow.holds Try.pinned (OpenSpec.ofChange holdPlacesSpec)

/-- ITS FALSE NEIGHBOUR: 'it returns false'. Refute it at one input. -/
def holdPlacesWrong : ChangeSpec := { name := "holdPlaces", fn := fun _ => fun
  | [d1, d2, d3] => { results := [.lit (.bool false)], args := [d1, d2, d3] }
  | _ => none }
def HoldPlacesWrongFalsely : Prop := holdPlacesRow.holds Try.pinned (OpenSpec.ofChange holdPlacesWrong)

/-- 'examboardlaw54.HoldChecks': WHATEVER THE INPUT: true; the input reads as it did. -/
def holdChecksSpec : ChangeSpec := { name := "holdChecks", fn := fun _ => fun
  | [d] => { results := [.lit (.bool true)], args := [d] }
  | _ => none }
def holdChecksRow : OpenClaim := { program := "ytjgngffbmfbdkaa", sum := "9557577a27be1ddba15d669a64da687a5e867cb5e8c249e99e8032baef8e4dcf", func := "examboard/examboardlaw54.HoldChecks", spec := "holdChecks", recurses := true, apart := false }
def HoldChecksSaid : Prop := holdChecksRow.holds Try.pinned (OpenSpec.ofChange holdChecksSpec)

/-- ITS FALSE NEIGHBOUR: 'it returns false'. Refute it at one input. -/
def holdChecksWrong : ChangeSpec := { name := "holdChecks", fn := fun _ => fun
  | [d] => { results := [.lit (.bool false)], args := [d] }
  | _ => none }
def HoldChecksWrongFalsely : Prop := holdChecksRow.holds Try.pinned (OpenSpec.ofChange holdChecksWrong)

/-- 'examboardlaw54.HoldLifts': WHATEVER THE INPUT: true; the input reads as it did. -/
def holdLiftsSpec : ChangeSpec := { name := "holdLifts", fn := fun _ => fun
  | [d1, d2, d3] => { results := [.lit (.bool true)], args := [d1, d2, d3] }
  | _ => none }
def holdLiftsRow : OpenClaim := { program := "ytjgngffbmfbdkaa", sum := "9557577a27be1ddba15d669a64da687a5e867cb5e8c249e99e8032baef8e4dcf", func := "examboard/examboardlaw54.HoldLifts", spec := "holdLifts", recurses := true, apart := false }
def HoldLiftsSaid : Prop := holdLiftsRow.holds Try.pinned (OpenSpec.ofChange holdLiftsSpec)

/-- ITS FALSE NEIGHBOUR: 'it returns false'. Refute it at one input. -/
def holdLiftsWrong : ChangeSpec := { name := "holdLifts", fn := fun _ => fun
  | [d1, d2, d3] => { results := [.lit (.bool false)], args := [d1, d2, d3] }
  | _ => none }
def HoldLiftsWrongFalsely : Prop := holdLiftsRow.holds Try.pinned (OpenSpec.ofChange holdLiftsWrong)

/-- 'examboardlaw54.HoldPublishes': WHATEVER THE INPUT: true; the input reads as it did. -/
def holdPublishesSpec : ChangeSpec := { name := "holdPublishes", fn := fun _ => fun
  | [d1, d2] => { results := [.lit (.bool true)], args := [d1, d2] }
  | _ => none }
def holdPublishesRow : OpenClaim := { program := "ytjgngffbmfbdkaa", sum := "9557577a27be1ddba15d669a64da687a5e867cb5e8c249e99e8032baef8e4dcf", func := "examboard/examboardlaw54.HoldPublishes", spec := "holdPublishes", recurses := true, apart := false }
def HoldPublishesSaid : Prop := holdPublishesRow.holds Try.pinned (OpenSpec.ofChange holdPublishesSpec)

/-- ITS FALSE NEIGHBOUR: 'it returns false'. Refute it at one input. -/
def holdPublishesWrong : ChangeSpec := { name := "holdPublishes", fn := fun _ => fun
  | [d1, d2] => { results := [.lit (.bool false)], args := [d1, d2] }
  | _ => none }
def HoldPublishesWrongFalsely : Prop := holdPublishesRow.holds Try.pinned (OpenSpec.ofChange holdPublishesWrong)

/-- 'examboardlaw54.HoldBlocks': WHATEVER THE INPUT: true; the input reads as it did. -/
def holdBlocksSpec : ChangeSpec := { name := "holdBlocks", fn := fun _ => fun
  | [d] => { results := [.lit (.bool true)], args := [d] }
  | _ => none }
def holdBlocksRow : OpenClaim := { program := "ytjgngffbmfbdkaa", sum := "9557577a27be1ddba15d669a64da687a5e867cb5e8c249e99e8032baef8e4dcf", func := "examboard/examboardlaw54.HoldBlocks", spec := "holdBlocks", recurses := true, apart := false }
def HoldBlocksSaid : Prop := holdBlocksRow.holds Try.pinned (OpenSpec.ofChange holdBlocksSpec)

/-- ITS FALSE NEIGHBOUR: 'it returns false'. Refute it at one input. -/
def holdBlocksWrong : ChangeSpec := { name := "holdBlocks", fn := fun _ => fun
  | [d] => { results := [.lit (.bool false)], args := [d] }
  | _ => none }
def HoldBlocksWrongFalsely : Prop := holdBlocksRow.holds Try.pinned (OpenSpec.ofChange holdBlocksWrong)

/-- 'examboardlaw54.HoldHistory': WHATEVER THE INPUT: true; the input reads as it did. -/
def holdHistorySpec : ChangeSpec := { name := "holdHistory", fn := fun _ => fun
  | [d] => { results := [.lit (.bool true)], args := [d] }
  | _ => none }
def holdHistoryRow : OpenClaim := { program := "ytjgngffbmfbdkaa", sum := "9557577a27be1ddba15d669a64da687a5e867cb5e8c249e99e8032baef8e4dcf", func := "examboard/examboardlaw54.HoldHistory", spec := "holdHistory", recurses := true, apart := false }
def HoldHistorySaid : Prop := holdHistoryRow.holds Try.pinned (OpenSpec.ofChange holdHistorySpec)

/-- ITS FALSE NEIGHBOUR: 'it returns false'. Refute it at one input. -/
def holdHistoryWrong : ChangeSpec := { name := "holdHistory", fn := fun _ => fun
  | [d] => { results := [.lit (.bool false)], args := [d] }
  | _ => none }
def HoldHistoryWrongFalsely : Prop := holdHistoryRow.holds Try.pinned (OpenSpec.ofChange holdHistoryWrong)

/- THE SECOND FORM. 'bulk': how many values and letters a reading holds, each counted each time it is reached (what is shared counts as often as it is met; a slice's spare places count too). A statement '..UptoSaid' is the law's where the arguments, and the package variables that the reading takes, are together of bulk at most 1048576: NARROWER than '..Said'. Prove '..Said' where nothing that the law and all that it calls make is longer than what came in: it says more and counts as full. Else prove '..UptoSaid'. A law counts once. -/
mutual
def uptoBulk {H : Type} : DataW H → Nat
  | .lit (.string bytes) => bytes.length + 1
  | .lit _ => 1
  | .nil => 1
  | .ptr d => uptoBulk d + 1
  | .slice elems spare => uptoBulkAll elems + uptoBulkAll spare + 1
  | .agg parts => uptoBulkAll parts + 1
  | .iface _ d => uptoBulk d + 1
  | .map entries => uptoBulkEntries entries + 1
  | .held _ => 1
def uptoBulkAll {H : Type} : List (DataW H) → Nat
  | [] => 0
  | d :: r => uptoBulk d + uptoBulkAll r
def uptoBulkEntries {H : Type} : List (Lit × DataW H) → Nat
  | [] => 0
  | x :: r => uptoBulkEntry x + uptoBulkEntries r
def uptoBulkEntry {H : Type} : Lit × DataW H → Nat
  | (.string bytes, d) => bytes.length + uptoBulk d + 1
  | (_, d) => uptoBulk d + 1
 end
def uptoSmall : (H : Type) → List (DataW H) → Bool := fun _ ds => decide (uptoBulkAll ds ≤ 1048576)
def OpenSpec.upto (s : _root_.Go.ChangeSpec) : _root_.Go.OpenSpec := { _root_.Go.OpenSpec.ofChange s with cond := some uptoSmall }

/-- 'examboardlaw54.HoldPlaces', WHERE WHAT IT READS IS OF BULK AT MOST 1048576: true; the input reads as it did. -/
def holdPlacesUptoRow : OpenClaim := { program := "ytjgngffbmfbdkaa", sum := "9557577a27be1ddba15d669a64da687a5e867cb5e8c249e99e8032baef8e4dcf", func := "examboard/examboardlaw54.HoldPlaces", spec := "holdPlaces", apart := false, narrowed := true }
def HoldPlacesUptoSaid : Prop := holdPlacesUptoRow.holds Try.pinned (OpenSpec.upto holdPlacesSpec)

/-- 'examboardlaw54.HoldChecks', WHERE WHAT IT READS IS OF BULK AT MOST 1048576: true; the input reads as it did. -/
def holdChecksUptoRow : OpenClaim := { program := "ytjgngffbmfbdkaa", sum := "9557577a27be1ddba15d669a64da687a5e867cb5e8c249e99e8032baef8e4dcf", func := "examboard/examboardlaw54.HoldChecks", spec := "holdChecks", recurses := true, apart := false, narrowed := true }
def HoldChecksUptoSaid : Prop := holdChecksUptoRow.holds Try.pinned (OpenSpec.upto holdChecksSpec)

/-- 'examboardlaw54.HoldLifts', WHERE WHAT IT READS IS OF BULK AT MOST 1048576: true; the input reads as it did. -/
def holdLiftsUptoRow : OpenClaim := { program := "ytjgngffbmfbdkaa", sum := "9557577a27be1ddba15d669a64da687a5e867cb5e8c249e99e8032baef8e4dcf", func := "examboard/examboardlaw54.HoldLifts", spec := "holdLifts", recurses := true, apart := false, narrowed := true }
def HoldLiftsUptoSaid : Prop := holdLiftsUptoRow.holds Try.pinned (OpenSpec.upto holdLiftsSpec)

/-- 'examboardlaw54.HoldPublishes', WHERE WHAT IT READS IS OF BULK AT MOST 1048576: true; the input reads as it did. -/
def holdPublishesUptoRow : OpenClaim := { program := "ytjgngffbmfbdkaa", sum := "9557577a27be1ddba15d669a64da687a5e867cb5e8c249e99e8032baef8e4dcf", func := "examboard/examboardlaw54.HoldPublishes", spec := "holdPublishes", recurses := true, apart := false, narrowed := true }
def HoldPublishesUptoSaid : Prop := holdPublishesUptoRow.holds Try.pinned (OpenSpec.upto holdPublishesSpec)

/-- 'examboardlaw54.HoldBlocks', WHERE WHAT IT READS IS OF BULK AT MOST 1048576: true; the input reads as it did. -/
def holdBlocksUptoRow : OpenClaim := { program := "ytjgngffbmfbdkaa", sum := "9557577a27be1ddba15d669a64da687a5e867cb5e8c249e99e8032baef8e4dcf", func := "examboard/examboardlaw54.HoldBlocks", spec := "holdBlocks", recurses := true, apart := false, narrowed := true }
def HoldBlocksUptoSaid : Prop := holdBlocksUptoRow.holds Try.pinned (OpenSpec.upto holdBlocksSpec)

/-- 'examboardlaw54.HoldHistory', WHERE WHAT IT READS IS OF BULK AT MOST 1048576: true; the input reads as it did. -/
def holdHistoryUptoRow : OpenClaim := { program := "ytjgngffbmfbdkaa", sum := "9557577a27be1ddba15d669a64da687a5e867cb5e8c249e99e8032baef8e4dcf", func := "examboard/examboardlaw54.HoldHistory", spec := "holdHistory", recurses := true, apart := false, narrowed := true }
def HoldHistoryUptoSaid : Prop := holdHistoryUptoRow.holds Try.pinned (OpenSpec.upto holdHistorySpec)

end Rows
end Go.Proofs.Ytjgngffbmfbdkaa
