/-
  No cell of these rows narrows 'for every input' (looked for: loops, veiled, ifaces, maps, wideKeys, modest, calm, conditions, laid).
  DERIVED. THE GIVEN ROWS OF THIS SEAT. 5 by the template 'for every input the law returns true; each argument reads behind the call as it read before'; 0 by the template 'total and deterministic' (their statements: YtepkalebaaidcaaTotals.lean).
  GIVEN WITH THE SEED: the statements are not yours to turn. If you find one false, say at which input.
  Laid BY PROGRAM, IN A SANDBOX (cutbox-rows.mjs): the forced cells as the released guide's own fill.sh prints them over the translation 144bd87c6fd2f7d7… (all of the seat's roots in one cut). By AI agents, Wed Nov 11 2026. No macro, syntax, notation, axiom, sorry.
-/
import Derived.Test.YtepkalebaaidcaaChecked
import GoSem.Claim
import GoSem.ClaimJoined
import GoSem.ClaimMapViews
import Derived.JoinedTies
import Derived.KernelRfl
namespace Go.Proofs.Ytepkalebaaidcaa
/- THE CELL 'sum', in the pinned program and in every row, IS THE sha256 OF THE DUMP (.gsa) THAT YtepkalebaaidcaaProg.lean LOADS. Nothing in Lean hashes anything: it is a label: what it is worth is what the hold of that sum in a sandbox is worth. -/
noncomputable def Try.pinned : Pinned := { name := "ytepkalebaaidcaa", sum := "144bd87c6fd2f7d76f274aa29d6925524e0e5f2cbbd68696657b8a17240cf6e2", checked := Try.checked }
namespace Rows
def none {H : Type} : Left H := { results := [], args := [] }

/-- 'examboardlaw17.AssetRules': WHATEVER THE INPUT: true; the input reads as it did. -/
def assetRulesSpec : ChangeSpec := { name := "assetRules", fn := fun _ => fun
  | [d1, d2] => { results := [.lit (.bool true)], args := [d1, d2] }
  | _ => none }
def assetRulesRow : OpenClaim := { program := "ytepkalebaaidcaa", sum := "144bd87c6fd2f7d76f274aa29d6925524e0e5f2cbbd68696657b8a17240cf6e2", func := "examboard/examboardlaw17.AssetRules", spec := "assetRules", recurses := true, apart := false }
def AssetRulesSaid : Prop := assetRulesRow.holds Try.pinned (OpenSpec.ofChange assetRulesSpec)

/-- ITS FALSE NEIGHBOUR: 'it returns false'. Refute it at one input. -/
def assetRulesWrong : ChangeSpec := { name := "assetRules", fn := fun _ => fun
  | [d1, d2] => { results := [.lit (.bool false)], args := [d1, d2] }
  | _ => none }
def AssetRulesWrongFalsely : Prop := assetRulesRow.holds Try.pinned (OpenSpec.ofChange assetRulesWrong)

/-- 'examboardlaw17.AssetLists': WHATEVER THE INPUT: true; the input reads as it did. -/
def assetListsSpec : ChangeSpec := { name := "assetLists", fn := fun _ => fun
  | [d1, d2, d3] => { results := [.lit (.bool true)], args := [d1, d2, d3] }
  | _ => none }
def assetListsRow : OpenClaim := { program := "ytepkalebaaidcaa", sum := "144bd87c6fd2f7d76f274aa29d6925524e0e5f2cbbd68696657b8a17240cf6e2", func := "examboard/examboardlaw17.AssetLists", spec := "assetLists", recurses := true, apart := false }
def AssetListsSaid : Prop := assetListsRow.holds Try.pinned (OpenSpec.ofChange assetListsSpec)

/-- ITS FALSE NEIGHBOUR: 'it returns false'. Refute it at one input. -/
def assetListsWrong : ChangeSpec := { name := "assetLists", fn := fun _ => fun
  | [d1, d2, d3] => { results := [.lit (.bool false)], args := [d1, d2, d3] }
  | _ => none }
def AssetListsWrongFalsely : Prop := assetListsRow.holds Try.pinned (OpenSpec.ofChange assetListsWrong)

/-- 'examboardlaw17.AssetOnce': WHATEVER THE INPUT: true; the input reads as it did. -/
def assetOnceSpec : ChangeSpec := { name := "assetOnce", fn := fun _ => fun
  | [d1, d2, d3] => { results := [.lit (.bool true)], args := [d1, d2, d3] }
  | _ => none }
def assetOnceRow : OpenClaim := { program := "ytepkalebaaidcaa", sum := "144bd87c6fd2f7d76f274aa29d6925524e0e5f2cbbd68696657b8a17240cf6e2", func := "examboard/examboardlaw17.AssetOnce", spec := "assetOnce", recurses := true, apart := false }
def AssetOnceSaid : Prop := assetOnceRow.holds Try.pinned (OpenSpec.ofChange assetOnceSpec)

/-- ITS FALSE NEIGHBOUR: 'it returns false'. Refute it at one input. -/
def assetOnceWrong : ChangeSpec := { name := "assetOnce", fn := fun _ => fun
  | [d1, d2, d3] => { results := [.lit (.bool false)], args := [d1, d2, d3] }
  | _ => none }
def AssetOnceWrongFalsely : Prop := assetOnceRow.holds Try.pinned (OpenSpec.ofChange assetOnceWrong)

/-- 'examboardlaw17.AssetMissing': WHATEVER THE INPUT: true; the input reads as it did. -/
def assetMissingSpec : ChangeSpec := { name := "assetMissing", fn := fun _ => fun
  | [d1, d2, d3, d4] => { results := [.lit (.bool true)], args := [d1, d2, d3, d4] }
  | _ => none }
def assetMissingRow : OpenClaim := { program := "ytepkalebaaidcaa", sum := "144bd87c6fd2f7d76f274aa29d6925524e0e5f2cbbd68696657b8a17240cf6e2", func := "examboard/examboardlaw17.AssetMissing", spec := "assetMissing", recurses := true, apart := false }
def AssetMissingSaid : Prop := assetMissingRow.holds Try.pinned (OpenSpec.ofChange assetMissingSpec)

/-- ITS FALSE NEIGHBOUR: 'it returns false'. Refute it at one input. -/
def assetMissingWrong : ChangeSpec := { name := "assetMissing", fn := fun _ => fun
  | [d1, d2, d3, d4] => { results := [.lit (.bool false)], args := [d1, d2, d3, d4] }
  | _ => none }
def AssetMissingWrongFalsely : Prop := assetMissingRow.holds Try.pinned (OpenSpec.ofChange assetMissingWrong)

/-- 'examboardlaw17.AssetRights': WHATEVER THE INPUT: true; the input reads as it did. -/
def assetRightsSpec : ChangeSpec := { name := "assetRights", fn := fun _ => fun
  | [d1, d2, d3, d4] => { results := [.lit (.bool true)], args := [d1, d2, d3, d4] }
  | _ => none }
def assetRightsRow : OpenClaim := { program := "ytepkalebaaidcaa", sum := "144bd87c6fd2f7d76f274aa29d6925524e0e5f2cbbd68696657b8a17240cf6e2", func := "examboard/examboardlaw17.AssetRights", spec := "assetRights", recurses := true, apart := false }
def AssetRightsSaid : Prop := assetRightsRow.holds Try.pinned (OpenSpec.ofChange assetRightsSpec)

/-- ITS FALSE NEIGHBOUR: 'it returns false'. Refute it at one input. -/
def assetRightsWrong : ChangeSpec := { name := "assetRights", fn := fun _ => fun
  | [d1, d2, d3, d4] => { results := [.lit (.bool false)], args := [d1, d2, d3, d4] }
  | _ => none }
def AssetRightsWrongFalsely : Prop := assetRightsRow.holds Try.pinned (OpenSpec.ofChange assetRightsWrong)

/- THE SECOND FORM. 'bulk': how many values and letters a reading holds, each counted each time it is reached (what is shared counts as often as it is met; a slice's spare places count too). A statement '..UptoSaid' is the law's where the arguments, and the package variables that the reading takes, are together of bulk at most 1048576: NARROWER than '..Said'. Prove '..Said' where nothing that the law and all that it calls make is longer than what came in: it says more and counts as full. Else prove '..UptoSaid'. A law counts once. -/
mutual
def uptoBulk {H : Type} : DataW H → Nat
  | .lit (.string bytes) => bytes.length + 1
  | .lit _ => 1
  | .nil => 1
  | .ptr d => uptoBulk d + 1
  | .slice elems spare => uptoBulkAll elems + uptoBulkAll spare + 1
  | .agg parts => uptoBulkAll parts + 1
  | .iface _ d => uptoBulk d + 1
  | .map entries => uptoBulkEntries entries + 1
  | .held _ => 1
def uptoBulkAll {H : Type} : List (DataW H) → Nat
  | [] => 0
  | d :: r => uptoBulk d + uptoBulkAll r
def uptoBulkEntries {H : Type} : List (Lit × DataW H) → Nat
  | [] => 0
  | x :: r => uptoBulkEntry x + uptoBulkEntries r
def uptoBulkEntry {H : Type} : Lit × DataW H → Nat
  | (.string bytes, d) => bytes.length + uptoBulk d + 1
  | (_, d) => uptoBulk d + 1
 end
def uptoSmall : (H : Type) → List (DataW H) → Bool := fun _ ds => decide (uptoBulkAll ds ≤ 1048576)
def OpenSpec.upto (s : _root_.Go.ChangeSpec) : _root_.Go.OpenSpec := { _root_.Go.OpenSpec.ofChange s with cond := some uptoSmall }

/-- 'examboardlaw17.AssetRules', WHERE WHAT IT READS IS OF BULK AT MOST 1048576: true; the input reads as it did. -/
def assetRulesUptoRow : OpenClaim := { program := "ytepkalebaaidcaa", sum := "144bd87c6fd2f7d76f274aa29d6925524e0e5f2cbbd68696657b8a17240cf6e2", func := "examboard/examboardlaw17.AssetRules", spec := "assetRules", recurses := true, apart := false, narrowed := true }
def AssetRulesUptoSaid : Prop := assetRulesUptoRow.holds Try.pinned (OpenSpec.upto assetRulesSpec)

/-- 'examboardlaw17.AssetLists', WHERE WHAT IT READS IS OF BULK AT MOST 1048576: true; the input reads as it did. -/
def assetListsUptoRow : OpenClaim := { program := "ytepkalebaaidcaa", sum := "144bd87c6fd2f7d76f274aa29d6925524e0e5f2cbbd68696657b8a17240cf6e2", func := "examboard/examboardlaw17.AssetLists", spec := "assetLists", recurses := true, apart := false, narrowed := true }
def AssetListsUptoSaid : Prop := assetListsUptoRow.holds Try.pinned (OpenSpec.upto assetListsSpec)

/-- 'examboardlaw17.AssetOnce', WHERE WHAT IT READS IS OF BULK AT MOST 1048576: true; the input reads as it did. -/
def assetOnceUptoRow : OpenClaim := { program := "ytepkalebaaidcaa", sum := "144bd87c6fd2f7d76f274aa29d6925524e0e5f2cbbd68696657b8a17240cf6e2", func := "examboard/examboardlaw17.AssetOnce", spec := "assetOnce", recurses := true, apart := false, narrowed := true }
def AssetOnceUptoSaid : Prop := assetOnceUptoRow.holds Try.pinned (OpenSpec.upto assetOnceSpec)

/-- 'examboardlaw17.AssetMissing', WHERE WHAT IT READS IS OF BULK AT MOST 1048576: true; the input reads as it did. -/
def assetMissingUptoRow : OpenClaim := { program := "ytepkalebaaidcaa", sum := "144bd87c6fd2f7d76f274aa29d6925524e0e5f2cbbd68696657b8a17240cf6e2", func := "examboard/examboardlaw17.AssetMissing", spec := "assetMissing", recurses := true, apart := false, narrowed := true }
def AssetMissingUptoSaid : Prop := assetMissingUptoRow.holds Try.pinned (OpenSpec.upto assetMissingSpec)

/-- 'examboardlaw17.AssetRights', WHERE WHAT IT READS IS OF BULK AT MOST 1048576: true; the input reads as it did. -/
def assetRightsUptoRow : OpenClaim := { program := "ytepkalebaaidcaa", sum := "144bd87c6fd2f7d76f274aa29d6925524e0e5f2cbbd68696657b8a17240cf6e2", func := "examboard/examboardlaw17.AssetRights", spec := "assetRights", recurses := true, apart := false, narrowed := true }
def AssetRightsUptoSaid : Prop := assetRightsUptoRow.holds Try.pinned (OpenSpec.upto assetRightsSpec)

end Rows
end Go.Proofs.Ytepkalebaaidcaa
