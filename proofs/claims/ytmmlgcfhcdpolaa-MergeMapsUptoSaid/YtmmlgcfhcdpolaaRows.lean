/-
  No cell of these rows narrows 'for every input' (looked for: loops, veiled, ifaces, maps, wideKeys, modest, calm, conditions, laid).
  DERIVED. THE GIVEN ROWS OF THIS SEAT. 7 by the template 'for every input the law returns true; each argument reads behind the call as it read before'; 0 by the template 'total and deterministic' (their statements: YtmmlgcfhcdpolaaTotals.lean).
  GIVEN WITH THE SEED: the statements are not yours to turn. If you find one false, say at which input.
  Laid BY PROGRAM, IN A SANDBOX (cutbox-rows.mjs): the forced cells as the released guide's own fill.sh prints them over the translation 359f33ace6dac839… (all of the seat's roots in one cut). By AI agents, Wed Nov 11 2026. No macro, syntax, notation, axiom, sorry.
-/
import Derived.Test.YtmmlgcfhcdpolaaChecked
import GoSem.Claim
import GoSem.ClaimJoined
import GoSem.ClaimMapViews
import Derived.JoinedTies
import Derived.KernelRfl
namespace Go.Proofs.Ytmmlgcfhcdpolaa
/- THE CELL 'sum', in the pinned program and in every row, IS THE sha256 OF THE DUMP (.gsa) THAT YtmmlgcfhcdpolaaProg.lean LOADS. Nothing in Lean hashes anything: it is a label: what it is worth is what the hold of that sum in a sandbox is worth. -/
noncomputable def Try.pinned : Pinned := { name := "ytmmlgcfhcdpolaa", sum := "359f33ace6dac839f62f2f0177f16eb23213f462e35b0077638a644ca8f17ccf", checked := Try.checked }
namespace Rows
def none {H : Type} : Left H := { results := [], args := [] }

/-- 'glacierlaw6.MergeCompares': WHATEVER THE INPUT: true; the input reads as it did. -/
def mergeComparesSpec : ChangeSpec := { name := "mergeCompares", fn := fun _ => fun
  | [d1, d2, d3] => { results := [.lit (.bool true)], args := [d1, d2, d3] }
  | _ => none }
def mergeComparesRow : OpenClaim := { program := "ytmmlgcfhcdpolaa", sum := "359f33ace6dac839f62f2f0177f16eb23213f462e35b0077638a644ca8f17ccf", func := "glacier/glacierlaw6.MergeCompares", spec := "mergeCompares", unfollowed := true, recurses := true, apart := false }
def MergeComparesSaid : Prop := mergeComparesRow.holds Try.pinned (OpenSpec.ofChange mergeComparesSpec)

/-- ITS FALSE NEIGHBOUR: 'it returns false'. Refute it at one input. -/
def mergeComparesWrong : ChangeSpec := { name := "mergeCompares", fn := fun _ => fun
  | [d1, d2, d3] => { results := [.lit (.bool false)], args := [d1, d2, d3] }
  | _ => none }
def MergeComparesWrongFalsely : Prop := mergeComparesRow.holds Try.pinned (OpenSpec.ofChange mergeComparesWrong)

/-- 'glacierlaw6.MergeSees': WHATEVER THE INPUT: true; the input reads as it did. -/
def mergeSeesSpec : ChangeSpec := { name := "mergeSees", fn := fun _ => fun
  | [d1, d2, d3] => { results := [.lit (.bool true)], args := [d1, d2, d3] }
  | _ => none }
def mergeSeesRow : OpenClaim := { program := "ytmmlgcfhcdpolaa", sum := "359f33ace6dac839f62f2f0177f16eb23213f462e35b0077638a644ca8f17ccf", func := "glacier/glacierlaw6.MergeSees", spec := "mergeSees", unfollowed := true, recurses := true, apart := false }
def MergeSeesSaid : Prop := mergeSeesRow.holds Try.pinned (OpenSpec.ofChange mergeSeesSpec)

/-- ITS FALSE NEIGHBOUR: 'it returns false'. Refute it at one input. -/
def mergeSeesWrong : ChangeSpec := { name := "mergeSees", fn := fun _ => fun
  | [d1, d2, d3] => { results := [.lit (.bool false)], args := [d1, d2, d3] }
  | _ => none }
def MergeSeesWrongFalsely : Prop := mergeSeesRow.holds Try.pinned (OpenSpec.ofChange mergeSeesWrong)

/-- 'glacierlaw6.MergePrunes': WHATEVER THE INPUT: true; the input reads as it did. -/
def mergePrunesSpec : ChangeSpec := { name := "mergePrunes", fn := fun _ => fun
  | [d1, d2, d3, d4] => { results := [.lit (.bool true)], args := [d1, d2, d3, d4] }
  | _ => none }
def mergePrunesRow : OpenClaim := { program := "ytmmlgcfhcdpolaa", sum := "359f33ace6dac839f62f2f0177f16eb23213f462e35b0077638a644ca8f17ccf", func := "glacier/glacierlaw6.MergePrunes", spec := "mergePrunes", unfollowed := true, recurses := true, apart := false }
def MergePrunesSaid : Prop := mergePrunesRow.holds Try.pinned (OpenSpec.ofChange mergePrunesSpec)

/-- ITS FALSE NEIGHBOUR: 'it returns false'. Refute it at one input. -/
def mergePrunesWrong : ChangeSpec := { name := "mergePrunes", fn := fun _ => fun
  | [d1, d2, d3, d4] => { results := [.lit (.bool false)], args := [d1, d2, d3, d4] }
  | _ => none }
def MergePrunesWrongFalsely : Prop := mergePrunesRow.holds Try.pinned (OpenSpec.ofChange mergePrunesWrong)

/-- 'glacierlaw6.MergeLists': WHATEVER THE INPUT: true; the input reads as it did. -/
def mergeListsSpec : ChangeSpec := { name := "mergeLists", fn := fun _ => fun
  | [d] => { results := [.lit (.bool true)], args := [d] }
  | _ => none }
def mergeListsRow : OpenClaim := { program := "ytmmlgcfhcdpolaa", sum := "359f33ace6dac839f62f2f0177f16eb23213f462e35b0077638a644ca8f17ccf", func := "glacier/glacierlaw6.MergeLists", spec := "mergeLists", unfollowed := true, recurses := true, apart := false }
def MergeListsSaid : Prop := mergeListsRow.holds Try.pinned (OpenSpec.ofChange mergeListsSpec)

/-- ITS FALSE NEIGHBOUR: 'it returns false'. Refute it at one input. -/
def mergeListsWrong : ChangeSpec := { name := "mergeLists", fn := fun _ => fun
  | [d] => { results := [.lit (.bool false)], args := [d] }
  | _ => none }
def MergeListsWrongFalsely : Prop := mergeListsRow.holds Try.pinned (OpenSpec.ofChange mergeListsWrong)

/-- 'glacierlaw6.MergeParts': WHATEVER THE INPUT: true; the input reads as it did. -/
def mergePartsSpec : ChangeSpec := { name := "mergeParts", fn := fun _ => fun
  | [d1, d2] => { results := [.lit (.bool true)], args := [d1, d2] }
  | _ => none }
def mergePartsRow : OpenClaim := { program := "ytmmlgcfhcdpolaa", sum := "359f33ace6dac839f62f2f0177f16eb23213f462e35b0077638a644ca8f17ccf", func := "glacier/glacierlaw6.MergeParts", spec := "mergeParts", unfollowed := true, recurses := true, apart := false }
def MergePartsSaid : Prop := mergePartsRow.holds Try.pinned (OpenSpec.ofChange mergePartsSpec)

/-- ITS FALSE NEIGHBOUR: 'it returns false'. Refute it at one input. -/
def mergePartsWrong : ChangeSpec := { name := "mergeParts", fn := fun _ => fun
  | [d1, d2] => { results := [.lit (.bool false)], args := [d1, d2] }
  | _ => none }
def MergePartsWrongFalsely : Prop := mergePartsRow.holds Try.pinned (OpenSpec.ofChange mergePartsWrong)

/-- 'glacierlaw6.MergeMaps': WHATEVER THE INPUT: true; the input reads as it did. -/
def mergeMapsSpec : ChangeSpec := { name := "mergeMaps", fn := fun _ => fun
  | [d1, d2] => { results := [.lit (.bool true)], args := [d1, d2] }
  | _ => none }
def mergeMapsRow : OpenClaim := { program := "ytmmlgcfhcdpolaa", sum := "359f33ace6dac839f62f2f0177f16eb23213f462e35b0077638a644ca8f17ccf", func := "glacier/glacierlaw6.MergeMaps", spec := "mergeMaps", unfollowed := true, recurses := true, apart := false }
def MergeMapsSaid : Prop := mergeMapsRow.holds Try.pinned (OpenSpec.ofChange mergeMapsSpec)

/-- ITS FALSE NEIGHBOUR: 'it returns false'. Refute it at one input. -/
def mergeMapsWrong : ChangeSpec := { name := "mergeMaps", fn := fun _ => fun
  | [d1, d2] => { results := [.lit (.bool false)], args := [d1, d2] }
  | _ => none }
def MergeMapsWrongFalsely : Prop := mergeMapsRow.holds Try.pinned (OpenSpec.ofChange mergeMapsWrong)

/-- 'glacierlaw6.MergeSteps': WHATEVER THE INPUT: true; the input reads as it did. -/
def mergeStepsSpec : ChangeSpec := { name := "mergeSteps", fn := fun _ => fun
  | [d1, d2, d3] => { results := [.lit (.bool true)], args := [d1, d2, d3] }
  | _ => none }
def mergeStepsRow : OpenClaim := { program := "ytmmlgcfhcdpolaa", sum := "359f33ace6dac839f62f2f0177f16eb23213f462e35b0077638a644ca8f17ccf", func := "glacier/glacierlaw6.MergeSteps", spec := "mergeSteps", unfollowed := true, recurses := true, apart := false }
def MergeStepsSaid : Prop := mergeStepsRow.holds Try.pinned (OpenSpec.ofChange mergeStepsSpec)

/-- ITS FALSE NEIGHBOUR: 'it returns false'. Refute it at one input. -/
def mergeStepsWrong : ChangeSpec := { name := "mergeSteps", fn := fun _ => fun
  | [d1, d2, d3] => { results := [.lit (.bool false)], args := [d1, d2, d3] }
  | _ => none }
def MergeStepsWrongFalsely : Prop := mergeStepsRow.holds Try.pinned (OpenSpec.ofChange mergeStepsWrong)

/- THE SECOND FORM. 'bulk': how many values and letters a reading holds, each counted each time it is reached (what is shared counts as often as it is met; a slice's spare places count too). A statement '..UptoSaid' is the law's where the arguments, and the package variables that the reading takes, are together of bulk at most 1048576: NARROWER than '..Said'. Prove '..Said' where nothing that the law and all that it calls make is longer than what came in: it says more and counts as full. Else prove '..UptoSaid'. A law counts once. -/
mutual
def uptoBulk {H : Type} : DataW H → Nat
  | .lit (.string bytes) => bytes.length + 1
  | .lit _ => 1
  | .nil => 1
  | .ptr d => uptoBulk d + 1
  | .slice elems spare => uptoBulkAll elems + uptoBulkAll spare + 1
  | .agg parts => uptoBulkAll parts + 1
  | .iface _ d => uptoBulk d + 1
  | .map entries => uptoBulkEntries entries + 1
  | .held _ => 1
def uptoBulkAll {H : Type} : List (DataW H) → Nat
  | [] => 0
  | d :: r => uptoBulk d + uptoBulkAll r
def uptoBulkEntries {H : Type} : List (Lit × DataW H) → Nat
  | [] => 0
  | x :: r => uptoBulkEntry x + uptoBulkEntries r
def uptoBulkEntry {H : Type} : Lit × DataW H → Nat
  | (.string bytes, d) => bytes.length + uptoBulk d + 1
  | (_, d) => uptoBulk d + 1
 end
def uptoSmall : (H : Type) → List (DataW H) → Bool := fun _ ds => decide (uptoBulkAll ds ≤ 1048576)
def OpenSpec.upto (s : _root_.Go.ChangeSpec) : _root_.Go.OpenSpec := { _root_.Go.OpenSpec.ofChange s with cond := some uptoSmall }

/-- 'glacierlaw6.MergeCompares', WHERE WHAT IT READS IS OF BULK AT MOST 1048576: true; the input reads as it did. -/
def mergeComparesUptoRow : OpenClaim := { program := "ytmmlgcfhcdpolaa", sum := "359f33ace6dac839f62f2f0177f16eb23213f462e35b0077638a644ca8f17ccf", func := "glacier/glacierlaw6.MergeCompares", spec := "mergeCompares", unfollowed := true, recurses := true, apart := false, narrowed := true }
def MergeComparesUptoSaid : Prop := mergeComparesUptoRow.holds Try.pinned (OpenSpec.upto mergeComparesSpec)

/-- 'glacierlaw6.MergeSees', WHERE WHAT IT READS IS OF BULK AT MOST 1048576: true; the input reads as it did. -/
def mergeSeesUptoRow : OpenClaim := { program := "ytmmlgcfhcdpolaa", sum := "359f33ace6dac839f62f2f0177f16eb23213f462e35b0077638a644ca8f17ccf", func := "glacier/glacierlaw6.MergeSees", spec := "mergeSees", unfollowed := true, recurses := true, apart := false, narrowed := true }
def MergeSeesUptoSaid : Prop := mergeSeesUptoRow.holds Try.pinned (OpenSpec.upto mergeSeesSpec)

/-- 'glacierlaw6.MergePrunes', WHERE WHAT IT READS IS OF BULK AT MOST 1048576: true; the input reads as it did. -/
def mergePrunesUptoRow : OpenClaim := { program := "ytmmlgcfhcdpolaa", sum := "359f33ace6dac839f62f2f0177f16eb23213f462e35b0077638a644ca8f17ccf", func := "glacier/glacierlaw6.MergePrunes", spec := "mergePrunes", unfollowed := true, recurses := true, apart := false, narrowed := true }
def MergePrunesUptoSaid : Prop := mergePrunesUptoRow.holds Try.pinned (OpenSpec.upto mergePrunesSpec)

/-- 'glacierlaw6.MergeLists', WHERE WHAT IT READS IS OF BULK AT MOST 1048576: true; the input reads as it did. -/
def mergeListsUptoRow : OpenClaim := { program := "ytmmlgcfhcdpolaa", sum := "359f33ace6dac839f62f2f0177f16eb23213f462e35b0077638a644ca8f17ccf", func := "glacier/glacierlaw6.MergeLists", spec := "mergeLists", unfollowed := true, recurses := true, apart := false, narrowed := true }
def MergeListsUptoSaid : Prop := mergeListsUptoRow.holds Try.pinned (OpenSpec.upto mergeListsSpec)

/-- 'glacierlaw6.MergeParts', WHERE WHAT IT READS IS OF BULK AT MOST 1048576: true; the input reads as it did. -/
def mergePartsUptoRow : OpenClaim := { program := "ytmmlgcfhcdpolaa", sum := "359f33ace6dac839f62f2f0177f16eb23213f462e35b0077638a644ca8f17ccf", func := "glacier/glacierlaw6.MergeParts", spec := "mergeParts", unfollowed := true, recurses := true, apart := false, narrowed := true }
def MergePartsUptoSaid : Prop := mergePartsUptoRow.holds Try.pinned (OpenSpec.upto mergePartsSpec)

/-- 'glacierlaw6.MergeMaps', WHERE WHAT IT READS IS OF BULK AT MOST 1048576: true; the input reads as it did. -/
def mergeMapsUptoRow : OpenClaim := { program := "ytmmlgcfhcdpolaa", sum := "359f33ace6dac839f62f2f0177f16eb23213f462e35b0077638a644ca8f17ccf", func := "glacier/glacierlaw6.MergeMaps", spec := "mergeMaps", unfollowed := true, recurses := true, apart := false, narrowed := true }
def MergeMapsUptoSaid : Prop := mergeMapsUptoRow.holds Try.pinned (OpenSpec.upto mergeMapsSpec)

/-- 'glacierlaw6.MergeSteps', WHERE WHAT IT READS IS OF BULK AT MOST 1048576: true; the input reads as it did. -/
def mergeStepsUptoRow : OpenClaim := { program := "ytmmlgcfhcdpolaa", sum := "359f33ace6dac839f62f2f0177f16eb23213f462e35b0077638a644ca8f17ccf", func := "glacier/glacierlaw6.MergeSteps", spec := "mergeSteps", unfollowed := true, recurses := true, apart := false, narrowed := true }
def MergeStepsUptoSaid : Prop := mergeStepsUptoRow.holds Try.pinned (OpenSpec.upto mergeStepsSpec)

end Rows
end Go.Proofs.Ytmmlgcfhcdpolaa
