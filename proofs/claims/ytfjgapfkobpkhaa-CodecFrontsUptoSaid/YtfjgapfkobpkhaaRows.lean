/-
  No cell of these rows narrows 'for every input' (looked for: loops, veiled, ifaces, maps, wideKeys, modest, calm, conditions, laid).
  DERIVED. THE GIVEN ROWS OF THIS SEAT. 8 by the template 'for every input the law returns true; each argument reads behind the call as it read before'; 0 by the template 'total and deterministic' (their statements: YtfjgapfkobpkhaaTotals.lean).
  GIVEN WITH THE SEED: the statements are not yours to turn. If you find one false, say at which input.
  Laid BY PROGRAM, IN A SANDBOX (cutbox-rows.mjs): the forced cells as the released guide's own fill.sh prints them over the translation a8c3c1a9611b8372… (all of the seat's roots in one cut). By AI agents, Wed Nov 11 2026. No macro, syntax, notation, axiom, sorry.
-/
import Derived.Test.YtfjgapfkobpkhaaChecked
import GoSem.Claim
import GoSem.ClaimJoined
import GoSem.ClaimMapViews
import Derived.JoinedTies
import Derived.KernelRfl
namespace Go.Proofs.Ytfjgapfkobpkhaa
/- THE CELL 'sum', in the pinned program and in every row, IS THE sha256 OF THE DUMP (.gsa) THAT YtfjgapfkobpkhaaProg.lean LOADS. Nothing in Lean hashes anything: it is a label: what it is worth is what the hold of that sum in a sandbox is worth. -/
noncomputable def Try.pinned : Pinned := { name := "ytfjgapfkobpkhaa", sum := "a8c3c1a9611b837227aeb24afe48ed13687d3a06eddfe4bb19e829e4de58aa39", checked := Try.checked }
namespace Rows
def none {H : Type} : Left H := { results := [], args := [] }

/-- 'glacierlaw1.CodecSums': WHATEVER THE INPUT: true; the input reads as it did. -/
def codecSumsSpec : ChangeSpec := { name := "codecSums", fn := fun _ => fun
  | [d] => { results := [.lit (.bool true)], args := [d] }
  | _ => none }
def codecSumsRow : OpenClaim := { program := "ytfjgapfkobpkhaa", sum := "a8c3c1a9611b837227aeb24afe48ed13687d3a06eddfe4bb19e829e4de58aa39", func := "glacier/glacierlaw1.CodecSums", spec := "codecSums", apart := false }
def CodecSumsSaid : Prop := codecSumsRow.holds Try.pinned (OpenSpec.ofChange codecSumsSpec)

/-- ITS FALSE NEIGHBOUR: 'it returns false'. Refute it at one input. -/
def codecSumsWrong : ChangeSpec := { name := "codecSums", fn := fun _ => fun
  | [d] => { results := [.lit (.bool false)], args := [d] }
  | _ => none }
def CodecSumsWrongFalsely : Prop := codecSumsRow.holds Try.pinned (OpenSpec.ofChange codecSumsWrong)

/-- 'glacierlaw1.CodecGrows': WHATEVER THE INPUT: true; the input reads as it did. -/
def codecGrowsSpec : ChangeSpec := { name := "codecGrows", fn := fun _ => fun
  | [d1, d2] => { results := [.lit (.bool true)], args := [d1, d2] }
  | _ => none }
def codecGrowsRow : OpenClaim := { program := "ytfjgapfkobpkhaa", sum := "a8c3c1a9611b837227aeb24afe48ed13687d3a06eddfe4bb19e829e4de58aa39", func := "glacier/glacierlaw1.CodecGrows", spec := "codecGrows", apart := false }
def CodecGrowsSaid : Prop := codecGrowsRow.holds Try.pinned (OpenSpec.ofChange codecGrowsSpec)

/-- ITS FALSE NEIGHBOUR: 'it returns false'. Refute it at one input. -/
def codecGrowsWrong : ChangeSpec := { name := "codecGrows", fn := fun _ => fun
  | [d1, d2] => { results := [.lit (.bool false)], args := [d1, d2] }
  | _ => none }
def CodecGrowsWrongFalsely : Prop := codecGrowsRow.holds Try.pinned (OpenSpec.ofChange codecGrowsWrong)

/-- 'glacierlaw1.CodecWrites': WHATEVER THE INPUT: true; the input reads as it did. -/
def codecWritesSpec : ChangeSpec := { name := "codecWrites", fn := fun _ => fun
  | [d1, d2, d3] => { results := [.lit (.bool true)], args := [d1, d2, d3] }
  | _ => none }
def codecWritesRow : OpenClaim := { program := "ytfjgapfkobpkhaa", sum := "a8c3c1a9611b837227aeb24afe48ed13687d3a06eddfe4bb19e829e4de58aa39", func := "glacier/glacierlaw1.CodecWrites", spec := "codecWrites", apart := false }
def CodecWritesSaid : Prop := codecWritesRow.holds Try.pinned (OpenSpec.ofChange codecWritesSpec)

/-- ITS FALSE NEIGHBOUR: 'it returns false'. Refute it at one input. -/
def codecWritesWrong : ChangeSpec := { name := "codecWrites", fn := fun _ => fun
  | [d1, d2, d3] => { results := [.lit (.bool false)], args := [d1, d2, d3] }
  | _ => none }
def CodecWritesWrongFalsely : Prop := codecWritesRow.holds Try.pinned (OpenSpec.ofChange codecWritesWrong)

/-- 'glacierlaw1.CodecBack': WHATEVER THE INPUT: true; the input reads as it did. -/
def codecBackSpec : ChangeSpec := { name := "codecBack", fn := fun _ => fun
  | [d1, d2, d3] => { results := [.lit (.bool true)], args := [d1, d2, d3] }
  | _ => none }
def codecBackRow : OpenClaim := { program := "ytfjgapfkobpkhaa", sum := "a8c3c1a9611b837227aeb24afe48ed13687d3a06eddfe4bb19e829e4de58aa39", func := "glacier/glacierlaw1.CodecBack", spec := "codecBack", apart := false }
def CodecBackSaid : Prop := codecBackRow.holds Try.pinned (OpenSpec.ofChange codecBackSpec)

/-- ITS FALSE NEIGHBOUR: 'it returns false'. Refute it at one input. -/
def codecBackWrong : ChangeSpec := { name := "codecBack", fn := fun _ => fun
  | [d1, d2, d3] => { results := [.lit (.bool false)], args := [d1, d2, d3] }
  | _ => none }
def CodecBackWrongFalsely : Prop := codecBackRow.holds Try.pinned (OpenSpec.ofChange codecBackWrong)

/-- 'glacierlaw1.CodecBits': WHATEVER THE INPUT: true; the input reads as it did. -/
def codecBitsSpec : ChangeSpec := { name := "codecBits", fn := fun _ => fun
  | [d1, d2] => { results := [.lit (.bool true)], args := [d1, d2] }
  | _ => none }
def codecBitsRow : OpenClaim := { program := "ytfjgapfkobpkhaa", sum := "a8c3c1a9611b837227aeb24afe48ed13687d3a06eddfe4bb19e829e4de58aa39", func := "glacier/glacierlaw1.CodecBits", spec := "codecBits", apart := false }
def CodecBitsSaid : Prop := codecBitsRow.holds Try.pinned (OpenSpec.ofChange codecBitsSpec)

/-- ITS FALSE NEIGHBOUR: 'it returns false'. Refute it at one input. -/
def codecBitsWrong : ChangeSpec := { name := "codecBits", fn := fun _ => fun
  | [d1, d2] => { results := [.lit (.bool false)], args := [d1, d2] }
  | _ => none }
def CodecBitsWrongFalsely : Prop := codecBitsRow.holds Try.pinned (OpenSpec.ofChange codecBitsWrong)

/-- 'glacierlaw1.CodecFronts': WHATEVER THE INPUT: true; the input reads as it did. -/
def codecFrontsSpec : ChangeSpec := { name := "codecFronts", fn := fun _ => fun
  | [d1, d2] => { results := [.lit (.bool true)], args := [d1, d2] }
  | _ => none }
def codecFrontsRow : OpenClaim := { program := "ytfjgapfkobpkhaa", sum := "a8c3c1a9611b837227aeb24afe48ed13687d3a06eddfe4bb19e829e4de58aa39", func := "glacier/glacierlaw1.CodecFronts", spec := "codecFronts", apart := false }
def CodecFrontsSaid : Prop := codecFrontsRow.holds Try.pinned (OpenSpec.ofChange codecFrontsSpec)

/-- ITS FALSE NEIGHBOUR: 'it returns false'. Refute it at one input. -/
def codecFrontsWrong : ChangeSpec := { name := "codecFronts", fn := fun _ => fun
  | [d1, d2] => { results := [.lit (.bool false)], args := [d1, d2] }
  | _ => none }
def CodecFrontsWrongFalsely : Prop := codecFrontsRow.holds Try.pinned (OpenSpec.ofChange codecFrontsWrong)

/-- 'glacierlaw1.CodecReads': WHATEVER THE INPUT: true; the input reads as it did. -/
def codecReadsSpec : ChangeSpec := { name := "codecReads", fn := fun _ => fun
  | [d1, d2] => { results := [.lit (.bool true)], args := [d1, d2] }
  | _ => none }
def codecReadsRow : OpenClaim := { program := "ytfjgapfkobpkhaa", sum := "a8c3c1a9611b837227aeb24afe48ed13687d3a06eddfe4bb19e829e4de58aa39", func := "glacier/glacierlaw1.CodecReads", spec := "codecReads", apart := false }
def CodecReadsSaid : Prop := codecReadsRow.holds Try.pinned (OpenSpec.ofChange codecReadsSpec)

/-- ITS FALSE NEIGHBOUR: 'it returns false'. Refute it at one input. -/
def codecReadsWrong : ChangeSpec := { name := "codecReads", fn := fun _ => fun
  | [d1, d2] => { results := [.lit (.bool false)], args := [d1, d2] }
  | _ => none }
def CodecReadsWrongFalsely : Prop := codecReadsRow.holds Try.pinned (OpenSpec.ofChange codecReadsWrong)

/-- 'glacierlaw1.CodecNests': WHATEVER THE INPUT: true; the input reads as it did. -/
def codecNestsSpec : ChangeSpec := { name := "codecNests", fn := fun _ => fun
  | [d1, d2] => { results := [.lit (.bool true)], args := [d1, d2] }
  | _ => none }
def codecNestsRow : OpenClaim := { program := "ytfjgapfkobpkhaa", sum := "a8c3c1a9611b837227aeb24afe48ed13687d3a06eddfe4bb19e829e4de58aa39", func := "glacier/glacierlaw1.CodecNests", spec := "codecNests", apart := false }
def CodecNestsSaid : Prop := codecNestsRow.holds Try.pinned (OpenSpec.ofChange codecNestsSpec)

/-- ITS FALSE NEIGHBOUR: 'it returns false'. Refute it at one input. -/
def codecNestsWrong : ChangeSpec := { name := "codecNests", fn := fun _ => fun
  | [d1, d2] => { results := [.lit (.bool false)], args := [d1, d2] }
  | _ => none }
def CodecNestsWrongFalsely : Prop := codecNestsRow.holds Try.pinned (OpenSpec.ofChange codecNestsWrong)

/- THE SECOND FORM. 'bulk': how many values and letters a reading holds, each counted each time it is reached (what is shared counts as often as it is met; a slice's spare places count too). A statement '..UptoSaid' is the law's where the arguments, and the package variables that the reading takes, are together of bulk at most 1048576: NARROWER than '..Said'. Prove '..Said' where nothing that the law and all that it calls make is longer than what came in: it says more and counts as full. Else prove '..UptoSaid'. A law counts once. -/
mutual
def uptoBulk {H : Type} : DataW H → Nat
  | .lit (.string bytes) => bytes.length + 1
  | .lit _ => 1
  | .nil => 1
  | .ptr d => uptoBulk d + 1
  | .slice elems spare => uptoBulkAll elems + uptoBulkAll spare + 1
  | .agg parts => uptoBulkAll parts + 1
  | .iface _ d => uptoBulk d + 1
  | .map entries => uptoBulkEntries entries + 1
  | .held _ => 1
def uptoBulkAll {H : Type} : List (DataW H) → Nat
  | [] => 0
  | d :: r => uptoBulk d + uptoBulkAll r
def uptoBulkEntries {H : Type} : List (Lit × DataW H) → Nat
  | [] => 0
  | x :: r => uptoBulkEntry x + uptoBulkEntries r
def uptoBulkEntry {H : Type} : Lit × DataW H → Nat
  | (.string bytes, d) => bytes.length + uptoBulk d + 1
  | (_, d) => uptoBulk d + 1
 end
def uptoSmall : (H : Type) → List (DataW H) → Bool := fun _ ds => decide (uptoBulkAll ds ≤ 1048576)
def OpenSpec.upto (s : _root_.Go.ChangeSpec) : _root_.Go.OpenSpec := { _root_.Go.OpenSpec.ofChange s with cond := some uptoSmall }

/-- 'glacierlaw1.CodecSums', WHERE WHAT IT READS IS OF BULK AT MOST 1048576: true; the input reads as it did. -/
def codecSumsUptoRow : OpenClaim := { program := "ytfjgapfkobpkhaa", sum := "a8c3c1a9611b837227aeb24afe48ed13687d3a06eddfe4bb19e829e4de58aa39", func := "glacier/glacierlaw1.CodecSums", spec := "codecSums", apart := false, narrowed := true }
def CodecSumsUptoSaid : Prop := codecSumsUptoRow.holds Try.pinned (OpenSpec.upto codecSumsSpec)

/-- 'glacierlaw1.CodecGrows', WHERE WHAT IT READS IS OF BULK AT MOST 1048576: true; the input reads as it did. -/
def codecGrowsUptoRow : OpenClaim := { program := "ytfjgapfkobpkhaa", sum := "a8c3c1a9611b837227aeb24afe48ed13687d3a06eddfe4bb19e829e4de58aa39", func := "glacier/glacierlaw1.CodecGrows", spec := "codecGrows", apart := false, narrowed := true }
def CodecGrowsUptoSaid : Prop := codecGrowsUptoRow.holds Try.pinned (OpenSpec.upto codecGrowsSpec)

/-- 'glacierlaw1.CodecWrites', WHERE WHAT IT READS IS OF BULK AT MOST 1048576: true; the input reads as it did. -/
def codecWritesUptoRow : OpenClaim := { program := "ytfjgapfkobpkhaa", sum := "a8c3c1a9611b837227aeb24afe48ed13687d3a06eddfe4bb19e829e4de58aa39", func := "glacier/glacierlaw1.CodecWrites", spec := "codecWrites", apart := false, narrowed := true }
def CodecWritesUptoSaid : Prop := codecWritesUptoRow.holds Try.pinned (OpenSpec.upto codecWritesSpec)

/-- 'glacierlaw1.CodecBack', WHERE WHAT IT READS IS OF BULK AT MOST 1048576: true; the input reads as it did. -/
def codecBackUptoRow : OpenClaim := { program := "ytfjgapfkobpkhaa", sum := "a8c3c1a9611b837227aeb24afe48ed13687d3a06eddfe4bb19e829e4de58aa39", func := "glacier/glacierlaw1.CodecBack", spec := "codecBack", apart := false, narrowed := true }
def CodecBackUptoSaid : Prop := codecBackUptoRow.holds Try.pinned (OpenSpec.upto codecBackSpec)

/-- 'glacierlaw1.CodecBits', WHERE WHAT IT READS IS OF BULK AT MOST 1048576: true; the input reads as it did. -/
def codecBitsUptoRow : OpenClaim := { program := "ytfjgapfkobpkhaa", sum := "a8c3c1a9611b837227aeb24afe48ed13687d3a06eddfe4bb19e829e4de58aa39", func := "glacier/glacierlaw1.CodecBits", spec := "codecBits", apart := false, narrowed := true }
def CodecBitsUptoSaid : Prop := codecBitsUptoRow.holds Try.pinned (OpenSpec.upto codecBitsSpec)

/-- 'glacierlaw1.CodecFronts', WHERE WHAT IT READS IS OF BULK AT MOST 1048576: true; the input reads as it did. -/
def codecFrontsUptoRow : OpenClaim := { program := "ytfjgapfkobpkhaa", sum := "a8c3c1a9611b837227aeb24afe48ed13687d3a06eddfe4bb19e829e4de58aa39", func := "glacier/glacierlaw1.CodecFronts", spec := "codecFronts", apart := false, narrowed := true }
def CodecFrontsUptoSaid : Prop := codecFrontsUptoRow.holds Try.pinned (OpenSpec.upto codecFrontsSpec)

/-- 'glacierlaw1.CodecReads', WHERE WHAT IT READS IS OF BULK AT MOST 1048576: true; the input reads as it did. -/
def codecReadsUptoRow : OpenClaim := { program := "ytfjgapfkobpkhaa", sum := "a8c3c1a9611b837227aeb24afe48ed13687d3a06eddfe4bb19e829e4de58aa39", func := "glacier/glacierlaw1.CodecReads", spec := "codecReads", apart := false, narrowed := true }
def CodecReadsUptoSaid : Prop := codecReadsUptoRow.holds Try.pinned (OpenSpec.upto codecReadsSpec)

/-- 'glacierlaw1.CodecNests', WHERE WHAT IT READS IS OF BULK AT MOST 1048576: true; the input reads as it did. -/
def codecNestsUptoRow : OpenClaim := { program := "ytfjgapfkobpkhaa", sum := "a8c3c1a9611b837227aeb24afe48ed13687d3a06eddfe4bb19e829e4de58aa39", func := "glacier/glacierlaw1.CodecNests", spec := "codecNests", apart := false, narrowed := true }
def CodecNestsUptoSaid : Prop := codecNestsUptoRow.holds Try.pinned (OpenSpec.upto codecNestsSpec)

end Rows
end Go.Proofs.Ytfjgapfkobpkhaa
