/-
  No cell of these rows narrows 'for every input' (looked for: loops, veiled, ifaces, maps, wideKeys, modest, calm, conditions, laid).
  DERIVED. THE GIVEN ROWS OF THIS SEAT. 4 by the template 'for every input the law returns true; each argument reads behind the call as it read before'; 0 by the template 'total and deterministic' (their statements: YtgcealgkhlbgmaaTotals.lean).
  GIVEN WITH THE SEED: the statements are not yours to turn. If you find one false, say at which input.
  Laid BY PROGRAM, IN A SANDBOX (cutbox-rows.mjs): the forced cells as the released guide's own fill.sh prints them over the translation 4a7b5321201a21e7… (all of the seat's roots in one cut). By AI agents, Wed Nov 11 2026. No macro, syntax, notation, axiom, sorry.
-/
import Derived.Test.YtgcealgkhlbgmaaChecked
import GoSem.Claim
import GoSem.ClaimJoined
import GoSem.ClaimMapViews
import Derived.JoinedTies
import Derived.KernelRfl
namespace Go.Proofs.Ytgcealgkhlbgmaa
/- THE CELL 'sum', in the pinned program and in every row, IS THE sha256 OF THE DUMP (.gsa) THAT YtgcealgkhlbgmaaProg.lean LOADS. Nothing in Lean hashes anything: it is a label: what it is worth is what the hold of that sum in a sandbox is worth. -/
noncomputable def Try.pinned : Pinned := { name := "ytgcealgkhlbgmaa", sum := "4a7b5321201a21e7e58fd38264d5ea951e71690a60bc7fc252a992f8e6d42e29", checked := Try.checked }
namespace Rows
def none {H : Type} : Left H := { results := [], args := [] }

/-- 'glacierlaw5.MemOrders': WHATEVER THE INPUT: true; the input reads as it did. -/
def memOrdersSpec : ChangeSpec := { name := "memOrders", fn := fun _ => fun
  | [d1, d2, d3, d4] => { results := [.lit (.bool true)], args := [d1, d2, d3, d4] }
  | _ => none }
def memOrdersRow : OpenClaim := { program := "ytgcealgkhlbgmaa", sum := "4a7b5321201a21e7e58fd38264d5ea951e71690a60bc7fc252a992f8e6d42e29", func := "glacier/glacierlaw5.MemOrders", spec := "memOrders", unfollowed := true, recurses := true, apart := false }
def MemOrdersSaid : Prop := memOrdersRow.holds Try.pinned (OpenSpec.ofChange memOrdersSpec)

/-- ITS FALSE NEIGHBOUR: 'it returns false'. Refute it at one input. -/
def memOrdersWrong : ChangeSpec := { name := "memOrders", fn := fun _ => fun
  | [d1, d2, d3, d4] => { results := [.lit (.bool false)], args := [d1, d2, d3, d4] }
  | _ => none }
def MemOrdersWrongFalsely : Prop := memOrdersRow.holds Try.pinned (OpenSpec.ofChange memOrdersWrong)

/-- 'glacierlaw5.MemOwn': WHATEVER THE INPUT: true; the input reads as it did. -/
def memOwnSpec : ChangeSpec := { name := "memOwn", fn := fun _ => fun
  | [d1, d2] => { results := [.lit (.bool true)], args := [d1, d2] }
  | _ => none }
def memOwnRow : OpenClaim := { program := "ytgcealgkhlbgmaa", sum := "4a7b5321201a21e7e58fd38264d5ea951e71690a60bc7fc252a992f8e6d42e29", func := "glacier/glacierlaw5.MemOwn", spec := "memOwn", unfollowed := true, recurses := true, apart := false }
def MemOwnSaid : Prop := memOwnRow.holds Try.pinned (OpenSpec.ofChange memOwnSpec)

/-- ITS FALSE NEIGHBOUR: 'it returns false'. Refute it at one input. -/
def memOwnWrong : ChangeSpec := { name := "memOwn", fn := fun _ => fun
  | [d1, d2] => { results := [.lit (.bool false)], args := [d1, d2] }
  | _ => none }
def MemOwnWrongFalsely : Prop := memOwnRow.holds Try.pinned (OpenSpec.ofChange memOwnWrong)

/-- 'glacierlaw5.MemSees': WHATEVER THE INPUT: true; the input reads as it did. -/
def memSeesSpec : ChangeSpec := { name := "memSees", fn := fun _ => fun
  | [d1, d2, d3] => { results := [.lit (.bool true)], args := [d1, d2, d3] }
  | _ => none }
def memSeesRow : OpenClaim := { program := "ytgcealgkhlbgmaa", sum := "4a7b5321201a21e7e58fd38264d5ea951e71690a60bc7fc252a992f8e6d42e29", func := "glacier/glacierlaw5.MemSees", spec := "memSees", unfollowed := true, recurses := true, apart := false }
def MemSeesSaid : Prop := memSeesRow.holds Try.pinned (OpenSpec.ofChange memSeesSpec)

/-- ITS FALSE NEIGHBOUR: 'it returns false'. Refute it at one input. -/
def memSeesWrong : ChangeSpec := { name := "memSees", fn := fun _ => fun
  | [d1, d2, d3] => { results := [.lit (.bool false)], args := [d1, d2, d3] }
  | _ => none }
def MemSeesWrongFalsely : Prop := memSeesRow.holds Try.pinned (OpenSpec.ofChange memSeesWrong)

/-- 'glacierlaw5.MemPlays': WHATEVER THE INPUT: true; the input reads as it did. -/
def memPlaysSpec : ChangeSpec := { name := "memPlays", fn := fun _ => fun
  | [d1, d2, d3, d4] => { results := [.lit (.bool true)], args := [d1, d2, d3, d4] }
  | _ => none }
def memPlaysRow : OpenClaim := { program := "ytgcealgkhlbgmaa", sum := "4a7b5321201a21e7e58fd38264d5ea951e71690a60bc7fc252a992f8e6d42e29", func := "glacier/glacierlaw5.MemPlays", spec := "memPlays", unfollowed := true, recurses := true, apart := false }
def MemPlaysSaid : Prop := memPlaysRow.holds Try.pinned (OpenSpec.ofChange memPlaysSpec)

/-- ITS FALSE NEIGHBOUR: 'it returns false'. Refute it at one input. -/
def memPlaysWrong : ChangeSpec := { name := "memPlays", fn := fun _ => fun
  | [d1, d2, d3, d4] => { results := [.lit (.bool false)], args := [d1, d2, d3, d4] }
  | _ => none }
def MemPlaysWrongFalsely : Prop := memPlaysRow.holds Try.pinned (OpenSpec.ofChange memPlaysWrong)

/- THE SECOND FORM. 'bulk': how many values and letters a reading holds, each counted each time it is reached (what is shared counts as often as it is met; a slice's spare places count too). A statement '..UptoSaid' is the law's where the arguments, and the package variables that the reading takes, are together of bulk at most 1048576: NARROWER than '..Said'. Prove '..Said' where nothing that the law and all that it calls make is longer than what came in: it says more and counts as full. Else prove '..UptoSaid'. A law counts once. -/
mutual
def uptoBulk {H : Type} : DataW H → Nat
  | .lit (.string bytes) => bytes.length + 1
  | .lit _ => 1
  | .nil => 1
  | .ptr d => uptoBulk d + 1
  | .slice elems spare => uptoBulkAll elems + uptoBulkAll spare + 1
  | .agg parts => uptoBulkAll parts + 1
  | .iface _ d => uptoBulk d + 1
  | .map entries => uptoBulkEntries entries + 1
  | .held _ => 1
def uptoBulkAll {H : Type} : List (DataW H) → Nat
  | [] => 0
  | d :: r => uptoBulk d + uptoBulkAll r
def uptoBulkEntries {H : Type} : List (Lit × DataW H) → Nat
  | [] => 0
  | x :: r => uptoBulkEntry x + uptoBulkEntries r
def uptoBulkEntry {H : Type} : Lit × DataW H → Nat
  | (.string bytes, d) => bytes.length + uptoBulk d + 1
  | (_, d) => uptoBulk d + 1
 end
def uptoSmall : (H : Type) → List (DataW H) → Bool := fun _ ds => decide (uptoBulkAll ds ≤ 1048576)
def OpenSpec.upto (s : _root_.Go.ChangeSpec) : _root_.Go.OpenSpec := { _root_.Go.OpenSpec.ofChange s with cond := some uptoSmall }

/-- 'glacierlaw5.MemOrders', WHERE WHAT IT READS IS OF BULK AT MOST 1048576: true; the input reads as it did. -/
def memOrdersUptoRow : OpenClaim := { program := "ytgcealgkhlbgmaa", sum := "4a7b5321201a21e7e58fd38264d5ea951e71690a60bc7fc252a992f8e6d42e29", func := "glacier/glacierlaw5.MemOrders", spec := "memOrders", unfollowed := true, recurses := true, apart := false, narrowed := true }
def MemOrdersUptoSaid : Prop := memOrdersUptoRow.holds Try.pinned (OpenSpec.upto memOrdersSpec)

/-- 'glacierlaw5.MemOwn', WHERE WHAT IT READS IS OF BULK AT MOST 1048576: true; the input reads as it did. -/
def memOwnUptoRow : OpenClaim := { program := "ytgcealgkhlbgmaa", sum := "4a7b5321201a21e7e58fd38264d5ea951e71690a60bc7fc252a992f8e6d42e29", func := "glacier/glacierlaw5.MemOwn", spec := "memOwn", unfollowed := true, recurses := true, apart := false, narrowed := true }
def MemOwnUptoSaid : Prop := memOwnUptoRow.holds Try.pinned (OpenSpec.upto memOwnSpec)

/-- 'glacierlaw5.MemSees', WHERE WHAT IT READS IS OF BULK AT MOST 1048576: true; the input reads as it did. -/
def memSeesUptoRow : OpenClaim := { program := "ytgcealgkhlbgmaa", sum := "4a7b5321201a21e7e58fd38264d5ea951e71690a60bc7fc252a992f8e6d42e29", func := "glacier/glacierlaw5.MemSees", spec := "memSees", unfollowed := true, recurses := true, apart := false, narrowed := true }
def MemSeesUptoSaid : Prop := memSeesUptoRow.holds Try.pinned (OpenSpec.upto memSeesSpec)

/-- 'glacierlaw5.MemPlays', WHERE WHAT IT READS IS OF BULK AT MOST 1048576: true; the input reads as it did. -/
def memPlaysUptoRow : OpenClaim := { program := "ytgcealgkhlbgmaa", sum := "4a7b5321201a21e7e58fd38264d5ea951e71690a60bc7fc252a992f8e6d42e29", func := "glacier/glacierlaw5.MemPlays", spec := "memPlays", unfollowed := true, recurses := true, apart := false, narrowed := true }
def MemPlaysUptoSaid : Prop := memPlaysUptoRow.holds Try.pinned (OpenSpec.upto memPlaysSpec)

end Rows
end Go.Proofs.Ytgcealgkhlbgmaa
