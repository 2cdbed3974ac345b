/-
  DERIVED. GIVEN WITH THE SEED: THE CARDS: each row of YtjigfinpbdglnaaGreatDoorRows.lean that lists a variable, with what it lists TIED to the program's text (the seventh form; the later family's looks); each row that meets fmt, with fmt's text TOLD by the authors' own Lean function (tested against real Go, not proved from fmt's source: count such statements apart). THE CARD IS WHAT COUNTS. Prove the row's statement (the work); the ties are given (YtjigfinpbdglnaaGreatDoorTie.lean); close each card by the builder's one call (the guide's Derived/Test/ToyasCard.lean, 'card_holds'). Laid BY PROGRAM, IN A SANDBOX (cutbox-door.mjs). By AI agents, Wed Nov 11 2026. No macro, syntax, notation, axiom, sorry.
-/
import Derived.Test.YtjigfinpbdglnaaGreatDoorRows
import GoSem.ClaimSeven
namespace Go.Proofs.YtjigfinpbdglnaaGreatDoor
namespace Rows

/-- THE TIED CARD OF 'glacierlaw7.SstOpens'. -/
def sstOpensCard : Claim7 := { stood := { row := sstOpensRow, standIns := [], harness := (true, "03ad05dccc4d2a7bf20d4100e97e8c3bb5d9605d8d6f8005f9217bb05d6080ca"), looks := true }, kinds := [], alts := [], laidByText := true, laidKinds := [.data, .data, .data, .handle], laidTests := true, laidLooks := .later }
def SstOpensCardSaid : Prop := Claim7.holds Tryz.pinned (.plain (OpenSpec.ofChange sstOpensSpec)) sstOpensCard

/-- THE TIED CARD OF 'glacierlaw7.SstAsks'. -/
def sstAsksCard : Claim7 := { stood := { row := sstAsksRow, standIns := [], harness := (true, "03ad05dccc4d2a7bf20d4100e97e8c3bb5d9605d8d6f8005f9217bb05d6080ca"), looks := true }, kinds := [], alts := [], laidByText := true, laidKinds := [.data, .data, .data, .handle], laidTests := true, laidLooks := .later }
def SstAsksCardSaid : Prop := Claim7.holds Tryz.pinned (.plain (OpenSpec.ofChange sstAsksSpec)) sstAsksCard

/-- THE SECOND FORM's CARD OF 'glacierlaw7.SstOpens'. -/
def sstOpensUptoCard : Claim7 := { stood := { row := sstOpensUptoRow, standIns := [], harness := (true, "03ad05dccc4d2a7bf20d4100e97e8c3bb5d9605d8d6f8005f9217bb05d6080ca"), looks := true }, kinds := [], alts := [], laidByText := true, laidKinds := [.data, .data, .data, .handle], laidTests := true, laidLooks := .later }
def SstOpensUptoCardSaid : Prop := Claim7.holds Tryz.pinned (.plain (OpenSpec.upto sstOpensSpec)) sstOpensUptoCard

/-- THE SECOND FORM's CARD OF 'glacierlaw7.SstAsks'. -/
def sstAsksUptoCard : Claim7 := { stood := { row := sstAsksUptoRow, standIns := [], harness := (true, "03ad05dccc4d2a7bf20d4100e97e8c3bb5d9605d8d6f8005f9217bb05d6080ca"), looks := true }, kinds := [], alts := [], laidByText := true, laidKinds := [.data, .data, .data, .handle], laidTests := true, laidLooks := .later }
def SstAsksUptoCardSaid : Prop := Claim7.holds Tryz.pinned (.plain (OpenSpec.upto sstAsksSpec)) sstAsksUptoCard
end Rows
end Go.Proofs.YtjigfinpbdglnaaGreatDoor
