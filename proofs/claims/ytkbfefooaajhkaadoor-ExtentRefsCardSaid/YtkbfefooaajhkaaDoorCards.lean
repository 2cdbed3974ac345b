/-
  DERIVED. GIVEN WITH THE SEED: THE CARDS: each row of YtkbfefooaajhkaaDoorRows.lean that lists a variable, with what it lists TIED to the program's text (the seventh form; the later family's looks); each row that meets fmt, with fmt's text TOLD by the authors' own Lean function (tested against real Go, not proved from fmt's source: count such statements apart). THE CARD IS WHAT COUNTS. Prove the row's statement (the work); the ties are given (YtkbfefooaajhkaaDoorTie.lean); close each card by the builder's one call (the guide's Derived/Test/ToyasCard.lean, 'card_holds'). Laid BY PROGRAM, IN A SANDBOX (cutbox-door.mjs). By AI agents, Wed Nov 11 2026. No macro, syntax, notation, axiom, sorry.
-/
import Derived.Test.YtkbfefooaajhkaaDoorRows
import GoSem.ClaimSeven
namespace Go.Proofs.YtkbfefooaajhkaaDoor
namespace Rows

/-- THE TIED CARD OF 'glacierlaw17.ExtentBits'. -/
def extentBitsCard : Claim7 := { stood := { row := extentBitsRow, standIns := [], harness := (true, "b4433daf8c08180115c9c9a148456bd9a5084d31b3aaf1cfdd54c50c4695a838"), looks := false }, kinds := [], alts := [], laidByText := true, laidKinds := [.data, .data, .data], laidTests := true, laidLooks := .later }
def ExtentBitsCardSaid : Prop := Claim7.holds Tryd.pinned (.plain (OpenSpec.ofChange extentBitsSpec)) extentBitsCard

/-- THE TIED CARD OF 'glacierlaw17.ExtentSizes'. -/
def extentSizesCard : Claim7 := { stood := { row := extentSizesRow, standIns := [], harness := (true, "b4433daf8c08180115c9c9a148456bd9a5084d31b3aaf1cfdd54c50c4695a838"), looks := false }, kinds := [], alts := [], laidByText := true, laidKinds := [.data, .data, .data], laidTests := true, laidLooks := .later }
def ExtentSizesCardSaid : Prop := Claim7.holds Tryd.pinned (.plain (OpenSpec.ofChange extentSizesSpec)) extentSizesCard

/-- THE TIED CARD OF 'glacierlaw17.ExtentMakes'. -/
def extentMakesCard : Claim7 := { stood := { row := extentMakesRow, standIns := [], harness := (true, "b4433daf8c08180115c9c9a148456bd9a5084d31b3aaf1cfdd54c50c4695a838"), looks := false }, kinds := [], alts := [], laidByText := true, laidKinds := [.data, .data, .data], laidTests := true, laidLooks := .later }
def ExtentMakesCardSaid : Prop := Claim7.holds Tryd.pinned (.plain (OpenSpec.ofChange extentMakesSpec)) extentMakesCard

/-- THE TIED CARD OF 'glacierlaw17.ExtentReads'. -/
def extentReadsCard : Claim7 := { stood := { row := extentReadsRow, standIns := [], harness := (true, "b4433daf8c08180115c9c9a148456bd9a5084d31b3aaf1cfdd54c50c4695a838"), looks := false }, kinds := [], alts := [], laidByText := true, laidKinds := [.data, .data, .data], laidTests := true, laidLooks := .later }
def ExtentReadsCardSaid : Prop := Claim7.holds Tryd.pinned (.plain (OpenSpec.ofChange extentReadsSpec)) extentReadsCard

/-- THE TIED CARD OF 'glacierlaw17.ExtentBack'. -/
def extentBackCard : Claim7 := { stood := { row := extentBackRow, standIns := [], harness := (true, "b4433daf8c08180115c9c9a148456bd9a5084d31b3aaf1cfdd54c50c4695a838"), looks := false }, kinds := [], alts := [], laidByText := true, laidKinds := [.data, .data, .data], laidTests := true, laidLooks := .later }
def ExtentBackCardSaid : Prop := Claim7.holds Tryd.pinned (.plain (OpenSpec.ofChange extentBackSpec)) extentBackCard

/-- THE TIED CARD OF 'glacierlaw17.ExtentRefs'. -/
def extentRefsCard : Claim7 := { stood := { row := extentRefsRow, standIns := [], harness := (true, "b4433daf8c08180115c9c9a148456bd9a5084d31b3aaf1cfdd54c50c4695a838"), looks := false }, kinds := [], alts := [], laidByText := true, laidKinds := [.data, .data, .data], laidTests := true, laidLooks := .later }
def ExtentRefsCardSaid : Prop := Claim7.holds Tryd.pinned (.plain (OpenSpec.ofChange extentRefsSpec)) extentRefsCard

/-- THE SECOND FORM's CARD OF 'glacierlaw17.ExtentBits'. -/
def extentBitsUptoCard : Claim7 := { stood := { row := extentBitsUptoRow, standIns := [], harness := (true, "b4433daf8c08180115c9c9a148456bd9a5084d31b3aaf1cfdd54c50c4695a838"), looks := false }, kinds := [], alts := [], laidByText := true, laidKinds := [.data, .data, .data], laidTests := true, laidLooks := .later }
def ExtentBitsUptoCardSaid : Prop := Claim7.holds Tryd.pinned (.plain (OpenSpec.upto extentBitsSpec)) extentBitsUptoCard

/-- THE SECOND FORM's CARD OF 'glacierlaw17.ExtentSizes'. -/
def extentSizesUptoCard : Claim7 := { stood := { row := extentSizesUptoRow, standIns := [], harness := (true, "b4433daf8c08180115c9c9a148456bd9a5084d31b3aaf1cfdd54c50c4695a838"), looks := false }, kinds := [], alts := [], laidByText := true, laidKinds := [.data, .data, .data], laidTests := true, laidLooks := .later }
def ExtentSizesUptoCardSaid : Prop := Claim7.holds Tryd.pinned (.plain (OpenSpec.upto extentSizesSpec)) extentSizesUptoCard

/-- THE SECOND FORM's CARD OF 'glacierlaw17.ExtentMakes'. -/
def extentMakesUptoCard : Claim7 := { stood := { row := extentMakesUptoRow, standIns := [], harness := (true, "b4433daf8c08180115c9c9a148456bd9a5084d31b3aaf1cfdd54c50c4695a838"), looks := false }, kinds := [], alts := [], laidByText := true, laidKinds := [.data, .data, .data], laidTests := true, laidLooks := .later }
def ExtentMakesUptoCardSaid : Prop := Claim7.holds Tryd.pinned (.plain (OpenSpec.upto extentMakesSpec)) extentMakesUptoCard

/-- THE SECOND FORM's CARD OF 'glacierlaw17.ExtentReads'. -/
def extentReadsUptoCard : Claim7 := { stood := { row := extentReadsUptoRow, standIns := [], harness := (true, "b4433daf8c08180115c9c9a148456bd9a5084d31b3aaf1cfdd54c50c4695a838"), looks := false }, kinds := [], alts := [], laidByText := true, laidKinds := [.data, .data, .data], laidTests := true, laidLooks := .later }
def ExtentReadsUptoCardSaid : Prop := Claim7.holds Tryd.pinned (.plain (OpenSpec.upto extentReadsSpec)) extentReadsUptoCard

/-- THE SECOND FORM's CARD OF 'glacierlaw17.ExtentBack'. -/
def extentBackUptoCard : Claim7 := { stood := { row := extentBackUptoRow, standIns := [], harness := (true, "b4433daf8c08180115c9c9a148456bd9a5084d31b3aaf1cfdd54c50c4695a838"), looks := false }, kinds := [], alts := [], laidByText := true, laidKinds := [.data, .data, .data], laidTests := true, laidLooks := .later }
def ExtentBackUptoCardSaid : Prop := Claim7.holds Tryd.pinned (.plain (OpenSpec.upto extentBackSpec)) extentBackUptoCard

/-- THE SECOND FORM's CARD OF 'glacierlaw17.ExtentRefs'. -/
def extentRefsUptoCard : Claim7 := { stood := { row := extentRefsUptoRow, standIns := [], harness := (true, "b4433daf8c08180115c9c9a148456bd9a5084d31b3aaf1cfdd54c50c4695a838"), looks := false }, kinds := [], alts := [], laidByText := true, laidKinds := [.data, .data, .data], laidTests := true, laidLooks := .later }
def ExtentRefsUptoCardSaid : Prop := Claim7.holds Tryd.pinned (.plain (OpenSpec.upto extentRefsSpec)) extentRefsUptoCard
end Rows
end Go.Proofs.YtkbfefooaajhkaaDoor
