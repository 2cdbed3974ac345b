/-
  DERIVED. GIVEN WITH THE SEED: THE CARDS: each row of YtfgifndpglgjkaaGreatDoorRows.lean that lists a variable, with what it lists TIED to the program's text (the seventh form; the later family's looks); each row that meets fmt, with fmt's text TOLD by the authors' own Lean function (tested against real Go, not proved from fmt's source: count such statements apart). THE CARD IS WHAT COUNTS. Prove the row's statement (the work); the ties are given (YtfgifndpglgjkaaGreatDoorTie.lean); close each card by the builder's one call (the guide's Derived/Test/ToyasCard.lean, 'card_holds'). Laid BY PROGRAM, IN A SANDBOX (cutbox-door.mjs). By AI agents, Wed Nov 11 2026. No macro, syntax, notation, axiom, sorry.
-/
import Derived.Test.YtfgifndpglgjkaaGreatDoorRows
import GoSem.ClaimSeven
namespace Go.Proofs.YtfgifndpglgjkaaGreatDoor
namespace Rows

/-- THE TIED CARD OF 'glacierlaw20.ColdMakes'. -/
def coldMakesCard : Claim7 := { stood := { row := coldMakesRow, standIns := [], harness := (true, "09ae287c7463340709681007f51cc161e032740935b1ce41ef772a57890ac091"), looks := true }, kinds := [], alts := [], laidByText := true, laidKinds := [.data, .data, .data], laidTests := true, laidLooks := .later }
def ColdMakesCardSaid : Prop := Claim7.holds Tryz.pinned (.plain (OpenSpec.ofChange coldMakesSpec)) coldMakesCard

/-- THE TIED CARD OF 'glacierlaw20.ColdOwn'. -/
def coldOwnCard : Claim7 := { stood := { row := coldOwnRow, standIns := [], harness := (true, "09ae287c7463340709681007f51cc161e032740935b1ce41ef772a57890ac091"), looks := true }, kinds := [], alts := [], laidByText := true, laidKinds := [.data, .data, .data], laidTests := true, laidLooks := .later }
def ColdOwnCardSaid : Prop := Claim7.holds Tryz.pinned (.plain (OpenSpec.ofChange coldOwnSpec)) coldOwnCard

/-- THE TIED CARD OF 'glacierlaw20.ColdAny'. -/
def coldAnyCard : Claim7 := { stood := { row := coldAnyRow, standIns := [], harness := (true, "09ae287c7463340709681007f51cc161e032740935b1ce41ef772a57890ac091"), looks := true }, kinds := [], alts := [], laidByText := true, laidKinds := [.data, .data, .data], laidTests := true, laidLooks := .later }
def ColdAnyCardSaid : Prop := Claim7.holds Tryz.pinned (.plain (OpenSpec.ofChange coldAnySpec)) coldAnyCard

/-- THE SECOND FORM's CARD OF 'glacierlaw20.ColdMakes'. -/
def coldMakesUptoCard : Claim7 := { stood := { row := coldMakesUptoRow, standIns := [], harness := (true, "09ae287c7463340709681007f51cc161e032740935b1ce41ef772a57890ac091"), looks := true }, kinds := [], alts := [], laidByText := true, laidKinds := [.data, .data, .data], laidTests := true, laidLooks := .later }
def ColdMakesUptoCardSaid : Prop := Claim7.holds Tryz.pinned (.plain (OpenSpec.upto coldMakesSpec)) coldMakesUptoCard

/-- THE SECOND FORM's CARD OF 'glacierlaw20.ColdOwn'. -/
def coldOwnUptoCard : Claim7 := { stood := { row := coldOwnUptoRow, standIns := [], harness := (true, "09ae287c7463340709681007f51cc161e032740935b1ce41ef772a57890ac091"), looks := true }, kinds := [], alts := [], laidByText := true, laidKinds := [.data, .data, .data], laidTests := true, laidLooks := .later }
def ColdOwnUptoCardSaid : Prop := Claim7.holds Tryz.pinned (.plain (OpenSpec.upto coldOwnSpec)) coldOwnUptoCard

/-- THE SECOND FORM's CARD OF 'glacierlaw20.ColdAny'. -/
def coldAnyUptoCard : Claim7 := { stood := { row := coldAnyUptoRow, standIns := [], harness := (true, "09ae287c7463340709681007f51cc161e032740935b1ce41ef772a57890ac091"), looks := true }, kinds := [], alts := [], laidByText := true, laidKinds := [.data, .data, .data], laidTests := true, laidLooks := .later }
def ColdAnyUptoCardSaid : Prop := Claim7.holds Tryz.pinned (.plain (OpenSpec.upto coldAnySpec)) coldAnyUptoCard
end Rows
end Go.Proofs.YtfgifndpglgjkaaGreatDoor
