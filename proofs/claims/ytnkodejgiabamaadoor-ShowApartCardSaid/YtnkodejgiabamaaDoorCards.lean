/-
  DERIVED. GIVEN WITH THE SEED: THE CARDS: each row of YtnkodejgiabamaaDoorRows.lean that lists a variable, with what it lists TIED to the program's text (the seventh form; the later family's looks); each row that meets fmt, with fmt's text TOLD by the authors' own Lean function (tested against real Go, not proved from fmt's source: count such statements apart). THE CARD IS WHAT COUNTS. Prove the row's statement (the work); the ties are given (YtnkodejgiabamaaDoorTie.lean); close each card by the builder's one call (the guide's Derived/Test/ToyasCard.lean, 'card_holds'). Laid BY PROGRAM, IN A SANDBOX (cutbox-door.mjs). By AI agents, Wed Nov 11 2026. No macro, syntax, notation, axiom, sorry.
-/
import Derived.Test.YtnkodejgiabamaaDoorRows
import GoSem.ClaimSeven
namespace Go.Proofs.YtnkodejgiabamaaDoor
namespace Rows

/-- THE TIED CARD OF 'catchwordlaw13.ShowValues'. -/
def showValuesCard : Claim7 := { stood := { row := showValuesRow, standIns := [], harness := (true, "65137bd64f9c33d66af75180b5ffe4f5c216fde1609af0829bb720d459796481"), looks := false }, kinds := [], alts := [], laidByText := true, laidKinds := [.data, .pinned], laidTests := true, laidLooks := .later }
def ShowValuesCardSaid : Prop := Claim7.holds Tryd.pinned (.plain (OpenSpec.ofChange showValuesSpec)) showValuesCard

/-- THE TIED CARD OF 'catchwordlaw13.ShowApart'. -/
def showApartCard : Claim7 := { stood := { row := showApartRow, standIns := [], harness := (true, "65137bd64f9c33d66af75180b5ffe4f5c216fde1609af0829bb720d459796481"), looks := false }, kinds := [], alts := [], laidByText := true, laidKinds := [.data, .pinned], laidTests := true, laidLooks := .later }
def ShowApartCardSaid : Prop := Claim7.holds Tryd.pinned (.plain (OpenSpec.ofChange showApartSpec)) showApartCard

/-- THE TIED CARD OF 'catchwordlaw13.ShowTexts'. -/
def showTextsCard : Claim7 := { stood := { row := showTextsRow, standIns := [], harness := (true, "65137bd64f9c33d66af75180b5ffe4f5c216fde1609af0829bb720d459796481"), looks := false }, kinds := [], alts := [], laidByText := true, laidKinds := [.data, .pinned], laidTests := true, laidLooks := .later }
def ShowTextsCardSaid : Prop := Claim7.holds Tryd.pinned (.plain (OpenSpec.ofChange showTextsSpec)) showTextsCard

/-- THE SECOND FORM's CARD OF 'catchwordlaw13.ShowValues'. -/
def showValuesUptoCard : Claim7 := { stood := { row := showValuesUptoRow, standIns := [], harness := (true, "65137bd64f9c33d66af75180b5ffe4f5c216fde1609af0829bb720d459796481"), looks := false }, kinds := [], alts := [], laidByText := true, laidKinds := [.data, .pinned], laidTests := true, laidLooks := .later }
def ShowValuesUptoCardSaid : Prop := Claim7.holds Tryd.pinned (.plain (OpenSpec.upto showValuesSpec)) showValuesUptoCard

/-- THE SECOND FORM's CARD OF 'catchwordlaw13.ShowApart'. -/
def showApartUptoCard : Claim7 := { stood := { row := showApartUptoRow, standIns := [], harness := (true, "65137bd64f9c33d66af75180b5ffe4f5c216fde1609af0829bb720d459796481"), looks := false }, kinds := [], alts := [], laidByText := true, laidKinds := [.data, .pinned], laidTests := true, laidLooks := .later }
def ShowApartUptoCardSaid : Prop := Claim7.holds Tryd.pinned (.plain (OpenSpec.upto showApartSpec)) showApartUptoCard

/-- THE SECOND FORM's CARD OF 'catchwordlaw13.ShowTexts'. -/
def showTextsUptoCard : Claim7 := { stood := { row := showTextsUptoRow, standIns := [], harness := (true, "65137bd64f9c33d66af75180b5ffe4f5c216fde1609af0829bb720d459796481"), looks := false }, kinds := [], alts := [], laidByText := true, laidKinds := [.data, .pinned], laidTests := true, laidLooks := .later }
def ShowTextsUptoCardSaid : Prop := Claim7.holds Tryd.pinned (.plain (OpenSpec.upto showTextsSpec)) showTextsUptoCard
end Rows
end Go.Proofs.YtnkodejgiabamaaDoor
