/-
  DERIVED. GIVEN WITH THE SEED: THE CARDS: each row of YtkhcjoomijkfbaaGreatDoorRows.lean that lists a variable, with what it lists TIED to the program's text (the seventh form; the later family's looks); each row that meets fmt, with fmt's text TOLD by the authors' own Lean function (tested against real Go, not proved from fmt's source: count such statements apart). THE CARD IS WHAT COUNTS. Prove the row's statement (the work); the ties are given (YtkhcjoomijkfbaaGreatDoorTie.lean); close each card by the builder's one call (the guide's Derived/Test/ToyasCard.lean, 'card_holds'). Laid BY PROGRAM, IN A SANDBOX (cutbox-door.mjs). By AI agents, Wed Nov 11 2026. No macro, syntax, notation, axiom, sorry.
-/
import Derived.Test.YtkhcjoomijkfbaaGreatDoorRows
import GoSem.ClaimSeven
namespace Go.Proofs.YtkhcjoomijkfbaaGreatDoor
namespace Rows

/-- THE TIED CARD OF 'catchwordlaw29.LinPrints'. -/
def linPrintsCard : Claim7 := { stood := { row := linPrintsRow, standIns := [], harness := (true, "c10a10001d344afb06e0ceaaf6286cfc5f6965210a61ab3c54325ae44c1b75cf"), looks := false }, kinds := [], alts := [], laidByText := true, laidKinds := [.data, .pinned], laidTests := true, laidLooks := .later }
def LinPrintsCardSaid : Prop := Claim7.holds Tryz.pinned (.plain (OpenSpec.ofChange linPrintsSpec)) linPrintsCard

/-- THE TIED CARD OF 'catchwordlaw29.LinParses'. -/
def linParsesCard : Claim7 := { stood := { row := linParsesRow, standIns := [], harness := (true, "c10a10001d344afb06e0ceaaf6286cfc5f6965210a61ab3c54325ae44c1b75cf"), looks := false }, kinds := [], alts := [], laidByText := true, laidKinds := [.data, .pinned], laidTests := true, laidLooks := .later }
def LinParsesCardSaid : Prop := Claim7.holds Tryz.pinned (.plain (OpenSpec.ofChange linParsesSpec)) linParsesCard

/-- THE TIED CARD OF 'catchwordlaw29.LinBack'. -/
def linBackCard : Claim7 := { stood := { row := linBackRow, standIns := [], harness := (true, "c10a10001d344afb06e0ceaaf6286cfc5f6965210a61ab3c54325ae44c1b75cf"), looks := false }, kinds := [], alts := [], laidByText := true, laidKinds := [.data, .pinned], laidTests := true, laidLooks := .later }
def LinBackCardSaid : Prop := Claim7.holds Tryz.pinned (.plain (OpenSpec.ofChange linBackSpec)) linBackCard

/-- THE TIED CARD OF 'catchwordlaw29.LinWide'. -/
def linWideCard : Claim7 := { stood := { row := linWideRow, standIns := [], harness := (true, "c10a10001d344afb06e0ceaaf6286cfc5f6965210a61ab3c54325ae44c1b75cf"), looks := false }, kinds := [], alts := [], laidByText := true, laidKinds := [.data, .pinned], laidTests := true, laidLooks := .later }
def LinWideCardSaid : Prop := Claim7.holds Tryz.pinned (.plain (OpenSpec.ofChange linWideSpec)) linWideCard

/-- THE TIED CARD OF 'catchwordlaw29.LinStays'. -/
def linStaysCard : Claim7 := { stood := { row := linStaysRow, standIns := [], harness := (true, "c10a10001d344afb06e0ceaaf6286cfc5f6965210a61ab3c54325ae44c1b75cf"), looks := false }, kinds := [], alts := [], laidByText := true, laidKinds := [.data, .pinned], laidTests := true, laidLooks := .later }
def LinStaysCardSaid : Prop := Claim7.holds Tryz.pinned (.plain (OpenSpec.ofChange linStaysSpec)) linStaysCard

/-- THE SECOND FORM's CARD OF 'catchwordlaw29.LinPrints'. -/
def linPrintsUptoCard : Claim7 := { stood := { row := linPrintsUptoRow, standIns := [], harness := (true, "c10a10001d344afb06e0ceaaf6286cfc5f6965210a61ab3c54325ae44c1b75cf"), looks := false }, kinds := [], alts := [], laidByText := true, laidKinds := [.data, .pinned], laidTests := true, laidLooks := .later }
def LinPrintsUptoCardSaid : Prop := Claim7.holds Tryz.pinned (.plain (OpenSpec.upto linPrintsSpec)) linPrintsUptoCard

/-- THE SECOND FORM's CARD OF 'catchwordlaw29.LinParses'. -/
def linParsesUptoCard : Claim7 := { stood := { row := linParsesUptoRow, standIns := [], harness := (true, "c10a10001d344afb06e0ceaaf6286cfc5f6965210a61ab3c54325ae44c1b75cf"), looks := false }, kinds := [], alts := [], laidByText := true, laidKinds := [.data, .pinned], laidTests := true, laidLooks := .later }
def LinParsesUptoCardSaid : Prop := Claim7.holds Tryz.pinned (.plain (OpenSpec.upto linParsesSpec)) linParsesUptoCard

/-- THE SECOND FORM's CARD OF 'catchwordlaw29.LinBack'. -/
def linBackUptoCard : Claim7 := { stood := { row := linBackUptoRow, standIns := [], harness := (true, "c10a10001d344afb06e0ceaaf6286cfc5f6965210a61ab3c54325ae44c1b75cf"), looks := false }, kinds := [], alts := [], laidByText := true, laidKinds := [.data, .pinned], laidTests := true, laidLooks := .later }
def LinBackUptoCardSaid : Prop := Claim7.holds Tryz.pinned (.plain (OpenSpec.upto linBackSpec)) linBackUptoCard

/-- THE SECOND FORM's CARD OF 'catchwordlaw29.LinWide'. -/
def linWideUptoCard : Claim7 := { stood := { row := linWideUptoRow, standIns := [], harness := (true, "c10a10001d344afb06e0ceaaf6286cfc5f6965210a61ab3c54325ae44c1b75cf"), looks := false }, kinds := [], alts := [], laidByText := true, laidKinds := [.data, .pinned], laidTests := true, laidLooks := .later }
def LinWideUptoCardSaid : Prop := Claim7.holds Tryz.pinned (.plain (OpenSpec.upto linWideSpec)) linWideUptoCard

/-- THE SECOND FORM's CARD OF 'catchwordlaw29.LinStays'. -/
def linStaysUptoCard : Claim7 := { stood := { row := linStaysUptoRow, standIns := [], harness := (true, "c10a10001d344afb06e0ceaaf6286cfc5f6965210a61ab3c54325ae44c1b75cf"), looks := false }, kinds := [], alts := [], laidByText := true, laidKinds := [.data, .pinned], laidTests := true, laidLooks := .later }
def LinStaysUptoCardSaid : Prop := Claim7.holds Tryz.pinned (.plain (OpenSpec.upto linStaysSpec)) linStaysUptoCard
end Rows
end Go.Proofs.YtkhcjoomijkfbaaGreatDoor
