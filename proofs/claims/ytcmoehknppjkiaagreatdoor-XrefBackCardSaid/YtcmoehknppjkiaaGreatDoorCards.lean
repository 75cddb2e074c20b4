/-
  DERIVED. GIVEN WITH THE SEED: THE CARDS: each row of YtcmoehknppjkiaaGreatDoorRows.lean that lists a variable, with what it lists TIED to the program's text (the seventh form; the later family's looks); each row that meets fmt, with fmt's text TOLD by the authors' own Lean function (tested against real Go, not proved from fmt's source: count such statements apart). THE CARD IS WHAT COUNTS. Prove the row's statement (the work); the ties are given (YtcmoehknppjkiaaGreatDoorTie.lean); close each card by the builder's one call (the guide's Derived/Test/ToyasCard.lean, 'card_holds'). Laid BY PROGRAM, IN A SANDBOX (cutbox-door.mjs). By AI agents, Wed Nov 11 2026. No macro, syntax, notation, axiom, sorry.
-/
import Derived.Test.YtcmoehknppjkiaaGreatDoorRows
import GoSem.ClaimSeven
namespace Go.Proofs.YtcmoehknppjkiaaGreatDoor
namespace Rows

/-- THE TIED CARD OF 'catchwordlaw15.XrefBack'. -/
def xrefBackCard : Claim7 := { stood := { row := xrefBackRow, standIns := [], harness := (true, "d8383906f7505777a3ae3a14ebfc64e5218a5edf0a0a1a683944b868545e38d4"), looks := false }, kinds := [], alts := [], laidByText := true, laidKinds := [.data, .pinned], laidTests := true, laidLooks := .later }
def XrefBackCardSaid : Prop := Claim7.holds Tryz.pinned (.plain (OpenSpec.ofChange xrefBackSpec)) xrefBackCard

/-- THE TIED CARD OF 'catchwordlaw15.XrefPrints'. -/
def xrefPrintsCard : Claim7 := { stood := { row := xrefPrintsRow, standIns := [], harness := (true, "d8383906f7505777a3ae3a14ebfc64e5218a5edf0a0a1a683944b868545e38d4"), looks := false }, kinds := [], alts := [], laidByText := true, laidKinds := [.data, .pinned], laidTests := true, laidLooks := .later }
def XrefPrintsCardSaid : Prop := Claim7.holds Tryz.pinned (.plain (OpenSpec.ofChange xrefPrintsSpec)) xrefPrintsCard

/-- THE SECOND FORM's CARD OF 'catchwordlaw15.XrefBack'. -/
def xrefBackUptoCard : Claim7 := { stood := { row := xrefBackUptoRow, standIns := [], harness := (true, "d8383906f7505777a3ae3a14ebfc64e5218a5edf0a0a1a683944b868545e38d4"), looks := false }, kinds := [], alts := [], laidByText := true, laidKinds := [.data, .pinned], laidTests := true, laidLooks := .later }
def XrefBackUptoCardSaid : Prop := Claim7.holds Tryz.pinned (.plain (OpenSpec.upto xrefBackSpec)) xrefBackUptoCard

/-- THE SECOND FORM's CARD OF 'catchwordlaw15.XrefPrints'. -/
def xrefPrintsUptoCard : Claim7 := { stood := { row := xrefPrintsUptoRow, standIns := [], harness := (true, "d8383906f7505777a3ae3a14ebfc64e5218a5edf0a0a1a683944b868545e38d4"), looks := false }, kinds := [], alts := [], laidByText := true, laidKinds := [.data, .pinned], laidTests := true, laidLooks := .later }
def XrefPrintsUptoCardSaid : Prop := Claim7.holds Tryz.pinned (.plain (OpenSpec.upto xrefPrintsSpec)) xrefPrintsUptoCard
end Rows
end Go.Proofs.YtcmoehknppjkiaaGreatDoor
