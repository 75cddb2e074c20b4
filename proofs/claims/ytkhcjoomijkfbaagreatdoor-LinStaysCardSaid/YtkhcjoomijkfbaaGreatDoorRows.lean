/-
  NARROWER THAN 'FOR EVERY INPUT', by the rows' own cells (each row's printed sentence says how): LinPrints: laid · LinParses: laid · LinBack: laid · LinWide: laid · LinStays: laid.
  DERIVED. THE GIVEN ROWS OF THIS SEAT. 5 by the template 'for every input the law returns true; each argument reads behind the call as it read before'; 0 by the template 'total and deterministic' (their statements: YtkhcjoomijkfbaaGreatDoorTotals.lean).
  GIVEN WITH THE SEED: the statements are not yours to turn. If you find one false, say at which input.
  Laid BY PROGRAM, IN A SANDBOX (cutbox-rows.mjs): the forced cells as the released guide's own fill.sh prints them over the translation a28734511403d7d5… (all of the seat's roots in one cut). By AI agents, Wed Nov 11 2026. No macro, syntax, notation, axiom, sorry.
-/
import Derived.Test.YtkhcjoomijkfbaaGreatDoorChecked
import GoSem.PinnedTables
import GoSem.Claim
import GoSem.ClaimJoined
import GoSem.ClaimMapViews
import Derived.JoinedTies
import Derived.KernelRfl
namespace Go.Proofs.YtkhcjoomijkfbaaGreatDoor
/- THE CELL 'sum', in the pinned program and in every row, IS THE sha256 OF THE DUMP (.gsa) THAT YtkhcjoomijkfbaaGreatDoorProg.lean LOADS. Nothing in Lean hashes anything: it is a label: what it is worth is what the hold of that sum in a sandbox is worth. -/
noncomputable def Tryz.pinned : Pinned := { name := "ytkhcjoomijkfbaagreatdoor", sum := "a28734511403d7d5a4f195d0b75a61ccbe9784bfb7c73da1f06aeb81b2e3a280", checked := Tryz.checked }
namespace Rows
def none {H : Type} : Left H := { results := [], args := [] }

/- WHAT THE LISTED PACKAGE-LEVEL VARIABLES READ AS WHEN THE CALL BEGINS. Each datum BY PROGRAM (the guide's laid-datum.mjs) off the statement by which the dump's own 'gosem.cut.vars' lays the variable. In a bare row this is a premise. The card (YtkhcjoomijkfbaaGreatDoorCards.lean) ties it to the program's text. -/
def laid_unicode_utf8_acceptRanges {H : Type} : DataW H := .agg [.agg [.lit (.int .u8 128), .lit (.int .u8 191)], .agg [.lit (.int .u8 160), .lit (.int .u8 191)], .agg [.lit (.int .u8 128), .lit (.int .u8 159)], .agg [.lit (.int .u8 144), .lit (.int .u8 191)], .agg [.lit (.int .u8 128), .lit (.int .u8 143)], .agg [.lit (.int .u8 0), .lit (.int .u8 0)], .agg [.lit (.int .u8 0), .lit (.int .u8 0)], .agg [.lit (.int .u8 0), .lit (.int .u8 0)], .agg [.lit (.int .u8 0), .lit (.int .u8 0)], .agg [.lit (.int .u8 0), .lit (.int .u8 0)], .agg [.lit (.int .u8 0), .lit (.int .u8 0)], .agg [.lit (.int .u8 0), .lit (.int .u8 0)], .agg [.lit (.int .u8 0), .lit (.int .u8 0)], .agg [.lit (.int .u8 0), .lit (.int .u8 0)], .agg [.lit (.int .u8 0), .lit (.int .u8 0)], .agg [.lit (.int .u8 0), .lit (.int .u8 0)]]
/-- One of Go's own tables, pinned by name: the form's constant. -/
def laid_unicode_utf8_first : DataW Unit := Go.Pinned.utf8First

/-- 'catchwordlaw29.LinPrints': WHATEVER THE INPUT: true; the input reads as it did. -/
def linPrintsSpec : ChangeSpec := { name := "linPrints", fn := fun _ => fun
  | [d1, d2] => { results := [.lit (.bool true)], args := [d1, d2] }
  | _ => none }
def linPrintsRow : OpenClaim := { program := "ytkhcjoomijkfbaagreatdoor", sum := "a28734511403d7d5a4f195d0b75a61ccbe9784bfb7c73da1f06aeb81b2e3a280", func := "catchword/catchwordlaw29.LinPrints", spec := "linPrints", inPlace := ["internal/abi.NoEscape", "internal/bytealg.MakeNoZero", "internal/bytealg.IndexByteString", "internal/bytealg.IndexString", "internal/bytealg.IndexByte"], unfollowed := true, recurses := true, named := ["unicode/utf8.first", "unicode/utf8.acceptRanges", "internal/bytealg.MaxLen"], apart := false, laid := [("unicode/utf8.acceptRanges", laid_unicode_utf8_acceptRanges), ("unicode/utf8.first", laid_unicode_utf8_first)] }
def LinPrintsSaid : Prop := linPrintsRow.holds Tryz.pinned (OpenSpec.ofChange linPrintsSpec)

/-- ITS FALSE NEIGHBOUR: 'it returns false'. Refute it at one input. -/
def linPrintsWrong : ChangeSpec := { name := "linPrints", fn := fun _ => fun
  | [d1, d2] => { results := [.lit (.bool false)], args := [d1, d2] }
  | _ => none }
def LinPrintsWrongFalsely : Prop := linPrintsRow.holds Tryz.pinned (OpenSpec.ofChange linPrintsWrong)

/-- 'catchwordlaw29.LinParses': WHATEVER THE INPUT: true; the input reads as it did. -/
def linParsesSpec : ChangeSpec := { name := "linParses", fn := fun _ => fun
  | [d1, d2, d3] => { results := [.lit (.bool true)], args := [d1, d2, d3] }
  | _ => none }
def linParsesRow : OpenClaim := { program := "ytkhcjoomijkfbaagreatdoor", sum := "a28734511403d7d5a4f195d0b75a61ccbe9784bfb7c73da1f06aeb81b2e3a280", func := "catchword/catchwordlaw29.LinParses", spec := "linParses", inPlace := ["internal/abi.NoEscape", "internal/bytealg.MakeNoZero", "internal/bytealg.IndexByteString", "internal/bytealg.IndexString", "internal/bytealg.IndexByte"], unfollowed := true, recurses := true, named := ["unicode/utf8.first", "unicode/utf8.acceptRanges", "internal/bytealg.MaxLen"], apart := false, laid := [("unicode/utf8.acceptRanges", laid_unicode_utf8_acceptRanges), ("unicode/utf8.first", laid_unicode_utf8_first)] }
def LinParsesSaid : Prop := linParsesRow.holds Tryz.pinned (OpenSpec.ofChange linParsesSpec)

/-- ITS FALSE NEIGHBOUR: 'it returns false'. Refute it at one input. -/
def linParsesWrong : ChangeSpec := { name := "linParses", fn := fun _ => fun
  | [d1, d2, d3] => { results := [.lit (.bool false)], args := [d1, d2, d3] }
  | _ => none }
def LinParsesWrongFalsely : Prop := linParsesRow.holds Tryz.pinned (OpenSpec.ofChange linParsesWrong)

/-- 'catchwordlaw29.LinBack': WHATEVER THE INPUT: true; the input reads as it did. -/
def linBackSpec : ChangeSpec := { name := "linBack", fn := fun _ => fun
  | [d1, d2, d3] => { results := [.lit (.bool true)], args := [d1, d2, d3] }
  | _ => none }
def linBackRow : OpenClaim := { program := "ytkhcjoomijkfbaagreatdoor", sum := "a28734511403d7d5a4f195d0b75a61ccbe9784bfb7c73da1f06aeb81b2e3a280", func := "catchword/catchwordlaw29.LinBack", spec := "linBack", inPlace := ["internal/abi.NoEscape", "internal/bytealg.MakeNoZero", "internal/bytealg.IndexByteString", "internal/bytealg.IndexString", "internal/bytealg.IndexByte"], unfollowed := true, recurses := true, named := ["unicode/utf8.first", "unicode/utf8.acceptRanges", "internal/bytealg.MaxLen"], apart := false, laid := [("unicode/utf8.acceptRanges", laid_unicode_utf8_acceptRanges), ("unicode/utf8.first", laid_unicode_utf8_first)] }
def LinBackSaid : Prop := linBackRow.holds Tryz.pinned (OpenSpec.ofChange linBackSpec)

/-- ITS FALSE NEIGHBOUR: 'it returns false'. Refute it at one input. -/
def linBackWrong : ChangeSpec := { name := "linBack", fn := fun _ => fun
  | [d1, d2, d3] => { results := [.lit (.bool false)], args := [d1, d2, d3] }
  | _ => none }
def LinBackWrongFalsely : Prop := linBackRow.holds Tryz.pinned (OpenSpec.ofChange linBackWrong)

/-- 'catchwordlaw29.LinWide': WHATEVER THE INPUT: true; the input reads as it did. -/
def linWideSpec : ChangeSpec := { name := "linWide", fn := fun _ => fun
  | [d1, d2, d3] => { results := [.lit (.bool true)], args := [d1, d2, d3] }
  | _ => none }
def linWideRow : OpenClaim := { program := "ytkhcjoomijkfbaagreatdoor", sum := "a28734511403d7d5a4f195d0b75a61ccbe9784bfb7c73da1f06aeb81b2e3a280", func := "catchword/catchwordlaw29.LinWide", spec := "linWide", inPlace := ["internal/abi.NoEscape", "internal/bytealg.MakeNoZero", "internal/bytealg.IndexByteString", "internal/bytealg.IndexString", "internal/bytealg.IndexByte"], unfollowed := true, recurses := true, named := ["unicode/utf8.first", "unicode/utf8.acceptRanges", "internal/bytealg.MaxLen"], apart := false, laid := [("unicode/utf8.acceptRanges", laid_unicode_utf8_acceptRanges), ("unicode/utf8.first", laid_unicode_utf8_first)] }
def LinWideSaid : Prop := linWideRow.holds Tryz.pinned (OpenSpec.ofChange linWideSpec)

/-- ITS FALSE NEIGHBOUR: 'it returns false'. Refute it at one input. -/
def linWideWrong : ChangeSpec := { name := "linWide", fn := fun _ => fun
  | [d1, d2, d3] => { results := [.lit (.bool false)], args := [d1, d2, d3] }
  | _ => none }
def LinWideWrongFalsely : Prop := linWideRow.holds Tryz.pinned (OpenSpec.ofChange linWideWrong)

/-- 'catchwordlaw29.LinStays': WHATEVER THE INPUT: true; the input reads as it did. -/
def linStaysSpec : ChangeSpec := { name := "linStays", fn := fun _ => fun
  | [d1, d2, d3, d4] => { results := [.lit (.bool true)], args := [d1, d2, d3, d4] }
  | _ => none }
def linStaysRow : OpenClaim := { program := "ytkhcjoomijkfbaagreatdoor", sum := "a28734511403d7d5a4f195d0b75a61ccbe9784bfb7c73da1f06aeb81b2e3a280", func := "catchword/catchwordlaw29.LinStays", spec := "linStays", inPlace := ["internal/abi.NoEscape", "internal/bytealg.MakeNoZero", "internal/bytealg.IndexByteString", "internal/bytealg.IndexString", "internal/bytealg.IndexByte"], unfollowed := true, recurses := true, named := ["unicode/utf8.first", "unicode/utf8.acceptRanges", "internal/bytealg.MaxLen"], apart := false, laid := [("unicode/utf8.acceptRanges", laid_unicode_utf8_acceptRanges), ("unicode/utf8.first", laid_unicode_utf8_first)] }
def LinStaysSaid : Prop := linStaysRow.holds Tryz.pinned (OpenSpec.ofChange linStaysSpec)

/-- ITS FALSE NEIGHBOUR: 'it returns false'. Refute it at one input. -/
def linStaysWrong : ChangeSpec := { name := "linStays", fn := fun _ => fun
  | [d1, d2, d3, d4] => { results := [.lit (.bool false)], args := [d1, d2, d3, d4] }
  | _ => none }
def LinStaysWrongFalsely : Prop := linStaysRow.holds Tryz.pinned (OpenSpec.ofChange linStaysWrong)

/- THE SECOND FORM. 'bulk': how many values and letters a reading holds, each counted each time it is reached (what is shared counts as often as it is met; a slice's spare places count too). A statement '..UptoSaid' is the law's where the arguments, and the package variables that the reading takes, are together of bulk at most 1048576: NARROWER than '..Said'. Prove '..Said' where nothing that the law and all that it calls make is longer than what came in: it says more and counts as full. Else prove '..UptoSaid'. A law counts once. -/
mutual
def uptoBulk {H : Type} : DataW H → Nat
  | .lit (.string bytes) => bytes.length + 1
  | .lit _ => 1
  | .nil => 1
  | .ptr d => uptoBulk d + 1
  | .slice elems spare => uptoBulkAll elems + uptoBulkAll spare + 1
  | .agg parts => uptoBulkAll parts + 1
  | .iface _ d => uptoBulk d + 1
  | .map entries => uptoBulkEntries entries + 1
  | .held _ => 1
def uptoBulkAll {H : Type} : List (DataW H) → Nat
  | [] => 0
  | d :: r => uptoBulk d + uptoBulkAll r
def uptoBulkEntries {H : Type} : List (Lit × DataW H) → Nat
  | [] => 0
  | x :: r => uptoBulkEntry x + uptoBulkEntries r
def uptoBulkEntry {H : Type} : Lit × DataW H → Nat
  | (.string bytes, d) => bytes.length + uptoBulk d + 1
  | (_, d) => uptoBulk d + 1
 end
def uptoSmall : (H : Type) → List (DataW H) → Bool := fun _ ds => decide (uptoBulkAll ds ≤ 1048576)
def OpenSpec.upto (s : _root_.Go.ChangeSpec) : _root_.Go.OpenSpec := { _root_.Go.OpenSpec.ofChange s with cond := some uptoSmall }

/-- 'catchwordlaw29.LinPrints', WHERE WHAT IT READS IS OF BULK AT MOST 1048576: true; the input reads as it did. -/
def linPrintsUptoRow : OpenClaim := { program := "ytkhcjoomijkfbaagreatdoor", sum := "a28734511403d7d5a4f195d0b75a61ccbe9784bfb7c73da1f06aeb81b2e3a280", func := "catchword/catchwordlaw29.LinPrints", spec := "linPrints", inPlace := ["internal/abi.NoEscape", "internal/bytealg.MakeNoZero", "internal/bytealg.IndexByteString", "internal/bytealg.IndexString", "internal/bytealg.IndexByte"], unfollowed := true, recurses := true, named := ["unicode/utf8.first", "unicode/utf8.acceptRanges", "internal/bytealg.MaxLen"], apart := false, laid := [("unicode/utf8.acceptRanges", laid_unicode_utf8_acceptRanges), ("unicode/utf8.first", laid_unicode_utf8_first)], narrowed := true }
def LinPrintsUptoSaid : Prop := linPrintsUptoRow.holds Tryz.pinned (OpenSpec.upto linPrintsSpec)

/-- 'catchwordlaw29.LinParses', WHERE WHAT IT READS IS OF BULK AT MOST 1048576: true; the input reads as it did. -/
def linParsesUptoRow : OpenClaim := { program := "ytkhcjoomijkfbaagreatdoor", sum := "a28734511403d7d5a4f195d0b75a61ccbe9784bfb7c73da1f06aeb81b2e3a280", func := "catchword/catchwordlaw29.LinParses", spec := "linParses", inPlace := ["internal/abi.NoEscape", "internal/bytealg.MakeNoZero", "internal/bytealg.IndexByteString", "internal/bytealg.IndexString", "internal/bytealg.IndexByte"], unfollowed := true, recurses := true, named := ["unicode/utf8.first", "unicode/utf8.acceptRanges", "internal/bytealg.MaxLen"], apart := false, laid := [("unicode/utf8.acceptRanges", laid_unicode_utf8_acceptRanges), ("unicode/utf8.first", laid_unicode_utf8_first)], narrowed := true }
def LinParsesUptoSaid : Prop := linParsesUptoRow.holds Tryz.pinned (OpenSpec.upto linParsesSpec)

/-- 'catchwordlaw29.LinBack', WHERE WHAT IT READS IS OF BULK AT MOST 1048576: true; the input reads as it did. -/
def linBackUptoRow : OpenClaim := { program := "ytkhcjoomijkfbaagreatdoor", sum := "a28734511403d7d5a4f195d0b75a61ccbe9784bfb7c73da1f06aeb81b2e3a280", func := "catchword/catchwordlaw29.LinBack", spec := "linBack", inPlace := ["internal/abi.NoEscape", "internal/bytealg.MakeNoZero", "internal/bytealg.IndexByteString", "internal/bytealg.IndexString", "internal/bytealg.IndexByte"], unfollowed := true, recurses := true, named := ["unicode/utf8.first", "unicode/utf8.acceptRanges", "internal/bytealg.MaxLen"], apart := false, laid := [("unicode/utf8.acceptRanges", laid_unicode_utf8_acceptRanges), ("unicode/utf8.first", laid_unicode_utf8_first)], narrowed := true }
def LinBackUptoSaid : Prop := linBackUptoRow.holds Tryz.pinned (OpenSpec.upto linBackSpec)

/-- 'catchwordlaw29.LinWide', WHERE WHAT IT READS IS OF BULK AT MOST 1048576: true; the input reads as it did. -/
def linWideUptoRow : OpenClaim := { program := "ytkhcjoomijkfbaagreatdoor", sum := "a28734511403d7d5a4f195d0b75a61ccbe9784bfb7c73da1f06aeb81b2e3a280", func := "catchword/catchwordlaw29.LinWide", spec := "linWide", inPlace := ["internal/abi.NoEscape", "internal/bytealg.MakeNoZero", "internal/bytealg.IndexByteString", "internal/bytealg.IndexString", "internal/bytealg.IndexByte"], unfollowed := true, recurses := true, named := ["unicode/utf8.first", "unicode/utf8.acceptRanges", "internal/bytealg.MaxLen"], apart := false, laid := [("unicode/utf8.acceptRanges", laid_unicode_utf8_acceptRanges), ("unicode/utf8.first", laid_unicode_utf8_first)], narrowed := true }
def LinWideUptoSaid : Prop := linWideUptoRow.holds Tryz.pinned (OpenSpec.upto linWideSpec)

/-- 'catchwordlaw29.LinStays', WHERE WHAT IT READS IS OF BULK AT MOST 1048576: true; the input reads as it did. -/
def linStaysUptoRow : OpenClaim := { program := "ytkhcjoomijkfbaagreatdoor", sum := "a28734511403d7d5a4f195d0b75a61ccbe9784bfb7c73da1f06aeb81b2e3a280", func := "catchword/catchwordlaw29.LinStays", spec := "linStays", inPlace := ["internal/abi.NoEscape", "internal/bytealg.MakeNoZero", "internal/bytealg.IndexByteString", "internal/bytealg.IndexString", "internal/bytealg.IndexByte"], unfollowed := true, recurses := true, named := ["unicode/utf8.first", "unicode/utf8.acceptRanges", "internal/bytealg.MaxLen"], apart := false, laid := [("unicode/utf8.acceptRanges", laid_unicode_utf8_acceptRanges), ("unicode/utf8.first", laid_unicode_utf8_first)], narrowed := true }
def LinStaysUptoSaid : Prop := linStaysUptoRow.holds Tryz.pinned (OpenSpec.upto linStaysSpec)

end Rows
end Go.Proofs.YtkhcjoomijkfbaaGreatDoor
