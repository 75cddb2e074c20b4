/-
  No cell of these rows narrows 'for every input' (looked for: loops, veiled, ifaces, maps, wideKeys, modest, calm, conditions, laid).
  DERIVED. THE GIVEN ROWS OF THIS SEAT. 4 by the template 'for every input the law returns true; each argument reads behind the call as it read before'; 0 by the template 'total and deterministic' (their statements: YtlmdgaajkjbpgaaTotals.lean).
  GIVEN WITH THE SEED: the statements are not yours to turn. If you find one false, say at which input.
  Laid BY PROGRAM, IN A SANDBOX (cutbox-rows.mjs): the forced cells as the released guide's own fill.sh prints them over the translation 3a06da9d603664b1… (all of the seat's roots in one cut). By AI agents, Wed Nov 11 2026. No macro, syntax, notation, axiom, sorry.
-/
import Derived.Test.YtlmdgaajkjbpgaaChecked
import GoSem.Claim
import GoSem.ClaimJoined
import GoSem.ClaimMapViews
import Derived.JoinedTies
import Derived.KernelRfl
namespace Go.Proofs.Ytlmdgaajkjbpgaa
/- THE CELL 'sum', in the pinned program and in every row, IS THE sha256 OF THE DUMP (.gsa) THAT YtlmdgaajkjbpgaaProg.lean LOADS. Nothing in Lean hashes anything: it is a label: what it is worth is what the hold of that sum in a sandbox is worth. -/
noncomputable def Try.pinned : Pinned := { name := "ytlmdgaajkjbpgaa", sum := "3a06da9d603664b1d213d18ebcc97fa9aba8e757528fcc1d4a9cf0fb62150476", checked := Try.checked }
namespace Rows
def none {H : Type} : Left H := { results := [], args := [] }

/-- 'catchwordlaw05.InflateAny': WHATEVER THE INPUT: true; the input reads as it did. -/
def inflateAnySpec : ChangeSpec := { name := "inflateAny", fn := fun _ => fun
  | [d1, d2] => { results := [.lit (.bool true)], args := [d1, d2] }
  | _ => none }
def inflateAnyRow : OpenClaim := { program := "ytlmdgaajkjbpgaa", sum := "3a06da9d603664b1d213d18ebcc97fa9aba8e757528fcc1d4a9cf0fb62150476", func := "catchword/catchwordlaw05.InflateAny", spec := "inflateAny", unfollowed := true, recurses := true, apart := false }
def InflateAnySaid : Prop := inflateAnyRow.holds Try.pinned (OpenSpec.ofChange inflateAnySpec)

/-- ITS FALSE NEIGHBOUR: 'it returns false'. Refute it at one input. -/
def inflateAnyWrong : ChangeSpec := { name := "inflateAny", fn := fun _ => fun
  | [d1, d2] => { results := [.lit (.bool false)], args := [d1, d2] }
  | _ => none }
def InflateAnyWrongFalsely : Prop := inflateAnyRow.holds Try.pinned (OpenSpec.ofChange inflateAnyWrong)

/-- 'catchwordlaw05.InflateSymbols': WHATEVER THE INPUT: true; the input reads as it did. -/
def inflateSymbolsSpec : ChangeSpec := { name := "inflateSymbols", fn := fun _ => fun
  | [d] => { results := [.lit (.bool true)], args := [d] }
  | _ => none }
def inflateSymbolsRow : OpenClaim := { program := "ytlmdgaajkjbpgaa", sum := "3a06da9d603664b1d213d18ebcc97fa9aba8e757528fcc1d4a9cf0fb62150476", func := "catchword/catchwordlaw05.InflateSymbols", spec := "inflateSymbols", unfollowed := true, recurses := true, apart := false }
def InflateSymbolsSaid : Prop := inflateSymbolsRow.holds Try.pinned (OpenSpec.ofChange inflateSymbolsSpec)

/-- ITS FALSE NEIGHBOUR: 'it returns false'. Refute it at one input. -/
def inflateSymbolsWrong : ChangeSpec := { name := "inflateSymbols", fn := fun _ => fun
  | [d] => { results := [.lit (.bool false)], args := [d] }
  | _ => none }
def InflateSymbolsWrongFalsely : Prop := inflateSymbolsRow.holds Try.pinned (OpenSpec.ofChange inflateSymbolsWrong)

/-- 'catchwordlaw05.InflateBehind': WHATEVER THE INPUT: true; the input reads as it did. -/
def inflateBehindSpec : ChangeSpec := { name := "inflateBehind", fn := fun _ => fun
  | [d1, d2, d3] => { results := [.lit (.bool true)], args := [d1, d2, d3] }
  | _ => none }
def inflateBehindRow : OpenClaim := { program := "ytlmdgaajkjbpgaa", sum := "3a06da9d603664b1d213d18ebcc97fa9aba8e757528fcc1d4a9cf0fb62150476", func := "catchword/catchwordlaw05.InflateBehind", spec := "inflateBehind", unfollowed := true, recurses := true, apart := false }
def InflateBehindSaid : Prop := inflateBehindRow.holds Try.pinned (OpenSpec.ofChange inflateBehindSpec)

/-- ITS FALSE NEIGHBOUR: 'it returns false'. Refute it at one input. -/
def inflateBehindWrong : ChangeSpec := { name := "inflateBehind", fn := fun _ => fun
  | [d1, d2, d3] => { results := [.lit (.bool false)], args := [d1, d2, d3] }
  | _ => none }
def InflateBehindWrongFalsely : Prop := inflateBehindRow.holds Try.pinned (OpenSpec.ofChange inflateBehindWrong)

/-- 'catchwordlaw05.InflateMost': WHATEVER THE INPUT: true; the input reads as it did. -/
def inflateMostSpec : ChangeSpec := { name := "inflateMost", fn := fun _ => fun
  | [d1, d2, d3] => { results := [.lit (.bool true)], args := [d1, d2, d3] }
  | _ => none }
def inflateMostRow : OpenClaim := { program := "ytlmdgaajkjbpgaa", sum := "3a06da9d603664b1d213d18ebcc97fa9aba8e757528fcc1d4a9cf0fb62150476", func := "catchword/catchwordlaw05.InflateMost", spec := "inflateMost", unfollowed := true, recurses := true, apart := false }
def InflateMostSaid : Prop := inflateMostRow.holds Try.pinned (OpenSpec.ofChange inflateMostSpec)

/-- ITS FALSE NEIGHBOUR: 'it returns false'. Refute it at one input. -/
def inflateMostWrong : ChangeSpec := { name := "inflateMost", fn := fun _ => fun
  | [d1, d2, d3] => { results := [.lit (.bool false)], args := [d1, d2, d3] }
  | _ => none }
def InflateMostWrongFalsely : Prop := inflateMostRow.holds Try.pinned (OpenSpec.ofChange inflateMostWrong)

/- THE SECOND FORM. 'bulk': how many values and letters a reading holds, each counted each time it is reached (what is shared counts as often as it is met; a slice's spare places count too). A statement '..UptoSaid' is the law's where the arguments, and the package variables that the reading takes, are together of bulk at most 1048576: NARROWER than '..Said'. Prove '..Said' where nothing that the law and all that it calls make is longer than what came in: it says more and counts as full. Else prove '..UptoSaid'. A law counts once. -/
mutual
def uptoBulk {H : Type} : DataW H → Nat
  | .lit (.string bytes) => bytes.length + 1
  | .lit _ => 1
  | .nil => 1
  | .ptr d => uptoBulk d + 1
  | .slice elems spare => uptoBulkAll elems + uptoBulkAll spare + 1
  | .agg parts => uptoBulkAll parts + 1
  | .iface _ d => uptoBulk d + 1
  | .map entries => uptoBulkEntries entries + 1
  | .held _ => 1
def uptoBulkAll {H : Type} : List (DataW H) → Nat
  | [] => 0
  | d :: r => uptoBulk d + uptoBulkAll r
def uptoBulkEntries {H : Type} : List (Lit × DataW H) → Nat
  | [] => 0
  | x :: r => uptoBulkEntry x + uptoBulkEntries r
def uptoBulkEntry {H : Type} : Lit × DataW H → Nat
  | (.string bytes, d) => bytes.length + uptoBulk d + 1
  | (_, d) => uptoBulk d + 1
 end
def uptoSmall : (H : Type) → List (DataW H) → Bool := fun _ ds => decide (uptoBulkAll ds ≤ 1048576)
def OpenSpec.upto (s : _root_.Go.ChangeSpec) : _root_.Go.OpenSpec := { _root_.Go.OpenSpec.ofChange s with cond := some uptoSmall }

/-- 'catchwordlaw05.InflateAny', WHERE WHAT IT READS IS OF BULK AT MOST 1048576: true; the input reads as it did. -/
def inflateAnyUptoRow : OpenClaim := { program := "ytlmdgaajkjbpgaa", sum := "3a06da9d603664b1d213d18ebcc97fa9aba8e757528fcc1d4a9cf0fb62150476", func := "catchword/catchwordlaw05.InflateAny", spec := "inflateAny", unfollowed := true, recurses := true, apart := false, narrowed := true }
def InflateAnyUptoSaid : Prop := inflateAnyUptoRow.holds Try.pinned (OpenSpec.upto inflateAnySpec)

/-- 'catchwordlaw05.InflateSymbols', WHERE WHAT IT READS IS OF BULK AT MOST 1048576: true; the input reads as it did. -/
def inflateSymbolsUptoRow : OpenClaim := { program := "ytlmdgaajkjbpgaa", sum := "3a06da9d603664b1d213d18ebcc97fa9aba8e757528fcc1d4a9cf0fb62150476", func := "catchword/catchwordlaw05.InflateSymbols", spec := "inflateSymbols", unfollowed := true, recurses := true, apart := false, narrowed := true }
def InflateSymbolsUptoSaid : Prop := inflateSymbolsUptoRow.holds Try.pinned (OpenSpec.upto inflateSymbolsSpec)

/-- 'catchwordlaw05.InflateBehind', WHERE WHAT IT READS IS OF BULK AT MOST 1048576: true; the input reads as it did. -/
def inflateBehindUptoRow : OpenClaim := { program := "ytlmdgaajkjbpgaa", sum := "3a06da9d603664b1d213d18ebcc97fa9aba8e757528fcc1d4a9cf0fb62150476", func := "catchword/catchwordlaw05.InflateBehind", spec := "inflateBehind", unfollowed := true, recurses := true, apart := false, narrowed := true }
def InflateBehindUptoSaid : Prop := inflateBehindUptoRow.holds Try.pinned (OpenSpec.upto inflateBehindSpec)

/-- 'catchwordlaw05.InflateMost', WHERE WHAT IT READS IS OF BULK AT MOST 1048576: true; the input reads as it did. -/
def inflateMostUptoRow : OpenClaim := { program := "ytlmdgaajkjbpgaa", sum := "3a06da9d603664b1d213d18ebcc97fa9aba8e757528fcc1d4a9cf0fb62150476", func := "catchword/catchwordlaw05.InflateMost", spec := "inflateMost", unfollowed := true, recurses := true, apart := false, narrowed := true }
def InflateMostUptoSaid : Prop := inflateMostUptoRow.holds Try.pinned (OpenSpec.upto inflateMostSpec)

end Rows
end Go.Proofs.Ytlmdgaajkjbpgaa
