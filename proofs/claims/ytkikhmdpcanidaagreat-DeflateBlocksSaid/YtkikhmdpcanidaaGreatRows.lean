/-
  No cell of these rows narrows 'for every input' (looked for: loops, veiled, ifaces, maps, wideKeys, modest, calm, conditions, laid).
  DERIVED. THE GIVEN ROWS OF THIS SEAT. 7 by the template 'for every input the law returns true; each argument reads behind the call as it read before'; 0 by the template 'total and deterministic' (their statements: YtkikhmdpcanidaaGreatTotals.lean).
  GIVEN WITH THE SEED: the statements are not yours to turn. If you find one false, say at which input.
  Laid BY PROGRAM, IN A SANDBOX (cutbox-rows.mjs): the forced cells as the released guide's own fill.sh prints them over the translation fad50142f31c6978… (all of the seat's roots in one cut). By AI agents, Wed Nov 11 2026. No macro, syntax, notation, axiom, sorry.
-/
import Derived.Test.YtkikhmdpcanidaaGreatChecked
import GoSem.Claim
import GoSem.ClaimJoined
import GoSem.ClaimMapViews
import Derived.JoinedTies
import Derived.KernelRfl
namespace Go.Proofs.YtkikhmdpcanidaaGreat
/- THE CELL 'sum', in the pinned program and in every row, IS THE sha256 OF THE DUMP (.gsa) THAT YtkikhmdpcanidaaGreatProg.lean LOADS. Nothing in Lean hashes anything: it is a label: what it is worth is what the hold of that sum in a sandbox is worth. -/
noncomputable def Tryz.pinned : Pinned := { name := "ytkikhmdpcanidaagreat", sum := "fad50142f31c6978c95b74d40e865740f4dc4d9e66c664707475a1f4e5dbbcde", checked := Tryz.checked }
namespace Rows
def none {H : Type} : Left H := { results := [], args := [] }

/-- 'catchwordlaw07.DeflateBack': WHATEVER THE INPUT: true; the input reads as it did. -/
def deflateBackSpec : ChangeSpec := { name := "deflateBack", fn := fun _ => fun
  | [d1, d2] => { results := [.lit (.bool true)], args := [d1, d2] }
  | _ => none }
def deflateBackRow : OpenClaim := { program := "ytkikhmdpcanidaagreat", sum := "fad50142f31c6978c95b74d40e865740f4dc4d9e66c664707475a1f4e5dbbcde", func := "catchword/catchwordlaw07.DeflateBack", spec := "deflateBack", unfollowed := true, recurses := true, plainKeys := false, apart := false }
def DeflateBackSaid : Prop := deflateBackRow.holds Tryz.pinned (OpenSpec.ofChange deflateBackSpec)

/-- ITS FALSE NEIGHBOUR: 'it returns false'. Refute it at one input. -/
def deflateBackWrong : ChangeSpec := { name := "deflateBack", fn := fun _ => fun
  | [d1, d2] => { results := [.lit (.bool false)], args := [d1, d2] }
  | _ => none }
def DeflateBackWrongFalsely : Prop := deflateBackRow.holds Tryz.pinned (OpenSpec.ofChange deflateBackWrong)

/-- 'catchwordlaw07.DeflateLeast': WHATEVER THE INPUT: true; the input reads as it did. -/
def deflateLeastSpec : ChangeSpec := { name := "deflateLeast", fn := fun _ => fun
  | [d1, d2] => { results := [.lit (.bool true)], args := [d1, d2] }
  | _ => none }
def deflateLeastRow : OpenClaim := { program := "ytkikhmdpcanidaagreat", sum := "fad50142f31c6978c95b74d40e865740f4dc4d9e66c664707475a1f4e5dbbcde", func := "catchword/catchwordlaw07.DeflateLeast", spec := "deflateLeast", unfollowed := true, recurses := true, plainKeys := false, apart := false }
def DeflateLeastSaid : Prop := deflateLeastRow.holds Tryz.pinned (OpenSpec.ofChange deflateLeastSpec)

/-- ITS FALSE NEIGHBOUR: 'it returns false'. Refute it at one input. -/
def deflateLeastWrong : ChangeSpec := { name := "deflateLeast", fn := fun _ => fun
  | [d1, d2] => { results := [.lit (.bool false)], args := [d1, d2] }
  | _ => none }
def DeflateLeastWrongFalsely : Prop := deflateLeastRow.holds Tryz.pinned (OpenSpec.ofChange deflateLeastWrong)

/-- 'catchwordlaw07.DeflateBlocks': WHATEVER THE INPUT: true; the input reads as it did. -/
def deflateBlocksSpec : ChangeSpec := { name := "deflateBlocks", fn := fun _ => fun
  | [d1, d2, d3] => { results := [.lit (.bool true)], args := [d1, d2, d3] }
  | _ => none }
def deflateBlocksRow : OpenClaim := { program := "ytkikhmdpcanidaagreat", sum := "fad50142f31c6978c95b74d40e865740f4dc4d9e66c664707475a1f4e5dbbcde", func := "catchword/catchwordlaw07.DeflateBlocks", spec := "deflateBlocks", unfollowed := true, recurses := true, plainKeys := false, apart := false }
def DeflateBlocksSaid : Prop := deflateBlocksRow.holds Tryz.pinned (OpenSpec.ofChange deflateBlocksSpec)

/-- ITS FALSE NEIGHBOUR: 'it returns false'. Refute it at one input. -/
def deflateBlocksWrong : ChangeSpec := { name := "deflateBlocks", fn := fun _ => fun
  | [d1, d2, d3] => { results := [.lit (.bool false)], args := [d1, d2, d3] }
  | _ => none }
def DeflateBlocksWrongFalsely : Prop := deflateBlocksRow.holds Tryz.pinned (OpenSpec.ofChange deflateBlocksWrong)

/-- 'catchwordlaw08.ZlibAny': WHATEVER THE INPUT: true; the input reads as it did. -/
def zlibAnySpec : ChangeSpec := { name := "zlibAny", fn := fun _ => fun
  | [d1, d2, d3] => { results := [.lit (.bool true)], args := [d1, d2, d3] }
  | _ => none }
def zlibAnyRow : OpenClaim := { program := "ytkikhmdpcanidaagreat", sum := "fad50142f31c6978c95b74d40e865740f4dc4d9e66c664707475a1f4e5dbbcde", func := "catchword/catchwordlaw08.ZlibAny", spec := "zlibAny", unfollowed := true, recurses := true, plainKeys := false, apart := false }
def ZlibAnySaid : Prop := zlibAnyRow.holds Tryz.pinned (OpenSpec.ofChange zlibAnySpec)

/-- ITS FALSE NEIGHBOUR: 'it returns false'. Refute it at one input. -/
def zlibAnyWrong : ChangeSpec := { name := "zlibAny", fn := fun _ => fun
  | [d1, d2, d3] => { results := [.lit (.bool false)], args := [d1, d2, d3] }
  | _ => none }
def ZlibAnyWrongFalsely : Prop := zlibAnyRow.holds Tryz.pinned (OpenSpec.ofChange zlibAnyWrong)

/-- 'catchwordlaw08.ZlibBack': WHATEVER THE INPUT: true; the input reads as it did. -/
def zlibBackSpec : ChangeSpec := { name := "zlibBack", fn := fun _ => fun
  | [d1, d2, d3] => { results := [.lit (.bool true)], args := [d1, d2, d3] }
  | _ => none }
def zlibBackRow : OpenClaim := { program := "ytkikhmdpcanidaagreat", sum := "fad50142f31c6978c95b74d40e865740f4dc4d9e66c664707475a1f4e5dbbcde", func := "catchword/catchwordlaw08.ZlibBack", spec := "zlibBack", unfollowed := true, recurses := true, plainKeys := false, apart := false }
def ZlibBackSaid : Prop := zlibBackRow.holds Tryz.pinned (OpenSpec.ofChange zlibBackSpec)

/-- ITS FALSE NEIGHBOUR: 'it returns false'. Refute it at one input. -/
def zlibBackWrong : ChangeSpec := { name := "zlibBack", fn := fun _ => fun
  | [d1, d2, d3] => { results := [.lit (.bool false)], args := [d1, d2, d3] }
  | _ => none }
def ZlibBackWrongFalsely : Prop := zlibBackRow.holds Tryz.pinned (OpenSpec.ofChange zlibBackWrong)

/-- 'catchwordlaw08.ZlibSees': WHATEVER THE INPUT: true; the input reads as it did. -/
def zlibSeesSpec : ChangeSpec := { name := "zlibSees", fn := fun _ => fun
  | [d1, d2, d3] => { results := [.lit (.bool true)], args := [d1, d2, d3] }
  | _ => none }
def zlibSeesRow : OpenClaim := { program := "ytkikhmdpcanidaagreat", sum := "fad50142f31c6978c95b74d40e865740f4dc4d9e66c664707475a1f4e5dbbcde", func := "catchword/catchwordlaw08.ZlibSees", spec := "zlibSees", unfollowed := true, recurses := true, plainKeys := false, apart := false }
def ZlibSeesSaid : Prop := zlibSeesRow.holds Tryz.pinned (OpenSpec.ofChange zlibSeesSpec)

/-- ITS FALSE NEIGHBOUR: 'it returns false'. Refute it at one input. -/
def zlibSeesWrong : ChangeSpec := { name := "zlibSees", fn := fun _ => fun
  | [d1, d2, d3] => { results := [.lit (.bool false)], args := [d1, d2, d3] }
  | _ => none }
def ZlibSeesWrongFalsely : Prop := zlibSeesRow.holds Tryz.pinned (OpenSpec.ofChange zlibSeesWrong)

/-- 'catchwordlaw08.ZlibCut': WHATEVER THE INPUT: true; the input reads as it did. -/
def zlibCutSpec : ChangeSpec := { name := "zlibCut", fn := fun _ => fun
  | [d1, d2, d3] => { results := [.lit (.bool true)], args := [d1, d2, d3] }
  | _ => none }
def zlibCutRow : OpenClaim := { program := "ytkikhmdpcanidaagreat", sum := "fad50142f31c6978c95b74d40e865740f4dc4d9e66c664707475a1f4e5dbbcde", func := "catchword/catchwordlaw08.ZlibCut", spec := "zlibCut", unfollowed := true, recurses := true, plainKeys := false, apart := false }
def ZlibCutSaid : Prop := zlibCutRow.holds Tryz.pinned (OpenSpec.ofChange zlibCutSpec)

/-- ITS FALSE NEIGHBOUR: 'it returns false'. Refute it at one input. -/
def zlibCutWrong : ChangeSpec := { name := "zlibCut", fn := fun _ => fun
  | [d1, d2, d3] => { results := [.lit (.bool false)], args := [d1, d2, d3] }
  | _ => none }
def ZlibCutWrongFalsely : Prop := zlibCutRow.holds Tryz.pinned (OpenSpec.ofChange zlibCutWrong)

/- THE SECOND FORM. 'bulk': how many values and letters a reading holds, each counted each time it is reached (what is shared counts as often as it is met; a slice's spare places count too). A statement '..UptoSaid' is the law's where the arguments, and the package variables that the reading takes, are together of bulk at most 1048576: NARROWER than '..Said'. Prove '..Said' where nothing that the law and all that it calls make is longer than what came in: it says more and counts as full. Else prove '..UptoSaid'. A law counts once. -/
mutual
def uptoBulk {H : Type} : DataW H → Nat
  | .lit (.string bytes) => bytes.length + 1
  | .lit _ => 1
  | .nil => 1
  | .ptr d => uptoBulk d + 1
  | .slice elems spare => uptoBulkAll elems + uptoBulkAll spare + 1
  | .agg parts => uptoBulkAll parts + 1
  | .iface _ d => uptoBulk d + 1
  | .map entries => uptoBulkEntries entries + 1
  | .held _ => 1
def uptoBulkAll {H : Type} : List (DataW H) → Nat
  | [] => 0
  | d :: r => uptoBulk d + uptoBulkAll r
def uptoBulkEntries {H : Type} : List (Lit × DataW H) → Nat
  | [] => 0
  | x :: r => uptoBulkEntry x + uptoBulkEntries r
def uptoBulkEntry {H : Type} : Lit × DataW H → Nat
  | (.string bytes, d) => bytes.length + uptoBulk d + 1
  | (_, d) => uptoBulk d + 1
 end
def uptoSmall : (H : Type) → List (DataW H) → Bool := fun _ ds => decide (uptoBulkAll ds ≤ 1048576)
def OpenSpec.upto (s : _root_.Go.ChangeSpec) : _root_.Go.OpenSpec := { _root_.Go.OpenSpec.ofChange s with cond := some uptoSmall }

/-- 'catchwordlaw07.DeflateBack', WHERE WHAT IT READS IS OF BULK AT MOST 1048576: true; the input reads as it did. -/
def deflateBackUptoRow : OpenClaim := { program := "ytkikhmdpcanidaagreat", sum := "fad50142f31c6978c95b74d40e865740f4dc4d9e66c664707475a1f4e5dbbcde", func := "catchword/catchwordlaw07.DeflateBack", spec := "deflateBack", unfollowed := true, recurses := true, plainKeys := false, apart := false, narrowed := true }
def DeflateBackUptoSaid : Prop := deflateBackUptoRow.holds Tryz.pinned (OpenSpec.upto deflateBackSpec)

/-- 'catchwordlaw07.DeflateLeast', WHERE WHAT IT READS IS OF BULK AT MOST 1048576: true; the input reads as it did. -/
def deflateLeastUptoRow : OpenClaim := { program := "ytkikhmdpcanidaagreat", sum := "fad50142f31c6978c95b74d40e865740f4dc4d9e66c664707475a1f4e5dbbcde", func := "catchword/catchwordlaw07.DeflateLeast", spec := "deflateLeast", unfollowed := true, recurses := true, plainKeys := false, apart := false, narrowed := true }
def DeflateLeastUptoSaid : Prop := deflateLeastUptoRow.holds Tryz.pinned (OpenSpec.upto deflateLeastSpec)

/-- 'catchwordlaw07.DeflateBlocks', WHERE WHAT IT READS IS OF BULK AT MOST 1048576: true; the input reads as it did. -/
def deflateBlocksUptoRow : OpenClaim := { program := "ytkikhmdpcanidaagreat", sum := "fad50142f31c6978c95b74d40e865740f4dc4d9e66c664707475a1f4e5dbbcde", func := "catchword/catchwordlaw07.DeflateBlocks", spec := "deflateBlocks", unfollowed := true, recurses := true, plainKeys := false, apart := false, narrowed := true }
def DeflateBlocksUptoSaid : Prop := deflateBlocksUptoRow.holds Tryz.pinned (OpenSpec.upto deflateBlocksSpec)

/-- 'catchwordlaw08.ZlibAny', WHERE WHAT IT READS IS OF BULK AT MOST 1048576: true; the input reads as it did. -/
def zlibAnyUptoRow : OpenClaim := { program := "ytkikhmdpcanidaagreat", sum := "fad50142f31c6978c95b74d40e865740f4dc4d9e66c664707475a1f4e5dbbcde", func := "catchword/catchwordlaw08.ZlibAny", spec := "zlibAny", unfollowed := true, recurses := true, plainKeys := false, apart := false, narrowed := true }
def ZlibAnyUptoSaid : Prop := zlibAnyUptoRow.holds Tryz.pinned (OpenSpec.upto zlibAnySpec)

/-- 'catchwordlaw08.ZlibBack', WHERE WHAT IT READS IS OF BULK AT MOST 1048576: true; the input reads as it did. -/
def zlibBackUptoRow : OpenClaim := { program := "ytkikhmdpcanidaagreat", sum := "fad50142f31c6978c95b74d40e865740f4dc4d9e66c664707475a1f4e5dbbcde", func := "catchword/catchwordlaw08.ZlibBack", spec := "zlibBack", unfollowed := true, recurses := true, plainKeys := false, apart := false, narrowed := true }
def ZlibBackUptoSaid : Prop := zlibBackUptoRow.holds Tryz.pinned (OpenSpec.upto zlibBackSpec)

/-- 'catchwordlaw08.ZlibSees', WHERE WHAT IT READS IS OF BULK AT MOST 1048576: true; the input reads as it did. -/
def zlibSeesUptoRow : OpenClaim := { program := "ytkikhmdpcanidaagreat", sum := "fad50142f31c6978c95b74d40e865740f4dc4d9e66c664707475a1f4e5dbbcde", func := "catchword/catchwordlaw08.ZlibSees", spec := "zlibSees", unfollowed := true, recurses := true, plainKeys := false, apart := false, narrowed := true }
def ZlibSeesUptoSaid : Prop := zlibSeesUptoRow.holds Tryz.pinned (OpenSpec.upto zlibSeesSpec)

/-- 'catchwordlaw08.ZlibCut', WHERE WHAT IT READS IS OF BULK AT MOST 1048576: true; the input reads as it did. -/
def zlibCutUptoRow : OpenClaim := { program := "ytkikhmdpcanidaagreat", sum := "fad50142f31c6978c95b74d40e865740f4dc4d9e66c664707475a1f4e5dbbcde", func := "catchword/catchwordlaw08.ZlibCut", spec := "zlibCut", unfollowed := true, recurses := true, plainKeys := false, apart := false, narrowed := true }
def ZlibCutUptoSaid : Prop := zlibCutUptoRow.holds Tryz.pinned (OpenSpec.upto zlibCutSpec)

end Rows
end Go.Proofs.YtkikhmdpcanidaaGreat
