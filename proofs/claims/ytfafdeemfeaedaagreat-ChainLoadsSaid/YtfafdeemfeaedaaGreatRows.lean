/-
  NARROWER THAN 'FOR EVERY INPUT', by the rows' own cells (each row's printed sentence says how): XrefFinds: loops · ChainTables: loops.
  DERIVED. THE GIVEN ROWS OF THIS SEAT. 7 by the template 'for every input the law returns true; each argument reads behind the call as it read before'; 0 by the template 'total and deterministic' (their statements: YtfafdeemfeaedaaGreatTotals.lean).
  GIVEN WITH THE SEED: the statements are not yours to turn. If you find one false, say at which input.
  Laid BY PROGRAM, IN A SANDBOX (cutbox-rows.mjs): the forced cells as the released guide's own fill.sh prints them over the translation 90b45e39e807d940… (all of the seat's roots in one cut). By AI agents, Wed Nov 11 2026. No macro, syntax, notation, axiom, sorry.
-/
import Derived.Test.YtfafdeemfeaedaaGreatChecked
import GoSem.Claim
import GoSem.ClaimJoined
import GoSem.ClaimMapViews
import Derived.JoinedTies
import Derived.KernelRfl
namespace Go.Proofs.YtfafdeemfeaedaaGreat
/- THE CELL 'sum', in the pinned program and in every row, IS THE sha256 OF THE DUMP (.gsa) THAT YtfafdeemfeaedaaGreatProg.lean LOADS. Nothing in Lean hashes anything: it is a label: what it is worth is what the hold of that sum in a sandbox is worth. -/
noncomputable def Tryz.pinned : Pinned := { name := "ytfafdeemfeaedaagreat", sum := "90b45e39e807d940d7eff55063d73e7080639087cc97dfa0dc6ab121b38474d8", checked := Tryz.checked }
namespace Rows
def none {H : Type} : Left H := { results := [], args := [] }

/-- 'catchwordlaw15.XrefParses': WHATEVER THE INPUT: true; the input reads as it did. -/
def xrefParsesSpec : ChangeSpec := { name := "xrefParses", fn := fun _ => fun
  | [d1, d2, d3] => { results := [.lit (.bool true)], args := [d1, d2, d3] }
  | _ => none }
def xrefParsesRow : OpenClaim := { program := "ytfafdeemfeaedaagreat", sum := "90b45e39e807d940d7eff55063d73e7080639087cc97dfa0dc6ab121b38474d8", func := "catchword/catchwordlaw15.XrefParses", spec := "xrefParses", inPlace := ["internal/bytealg.IndexByteString", "internal/bytealg.IndexString", "internal/abi.NoEscape", "internal/bytealg.IndexByte", "internal/bytealg.MakeNoZero", "slices.overlaps[catchword/api.Value]", "internal/bytealg.abigen_runtime_cmpstring"], unfollowed := true, recurses := true, named := ["internal/bytealg.MaxLen"], apart := false }
def XrefParsesSaid : Prop := xrefParsesRow.holds Tryz.pinned (OpenSpec.ofChange xrefParsesSpec)

/-- ITS FALSE NEIGHBOUR: 'it returns false'. Refute it at one input. -/
def xrefParsesWrong : ChangeSpec := { name := "xrefParses", fn := fun _ => fun
  | [d1, d2, d3] => { results := [.lit (.bool false)], args := [d1, d2, d3] }
  | _ => none }
def XrefParsesWrongFalsely : Prop := xrefParsesRow.holds Tryz.pinned (OpenSpec.ofChange xrefParsesWrong)

/-- 'catchwordlaw15.XrefFinds': WHATEVER THE INPUT: true; the input reads as it did. -/
def xrefFindsSpec : ChangeSpec := { name := "xrefFinds", fn := fun _ => fun
  | [d1, d2] => { results := [.lit (.bool true)], args := [d1, d2] }
  | _ => none }
def xrefFindsRow : OpenClaim := { program := "ytfafdeemfeaedaagreat", sum := "90b45e39e807d940d7eff55063d73e7080639087cc97dfa0dc6ab121b38474d8", func := "catchword/catchwordlaw15.XrefFinds", spec := "xrefFinds", inPlace := ["internal/bytealg.IndexByteString", "internal/bytealg.IndexString", "internal/abi.NoEscape", "internal/bytealg.IndexByte", "internal/bytealg.MakeNoZero", "slices.overlaps[catchword/api.Value]", "internal/bytealg.abigen_runtime_cmpstring"], unfollowed := true, recurses := true, named := ["internal/bytealg.MaxLen"], loops := true, apart := false }
def XrefFindsSaid : Prop := xrefFindsRow.holds Tryz.pinned (OpenSpec.ofChange xrefFindsSpec)

/-- ITS FALSE NEIGHBOUR: 'it returns false'. Refute it at one input. -/
def xrefFindsWrong : ChangeSpec := { name := "xrefFinds", fn := fun _ => fun
  | [d1, d2] => { results := [.lit (.bool false)], args := [d1, d2] }
  | _ => none }
def XrefFindsWrongFalsely : Prop := xrefFindsRow.holds Tryz.pinned (OpenSpec.ofChange xrefFindsWrong)

/-- 'catchwordlaw17.ChainStarts': WHATEVER THE INPUT: true; the input reads as it did. -/
def chainStartsSpec : ChangeSpec := { name := "chainStarts", fn := fun _ => fun
  | [d1, d2] => { results := [.lit (.bool true)], args := [d1, d2] }
  | _ => none }
def chainStartsRow : OpenClaim := { program := "ytfafdeemfeaedaagreat", sum := "90b45e39e807d940d7eff55063d73e7080639087cc97dfa0dc6ab121b38474d8", func := "catchword/catchwordlaw17.ChainStarts", spec := "chainStarts", inPlace := ["internal/bytealg.IndexByteString", "internal/bytealg.IndexString", "internal/abi.NoEscape", "internal/bytealg.IndexByte"], unfollowed := true, recurses := true, named := ["internal/bytealg.MaxLen"], apart := false }
def ChainStartsSaid : Prop := chainStartsRow.holds Tryz.pinned (OpenSpec.ofChange chainStartsSpec)

/-- ITS FALSE NEIGHBOUR: 'it returns false'. Refute it at one input. -/
def chainStartsWrong : ChangeSpec := { name := "chainStarts", fn := fun _ => fun
  | [d1, d2] => { results := [.lit (.bool false)], args := [d1, d2] }
  | _ => none }
def ChainStartsWrongFalsely : Prop := chainStartsRow.holds Tryz.pinned (OpenSpec.ofChange chainStartsWrong)

/-- 'catchwordlaw17.ChainSections': WHATEVER THE INPUT: true; the input reads as it did. -/
def chainSectionsSpec : ChangeSpec := { name := "chainSections", fn := fun _ => fun
  | [d1, d2, d3] => { results := [.lit (.bool true)], args := [d1, d2, d3] }
  | _ => none }
def chainSectionsRow : OpenClaim := { program := "ytfafdeemfeaedaagreat", sum := "90b45e39e807d940d7eff55063d73e7080639087cc97dfa0dc6ab121b38474d8", func := "catchword/catchwordlaw17.ChainSections", spec := "chainSections", inPlace := ["internal/bytealg.IndexByteString", "internal/bytealg.IndexString", "internal/abi.NoEscape", "internal/bytealg.IndexByte"], unfollowed := true, recurses := true, named := ["internal/bytealg.MaxLen"], apart := false }
def ChainSectionsSaid : Prop := chainSectionsRow.holds Tryz.pinned (OpenSpec.ofChange chainSectionsSpec)

/-- ITS FALSE NEIGHBOUR: 'it returns false'. Refute it at one input. -/
def chainSectionsWrong : ChangeSpec := { name := "chainSections", fn := fun _ => fun
  | [d1, d2, d3] => { results := [.lit (.bool false)], args := [d1, d2, d3] }
  | _ => none }
def ChainSectionsWrongFalsely : Prop := chainSectionsRow.holds Tryz.pinned (OpenSpec.ofChange chainSectionsWrong)

/-- 'catchwordlaw17.ChainTables': WHATEVER THE INPUT: true; the input reads as it did. -/
def chainTablesSpec : ChangeSpec := { name := "chainTables", fn := fun _ => fun
  | [d1, d2] => { results := [.lit (.bool true)], args := [d1, d2] }
  | _ => none }
def chainTablesRow : OpenClaim := { program := "ytfafdeemfeaedaagreat", sum := "90b45e39e807d940d7eff55063d73e7080639087cc97dfa0dc6ab121b38474d8", func := "catchword/catchwordlaw17.ChainTables", spec := "chainTables", inPlace := ["internal/bytealg.IndexByteString", "internal/bytealg.IndexString", "internal/abi.NoEscape", "internal/bytealg.IndexByte"], unfollowed := true, recurses := true, named := ["internal/bytealg.MaxLen"], loops := true, apart := false }
def ChainTablesSaid : Prop := chainTablesRow.holds Tryz.pinned (OpenSpec.ofChange chainTablesSpec)

/-- ITS FALSE NEIGHBOUR: 'it returns false'. Refute it at one input. -/
def chainTablesWrong : ChangeSpec := { name := "chainTables", fn := fun _ => fun
  | [d1, d2] => { results := [.lit (.bool false)], args := [d1, d2] }
  | _ => none }
def ChainTablesWrongFalsely : Prop := chainTablesRow.holds Tryz.pinned (OpenSpec.ofChange chainTablesWrong)

/-- 'catchwordlaw17.ChainLoads': WHATEVER THE INPUT: true; the input reads as it did. -/
def chainLoadsSpec : ChangeSpec := { name := "chainLoads", fn := fun _ => fun
  | [d1, d2] => { results := [.lit (.bool true)], args := [d1, d2] }
  | _ => none }
def chainLoadsRow : OpenClaim := { program := "ytfafdeemfeaedaagreat", sum := "90b45e39e807d940d7eff55063d73e7080639087cc97dfa0dc6ab121b38474d8", func := "catchword/catchwordlaw17.ChainLoads", spec := "chainLoads", inPlace := ["internal/bytealg.IndexByteString", "internal/bytealg.IndexString", "internal/abi.NoEscape", "internal/bytealg.IndexByte"], unfollowed := true, recurses := true, named := ["internal/bytealg.MaxLen"], apart := false }
def ChainLoadsSaid : Prop := chainLoadsRow.holds Tryz.pinned (OpenSpec.ofChange chainLoadsSpec)

/-- ITS FALSE NEIGHBOUR: 'it returns false'. Refute it at one input. -/
def chainLoadsWrong : ChangeSpec := { name := "chainLoads", fn := fun _ => fun
  | [d1, d2] => { results := [.lit (.bool false)], args := [d1, d2] }
  | _ => none }
def ChainLoadsWrongFalsely : Prop := chainLoadsRow.holds Tryz.pinned (OpenSpec.ofChange chainLoadsWrong)

/-- 'catchwordlaw17.ChainStays': WHATEVER THE INPUT: true; the input reads as it did. -/
def chainStaysSpec : ChangeSpec := { name := "chainStays", fn := fun _ => fun
  | [d1, d2] => { results := [.lit (.bool true)], args := [d1, d2] }
  | _ => none }
def chainStaysRow : OpenClaim := { program := "ytfafdeemfeaedaagreat", sum := "90b45e39e807d940d7eff55063d73e7080639087cc97dfa0dc6ab121b38474d8", func := "catchword/catchwordlaw17.ChainStays", spec := "chainStays", inPlace := ["internal/bytealg.IndexByteString", "internal/bytealg.IndexString", "internal/abi.NoEscape", "internal/bytealg.IndexByte"], unfollowed := true, recurses := true, named := ["internal/bytealg.MaxLen"], apart := false }
def ChainStaysSaid : Prop := chainStaysRow.holds Tryz.pinned (OpenSpec.ofChange chainStaysSpec)

/-- ITS FALSE NEIGHBOUR: 'it returns false'. Refute it at one input. -/
def chainStaysWrong : ChangeSpec := { name := "chainStays", fn := fun _ => fun
  | [d1, d2] => { results := [.lit (.bool false)], args := [d1, d2] }
  | _ => none }
def ChainStaysWrongFalsely : Prop := chainStaysRow.holds Tryz.pinned (OpenSpec.ofChange chainStaysWrong)

/- THE SECOND FORM. 'bulk': how many values and letters a reading holds, each counted each time it is reached (what is shared counts as often as it is met; a slice's spare places count too). A statement '..UptoSaid' is the law's where the arguments, and the package variables that the reading takes, are together of bulk at most 1048576: NARROWER than '..Said'. Prove '..Said' where nothing that the law and all that it calls make is longer than what came in: it says more and counts as full. Else prove '..UptoSaid'. A law counts once. -/
mutual
def uptoBulk {H : Type} : DataW H → Nat
  | .lit (.string bytes) => bytes.length + 1
  | .lit _ => 1
  | .nil => 1
  | .ptr d => uptoBulk d + 1
  | .slice elems spare => uptoBulkAll elems + uptoBulkAll spare + 1
  | .agg parts => uptoBulkAll parts + 1
  | .iface _ d => uptoBulk d + 1
  | .map entries => uptoBulkEntries entries + 1
  | .held _ => 1
def uptoBulkAll {H : Type} : List (DataW H) → Nat
  | [] => 0
  | d :: r => uptoBulk d + uptoBulkAll r
def uptoBulkEntries {H : Type} : List (Lit × DataW H) → Nat
  | [] => 0
  | x :: r => uptoBulkEntry x + uptoBulkEntries r
def uptoBulkEntry {H : Type} : Lit × DataW H → Nat
  | (.string bytes, d) => bytes.length + uptoBulk d + 1
  | (_, d) => uptoBulk d + 1
 end
def uptoSmall : (H : Type) → List (DataW H) → Bool := fun _ ds => decide (uptoBulkAll ds ≤ 1048576)
def OpenSpec.upto (s : _root_.Go.ChangeSpec) : _root_.Go.OpenSpec := { _root_.Go.OpenSpec.ofChange s with cond := some uptoSmall }

/-- 'catchwordlaw15.XrefParses', WHERE WHAT IT READS IS OF BULK AT MOST 1048576: true; the input reads as it did. -/
def xrefParsesUptoRow : OpenClaim := { program := "ytfafdeemfeaedaagreat", sum := "90b45e39e807d940d7eff55063d73e7080639087cc97dfa0dc6ab121b38474d8", func := "catchword/catchwordlaw15.XrefParses", spec := "xrefParses", inPlace := ["internal/bytealg.IndexByteString", "internal/bytealg.IndexString", "internal/abi.NoEscape", "internal/bytealg.IndexByte", "internal/bytealg.MakeNoZero", "slices.overlaps[catchword/api.Value]", "internal/bytealg.abigen_runtime_cmpstring"], unfollowed := true, recurses := true, named := ["internal/bytealg.MaxLen"], apart := false, narrowed := true }
def XrefParsesUptoSaid : Prop := xrefParsesUptoRow.holds Tryz.pinned (OpenSpec.upto xrefParsesSpec)

/-- 'catchwordlaw15.XrefFinds', WHERE WHAT IT READS IS OF BULK AT MOST 1048576: true; the input reads as it did. -/
def xrefFindsUptoRow : OpenClaim := { program := "ytfafdeemfeaedaagreat", sum := "90b45e39e807d940d7eff55063d73e7080639087cc97dfa0dc6ab121b38474d8", func := "catchword/catchwordlaw15.XrefFinds", spec := "xrefFinds", inPlace := ["internal/bytealg.IndexByteString", "internal/bytealg.IndexString", "internal/abi.NoEscape", "internal/bytealg.IndexByte", "internal/bytealg.MakeNoZero", "slices.overlaps[catchword/api.Value]", "internal/bytealg.abigen_runtime_cmpstring"], unfollowed := true, recurses := true, named := ["internal/bytealg.MaxLen"], loops := true, apart := false, narrowed := true }
def XrefFindsUptoSaid : Prop := xrefFindsUptoRow.holds Tryz.pinned (OpenSpec.upto xrefFindsSpec)

/-- 'catchwordlaw17.ChainStarts', WHERE WHAT IT READS IS OF BULK AT MOST 1048576: true; the input reads as it did. -/
def chainStartsUptoRow : OpenClaim := { program := "ytfafdeemfeaedaagreat", sum := "90b45e39e807d940d7eff55063d73e7080639087cc97dfa0dc6ab121b38474d8", func := "catchword/catchwordlaw17.ChainStarts", spec := "chainStarts", inPlace := ["internal/bytealg.IndexByteString", "internal/bytealg.IndexString", "internal/abi.NoEscape", "internal/bytealg.IndexByte"], unfollowed := true, recurses := true, named := ["internal/bytealg.MaxLen"], apart := false, narrowed := true }
def ChainStartsUptoSaid : Prop := chainStartsUptoRow.holds Tryz.pinned (OpenSpec.upto chainStartsSpec)

/-- 'catchwordlaw17.ChainSections', WHERE WHAT IT READS IS OF BULK AT MOST 1048576: true; the input reads as it did. -/
def chainSectionsUptoRow : OpenClaim := { program := "ytfafdeemfeaedaagreat", sum := "90b45e39e807d940d7eff55063d73e7080639087cc97dfa0dc6ab121b38474d8", func := "catchword/catchwordlaw17.ChainSections", spec := "chainSections", inPlace := ["internal/bytealg.IndexByteString", "internal/bytealg.IndexString", "internal/abi.NoEscape", "internal/bytealg.IndexByte"], unfollowed := true, recurses := true, named := ["internal/bytealg.MaxLen"], apart := false, narrowed := true }
def ChainSectionsUptoSaid : Prop := chainSectionsUptoRow.holds Tryz.pinned (OpenSpec.upto chainSectionsSpec)

/-- 'catchwordlaw17.ChainTables', WHERE WHAT IT READS IS OF BULK AT MOST 1048576: true; the input reads as it did. -/
def chainTablesUptoRow : OpenClaim := { program := "ytfafdeemfeaedaagreat", sum := "90b45e39e807d940d7eff55063d73e7080639087cc97dfa0dc6ab121b38474d8", func := "catchword/catchwordlaw17.ChainTables", spec := "chainTables", inPlace := ["internal/bytealg.IndexByteString", "internal/bytealg.IndexString", "internal/abi.NoEscape", "internal/bytealg.IndexByte"], unfollowed := true, recurses := true, named := ["internal/bytealg.MaxLen"], loops := true, apart := false, narrowed := true }
def ChainTablesUptoSaid : Prop := chainTablesUptoRow.holds Tryz.pinned (OpenSpec.upto chainTablesSpec)

/-- 'catchwordlaw17.ChainLoads', WHERE WHAT IT READS IS OF BULK AT MOST 1048576: true; the input reads as it did. -/
def chainLoadsUptoRow : OpenClaim := { program := "ytfafdeemfeaedaagreat", sum := "90b45e39e807d940d7eff55063d73e7080639087cc97dfa0dc6ab121b38474d8", func := "catchword/catchwordlaw17.ChainLoads", spec := "chainLoads", inPlace := ["internal/bytealg.IndexByteString", "internal/bytealg.IndexString", "internal/abi.NoEscape", "internal/bytealg.IndexByte"], unfollowed := true, recurses := true, named := ["internal/bytealg.MaxLen"], apart := false, narrowed := true }
def ChainLoadsUptoSaid : Prop := chainLoadsUptoRow.holds Tryz.pinned (OpenSpec.upto chainLoadsSpec)

/-- 'catchwordlaw17.ChainStays', WHERE WHAT IT READS IS OF BULK AT MOST 1048576: true; the input reads as it did. -/
def chainStaysUptoRow : OpenClaim := { program := "ytfafdeemfeaedaagreat", sum := "90b45e39e807d940d7eff55063d73e7080639087cc97dfa0dc6ab121b38474d8", func := "catchword/catchwordlaw17.ChainStays", spec := "chainStays", inPlace := ["internal/bytealg.IndexByteString", "internal/bytealg.IndexString", "internal/abi.NoEscape", "internal/bytealg.IndexByte"], unfollowed := true, recurses := true, named := ["internal/bytealg.MaxLen"], apart := false, narrowed := true }
def ChainStaysUptoSaid : Prop := chainStaysUptoRow.holds Tryz.pinned (OpenSpec.upto chainStaysSpec)

end Rows
end Go.Proofs.YtfafdeemfeaedaaGreat
