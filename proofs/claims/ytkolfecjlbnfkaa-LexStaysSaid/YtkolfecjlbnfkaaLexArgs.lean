/-
  What the given frame tells of an argument, in our words: bytes, a place, and how many of them there are at first.
-/
import Derived.Test.YtkolfecjlbnfkaaRows
import Derived.Test.YtkolfecjlbnfkaaArgs
import Derived.Test.YtkolfecjlbnfkaaLex2
import Derived.ProofKit
import Derived.OpenShut
import Derived.Lib.SmallJoins
namespace Go.Proofs.Ytkolfecjlbnfkaa
open Go.ChangeShapes Go.WideShapes Go.Joins Go.RowKit

section
variable {H : Type} {enc : TypeId × Value → H} {w : World} {base : Nat} {held : Bool}
set_option maxRecDepth 100000 in
theorem cut_arg {r : Reach} {b0 : Nat} {v : Value} {d : DataW H} {p : List MemPlace} (hv : Value.okWide Try.prog w r b0 43 v) (h : DataW.Trod enc Try.prog w base (fun _ => true) held 43 v d p) :
    ∃ (a : Option Addr) (cap : Nat) (bs : List UInt8) (k : Int) (M : Nat), v = .agg #[.slice a bs.length cap, .int .i64 k, .int .u16 M] ∧ Row w 1 a bs.length cap (bs.map u8C) ∧ M ≤ 65535 := by
  obtain ⟨c0, c1, c2, y0, y1, y2, f, rfl, _, _, h0, h1, h2⟩ := open_agg3 Try.underlying43 (by kernel_rfl) (by kernel_rfl) hv h
  obtain ⟨z1, e1, _, w1⟩ := DataW.trod_int Try.underlying3 h1
  obtain ⟨z2, e2, _, w2⟩ := DataW.trod_int Try.underlying41 h2
  simp at e1 e2
  subst e1 e2
  have hz : ∃ M : Nat, z2 = (M : Int) ∧ M ≤ 65535 := by
    simp [Lit.wf, IntKind.min, IntKind.max, IntKind.signed, IntKind.bits] at w2
    exact ⟨z2.toNat, by omega, by omega⟩
  obtain ⟨M, rfl, hM⟩ := hz
  rcases open_ints Try.underlying22 Try.underlying5 (by kernel_rfl) h0 with ⟨hcs, _⟩ | ⟨x, l, c, zs, hcs, _, hl, hm, hz, _, hcell, hwz⟩
  · simp at hcs
    subst hcs
    exact ⟨none, 0, [], z1, M, rfl, Row.nil w 1, hM⟩
  · simp at hcs
    subst hcs
    obtain ⟨bs, hbl, hr⟩ := row_bytes (w := w) (a := some x) (len := l) (cap := c) (zs := zs) (.inr ⟨x, rfl, hl, hm, by simpa using hz, hcell, hwz⟩)
    subst hbl
    exact ⟨some x, c, bs, z1, M, rfl, hr, hM⟩
end
end Go.Proofs.Ytkolfecjlbnfkaa
