/-
  What the given frame tells of an argument, in our words: a slice of bytes.
-/
import Derived.Test.YtimeacigbacadaaSrcA
import Derived.Test.YtimeacigbacadaaArgs
import Derived.ChangeSlices
namespace Go.Proofs.Ytimeacigbacadaa
open Go.RowKit Go.ChangeShapes Go.WideShapes
theorem byte_slice {H : Type} {enc : TypeId × Value → H} {w : World} {a : Option Addr} {n cap : Nat} {d : DataW H} {p : List MemPlace} (h : DataW.Trod enc Try.prog w 0 (fun _ => true) true 39 (.slice a n cap) d p) :
    ∃ bs : List UInt8, bs.length = n ∧ Row w 1 a bs.length cap (bs.map u8C) := by
  obtain ⟨fuel, hf⟩ := h
  rcases open_ints Try.underlying39 Try.underlying5 (by kernel_rfl) hf with ⟨hcs, _⟩ | ⟨x, l, c, zs, hcs, _, hl, hm, hz, _, hcell, hwz⟩
  · simp [Value.cells] at hcs
    obtain ⟨rfl, rfl, rfl⟩ := hcs
    exact ⟨[], rfl, Row.nil w 1⟩
  · simp [Value.cells] at hcs
    obtain ⟨rfl, rfl, rfl⟩ := hcs
    exact row_bytes (w := w) (a := some x) (len := n) (cap := cap) (zs := zs) (.inr ⟨x, rfl, hl, hm, by simpa using hz, hcell, hwz⟩)
end Go.Proofs.Ytimeacigbacadaa
