/-
  Walks of layer 10's law: a token as the document has it; two tokens that are the same are alike.
-/
import Derived.Test.YtkolfecjlbnfkaaLexH
namespace Go.Proofs.Ytkolfecjlbnfkaa
open Go.RowKit

theorem infoRTok : (Try.prog.info? 32).map (·.size) = some 8 := by kernel_rfl

set_option maxRecDepth 8000 in
set_option maxHeartbeats 2000000 in
theorem of_any (x : Tk) (f t : Int) (w : World) : Calls Try.prog 12 #[.agg (tokN x f t)] w fun e w' => e = .returned (.agg (tokN x f t)) ∧ Below w.heap.size w w' := by
  unfold tokN
  generalize x.kind = a0 at *
  generalize x.vk = a1 at *
  generalize x.vn = a2 at *
  generalize mkB x.vs = s1 at *
  generalize mkB x.s = s2 at *
  go_enter Try.func12, Try.ntmps12
  go_wp2
  refine bodyPost_ret (results_cell_row rfl _ _ (w.heap.size + 1) 32 _ (0, 0) _ rfl (heapA_new _ (by rw [sizeA])) Try.underlying32 rfl infoRTok) rfl ⟨rfl, belowA2 w _ _⟩
set_option maxRecDepth 8000 in
set_option maxHeartbeats 4000000 in
theorem tsame_any (x : Tk) (f t : Int) (w : World) : Calls Try.prog 11 #[.agg (tokN x f t), .agg (tokN x f t)] w fun e w' => e = .returned (.bool true) ∧ Below w.heap.size w w' := by
  unfold tokN
  generalize x.kind = a0 at *
  generalize x.vk = a1 at *
  generalize x.vn = a2 at *
  generalize mkB x.vs = s1 at *
  generalize mkB x.s = s2 at *
  go_enter Try.func11, Try.ntmps11
  go_wp2
  go_ret
  exact ⟨rfl, belowA2 w _ _⟩
end Go.Proofs.Ytkolfecjlbnfkaa
