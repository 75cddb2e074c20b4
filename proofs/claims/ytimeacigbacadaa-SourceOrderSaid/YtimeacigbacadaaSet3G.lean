/-
  Walks of layer 2: whether a set has all of a span.
-/
import Derived.Test.YtimeacigbacadaaSet2G
import Derived.Test.YtimeacigbacadaaBelow
namespace Go.Proofs.Ytimeacigbacadaa
open Go.RowKit Go.Sort

/-- Is all of it in? -/
def hasS (T : List (Int × Int)) (x : Int × Int) : Bool := emp x || decide (x.2 ≤ uptoS T x.1)

theorem empty_below (x y : Int) (w : World) : Calls Try.prog 31 #[.agg #[.int .i64 x, .int .i64 y]] w fun e w' => e = .returned (.bool (emp (x, y))) ∧ Below w.heap.size w w' :=
  (empty_any x y w).mono fun _ _ ⟨he, hw⟩ => ⟨he, by rw [hw]; exact belowA _ _⟩

set_option maxHeartbeats 1000000 in
theorem has_any (pv : Option Addr) (T : List (Int × Int)) (x y : Int) (w : World) (h : SetV w pv T) (hn : T.length ≤ 1000000) :
    Calls Try.prog 13 #[.pointer pv, .agg #[.int .i64 x, .int .i64 y]] w fun e w' => e = .returned (.bool (hasS T (x, y))) ∧ Below w.heap.size w w' := by
  have hv : hasS T (x, y) = (emp (x, y) || decide (y ≤ uptoS T x)) := rfl
  have hbx : (w.alloc (.cells #[.int .i64 x, .int .i64 y] 23)).heap[w.heap.size]? = some (.cells #[.int .i64 x, .int .i64 y] 23 (0, 0)) := heapA_new _ rfl
  have hB0 := belowA w (.cells #[.int .i64 x, .int .i64 y] 23)
  have hV := h.mono hB0
  have hem := fun W => empty_below x y W
  generalize hbe : emp (x, y) = be at hv hem
  have HV := Lib.hid hv
  have HEM := Lib.hid hem
  clear hv hem h hbe
  go_enter Try.func13, Try.ntmps13
  go_wp2
  generalize hWW : w.alloc (.cells #[.int .i64 x, .int .i64 y] 23) = W at *
  have b0 : W.cell? ⟨w.heap.size, 0, none⟩ = some (.int .i64 x) := by rw [cell_of_row W _ 0 _ _ _ hbx]; rfl
  have b1 : W.cell? ⟨w.heap.size, 1, none⟩ = some (.int .i64 y) := by rw [cell_of_row W _ 1 _ _ _ hbx]; rfl
  have q0 := BelowW.cell b0
  have q1 := BelowW.cell b1
  have HB0 := Lib.hid hB0
  have HUP : Hid (∀ p : BelowW W, Calls Try.prog 12 #[.pointer pv, .int .i64 x] p.w fun e w' => e = .returned (.int .i64 (uptoS T x)) ∧ Below p.w.heap.size p.w w') := Lib.hid fun p => upto_any pv T x p.w (hV.mono p.h) hn
  generalize uptoS T x = u at *
  clear hWW hbx hB0 hV b0 b1
  cases be
  · refine wp_region_below (by kernel_rfl) (by kernel_rfl) ?_
    repeat (quiet_step ((first | (go_at_call 31; exact Calls.below_of (HEM.out _)) | (go_at_call 12; exact Calls.below_of (HUP.out _)))))
    refine wpQuiet_nil ?_
    rintro _ ⟨⟨w2, hb2⟩, rfl⟩
    go_wp2
    go_ret
    exact ⟨ret_bool (by rw [HV.out]; simp), HB0.out.trans (hb2.mono HB0.out.size)⟩
  · refine wp_region_below (by kernel_rfl) (by kernel_rfl) ?_
    repeat (quiet_step ((first | (go_at_call 31; exact Calls.below_of (HEM.out _)) | (go_at_call 12; exact Calls.below_of (HUP.out _)))))
    refine wpQuiet_nil ?_
    rintro _ ⟨⟨w2, hb2⟩, rfl⟩
    go_wp2
    go_ret
    exact ⟨ret_bool (by rw [HV.out]; simp), HB0.out.trans (hb2.mono HB0.out.size)⟩
end Go.Proofs.Ytimeacigbacadaa
