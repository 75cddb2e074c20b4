/-
  The walk of span.Clip.
-/
import Derived.Test.YtbmhdacedicbjaaSet3
namespace Go.Proofs.Ytbmhdacedicbjaa
open Go.RowKit Go.Sort

/-- What a span is, cut off. -/
def clipV (x y to : Int) : Int × Int := if emp (x, min y to) = true then (0, 0) else (x, min y to)

theorem infoSp : (Try.prog.info? 56).map (·.size) = some 2 := by kernel_rfl

set_option maxHeartbeats 1000000 in
theorem clip_any (x y to : Int) (w : World) : Calls Try.prog 31 #[.agg #[.int .i64 x, .int .i64 y], .int .i64 to] w fun e w' => e = .returned (.agg #[.int .i64 (clipV x y to).1, .int .i64 (clipV x y to).2]) ∧ Below w.heap.size w w' := by
  have hV : clipV x y to = if emp (x, min y to) = true then (0, 0) else (x, min y to) := rfl
  have hB := belowA2 w (.cells #[.int .i64 x, .int .i64 (min y to)] 56) (.cells #[.int .i64 0, .int .i64 0] 56)
  have h0 : ((w.alloc (.cells #[.int .i64 x, .int .i64 (min y to)] 56)).alloc (.cells #[.int .i64 0, .int .i64 0] 56)).heap[w.heap.size]? = some (.cells #[.int .i64 x, .int .i64 (min y to)] 56 (0, 0)) := heapA_old _ (heapA_new _ rfl)
  have h1 : ((w.alloc (.cells #[.int .i64 x, .int .i64 (min y to)] 56)).alloc (.cells #[.int .i64 0, .int .i64 0] 56)).heap[w.heap.size + 1]? = some (.cells #[.int .i64 0, .int .i64 0] 56 (0, 0)) := heapA_new _ (by rw [sizeA])
  have HV := Lib.hid hV
  have HB := Lib.hid hB
  have H0 := Lib.hid h0
  have H1 := Lib.hid h1
  clear hV hB h0 h1
  go_enter Try.func31, Try.ntmps31
  go_wp2_with fail
  generalize (w.alloc (.cells #[.int .i64 x, .int .i64 (min y to)] 56)).alloc (.cells #[.int .i64 0, .int .i64 0] 56) = W at *
  refine (empty_below x (min y to) W).mono ?_
  rintro e w2 ⟨rfl, hb2⟩
  have h0 := block_keep hb2 H0.out
  have h1 := block_keep hb2 H1.out
  have k0 : w2.cell? ⟨w.heap.size, 0, none⟩ = some (.int .i64 x) := by rw [cell_of_row w2 _ 0 _ _ _ h0]; rfl
  have k1 : w2.cell? ⟨w.heap.size, 1, none⟩ = some (.int .i64 (min y to)) := by rw [cell_of_row w2 _ 1 _ _ _ h0]; rfl
  have c0 : w2.cell? ⟨w.heap.size + 1, 0, none⟩ = some (.int .i64 0) := by rw [cell_of_row w2 _ 0 _ _ _ h1]; rfl
  have c1 : w2.cell? ⟨w.heap.size + 1, 1, none⟩ = some (.int .i64 0) := by rw [cell_of_row w2 _ 1 _ _ _ h1]; rfl
  have f0 := frozen_of_row w2 (w.heap.size + 1) 0 _ _ h1
  have f1 := frozen_of_row w2 (w.heap.size + 1) 1 _ _ h1
  have HB2 := Lib.hid (HB.out.trans (hb2.mono HB.out.size))
  have H2 := Lib.hid h1
  obtain ⟨c, hc⟩ : ∃ c, emp (x, min y to) = c := ⟨_, rfl⟩
  rw [hc] at HV ⊢
  clear hb2 h0 h1 hc H0 H1
  generalize min y to = m at *
  cases c
  · go_wp2
    have hh : ((w2.setCell ⟨w.heap.size + 1, 0, none⟩ (.int .i64 x)).setCell ⟨w.heap.size + 1, 1, none⟩ (.int .i64 m)).heap[w.heap.size + 1]? = some (.cells #[.int .i64 x, .int .i64 m] 56 (0, 0)) := by
      rw [heap_setCell_same _ _ 1 _ _ _ (heap_setCell_same w2 _ 0 _ _ _ H2.out)]; rfl
    refine bodyPost_ret (results_cell_row rfl _ _ (w.heap.size + 1) 56 _ (0, 0) _ rfl hh Try.underlying56 rfl infoSp) rfl ⟨?_, (HB2.out.setCell (Nat.le_succ _) _).setCell (Nat.le_succ _) _⟩
    rw [HV.out]
    rfl
  · go_wp2
    have hh : ((w2.setCell ⟨w.heap.size + 1, 0, none⟩ (.int .i64 0)).setCell ⟨w.heap.size + 1, 1, none⟩ (.int .i64 0)).heap[w.heap.size + 1]? = some (.cells #[.int .i64 0, .int .i64 0] 56 (0, 0)) := by
      rw [heap_setCell_same _ _ 1 _ _ _ (heap_setCell_same w2 _ 0 _ _ _ H2.out)]; rfl
    refine bodyPost_ret (results_cell_row rfl _ _ (w.heap.size + 1) 56 _ (0, 0) _ rfl hh Try.underlying56 rfl infoSp) rfl ⟨?_, (HB2.out.setCell (Nat.le_succ _) _).setCell (Nat.le_succ _) _⟩
    rw [HV.out]
    rfl
end Go.Proofs.Ytbmhdacedicbjaa
