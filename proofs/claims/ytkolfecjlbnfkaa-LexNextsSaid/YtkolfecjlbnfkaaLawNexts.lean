/-
  The law LexNexts, walked.
-/
import Derived.Test.YtkolfecjlbnfkaaLexW
import Derived.Test.YtkolfecjlbnfkaaLawPlaces
namespace Go.Proofs.Ytkolfecjlbnfkaa
open Go.RowKit

set_option maxRecDepth 8000 in
set_option maxHeartbeats 8000000 in
theorem law_nexts {a : Option Addr} {cap : Nat} {bs : List UInt8} (k : Int) (last : Bool) (w : World) (hr : Row w 1 a bs.length cap (bs.map u8C)) :
    Calls Try.prog 3 #[.slice a bs.length cap, .int .i64 k, .bool last] w (PlEnd w) := by
  have hi := hr.i64
  have HW := Lib.hid (fun W => works_any W)
  by_cases hbig : 400 < bs.length
  · have hb2 : decide (400 < bs.length) = true := decide_eq_true hbig
    have hb3 : decide ((400 : Int) < bs.length) = true := decide_eq_true (by omega)
    clear hbig hr
    go_enter Try.func3, Try.ntmps3
    go_wp2_with (go_at_call 8; refine (HW.out _).mono ?_; rintro e w' ⟨rfl, hb⟩)
    go_ret
    exact ⟨rfl, hb⟩
  have hb2 : decide (400 < bs.length) = false := decide_eq_false hbig
  have hb3 : decide ((400 : Int) < bs.length) = false := decide_eq_false (by omega)
  have HN1 := Lib.hid (next_any hr (by omega) k last)
  have HN2 := Lib.hid (fun (W : World) (h : Below w.heap.size w W) => rnext_any (hr.mono h) (by omega) k last)
  generalize nextV bs k last = V at *
  obtain ⟨x, f, t, er⟩ := V
  have HOF := Lib.hid (fun W => of_any x f t W)
  have HSM := Lib.hid (fun W => tsame_any x f t W)
  have HAL := Lib.hid (fun (W : World) (T : TypeId) => (heapA_new (.cells (tokN x f t) T) rfl : (W.alloc _).heap[W.heap.size]? = some (.cells (tokN x f t) T (0, 0))))
  unfold NextEnd at HN1 HN2
  simp only [tokN] at HN1 HN2 HOF HSM HAL
  generalize x.kind = a0 at *
  generalize x.vk = a1 at *
  generalize x.vn = a2 at *
  generalize mkB x.vs = s1 at *
  generalize mkB x.s = s2 at *
  clear hr hbig
  go_enter Try.func3, Try.ntmps3
  go_wp2_with fail
  refine HN1.out.mono ?_
  rintro e w1 ⟨rfl, hb1⟩
  have HB1 := Lib.hid (hb1.alloc hb1.size (.cells #[.int .i64 a0, .int .i64 f, .int .i64 t, .int .i64 a1, .int .i64 a2, .string s1, .slice none 0 0, .string s2] 28))
  have HT1 := Lib.hid (HAL.out w1 28)
  have HN2b := Lib.hid (HN2.out _ HB1.out)
  clear hb1 HN1 HN2
  go_wp2_with fail
  refine HN2b.out.mono ?_
  rintro e w2 ⟨rfl, hb2⟩
  have HT2 := Lib.hid (block_keep (hb2.alloc hb2.size (.cells #[.int .i64 a0, .int .i64 f, .int .i64 t, .int .i64 a1, .int .i64 a2, .string s1, .slice none 0 0, .string s2] 32)) HT1.out)
  have HT3 := Lib.hid (HAL.out w2 32)
  have HB2 := Lib.hid (HB1.out.trans ((hb2.alloc hb2.size (.cells #[.int .i64 a0, .int .i64 f, .int .i64 t, .int .i64 a1, .int .i64 a2, .string s1, .slice none 0 0, .string s2] 32)).mono HB1.out.size))
  clear HN2b HB1 HT1 hb2
  go_wp2_with fail
  generalize w2.alloc _ = W3 at *
  generalize w1.heap.size = r1 at *
  generalize w2.heap.size = r2 at *
  obtain ⟨⟨k0, k1, k2, k3, k4, k5, k6, k7⟩, -⟩ := cells8 HT2.out
  obtain ⟨⟨g0, g1, g2, g3, g4, g5, g6, g7⟩, -⟩ := cells8 HT3.out
  have q0 := BelowW.cell k0
  have q1 := BelowW.cell k1
  have q2 := BelowW.cell k2
  have q3 := BelowW.cell k3
  have q4 := BelowW.cell k4
  have q5 := BelowW.cell k5
  have q6 := BelowW.cell k6
  have q7 := BelowW.cell k7
  have p0 := BelowW.cell g0
  have p1 := BelowW.cell g1
  have p2 := BelowW.cell g2
  have p3 := BelowW.cell g3
  have p4 := BelowW.cell g4
  have p5 := BelowW.cell g5
  have p6 := BelowW.cell g6
  have p7 := BelowW.cell g7
  clear k0 k1 k2 k3 k4 k5 k6 k7 g0 g1 g2 g3 g4 g5 g6 g7
  refine wp_region_below (by kernel_rfl) (by kernel_rfl) ?_
  repeat (quiet_step ((first
    | (go_at_call 12; with_reducible exact Calls.below_of (HOF.out _))
    | (go_at_call 11; with_reducible exact Calls.below_of (HSM.out _))
    | (go_at_call 8; with_reducible exact Calls.below_of (HW.out _)))))
  refine wpQuiet_nil ?_
  rintro _ ⟨⟨w4, hb4⟩, rfl⟩
  go_wp2
  go_ret
  exact ⟨rfl, HB2.out.trans (hb4.mono HB2.out.size)⟩
end Go.Proofs.Ytkolfecjlbnfkaa
