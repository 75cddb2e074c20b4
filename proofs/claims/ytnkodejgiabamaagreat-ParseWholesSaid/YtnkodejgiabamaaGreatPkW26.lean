/-
  Our texts LawWholes to LawWholes, in one.
-/
import Derived.Test.YtnkodejgiabamaaGreatPkW25
/-
  The law ParseWholes, walked.
-/
namespace Go.Proofs.YtnkodejgiabamaaGreat
open Go.RowKit

def WlEnd (w : World) (e : Ending) (w' : World) : Prop := e = .returned (.bool true) ∧ Below w.heap.size w w'

set_option maxRecDepth 8000 in
set_option maxHeartbeats 8000000 in
theorem law_wholes {a : Option Addr} {cap : Nat} {bs : List UInt8} (k : Int) (last : Bool) (w : World) (hr : Row w 1 a bs.length cap (bs.map u8C)) :
    Calls Tryz.prog 3 #[.slice a bs.length cap, .int .i64 k, .bool last] w (WlEnd w) := by
  have hi := hr.i64
  have HW := Lib.hid (fun W => works_any W)
  by_cases hbig : 400 < bs.length
  · have hb2 : decide (400 < bs.length) = true := decide_eq_true hbig
    have hb3 : decide ((400 : Int) < bs.length) = true := decide_eq_true (by omega)
    clear hr hbig
    go_enter Tryz.func3, Tryz.ntmps3
    go_wp2_with (go_at_call 4; refine (HW.out _).mono ?_; rintro e w' ⟨rfl, hb⟩)
    go_ret
    exact ⟨rfl, hb⟩
  have hb2 : decide (400 < bs.length) = false := decide_eq_false hbig
  have hb3 : decide ((400 : Int) < bs.length) = false := decide_eq_false (by omega)
  have hl4 : bs.length ≤ 400 := by omega
  clear hbig
  have HA1 := Lib.hid (pwhole_any hr (by omega))
  have HA2 := Lib.hid (fun (W : World) (h : Below w.heap.size w W) => rwhole_any (hr.mono h) (by omega))
  have HB1 := Lib.hid (fun (W : World) (h : Below w.heap.size w W) => pnumber_any (hr.mono h) (by omega) k last)
  have HB2 := Lib.hid (fun (W : World) (h : Below w.heap.size w W) => rnumber_any (hr.mono h) (by omega) k last)
  have HC1 := Lib.hid (fun (W : World) (h : Below w.heap.size w W) => pword12_any (hr.mono h) (by omega) k last [111, 98, 106])
  have HC2 := Lib.hid (fun (W : World) (h : Below w.heap.size w W) => rword_any (hr.mono h) (by omega) k last [111, 98, 106])
  rw [show mkB [111, 98, 106] = ⟨#[111, 98, 106]⟩ from rfl] at HC1 HC2
  generalize wholW bs = R at *
  generalize oneW wholeV (nextV bs k last) = R2 at *
  generalize oneW (wordT [111, 98, 106]) (nextV bs k last) = R3 at *
  obtain ⟨X, ev⟩ := R
  obtain ⟨x2, f2, t2, e2⟩ := R2
  obtain ⟨x3, f3, t3, e3⟩ := R3
  unfold NumEnd12 at HB1 HB2
  unfold WordEnd12 at HC1 HC2
  simp only at HB1 HB2 HC1 HC2
  have HS := Lib.hid (fun (W : World) (s1 s2 : Value) (h1 : IsV W anyF X s1) (h2 : IsV W anyF X s2) => same_any h1 h2)
  simp only [compare_self, pvA] at HS
  clear hr
  generalize x2.vn = n2 at *
  generalize bs.length = L at *
  go_enter Tryz.func3, Tryz.ntmps3
  go_wp2_with fail
  refine HA1.out.mono ?_
  rintro e w1 ⟨s1, rfl, hx1, hb1⟩
  obtain ⟨sa1, sc1, rfl, -, -, -⟩ := hx1.len
  simp only [pvA]
  have HX1 := Lib.hid (hx1.below (belowA w1 (.cells #[.int .i64 X.kind, .int .i64 X.n, .string (mkB X.s), .slice sa1 X.l.length sc1] 26)))
  have HW1 := Lib.hid (hb1.alloc hb1.size (.cells #[.int .i64 X.kind, .int .i64 X.n, .string (mkB X.s), .slice sa1 X.l.length sc1] 26))
  have HT1 := Lib.hid (heapA_new (w := w1) (.cells #[.int .i64 X.kind, .int .i64 X.n, .string (mkB X.s), .slice sa1 X.l.length sc1] 26) rfl)
  clear hx1 hb1 HA1
  go_wp2_with fail
  have HA2b := Lib.hid (HA2.out _ HW1.out)
  refine HA2b.out.mono ?_
  rintro e w2 ⟨s2, rfl, hx2, hb2'⟩
  obtain ⟨sa2, sc2, rfl, -, -, -⟩ := hx2.len
  simp only [pvA]
  have hb2a := hb2'.alloc hb2'.size (.cells #[.int .i64 X.kind, .int .i64 X.n, .string (mkB X.s), .slice sa2 X.l.length sc2] 26)
  have HX1b := Lib.hid (HX1.out.below hb2a)
  have HT1b := Lib.hid (block_keep hb2a HT1.out)
  have HX2 := Lib.hid (hx2.below (belowA w2 (.cells #[.int .i64 X.kind, .int .i64 X.n, .string (mkB X.s), .slice sa2 X.l.length sc2] 26)))
  have HW2 := Lib.hid (HW1.out.trans (hb2a.mono HW1.out.size))
  have HT2 := Lib.hid (heapA_new (w := w2) (.cells #[.int .i64 X.kind, .int .i64 X.n, .string (mkB X.s), .slice sa2 X.l.length sc2] 26) rfl)
  clear hx2 hb2' hb2a HA2 HA2b HX1 HT1 HW1
  go_upto_region 5 with fail
  generalize w2.alloc _ = W2 at *
  generalize w1.heap.size = r1 at *
  generalize w2.heap.size = r2 at *
  go_wp2_with fail
  refine (HB1.out _ HW2.out).mono ?_
  rintro e w3 ⟨rfl, hb3'⟩
  have HW3 := Lib.hid (HW2.out.trans (hb3'.mono HW2.out.size))
  have HX3 := Lib.hid (HX1b.out.below hb3')
  have HY3 := Lib.hid (HX2.out.below hb3')
  have HT3 := Lib.hid (block_keep hb3' HT1b.out)
  have HU3 := Lib.hid (block_keep hb3' HT2.out)
  clear hb3' HX1b HX2 HT1b HT2 HW2 HB1
  go_wp2_with fail
  refine (HB2.out _ HW3.out).mono ?_
  rintro e w4 ⟨rfl, hb4⟩
  have HW4 := Lib.hid (HW3.out.trans (hb4.mono HW3.out.size))
  have HX4 := Lib.hid (HX3.out.below hb4)
  have HY4 := Lib.hid (HY3.out.below hb4)
  have HT4 := Lib.hid (block_keep hb4 HT3.out)
  have HU4 := Lib.hid (block_keep hb4 HU3.out)
  clear hb4 HX3 HY3 HT3 HU3 HW3 HB2
  have HSA := Lib.hid (HS.out w4 _ _ HX4.out HY4.out)
  clear HS HX4 HY4
  generalize X.kind = x0 at *
  generalize X.n = x1 at *
  generalize mkB X.s = xs at *
  generalize X.l.length = xl at *
  obtain ⟨⟨k0, k1, k2, k3⟩, -⟩ := cells4 HT4.out
  obtain ⟨⟨g0, g1, g2, g3⟩, -⟩ := cells4 HU4.out
  go_wp2_with fail
  refine HSA.out.mono ?_
  rintro e w5 ⟨rfl, hb5⟩
  have HW5 := Lib.hid (HW4.out.trans (hb5.mono HW4.out.size))
  clear hb5 k0 k1 k2 k3 g0 g1 g2 g3 HT4 HU4 HSA HW4
  go_wp2_with fail
  refine (HC1.out _ HW5.out).mono ?_
  rintro e w6 ⟨rfl, hb6⟩
  have HW6 := Lib.hid (HW5.out.trans (hb6.mono HW5.out.size))
  clear hb6 HC1 HW5
  go_wp2_with fail
  refine (HC2.out _ HW6.out).mono ?_
  rintro e w7 ⟨rfl, hb7⟩
  have HW7 := Lib.hid (HW6.out.trans (hb7.mono HW6.out.size))
  clear hb7 HC2 HW6
  go_wp2_with (go_at_call 4; refine (HW.out _).mono ?_; rintro e w' ⟨rfl, hb⟩)
  go_ret
  exact ⟨rfl, HW7.out.trans (hb.mono HW7.out.size)⟩
end Go.Proofs.YtnkodejgiabamaaGreat
