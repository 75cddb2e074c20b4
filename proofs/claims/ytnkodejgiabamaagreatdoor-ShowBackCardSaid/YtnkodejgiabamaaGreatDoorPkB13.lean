/-
  Our texts Dv1 to Dp, in one.
-/
import Derived.Test.YtnkodejgiabamaaGreatDoorPkB12
set_option maxRecDepth 8000
set_option maxHeartbeats 8000000
namespace Go.Proofs.YtnkodejgiabamaaGreatDoor
open Go.RowKit
def DocEnd (w : World) (R : PV × Int × Int) (e : Ending) (w' : World) : Prop :=
 ∃ sl, e = .returned (.tuple #[pvA R.1 sl, .int .i64 R.2.1, .int .i64 R.2.2]) ∧ IsV w' (fun b => w.heap.size ≤ b) R.1 sl ∧ Below w.heap.size w w'
structure DvM (w W : World) (B : Nat) (tc : Array Value) : Prop where
 b0 : W.heap[B]? = some (.cells tc 59 (0, 0))
 b1 : W.heap[B + 1]? = some (.cells #[.int .i64 0, .int .i64 0, .string ⟨#[]⟩, .slice none 0 0] 24 (0, 0))
 b2 : W.heap[B + 1 + 1]? = some (.cells #[.int .i64 0, .int .i64 0, .string ⟨#[]⟩, .slice none 0 0] 24 (0, 0))
 bel : Below w.heap.size w W
 hB : B = w.heap.size
theorem DvM.keep {w W W' : World} {B : Nat} {tc : Array Value} (h : DvM w W B tc) (hb : Below W.heap.size W W') : DvM w W' B tc :=
 ⟨block_keep hb h.b0, block_keep hb h.b1, block_keep hb h.b2, h.bel.trans (hb.mono h.bel.size), h.hB⟩
theorem DvM.fin {w W : World} {B : Nat} {tc : Array Value} (h : DvM w W B tc) (y0 y1 y2 y3 : Value) :
   Below w.heap.size w ((((W.setCell ⟨B + 1, 0, none⟩ y0).setCell ⟨B + 1, 1, none⟩ y1).setCell ⟨B + 1, 2, none⟩ y2).setCell ⟨B + 1, 3, none⟩ y3) := below_set4 h.bel (by have := h.hB; omega) _ _ _ _
theorem DvM.start (w : World) (x : Array Value) {B : Nat} (hB : B = w.heap.size) : DvM w (((w.alloc (.cells x 59)).alloc (.cells #[.int .i64 0, .int .i64 0, .string ⟨#[]⟩, .slice none 0 0] 24)).alloc (.cells #[.int .i64 0, .int .i64 0, .string ⟨#[]⟩, .slice none 0 0] 24)) B x :=
 ⟨heapA_old _ (heapA_old _ (heapA_new _ hB)), heapA_old _ (heapA_new _ (by rw [sizeA, hB])), heapA_new _ (by rw [sizeA, sizeA, hB]), belowA3 _ _ _ _, hB⟩
theorem leaf_end {w W : World} {R : PV × Int × Int} (hl : R.1.l = []) (hb : Below w.heap.size w W) : DocEnd w R (.returned (.tuple #[pvA R.1 (.slice none 0 0), .int .i64 R.2.1, .int .i64 R.2.2])) W := ⟨_, rfl, IsV.leaf _ _ _ hl, hb⟩
theorem value_sing {w : World} {a : Option Addr} {cap : Nat} {bs : List UInt8} (hr : Row w 1 a bs.length cap (bs.map u8C)) (hn : bs.length ≤ 400000) (last : Bool) (x : Tk) (f tt D : Int) (hk : x.kind ≠ 0 ∧ x.kind ≠ 2 ∧ x.kind ≠ 3 ∧ x.kind ≠ 4 ∧ x.kind ≠ 5) :
   Calls Tryz.prog 42 #[.slice a bs.length cap, .agg (tokN x f tt), .bool last, .int .i64 D] w (DocEnd w (if (singD bs last x tt).2.2 ≠ 0 then (PV.none, 0, (singD bs last x tt).2.2) else if 64 ≤ D then (PV.none, 0, 15) else singD bs last x tt)) := by
 have HRF := Lib.hid (fun (W : World) (h : Below w.heap.size w W) => rref_any (hr.mono h) hn tt last x.vn)
 have HWH := Lib.hid (fun W => rwhole_tk x f tt W)
 obtain ⟨R, hR⟩ : ∃ R, R = (if (singD bs last x tt).2.2 ≠ 0 then (PV.none, 0, (singD bs last x tt).2.2) else if 64 ≤ D then (PV.none, 0, 15) else singD bs last x tt) := ⟨_, rfl⟩
 rw [← hR]
 obtain ⟨S, hS⟩ : ∃ S, S = singD bs last x tt := ⟨_, rfl⟩
 rw [← hS] at hR
 unfold singD at hS
 generalize refD bs last tt x.vn = rd at *
 have hwx : wholeV x = (x.kind == 1 && x.vk == 2) := rfl
 obtain ⟨wh, hwh⟩ : ∃ wh, wh = wholeV x := ⟨_, rfl⟩
 rw [← hwh] at HWH hS
 rw [← hwh] at hwx
 have HWX := Lib.hid hwx
 clear hwh hwx
 obtain ⟨xk, xvk, xvn, xvs, xs⟩ := x
 obtain ⟨hk0, hk2, hk3, hk4, hk5⟩ := hk
 simp only at hk0 hk2 hk3 hk4 hk5 hS HWX HRF
 unfold tokN at HWH ⊢
 simp only [tkV] at HWH hS ⊢
 have HR := Lib.hid hR
 have HS := Lib.hid hS
 have e0 : (xk == 0) = false := by rw [beq_eq_false_iff_ne]; exact hk0
 have e2 : (xk == 2) = false := by rw [beq_eq_false_iff_ne]; exact hk2
 have e3 : (xk == 3) = false := by rw [beq_eq_false_iff_ne]; exact hk3
 have e4 : (xk == 4) = false := by rw [beq_eq_false_iff_ne]; exact hk4
 have e5 : (xk == 5) = false := by rw [beq_eq_false_iff_ne]; exact hk5
 have w1 := eq_mkB xs [116, 114, 117, 101]
 have w2 := eq_mkB xs [102, 97, 108, 115, 101]
 have w3 := eq_mkB xs [110, 117, 108, 108]
 have HW1 := Lib.hid w1
 have HW2 := Lib.hid w2
 have HW3 := Lib.hid w3
 clear hR hS hr hn hk0 hk2 hk3 hk4 hk5 w1 w2 w3
 generalize mkB xs = xb at *
 generalize bs.length = L at *
 go_enter Tryz.func42, Tryz.ntmps42
 obtain ⟨B, hB⟩ : ∃ B, B = w.heap.size := ⟨_, rfl⟩
 have HM := Lib.hid (DvM.start w #[.int .i64 xk, .int .i64 f, .int .i64 tt, .int .i64 xvk, .int .i64 xvn, .string (mkB xvs), .slice none 0 0, .string xb] hB)
 go_upto_region 2 with fail
 rw [← hB]
 clear hB
 generalize ((w.alloc _).alloc _).alloc _ = W1 at *
 obtain ⟨⟨k0, k1, k2, k3, k4, k5, k6, k7⟩, -⟩ := cells8 HM.out.b0
 obtain ⟨V, hV⟩ : ∃ V, V = W1.heap.size := ⟨_, rfl⟩
 have HV0 := Lib.hid (heapA_new (w := W1) (b := V) (.cells #[.int .i64 xvk, .int .i64 xvn, .string (mkB xvs), .slice none 0 0] 24) hV)
 have HB0 := Lib.hid (belowA W1 (.cells #[.int .i64 xvk, .int .i64 xvn, .string (mkB xvs), .slice none 0 0] 24))
 have HVV := Lib.hid (Nat.le_of_eq hV.symm)
 go_upto_region 13 with fail
 rw [← hV]
 clear hV
 clear k0 k1 k2 k3 k4 k5 k6 k7
 generalize W1.alloc _ = W2 at *
 obtain ⟨⟨k0, k1, k2, k3, k4, k5, k6, k7⟩, -⟩ := cells8 (HM.out.keep HB0.out).b0
 obtain ⟨⟨v0, v1, v2, v3⟩, vf0, vf1, vf2, vf3⟩ := cells4 HV0.out
 obtain ⟨⟨n0, n1, n2, n3⟩, -⟩ := cells4 (HM.out.keep HB0.out).b2
 obtain ⟨⟨r0, r1, r2, r3⟩, rf0, rf1, rf2, rf3⟩ := cells4 (HM.out.keep HB0.out).b1
 by_cases hw : xk = 6
 · subst hw
   have hwh := HWX.out
   simp only [show ((6 : Int) == 1) = false from rfl, Bool.false_and] at hwh
   subst hwh
   have hS := HS.out
   rw [if_pos rfl] at hS
   have hq0 := HW1.out
   by_cases g0 : xs = [116, 114, 117, 101]
   · have HSV := Lib.hid (show S = (PV.mk 1 1 [] [], tt, 0) by rw [hS]; unfold wordV; rw [if_pos g0]; all_goals (try rfl))
     rw [decide_eq_true g0] at hq0
     clear hS g0 HRF HW1 HW2 HW3
     have HV3 := Lib.hid (set4 HV0.out (.int .i64 1) (.int .i64 1) (.string ⟨#[]⟩) (.slice none 0 0))
     have HB3 := Lib.hid (below_set4 HB0.out HVV.out (.int .i64 1) (.int .i64 1) (.string ⟨#[]⟩) (.slice none 0 0))
     go_upto_region 23 with fail
     clear k0 k1 k2 k3 k4 k5 k6 k7 v0 v1 v2 v3 vf0 vf1 vf2 vf3 n0 n1 n2 n3 r0 r1 r2 r3 rf0 rf1 rf2 rf3
     generalize (((World.setCell _ _ _).setCell _ _).setCell _ _).setCell _ _ = W3 at *
     obtain ⟨⟨k0, k1, k2, k3, k4, k5, k6, k7⟩, -⟩ := cells8 (HM.out.keep HB3.out).b0
     obtain ⟨⟨v0, v1, v2, v3⟩, vf0, vf1, vf2, vf3⟩ := cells4 HV3.out
     obtain ⟨⟨n0, n1, n2, n3⟩, -⟩ := cells4 (HM.out.keep HB3.out).b2
     obtain ⟨⟨r0, r1, r2, r3⟩, rf0, rf1, rf2, rf3⟩ := cells4 (HM.out.keep HB3.out).b1
     go_wp2_with fail
     refine (HWH.out _).mono ?_
     rintro e w4 ⟨rfl, hb⟩
     have HB4 := Lib.hid (HB3.out.trans (hb.mono HB3.out.size))
     have HV4 := Lib.hid (block_keep hb HV3.out)
     clear hb
     clear k0 k1 k2 k3 k4 k5 k6 k7 v0 v1 v2 v3 vf0 vf1 vf2 vf3 n0 n1 n2 n3 r0 r1 r2 r3 rf0 rf1 rf2 rf3
     obtain ⟨⟨k0, k1, k2, k3, k4, k5, k6, k7⟩, -⟩ := cells8 (HM.out.keep HB4.out).b0
     obtain ⟨⟨v0, v1, v2, v3⟩, vf0, vf1, vf2, vf3⟩ := cells4 HV4.out
     obtain ⟨⟨n0, n1, n2, n3⟩, -⟩ := cells4 (HM.out.keep HB4.out).b2
     obtain ⟨⟨r0, r1, r2, r3⟩, rf0, rf1, rf2, rf3⟩ := cells4 (HM.out.keep HB4.out).b1
     have hR := HR.out
     by_cases hd : 64 ≤ D
     · have d1 : decide (64 ≤ D) = true := decide_eq_true hd
       rw [if_neg (by rw [HSV.out]; simp), if_pos hd] at hR
       subst hR
       clear HR hd HS HSV
       go_wp2
       refine bodyPost_ret (results_val3 rfl _ _ (B + 1) 24 _ (0, 0) _ rfl (by exact set4 (HM.out.keep HB4.out).b1 _ _ _ _) Tryz.underlying24 rfl (by exact infoPV) _ _ rfl rfl) rfl ?_
       exact leaf_end (R := (PV.none, 0, 15)) rfl ((HM.out.keep HB4.out).fin _ _ _ _)
     · have d1 : decide (64 ≤ D) = false := decide_eq_false hd
       rw [if_neg (by rw [HSV.out]; simp), if_neg hd, HSV.out] at hR
       subst hR
       clear HR hd HS HSV
       go_wp2
       refine bodyPost_ret (results_val3 rfl _ _ (B + 1) 24 _ (0, 0) _ rfl (by exact set4 (HM.out.keep HB4.out).b1 _ _ _ _) Tryz.underlying24 rfl (by exact infoPV) _ _ rfl rfl) rfl ?_
       exact leaf_end (R := (PV.mk 1 1 [] [], tt, 0)) rfl ((HM.out.keep HB4.out).fin _ _ _ _)
   rw [decide_eq_false g0] at hq0
   have hq1 := HW2.out
   by_cases g1 : xs = [102, 97, 108, 115, 101]
   · have HSV := Lib.hid (show S = (PV.mk 1 0 [] [], tt, 0) by rw [hS]; unfold wordV; rw [if_neg g0]; rw [if_pos g1]; all_goals (try rfl))
     rw [decide_eq_true g1] at hq1
     clear hS g1 g0 HRF HW1 HW2 HW3
     have HV3 := Lib.hid (set4 HV0.out (.int .i64 1) (.int .i64 0) (.string ⟨#[]⟩) (.slice none 0 0))
     have HB3 := Lib.hid (below_set4 HB0.out HVV.out (.int .i64 1) (.int .i64 0) (.string ⟨#[]⟩) (.slice none 0 0))
     go_upto_region 23 with fail
     clear k0 k1 k2 k3 k4 k5 k6 k7 v0 v1 v2 v3 vf0 vf1 vf2 vf3 n0 n1 n2 n3 r0 r1 r2 r3 rf0 rf1 rf2 rf3
     generalize (((World.setCell _ _ _).setCell _ _).setCell _ _).setCell _ _ = W3 at *
     obtain ⟨⟨k0, k1, k2, k3, k4, k5, k6, k7⟩, -⟩ := cells8 (HM.out.keep HB3.out).b0
     obtain ⟨⟨v0, v1, v2, v3⟩, vf0, vf1, vf2, vf3⟩ := cells4 HV3.out
     obtain ⟨⟨n0, n1, n2, n3⟩, -⟩ := cells4 (HM.out.keep HB3.out).b2
     obtain ⟨⟨r0, r1, r2, r3⟩, rf0, rf1, rf2, rf3⟩ := cells4 (HM.out.keep HB3.out).b1
     go_wp2_with fail
     refine (HWH.out _).mono ?_
     rintro e w4 ⟨rfl, hb⟩
     have HB4 := Lib.hid (HB3.out.trans (hb.mono HB3.out.size))
     have HV4 := Lib.hid (block_keep hb HV3.out)
     clear hb
     clear k0 k1 k2 k3 k4 k5 k6 k7 v0 v1 v2 v3 vf0 vf1 vf2 vf3 n0 n1 n2 n3 r0 r1 r2 r3 rf0 rf1 rf2 rf3
     obtain ⟨⟨k0, k1, k2, k3, k4, k5, k6, k7⟩, -⟩ := cells8 (HM.out.keep HB4.out).b0
     obtain ⟨⟨v0, v1, v2, v3⟩, vf0, vf1, vf2, vf3⟩ := cells4 HV4.out
     obtain ⟨⟨n0, n1, n2, n3⟩, -⟩ := cells4 (HM.out.keep HB4.out).b2
     obtain ⟨⟨r0, r1, r2, r3⟩, rf0, rf1, rf2, rf3⟩ := cells4 (HM.out.keep HB4.out).b1
     have hR := HR.out
     by_cases hd : 64 ≤ D
     · have d1 : decide (64 ≤ D) = true := decide_eq_true hd
       rw [if_neg (by rw [HSV.out]; simp), if_pos hd] at hR
       subst hR
       clear HR hd HS HSV
       go_wp2
       refine bodyPost_ret (results_val3 rfl _ _ (B + 1) 24 _ (0, 0) _ rfl (by exact set4 (HM.out.keep HB4.out).b1 _ _ _ _) Tryz.underlying24 rfl (by exact infoPV) _ _ rfl rfl) rfl ?_
       exact leaf_end (R := (PV.none, 0, 15)) rfl ((HM.out.keep HB4.out).fin _ _ _ _)
     · have d1 : decide (64 ≤ D) = false := decide_eq_false hd
       rw [if_neg (by rw [HSV.out]; simp), if_neg hd, HSV.out] at hR
       subst hR
       clear HR hd HS HSV
       go_wp2
       refine bodyPost_ret (results_val3 rfl _ _ (B + 1) 24 _ (0, 0) _ rfl (by exact set4 (HM.out.keep HB4.out).b1 _ _ _ _) Tryz.underlying24 rfl (by exact infoPV) _ _ rfl rfl) rfl ?_
       exact leaf_end (R := (PV.mk 1 0 [] [], tt, 0)) rfl ((HM.out.keep HB4.out).fin _ _ _ _)
   rw [decide_eq_false g1] at hq1
   have hq2 := HW3.out
   by_cases g2 : xs = [110, 117, 108, 108]
   · have HSV := Lib.hid (show S = (PV.mk 0 0 [] [], tt, 0) by rw [hS]; unfold wordV; rw [if_neg g0]; rw [if_neg g1]; rw [if_pos g2]; all_goals (try rfl))
     rw [decide_eq_true g2] at hq2
     clear hS g2 g0 g1 HRF HW1 HW2 HW3
     have HV3 := Lib.hid (set4 HV0.out (.int .i64 0) (.int .i64 0) (.string ⟨#[]⟩) (.slice none 0 0))
     have HB3 := Lib.hid (below_set4 HB0.out HVV.out (.int .i64 0) (.int .i64 0) (.string ⟨#[]⟩) (.slice none 0 0))
     go_upto_region 23 with fail
     clear k0 k1 k2 k3 k4 k5 k6 k7 v0 v1 v2 v3 vf0 vf1 vf2 vf3 n0 n1 n2 n3 r0 r1 r2 r3 rf0 rf1 rf2 rf3
     generalize (((World.setCell _ _ _).setCell _ _).setCell _ _).setCell _ _ = W3 at *
     obtain ⟨⟨k0, k1, k2, k3, k4, k5, k6, k7⟩, -⟩ := cells8 (HM.out.keep HB3.out).b0
     obtain ⟨⟨v0, v1, v2, v3⟩, vf0, vf1, vf2, vf3⟩ := cells4 HV3.out
     obtain ⟨⟨n0, n1, n2, n3⟩, -⟩ := cells4 (HM.out.keep HB3.out).b2
     obtain ⟨⟨r0, r1, r2, r3⟩, rf0, rf1, rf2, rf3⟩ := cells4 (HM.out.keep HB3.out).b1
     go_wp2_with fail
     refine (HWH.out _).mono ?_
     rintro e w4 ⟨rfl, hb⟩
     have HB4 := Lib.hid (HB3.out.trans (hb.mono HB3.out.size))
     have HV4 := Lib.hid (block_keep hb HV3.out)
     clear hb
     clear k0 k1 k2 k3 k4 k5 k6 k7 v0 v1 v2 v3 vf0 vf1 vf2 vf3 n0 n1 n2 n3 r0 r1 r2 r3 rf0 rf1 rf2 rf3
     obtain ⟨⟨k0, k1, k2, k3, k4, k5, k6, k7⟩, -⟩ := cells8 (HM.out.keep HB4.out).b0
     obtain ⟨⟨v0, v1, v2, v3⟩, vf0, vf1, vf2, vf3⟩ := cells4 HV4.out
     obtain ⟨⟨n0, n1, n2, n3⟩, -⟩ := cells4 (HM.out.keep HB4.out).b2
     obtain ⟨⟨r0, r1, r2, r3⟩, rf0, rf1, rf2, rf3⟩ := cells4 (HM.out.keep HB4.out).b1
     have hR := HR.out
     by_cases hd : 64 ≤ D
     · have d1 : decide (64 ≤ D) = true := decide_eq_true hd
       rw [if_neg (by rw [HSV.out]; simp), if_pos hd] at hR
       subst hR
       clear HR hd HS HSV
       go_wp2
       refine bodyPost_ret (results_val3 rfl _ _ (B + 1) 24 _ (0, 0) _ rfl (by exact set4 (HM.out.keep HB4.out).b1 _ _ _ _) Tryz.underlying24 rfl (by exact infoPV) _ _ rfl rfl) rfl ?_
       exact leaf_end (R := (PV.none, 0, 15)) rfl ((HM.out.keep HB4.out).fin _ _ _ _)
     · have d1 : decide (64 ≤ D) = false := decide_eq_false hd
       rw [if_neg (by rw [HSV.out]; simp), if_neg hd, HSV.out] at hR
       subst hR
       clear HR hd HS HSV
       go_wp2
       refine bodyPost_ret (results_val3 rfl _ _ (B + 1) 24 _ (0, 0) _ rfl (by exact set4 (HM.out.keep HB4.out).b1 _ _ _ _) Tryz.underlying24 rfl (by exact infoPV) _ _ rfl rfl) rfl ?_
       exact leaf_end (R := (PV.mk 0 0 [] [], tt, 0)) rfl ((HM.out.keep HB4.out).fin _ _ _ _)
   rw [decide_eq_false g2] at hq2
   have HSV := Lib.hid (show S = (PV.none, 0, 11) by rw [hS]; unfold wordV; rw [if_neg g0, if_neg g1, if_neg g2])
   have hR := HR.out
   rw [HSV.out, if_pos (by decide)] at hR
   subst hR
   clear hS g0 g1 g2 HRF HW1 HW2 HW3 HR HS HSV
   go_wp2
   refine bodyPost_ret (results_val3 rfl _ _ (B + 1) 24 _ (0, 0) _ rfl (by exact set4 (HM.out.keep HB0.out).b1 _ _ _ _) Tryz.underlying24 rfl (by exact infoPV) _ _ rfl rfl) rfl ?_
   exact leaf_end (R := (PV.none, 0, 11)) rfl ((HM.out.keep HB0.out).fin _ _ _ _)
 have e6 : (xk == 6) = false := by rw [beq_eq_false_iff_ne]; exact hw
 have hS := HS.out
 rw [if_neg hw] at hS
 clear hw HW1 HW2 HW3
 cases wh with
 | false =>
   have HSV := Lib.hid (show S = (PV.mk xvk xvn xvs [], tt, 0) by rw [hS]; rfl)
   clear hS HRF
   go_wp2_with fail
   refine (HWH.out _).mono ?_
   rintro e w4 ⟨rfl, hb⟩
   have HB4 := Lib.hid (HB0.out.trans (hb.mono HB0.out.size))
   have HV4 := Lib.hid (block_keep hb HV0.out)
   clear hb
   clear k0 k1 k2 k3 k4 k5 k6 k7 v0 v1 v2 v3 vf0 vf1 vf2 vf3 n0 n1 n2 n3 r0 r1 r2 r3 rf0 rf1 rf2 rf3
   obtain ⟨⟨k0, k1, k2, k3, k4, k5, k6, k7⟩, -⟩ := cells8 (HM.out.keep HB4.out).b0
   obtain ⟨⟨v0, v1, v2, v3⟩, vf0, vf1, vf2, vf3⟩ := cells4 HV4.out
   obtain ⟨⟨n0, n1, n2, n3⟩, -⟩ := cells4 (HM.out.keep HB4.out).b2
   obtain ⟨⟨r0, r1, r2, r3⟩, rf0, rf1, rf2, rf3⟩ := cells4 (HM.out.keep HB4.out).b1
   have hR := HR.out
   by_cases hd : 64 ≤ D
   · have d1 : decide (64 ≤ D) = true := decide_eq_true hd
     rw [if_neg (by rw [HSV.out]; simp), if_pos hd] at hR
     subst hR
     clear HR hd HS HSV
     go_wp2
     refine bodyPost_ret (results_val3 rfl _ _ (B + 1) 24 _ (0, 0) _ rfl (by exact set4 (HM.out.keep HB4.out).b1 _ _ _ _) Tryz.underlying24 rfl (by exact infoPV) _ _ rfl rfl) rfl ?_
     exact leaf_end (R := (PV.none, 0, 15)) rfl ((HM.out.keep HB4.out).fin _ _ _ _)
   · have d1 : decide (64 ≤ D) = false := decide_eq_false hd
     rw [if_neg (by rw [HSV.out]; simp), if_neg hd, HSV.out] at hR
     subst hR
     clear HR hd HS HSV
     go_wp2
     refine bodyPost_ret (results_val3 rfl _ _ (B + 1) 24 _ (0, 0) _ rfl (by exact set4 (HM.out.keep HB4.out).b1 _ _ _ _) Tryz.underlying24 rfl (by exact infoPV) _ _ rfl rfl) rfl ?_
     exact leaf_end (R := (PV.mk xvk xvn xvs [], tt, 0)) rfl ((HM.out.keep HB4.out).fin _ _ _ _)
 | true =>
   rw [if_pos rfl] at hS
   have HS1 := Lib.hid hS
   clear hS
   go_wp2_with fail
   refine (HWH.out _).mono ?_
   rintro e w4 ⟨rfl, hb⟩
   have HB4 := Lib.hid (HB0.out.trans (hb.mono HB0.out.size))
   have HV4 := Lib.hid (block_keep hb HV0.out)
   clear hb
   clear k0 k1 k2 k3 k4 k5 k6 k7 v0 v1 v2 v3 vf0 vf1 vf2 vf3 n0 n1 n2 n3 r0 r1 r2 r3 rf0 rf1 rf2 rf3
   obtain ⟨⟨k0, k1, k2, k3, k4, k5, k6, k7⟩, -⟩ := cells8 (HM.out.keep HB4.out).b0
   obtain ⟨⟨v0, v1, v2, v3⟩, vf0, vf1, vf2, vf3⟩ := cells4 HV4.out
   obtain ⟨⟨n0, n1, n2, n3⟩, -⟩ := cells4 (HM.out.keep HB4.out).b2
   obtain ⟨⟨r0, r1, r2, r3⟩, rf0, rf1, rf2, rf3⟩ := cells4 (HM.out.keep HB4.out).b1
   obtain ⟨ri, rt, re⟩ := rd
   simp only at HS1 HRF
   go_wp2_with fail
   refine (HRF.out _ (HM.out.keep HB4.out).bel).mono ?_
   rintro e w5 ⟨rfl, hb⟩
   have HB5 := Lib.hid (HB4.out.trans (hb.mono HB4.out.size))
   have HV5 := Lib.hid (block_keep hb HV4.out)
   clear hb HRF
   clear k0 k1 k2 k3 k4 k5 k6 k7 v0 v1 v2 v3 vf0 vf1 vf2 vf3 n0 n1 n2 n3 r0 r1 r2 r3 rf0 rf1 rf2 rf3
   obtain ⟨⟨k0, k1, k2, k3, k4, k5, k6, k7⟩, -⟩ := cells8 (HM.out.keep HB5.out).b0
   obtain ⟨⟨v0, v1, v2, v3⟩, vf0, vf1, vf2, vf3⟩ := cells4 HV5.out
   obtain ⟨⟨n0, n1, n2, n3⟩, -⟩ := cells4 (HM.out.keep HB5.out).b2
   obtain ⟨⟨r0, r1, r2, r3⟩, rf0, rf1, rf2, rf3⟩ := cells4 (HM.out.keep HB5.out).b1
   have hS := HS1.out
   by_cases hre : re = 0
   case neg =>
     have e1 : (re == 0) = false := by rw [beq_eq_false_iff_ne]; exact hre
     have e1n : (re != 0) = true := by simp only [bne, e1, Bool.not_false]
     rw [if_pos hre] at hS
     have hR := HR.out
     rw [hS, if_pos hre] at hR
     subst hR
     clear hS HS1 HS HR hre
     go_wp2
     refine bodyPost_ret (results_val3 rfl _ _ (B + 1) 24 _ (0, 0) _ rfl (by exact set4 (HM.out.keep HB5.out).b1 _ _ _ _) Tryz.underlying24 rfl (by exact infoPV) _ _ rfl rfl) rfl ?_
     exact leaf_end (R := (PV.none, 0, re)) rfl ((HM.out.keep HB5.out).fin _ _ _ _)
   subst hre
   rw [if_neg (by simp)] at hS
   cases ri with
   | false =>
     have HSV := Lib.hid (show S = (PV.mk xvk xvn xvs [], tt, 0) by rw [hS]; rfl)
     clear hS HS1
     have hR := HR.out
     by_cases hd : 64 ≤ D
     · have d1 : decide (64 ≤ D) = true := decide_eq_true hd
       rw [if_neg (by rw [HSV.out]; simp), if_pos hd] at hR
       subst hR
       clear HR hd HS HSV
       go_wp2
       refine bodyPost_ret (results_val3 rfl _ _ (B + 1) 24 _ (0, 0) _ rfl (by exact set4 (HM.out.keep HB5.out).b1 _ _ _ _) Tryz.underlying24 rfl (by exact infoPV) _ _ rfl rfl) rfl ?_
       exact leaf_end (R := (PV.none, 0, 15)) rfl ((HM.out.keep HB5.out).fin _ _ _ _)
     · have d1 : decide (64 ≤ D) = false := decide_eq_false hd
       rw [if_neg (by rw [HSV.out]; simp), if_neg hd, HSV.out] at hR
       subst hR
       clear HR hd HS HSV
       go_wp2
       refine bodyPost_ret (results_val3 rfl _ _ (B + 1) 24 _ (0, 0) _ rfl (by exact set4 (HM.out.keep HB5.out).b1 _ _ _ _) Tryz.underlying24 rfl (by exact infoPV) _ _ rfl rfl) rfl ?_
       exact leaf_end (R := (PV.mk xvk xvn xvs [], tt, 0)) rfl ((HM.out.keep HB5.out).fin _ _ _ _)
   | true =>
     have HSV := Lib.hid (show S = (PV.mk 8 xvn [] [], rt, 0) by rw [hS]; rfl)
     clear hS HS1
     have HV6 := Lib.hid (set4 HV5.out (.int .i64 8) (.int .i64 xvn) (.string ⟨#[]⟩) (.slice none 0 0))
     have HB6 := Lib.hid (below_set4 HB5.out HVV.out (.int .i64 8) (.int .i64 xvn) (.string ⟨#[]⟩) (.slice none 0 0))
     go_upto_region 30 with fail
     clear k0 k1 k2 k3 k4 k5 k6 k7 v0 v1 v2 v3 vf0 vf1 vf2 vf3 n0 n1 n2 n3 r0 r1 r2 r3 rf0 rf1 rf2 rf3
     generalize (((World.setCell _ _ _).setCell _ _).setCell _ _).setCell _ _ = W6 at *
     obtain ⟨⟨k0, k1, k2, k3, k4, k5, k6, k7⟩, -⟩ := cells8 (HM.out.keep HB6.out).b0
     obtain ⟨⟨v0, v1, v2, v3⟩, vf0, vf1, vf2, vf3⟩ := cells4 HV6.out
     obtain ⟨⟨n0, n1, n2, n3⟩, -⟩ := cells4 (HM.out.keep HB6.out).b2
     obtain ⟨⟨r0, r1, r2, r3⟩, rf0, rf1, rf2, rf3⟩ := cells4 (HM.out.keep HB6.out).b1
     have hR := HR.out
     by_cases hd : 64 ≤ D
     · have d1 : decide (64 ≤ D) = true := decide_eq_true hd
       rw [if_neg (by rw [HSV.out]; simp), if_pos hd] at hR
       subst hR
       clear HR hd HS HSV
       go_wp2
       refine bodyPost_ret (results_val3 rfl _ _ (B + 1) 24 _ (0, 0) _ rfl (by exact set4 (HM.out.keep HB6.out).b1 _ _ _ _) Tryz.underlying24 rfl (by exact infoPV) _ _ rfl rfl) rfl ?_
       exact leaf_end (R := (PV.none, 0, 15)) rfl ((HM.out.keep HB6.out).fin _ _ _ _)
     · have d1 : decide (64 ≤ D) = false := decide_eq_false hd
       rw [if_neg (by rw [HSV.out]; simp), if_neg hd, HSV.out] at hR
       subst hR
       clear HR hd HS HSV
       go_wp2
       refine bodyPost_ret (results_val3 rfl _ _ (B + 1) 24 _ (0, 0) _ rfl (by exact set4 (HM.out.keep HB6.out).b1 _ _ _ _) Tryz.underlying24 rfl (by exact infoPV) _ _ rfl rfl) rfl ?_
       exact leaf_end (R := (PV.mk 8 xvn [] [], rt, 0)) rfl ((HM.out.keep HB6.out).fin _ _ _ _)
theorem value_k0 {w : World} {a : Option Addr} {cap L : Nat} (last : Bool) (x : Tk) (f tt D : Int) (hk : x.kind = 0) :
   Calls Tryz.prog 42 #[.slice a L cap, .agg (tokN x f tt), .bool last, .int .i64 D] w (DocEnd w (PV.none, 0, 10)) := by
 unfold tokN
 rw [hk]
 clear hk
 generalize x.vk = xvk at *
 generalize x.vn = xvn at *
 generalize mkB x.vs = xvb at *
 generalize mkB x.s = xb at *
 go_enter Tryz.func42, Tryz.ntmps42
 obtain ⟨B, hB⟩ : ∃ B, B = w.heap.size := ⟨_, rfl⟩
 have HM := Lib.hid (DvM.start w #[.int .i64 0, .int .i64 f, .int .i64 tt, .int .i64 xvk, .int .i64 xvn, .string xvb, .slice none 0 0, .string xb] hB)
 go_upto_region 2 with fail
 rw [← hB]
 clear hB
 generalize ((w.alloc _).alloc _).alloc _ = W1 at *
 obtain ⟨⟨k0, k1, k2, k3, k4, k5, k6, k7⟩, -⟩ := cells8 HM.out.b0
 obtain ⟨⟨n0, n1, n2, n3⟩, -⟩ := cells4 HM.out.b2
 obtain ⟨⟨r0, r1, r2, r3⟩, rf0, rf1, rf2, rf3⟩ := cells4 HM.out.b1
 go_wp2
 refine bodyPost_ret (results_val3 rfl _ _ (B + 1) 24 _ (0, 0) _ rfl (by exact set4 HM.out.b1 _ _ _ _) Tryz.underlying24 rfl (by exact infoPV) _ _ rfl rfl) rfl ?_
 exact leaf_end (R := (PV.none, 0, 10)) rfl (HM.out.fin _ _ _ _)
theorem value_k3 {w : World} {a : Option Addr} {cap L : Nat} (last : Bool) (x : Tk) (f tt D : Int) (hk : x.kind = 3) :
   Calls Tryz.prog 42 #[.slice a L cap, .agg (tokN x f tt), .bool last, .int .i64 D] w (DocEnd w (PV.none, 0, 11)) := by
 unfold tokN
 rw [hk]
 clear hk
 generalize x.vk = xvk at *
 generalize x.vn = xvn at *
 generalize mkB x.vs = xvb at *
 generalize mkB x.s = xb at *
 go_enter Tryz.func42, Tryz.ntmps42
 obtain ⟨B, hB⟩ : ∃ B, B = w.heap.size := ⟨_, rfl⟩
 have HM := Lib.hid (DvM.start w #[.int .i64 3, .int .i64 f, .int .i64 tt, .int .i64 xvk, .int .i64 xvn, .string xvb, .slice none 0 0, .string xb] hB)
 go_upto_region 2 with fail
 rw [← hB]
 clear hB
 generalize ((w.alloc _).alloc _).alloc _ = W1 at *
 obtain ⟨⟨k0, k1, k2, k3, k4, k5, k6, k7⟩, -⟩ := cells8 HM.out.b0
 obtain ⟨⟨n0, n1, n2, n3⟩, -⟩ := cells4 HM.out.b2
 obtain ⟨⟨r0, r1, r2, r3⟩, rf0, rf1, rf2, rf3⟩ := cells4 HM.out.b1
 go_wp2
 refine bodyPost_ret (results_val3 rfl _ _ (B + 1) 24 _ (0, 0) _ rfl (by exact set4 HM.out.b1 _ _ _ _) Tryz.underlying24 rfl (by exact infoPV) _ _ rfl rfl) rfl ?_
 exact leaf_end (R := (PV.none, 0, 11)) rfl (HM.out.fin _ _ _ _)
theorem value_k5 {w : World} {a : Option Addr} {cap L : Nat} (last : Bool) (x : Tk) (f tt D : Int) (hk : x.kind = 5) :
   Calls Tryz.prog 42 #[.slice a L cap, .agg (tokN x f tt), .bool last, .int .i64 D] w (DocEnd w (PV.none, 0, 11)) := by
 unfold tokN
 rw [hk]
 clear hk
 generalize x.vk = xvk at *
 generalize x.vn = xvn at *
 generalize mkB x.vs = xvb at *
 generalize mkB x.s = xb at *
 go_enter Tryz.func42, Tryz.ntmps42
 obtain ⟨B, hB⟩ : ∃ B, B = w.heap.size := ⟨_, rfl⟩
 have HM := Lib.hid (DvM.start w #[.int .i64 5, .int .i64 f, .int .i64 tt, .int .i64 xvk, .int .i64 xvn, .string xvb, .slice none 0 0, .string xb] hB)
 go_upto_region 2 with fail
 rw [← hB]
 clear hB
 generalize ((w.alloc _).alloc _).alloc _ = W1 at *
 obtain ⟨⟨k0, k1, k2, k3, k4, k5, k6, k7⟩, -⟩ := cells8 HM.out.b0
 obtain ⟨⟨n0, n1, n2, n3⟩, -⟩ := cells4 HM.out.b2
 obtain ⟨⟨r0, r1, r2, r3⟩, rf0, rf1, rf2, rf3⟩ := cells4 HM.out.b1
 go_wp2
 refine bodyPost_ret (results_val3 rfl _ _ (B + 1) 24 _ (0, 0) _ rfl (by exact set4 HM.out.b1 _ _ _ _) Tryz.underlying24 rfl (by exact infoPV) _ _ rfl rfl) rfl ?_
 exact leaf_end (R := (PV.none, 0, 11)) rfl (HM.out.fin _ _ _ _)
theorem value_d2 {w : World} {a : Option Addr} {cap L : Nat} (last : Bool) (x : Tk) (f tt D : Int) (hk : x.kind = 2) (hD : 64 ≤ D) :
   Calls Tryz.prog 42 #[.slice a L cap, .agg (tokN x f tt), .bool last, .int .i64 D] w (DocEnd w (PV.none, 0, 15)) := by
 unfold tokN
 rw [hk]
 clear hk
 generalize x.vk = xvk at *
 generalize x.vn = xvn at *
 generalize mkB x.vs = xvb at *
 generalize mkB x.s = xb at *
 have d1 : decide (64 ≤ D) = true := decide_eq_true hD
 clear hD
 go_enter Tryz.func42, Tryz.ntmps42
 obtain ⟨B, hB⟩ : ∃ B, B = w.heap.size := ⟨_, rfl⟩
 have HM := Lib.hid (DvM.start w #[.int .i64 2, .int .i64 f, .int .i64 tt, .int .i64 xvk, .int .i64 xvn, .string xvb, .slice none 0 0, .string xb] hB)
 go_upto_region 2 with fail
 rw [← hB]
 clear hB
 generalize ((w.alloc _).alloc _).alloc _ = W1 at *
 obtain ⟨⟨k0, k1, k2, k3, k4, k5, k6, k7⟩, -⟩ := cells8 HM.out.b0
 obtain ⟨⟨n0, n1, n2, n3⟩, -⟩ := cells4 HM.out.b2
 obtain ⟨⟨r0, r1, r2, r3⟩, rf0, rf1, rf2, rf3⟩ := cells4 HM.out.b1
 go_wp2
 refine bodyPost_ret (results_val3 rfl _ _ (B + 1) 24 _ (0, 0) _ rfl (by exact set4 HM.out.b1 _ _ _ _) Tryz.underlying24 rfl (by exact infoPV) _ _ rfl rfl) rfl ?_
 exact leaf_end (R := (PV.none, 0, 15)) rfl (HM.out.fin _ _ _ _)
theorem value_d4 {w : World} {a : Option Addr} {cap L : Nat} (last : Bool) (x : Tk) (f tt D : Int) (hk : x.kind = 4) (hD : 64 ≤ D) :
   Calls Tryz.prog 42 #[.slice a L cap, .agg (tokN x f tt), .bool last, .int .i64 D] w (DocEnd w (PV.none, 0, 15)) := by
 unfold tokN
 rw [hk]
 clear hk
 generalize x.vk = xvk at *
 generalize x.vn = xvn at *
 generalize mkB x.vs = xvb at *
 generalize mkB x.s = xb at *
 have d1 : decide (64 ≤ D) = true := decide_eq_true hD
 clear hD
 go_enter Tryz.func42, Tryz.ntmps42
 obtain ⟨B, hB⟩ : ∃ B, B = w.heap.size := ⟨_, rfl⟩
 have HM := Lib.hid (DvM.start w #[.int .i64 4, .int .i64 f, .int .i64 tt, .int .i64 xvk, .int .i64 xvn, .string xvb, .slice none 0 0, .string xb] hB)
 go_upto_region 2 with fail
 rw [← hB]
 clear hB
 generalize ((w.alloc _).alloc _).alloc _ = W1 at *
 obtain ⟨⟨k0, k1, k2, k3, k4, k5, k6, k7⟩, -⟩ := cells8 HM.out.b0
 obtain ⟨⟨n0, n1, n2, n3⟩, -⟩ := cells4 HM.out.b2
 obtain ⟨⟨r0, r1, r2, r3⟩, rf0, rf1, rf2, rf3⟩ := cells4 HM.out.b1
 go_wp2
 refine bodyPost_ret (results_val3 rfl _ _ (B + 1) 24 _ (0, 0) _ rfl (by exact set4 HM.out.b1 _ _ _ _) Tryz.underlying24 rfl (by exact infoPV) _ _ rfl rfl) rfl ?_
 exact leaf_end (R := (PV.none, 0, 15)) rfl (HM.out.fin _ _ _ _)
theorem value_o2 {w : World} {a : Option Addr} {cap L : Nat} (last : Bool) (x : Tk) (f tt D : Int) (hk : x.kind = 2) (hD : ¬ 64 ≤ D) (hD0 : 0 ≤ D) {R : PV × Int × Int} (hA : ∀ W, Below w.heap.size w W → Calls Tryz.prog 76 #[.slice a L cap, .int .i64 tt, .bool last, .int .i64 (D + 1)] W (DocEnd W R)) :
   Calls Tryz.prog 42 #[.slice a L cap, .agg (tokN x f tt), .bool last, .int .i64 D] w (DocEnd w R) := by
 unfold tokN
 rw [hk]
 clear hk
 generalize x.vk = xvk at *
 generalize x.vn = xvn at *
 generalize mkB x.vs = xvb at *
 generalize mkB x.s = xb at *
 have d1 : decide (64 ≤ D) = false := decide_eq_false hD
 have d2 : IntKind.i64.wrap (D + 1) = D + 1 := IntWalk.i64_in _ (by omega)
 have d3 : D < 64 := by omega
 have HA := Lib.hid hA
 clear hD hA
 go_enter Tryz.func42, Tryz.ntmps42
 obtain ⟨B, hB⟩ : ∃ B, B = w.heap.size := ⟨_, rfl⟩
 have HM := Lib.hid (DvM.start w #[.int .i64 2, .int .i64 f, .int .i64 tt, .int .i64 xvk, .int .i64 xvn, .string xvb, .slice none 0 0, .string xb] hB)
 go_upto_region 2 with fail
 rw [← hB]
 clear hB
 generalize ((w.alloc _).alloc _).alloc _ = W1 at *
 obtain ⟨⟨k0, k1, k2, k3, k4, k5, k6, k7⟩, -⟩ := cells8 HM.out.b0
 obtain ⟨⟨n0, n1, n2, n3⟩, -⟩ := cells4 HM.out.b2
 obtain ⟨⟨r0, r1, r2, r3⟩, rf0, rf1, rf2, rf3⟩ := cells4 HM.out.b1
 go_wp2_with fail
 refine (HA.out _ HM.out.bel).mono ?_
 rintro e w4 ⟨sl, rfl, hV, hb⟩
 have HM4 := Lib.hid (HM.out.keep hb)
 obtain ⟨sa, sc, rfl, -⟩ := hV.len
 have HV := Lib.hid hV
 have hlb : B + 1 < W1.heap.size := lt_of_heap HM.out.b1
 have HL := Lib.hid hlb
 have hwB := HM.out.hB
 have HWB := Lib.hid (show w.heap.size ≤ W1.heap.size by omega)
 clear hb hV HA k0 k1 k2 k3 k4 k5 k6 k7 n0 n1 n2 n3 r0 r1 r2 r3 rf0 rf1 rf2 rf3 hlb hwB
 obtain ⟨⟨r0, r1, r2, r3⟩, rf0, rf1, rf2, rf3⟩ := cells4 HM4.out.b1
 unfold pvA
 go_wp2
 refine bodyPost_ret (results_val3 rfl _ _ (B + 1) 24 _ (0, 0) _ rfl (by exact set4 HM4.out.b1 _ _ _ _) Tryz.underlying24 rfl (by exact infoPV) _ _ rfl rfl) rfl ?_
 exact ⟨_, rfl, IsV.keep (F := fun b => W1.heap.size ≤ b) ⟨by rw [set4_size]; exact Nat.le_refl _, fun b _ hb => set4_other (by have := HL.out; omega) _ _ _ _⟩ (fun b hb => Nat.le_trans HWB.out hb) _ HV.out, HM4.out.fin _ _ _ _⟩
theorem value_o4 {w : World} {a : Option Addr} {cap L : Nat} (last : Bool) (x : Tk) (f tt D : Int) (hk : x.kind = 4) (hD : ¬ 64 ≤ D) (hD0 : 0 ≤ D) {R : PV × Int × Int} (hA : ∀ W, Below w.heap.size w W → Calls Tryz.prog 77 #[.slice a L cap, .int .i64 tt, .bool last, .int .i64 (D + 1)] W (DocEnd W R)) :
   Calls Tryz.prog 42 #[.slice a L cap, .agg (tokN x f tt), .bool last, .int .i64 D] w (DocEnd w R) := by
 unfold tokN
 rw [hk]
 clear hk
 generalize x.vk = xvk at *
 generalize x.vn = xvn at *
 generalize mkB x.vs = xvb at *
 generalize mkB x.s = xb at *
 have d1 : decide (64 ≤ D) = false := decide_eq_false hD
 have d2 : IntKind.i64.wrap (D + 1) = D + 1 := IntWalk.i64_in _ (by omega)
 have d3 : D < 64 := by omega
 have HA := Lib.hid hA
 clear hD hA
 go_enter Tryz.func42, Tryz.ntmps42
 obtain ⟨B, hB⟩ : ∃ B, B = w.heap.size := ⟨_, rfl⟩
 have HM := Lib.hid (DvM.start w #[.int .i64 4, .int .i64 f, .int .i64 tt, .int .i64 xvk, .int .i64 xvn, .string xvb, .slice none 0 0, .string xb] hB)
 go_upto_region 2 with fail
 rw [← hB]
 clear hB
 generalize ((w.alloc _).alloc _).alloc _ = W1 at *
 obtain ⟨⟨k0, k1, k2, k3, k4, k5, k6, k7⟩, -⟩ := cells8 HM.out.b0
 obtain ⟨⟨n0, n1, n2, n3⟩, -⟩ := cells4 HM.out.b2
 obtain ⟨⟨r0, r1, r2, r3⟩, rf0, rf1, rf2, rf3⟩ := cells4 HM.out.b1
 go_wp2_with fail
 refine (HA.out _ HM.out.bel).mono ?_
 rintro e w4 ⟨sl, rfl, hV, hb⟩
 have HM4 := Lib.hid (HM.out.keep hb)
 obtain ⟨sa, sc, rfl, -⟩ := hV.len
 have HV := Lib.hid hV
 have hlb : B + 1 < W1.heap.size := lt_of_heap HM.out.b1
 have HL := Lib.hid hlb
 have hwB := HM.out.hB
 have HWB := Lib.hid (show w.heap.size ≤ W1.heap.size by omega)
 clear hb hV HA k0 k1 k2 k3 k4 k5 k6 k7 n0 n1 n2 n3 r0 r1 r2 r3 rf0 rf1 rf2 rf3 hlb hwB
 obtain ⟨⟨r0, r1, r2, r3⟩, rf0, rf1, rf2, rf3⟩ := cells4 HM4.out.b1
 unfold pvA
 go_wp2
 refine bodyPost_ret (results_val3 rfl _ _ (B + 1) 24 _ (0, 0) _ rfl (by exact set4 HM4.out.b1 _ _ _ _) Tryz.underlying24 rfl (by exact infoPV) _ _ rfl rfl) rfl ?_
 exact ⟨_, rfl, IsV.keep (F := fun b => W1.heap.size ≤ b) ⟨by rw [set4_size]; exact Nat.le_refl _, fun b _ hb => set4_other (by have := HL.out; omega) _ _ _ _⟩ (fun b hb => Nat.le_trans HWB.out hb) _ HV.out, HM4.out.fin _ _ _ _⟩
def dctV (ps : List (PV × PV)) : PV := .mk 7 0 [] (flatV ps)
theorem IsV.pair {w : World} {F : Nat → Prop} {ps : List (PV × PV)} {a : Option Addr} {n cap : Nat} (h : IsV w F (dctV ps) (.slice a n cap)) {j : Nat} {y : PV × PV} (hy : ps[j]? = some y) :
   ∃ b off s1 s2, a = some ⟨b, off, none⟩ ∧ IsV w F y.1 s1 ∧ IsV w F y.2 s2 ∧
     w.cell? ⟨b, off + 2 * j * 4, none⟩ = some (.int .i64 y.1.kind) ∧ w.cell? ⟨b, off + 2 * j * 4 + 1, none⟩ = some (.int .i64 y.1.n) ∧ w.cell? ⟨b, off + 2 * j * 4 + 2, none⟩ = some (.string (mkB y.1.s)) ∧ w.cell? ⟨b, off + 2 * j * 4 + 3, none⟩ = some s1 ∧
     w.cell? ⟨b, off + (2 * j + 1) * 4, none⟩ = some (.int .i64 y.2.kind) ∧ w.cell? ⟨b, off + (2 * j + 1) * 4 + 1, none⟩ = some (.int .i64 y.2.n) ∧ w.cell? ⟨b, off + (2 * j + 1) * 4 + 2, none⟩ = some (.string (mkB y.2.s)) ∧ w.cell? ⟨b, off + (2 * j + 1) * 4 + 3, none⟩ = some s2 := by
 have hjl := (List.getElem?_eq_some_iff.1 hy).1
 have hn : n = (flatV ps).length := by obtain ⟨a', cap', e, _⟩ := h.len; cases e; rfl
 obtain ⟨-, -, -, b, off, rfl, -, -, hx⟩ := h.at (by rw [hn, flat_lenD]; omega)
 obtain ⟨f1, f2⟩ := flat_at ps j y hy
 obtain ⟨s1, h1, c0, c1, c2, c3⟩ := hx _ _ f1
 obtain ⟨s2, h2, d0, d1, d2, d3⟩ := hx _ _ f2
 exact ⟨b, off, s1, s2, rfl, h1, h2, c0, c1, c2, c3, d0, d1, d2, d3⟩
def findI (key : List UInt8) (ps : List (PV × PV)) : Int := if fIx key ps < ps.length then ((2 * fIx key ps : Nat) : Int) else -1
theorem find_any {w : World} {F : Nat → Prop} {ps : List (PV × PV)} {sl : Value} (hv : IsV w F (dctV ps) sl) (h5 : ∀ y ∈ ps, y.1.kind = 5) (key : List UInt8) :
   Calls Tryz.prog 107 #[pvA (dctV ps) sl, .string (mkB key)] w fun e w' => e = .returned (.int .i64 (findI key ps)) ∧ Below w.heap.size w w' := by
 obtain ⟨a1, cap1, e1, g1, g2, -⟩ := hv.len
 subst e1
 obtain ⟨N, hN⟩ : ∃ N, N = (dctV ps).l.length := ⟨_, rfl⟩
 have hN2 : N = 2 * ps.length := by rw [hN]; exact flat_lenD ps
 rw [← hN] at hv g1 ⊢
 have HA := Lib.hid hv
 have m1 : (N : Int) ≤ 9223372036854775807 := by unfold maxLen at g2; omega
 have HNN := Lib.hid hN2
 have H5 := Lib.hid h5
 obtain ⟨R, hR⟩ : ∃ R, R = findI key ps := ⟨_, rfl⟩
 have HR := Lib.hid hR
 rw [← hR]
 unfold pvA
 rw [show (dctV ps).kind = 7 from rfl, show (dctV ps).n = 0 from rfl, show mkB (dctV ps).s = ⟨#[]⟩ from rfl]
 have HE := Lib.hid (fun (x : List UInt8) => show ((mkB x).toList == (mkB key).toList) = decide (x = key) by rw [toList_mkB key]; exact eq_mkB x key)
 clear hv hN hN2 h5 hR
 generalize mkB key = ks at *
 go_enter Tryz.func107, Tryz.ntmps107
 obtain ⟨B, hB⟩ : ∃ B, B = w.heap.size := ⟨_, rfl⟩
 have HX1 := Lib.hid (heapA_new (w := w) (b := B) (.cells #[.int .i64 7, .int .i64 0, .string ⟨#[]⟩, .slice a1 N cap1] 24) hB)
 have HW := Lib.hid (belowA w (.cells #[.int .i64 7, .int .i64 0, .string ⟨#[]⟩, .slice a1 N cap1] 24))
 go_wp2
 rw [← hB]
 clear hB
 generalize w.alloc _ = W1 at *
 obtain ⟨⟨c0, c1, c2, c3⟩, -⟩ := cells4 HX1.out
 go_loopw [5] (fun vk wr => ∃ j K : Nat, vk = .int .i64 K ∧ Hid (K = 2 * j) ∧ K ≤ N ∧ wr = W1 ∧ Hid (j ≤ fIx key ps)) (fun vk _ => N - (intOf vk).toNat)
 case atStart => exact ⟨0, 0, rfl, rfl, Nat.zero_le _, rfl, Nat.zero_le _⟩
 case round =>
   obtain ⟨j, K, rfl, HK, hK, hwr, HJ⟩ := hrel
   rw [hwr]
   clear hwr
   by_cases q1 : K < N
   case neg =>
     have hd1 : decide (K < N) = false := decide_eq_false q1
     have hd2 : decide ((K : Int) < (N : Int)) = false := decide_eq_false (by omega)
     have hq2 : ¬ (K : Int) < (N : Int) := by omega
     have hr : R = -1 := by
       rw [HR.out]
       unfold findI
       have h1 := HK.out
       have h2 := HNN.out
       have h3 := HJ.out
       rw [if_neg (by omega)]
     subst hr
     clear HE H5 HK HJ HR
     go_wp2
     go_ret
     exact ⟨rfl, HW.out⟩
   have hjl : j < ps.length := by
     have h1 := HK.out
     have h2 := HNN.out
     omega
   obtain ⟨y, hy⟩ : ∃ y, ps[j]? = some y := ⟨_, List.getElem?_eq_getElem hjl⟩
   obtain ⟨b1, o1, sy, sz, rfl, -, -, y0, -, y2, -⟩ := (HA.out.below HW.out).pair hy
   rw [H5.out y (List.mem_of_getElem? hy), ← HK.out] at y0
   rw [← HK.out] at y2
   have hE := HE.out y.1.s
   have hNe : K + 2 ≤ N := by have h1 := HK.out; have h2 := HNN.out; omega
   have hkl : (0 : Int) ≤ (K : Int) := by omega
   have hki : (K : Int) < (N : Int) := by omega
   have hd1 : decide (K < N) = true := decide_eq_true q1
   have hd2 : decide ((K : Int) < (N : Int)) = true := decide_eq_true hki
   by_cases hj : j = fIx key ps
   · have hs : y.1.s = key := fIx_eq key ps y (by rw [← hj]; exact hy)
     rw [decide_eq_true hs] at hE
     have hr : R = (K : Int) := by
       rw [HR.out]
       unfold findI
       rw [if_pos (by omega), ← hj, HK.out]
     subst hr
     generalize mkB y.1.s = ys at *
     clear HE H5 HK HJ HR hy hj hs hjl
     go_wp2
     go_ret
     exact ⟨rfl, HW.out⟩
   · have hj2 : j < fIx key ps := by have := HJ.out; omega
     have hs : y.1.s ≠ key := fIx_ne key ps j y hj2 hy
     rw [decide_eq_false hs] at hE
     generalize mkB y.1.s = ys at *
     have HJ2 := Lib.hid hj2
     clear HE H5 HR hy hj hs hjl hj2
     go_wp2
     go_roundw
     case rel => exact ⟨j + 1, K + 2, by go_num, by have := HK.out; show K + 2 = 2 * (j + 1); omega, hNe, trivial, HJ2.out⟩
     case measure => simp [intOf]; omega
theorem one4 (k n : Int) (s : ByteArray) (a : Option Addr) (m c : Nat) : ∀ u ∈ [Value.int .i64 k, .int .i64 n, .string s, .slice a m c], u.oneCell' = true := by
 intro u hu
 simp at hu
 rcases hu with rfl | rfl | rfl | rfl <;> rfl
theorem one8 (k n : Int) (s : ByteArray) (a : Option Addr) (m c : Nat) (k2 n2 : Int) (s2 : ByteArray) (a2 : Option Addr) (m2 c2 : Nat) : ∀ u ∈ [Value.int .i64 k, .int .i64 n, .string s, .slice a m c, .int .i64 k2, .int .i64 n2, .string s2, .slice a2 m2 c2], u.oneCell' = true := by
 intro u hu
 simp at hu
 rcases hu with rfl | rfl | rfl | rfl | rfl | rfl | rfl | rfl <;> rfl
theorem row_newE1 (w : World) (cs : Array Value) (e : TypeId) (n : Nat) (hn : cs.size = n) : Row (w.alloc (.cells cs e)) n (some ⟨w.heap.size, 0, none⟩) 1 1 cs.toList :=
 ⟨by simp [hn], Nat.le_refl _, by simp [maxLen], fun h => (by cases h), fun _ => ⟨w.heap.size, 0, rfl, by rw [sizeA]; omega, fun j u hj => by
   rw [Nat.zero_add, cell_of_row _ _ _ _ _ _ (heapA_new _ rfl)]; simpa using hj⟩⟩
theorem row_newM2 (w : World) (cs : Array Value) (e : TypeId) (hn : cs.size = 8) : Row (w.alloc (.cells cs e)) 4 (some ⟨w.heap.size, 0, none⟩) 2 2 cs.toList :=
 ⟨by simp [hn], Nat.le_refl _, by simp [maxLen], fun h => (by cases h), fun _ => ⟨w.heap.size, 0, rfl, by rw [sizeA]; omega, fun j u hj => by
   rw [Nat.zero_add, cell_of_row _ _ _ _ _ _ (heapA_new _ rfl)]; simpa using hj⟩⟩
theorem put_fin {w wr W : World} {F : Nat → Prop} {L : List PV} {v : Value} {n : Nat} {cs : List Value} {Q : Nat} (hO : wr.ownsRow Q 24 4 v n cs) (hVs : IsVs w F L cs) (hQ : w.heap.size ≤ Q) (hk : ∀ b, Q ≤ b → W.heap[b]? = wr.heap[b]?) (hb : Below w.heap.size w W) (k : Int) :
   IsV W (fun b => F b ∨ w.heap.size ≤ b) (.mk k 0 [] L) v := by
 obtain ⟨a, cap, rfl, hr, hbase⟩ := Row.of_owns (owns_heap hO (w' := W) (fun b hb => hk b (hO.lt b hb).1))
 have h1 := hVs.length
 have h2 : cs.length = n * 4 := hr.1
 have h3 : n = L.length := by omega
 subst h3
 exact IsV.mk (v := .mk k 0 [] L) hr (fun _ x hx => .inr (Nat.le_trans hQ (hbase x hx))) (IsVs.keep (Stays.of_below hb) (fun b h => .inl h) _ hVs)
structure PutM (w W : World) (B : Nat) (dc xc : Array Value) : Prop where
 b0 : W.heap[B]? = some (.cells dc 24 (0, 0))
 b1 : W.heap[B + 1]? = some (.cells xc 24 (0, 0))
 b2 : W.heap[B + 1 + 1]? = some (.cells #[.int .i64 0, .int .i64 0, .string ⟨#[]⟩, .slice none 0 0] 24 (0, 0))
 bel : Below w.heap.size w W
 hB : B = w.heap.size
theorem PutM.keep {w W W' : World} {B : Nat} {dc xc : Array Value} (h : PutM w W B dc xc) (hb : Below W.heap.size W W') : PutM w W' B dc xc :=
 ⟨block_keep hb h.b0, block_keep hb h.b1, block_keep hb h.b2, h.bel.trans (hb.mono h.bel.size), h.hB⟩
def PairAt (w : World) (b o K : Nat) (yk yn : Int) (ys : ByteArray) (yv : Value) (zk zn : Int) (zs : ByteArray) (zv : Value) : Prop :=
 (w.cell? ⟨b, o + K * 4, none⟩ = some (.int .i64 yk) ∧ w.cell? ⟨b, o + K * 4 + 1, none⟩ = some (.int .i64 yn) ∧ w.cell? ⟨b, o + K * 4 + 2, none⟩ = some (.string ys) ∧ w.cell? ⟨b, o + K * 4 + 3, none⟩ = some yv) ∧
 (w.cell? ⟨b, o + (K + 1) * 4, none⟩ = some (.int .i64 zk) ∧ w.cell? ⟨b, o + (K + 1) * 4 + 1, none⟩ = some (.int .i64 zn) ∧ w.cell? ⟨b, o + (K + 1) * 4 + 2, none⟩ = some (.string zs) ∧ w.cell? ⟨b, o + (K + 1) * 4 + 3, none⟩ = some zv)
theorem PairAt.keep {w W : World} {b o K : Nat} {yk yn : Int} {ys : ByteArray} {yv : Value} {zk zn : Int} {zs : ByteArray} {zv : Value} (h : PairAt w b o K yk yn ys yv zk zn zs zv) (hb : Below w.heap.size w W) : PairAt W b o K yk yn ys yv zk zn zs zv :=
 let ⟨⟨a1, a2, a3, a4⟩, c1, c2, c3, c4⟩ := h
 ⟨⟨cell?_keep hb a1, cell?_keep hb a2, cell?_keep hb a3, cell?_keep hb a4⟩, cell?_keep hb c1, cell?_keep hb c2, cell?_keep hb c3, cell?_keep hb c4⟩
theorem putm_end {w W2 wr : World} {B : Nat} {dc xc : Array Value} (h : PutM w W2 B dc xc) (hb : Below W2.heap.size W2 wr) (v y0 y1 y2 y3 : Value) :
   Below w.heap.size w (((((wr.setCell ⟨B, 3, none⟩ v).setCell ⟨B + 1 + 1, 0, none⟩ y0).setCell ⟨B + 1 + 1, 1, none⟩ y1).setCell ⟨B + 1 + 1, 2, none⟩ y2).setCell ⟨B + 1 + 1, 3, none⟩ y3) ∧
   (∀ b, W2.heap.size ≤ b → (((((wr.setCell ⟨B, 3, none⟩ v).setCell ⟨B + 1 + 1, 0, none⟩ y0).setCell ⟨B + 1 + 1, 1, none⟩ y1).setCell ⟨B + 1 + 1, 2, none⟩ y2).setCell ⟨B + 1 + 1, 3, none⟩ y3).heap[b]? = wr.heap[b]?) ∧
   (((((wr.setCell ⟨B, 3, none⟩ v).setCell ⟨B + 1 + 1, 0, none⟩ y0).setCell ⟨B + 1 + 1, 1, none⟩ y1).setCell ⟨B + 1 + 1, 2, none⟩ y2).setCell ⟨B + 1 + 1, 3, none⟩ y3).heap[B + 1 + 1]? = some (.cells #[y0, y1, y2, y3] 24 (0, 0)) := by
 have h2 := h.keep hb
 have hB := h.hB
 have hl := lt_of_heap h.b2
 refine ⟨below_set4 (h2.bel.setCell (by show w.heap.size ≤ B; omega) _) (by omega) _ _ _ _, fun b hq => ?_, set4 ((heap_setCell_other _ _ _ _ (by show B + 1 + 1 ≠ B; omega)).trans h2.b2) _ _ _ _⟩
 rw [set4_other (by omega), heap_setCell_other _ _ _ _ (by show b ≠ B; omega)]
theorem put_rep {w : World} {F : Nat → Prop} {ps : List (PV × PV)} {sl : Value} (hv : IsV w F (dctV ps) sl) (h5 : ∀ y ∈ ps, y.1.kind = 5) (key : List UInt8) {x : PV} {sx : Value} (hx : IsV w F x sx) (hm : ps.length ≤ 400000) (hh : fIx key ps < ps.length) :
   Calls Tryz.prog 108 #[pvA (dctV ps) sl, .string (mkB key), pvA x sx] w fun e w' => ∃ s', e = .returned (pvA (dctV (repK (.mk 5 0 key [], x) ps)) s') ∧ IsV w' (fun b => F b ∨ w.heap.size ≤ b) (dctV (repK (.mk 5 0 key [], x) ps)) s' ∧ Below w.heap.size w w' := by
 obtain ⟨a1, cap1, e1, g1, g2, -⟩ := hv.len
 subst e1
 obtain ⟨ax, cx, ex, -⟩ := hx.len
 subst ex
 have HFI := Lib.hid (fun (W : World) (h : Below w.heap.size w W) => find_any (hv.below h) h5 key)
 obtain ⟨N, hN⟩ : ∃ N, N = (dctV ps).l.length := ⟨_, rfl⟩
 have hN2 : N = 2 * ps.length := by rw [hN]; exact flat_lenD ps
 rw [← hN] at hv g1 HFI ⊢
 obtain ⟨A, hA⟩ : ∃ A, A = findI key ps := ⟨_, rfl⟩
 rw [← hA] at HFI
 have HA := Lib.hid hv
 have m0 : N ≤ 800000 := by omega
 have m1 : (N : Int) ≤ 9223372036854775807 := by omega
 have HNN := Lib.hid hN2
 have H5 := Lib.hid h5
 have HX := Lib.hid hx
 have HHH := Lib.hid hh
 obtain ⟨X, hX⟩ : ∃ X : PV × PV, X = (.mk 5 0 key [], x) := ⟨_, rfl⟩
 rw [← hX]
 unfold pvA at HFI ⊢
 rw [show (dctV ps).kind = 7 from rfl, show (dctV ps).n = 0 from rfl, show mkB (dctV ps).s = ⟨#[]⟩ from rfl] at HFI ⊢
 obtain ⟨M, hM⟩ : ∃ M, M = x.l.length := ⟨_, rfl⟩
 rw [← hM] at HX ⊢
 obtain ⟨xk, hxk⟩ : ∃ k, k = x.kind := ⟨_, rfl⟩
 obtain ⟨xn, hxn⟩ : ∃ k, k = x.n := ⟨_, rfl⟩
 obtain ⟨xs, hxs⟩ : ∃ k, k = mkB x.s := ⟨_, rfl⟩
 rw [← hxk, ← hxn, ← hxs]
 have HXV := Lib.hid (show ∀ (l : List PV) (cs : List Value), IsVs w F l cs → IsVs w F (l ++ [x]) (cs ++ [.int .i64 xk, .int .i64 xn, .string xs, .slice ax M cx]) from fun l cs h => by rw [hxk, hxn, hxs]; exact h.snoc HX.out)
 have HST := Lib.hid (fun (j : Nat) (y : PV × PV) (hy : ps[j]? = some y) => show flatV ((repK X ps).take (j + 1)) = flatV ((repK X ps).take j) ++ [y.1, if j = fIx key ps then x else y.2] by subst hX; exact rep_step _ ps j y hy)
 have HRL := Lib.hid (show (repK X ps).length = ps.length from rep_len X ps)
 obtain ⟨A', hA1, hA2⟩ : ∃ A' : Nat, A = (A' : Int) ∧ A' = 2 * fIx key ps := ⟨2 * fIx key ps, by rw [hA]; unfold findI; rw [if_pos hh], rfl⟩
 subst hA1
 have HA2 := Lib.hid hA2
 have hAd : decide ((A' : Int) < 0) = false := decide_eq_false (by omega)
 have hA0 : (0 : Int) ≤ (A' : Int) := by omega
 clear hA2
 generalize mkB key = ks at *
 clear hv hN hN2 h5 hx hh hA hX hM hxk hxn hxs HX g1 g2
 go_enter Tryz.func108, Tryz.ntmps108
 obtain ⟨B, hB⟩ : ∃ B, B = w.heap.size := ⟨_, rfl⟩
 have HM0 := Lib.hid (show PutM w (((w.alloc (.cells #[.int .i64 7, .int .i64 0, .string ⟨#[]⟩, .slice a1 N cap1] 24)).alloc (.cells #[.int .i64 xk, .int .i64 xn, .string xs, .slice ax M cx] 24)).alloc (.cells #[.int .i64 0, .int .i64 0, .string ⟨#[]⟩, .slice none 0 0] 24)) B #[.int .i64 7, .int .i64 0, .string ⟨#[]⟩, .slice a1 N cap1] #[.int .i64 xk, .int .i64 xn, .string xs, .slice ax M cx] from
   ⟨heapA_old _ (heapA_old _ (heapA_new _ hB)), heapA_old _ (heapA_new _ (by rw [sizeA, hB])), heapA_new _ (by rw [sizeA, sizeA, hB]), belowA3 _ _ _ _, hB⟩)
 go_upto_region 1 with fail
 rw [← hB]
 clear hB
 generalize ((w.alloc _).alloc _).alloc _ = W1 at *
 obtain ⟨⟨c0, c1, c2, c3⟩, -⟩ := cells4 HM0.out.b0
 go_wp2_with fail
 refine (HFI.out _ HM0.out.bel).mono ?_
 rintro e W2 ⟨rfl, hb2⟩
 have HM := Lib.hid (HM0.out.keep hb2)
 clear hb2 c0 c1 c2 c3 HFI HM0
 go_wp2
 go_loopw [7, 9, 10] (fun vo vd vk wr => ∃ (j K n : Nat) (cs : List Value), vd = .bool false ∧ vk = .int .i64 K ∧ Hid (K = 2 * j) ∧ K ≤ N ∧ n ≤ K ∧ Hid (wr.ownsRow W2.heap.size 24 4 vo n cs) ∧ Hid (IsVs w F (flatV ((repK X ps).take j)) cs) ∧ Hid (Below W2.heap.size W2 wr)) (fun _ _ vk _ => N - (intOf vk).toNat)
 case atStart => exact ⟨0, 0, 0, [], rfl, rfl, rfl, Nat.zero_le _, Nat.le_refl _, World.ownsRow_nil _ _ _ _, rfl, Below.refl _ _⟩
 case round =>
   obtain ⟨j, K, n, cs, rfl, rfl, HK, hK, hn, HO, HV, HB⟩ := hrel
   by_cases q1 : K < N
   case neg =>
     have hd1 : decide (K < N) = false := decide_eq_false q1
     have hd2 : decide ((K : Int) < (N : Int)) = false := decide_eq_false (by omega)
     have hq2 : ¬ (K : Int) < (N : Int) := by omega
     have hfl : flatV ((repK X ps).take j) = flatV (repK X ps) := by
       rw [List.take_of_length_le (by have h1 := HK.out; have h2 := HNN.out; have h3 := HRL.out; omega)]
     have HV2 := Lib.hid (hfl ▸ HV.out)
     obtain ⟨⟨c0, c1, c2, c3⟩, fz0, fz1, fz2, fz3⟩ := cells4 (HM.out.keep HB.out).b0
     obtain ⟨⟨d0, d1, d2, d3⟩, -⟩ := cells4 (HM.out.keep HB.out).b1
     obtain ⟨⟨x0, x1, x2, x3⟩, gz0, gz1, gz2, gz3⟩ := cells4 (HM.out.keep HB.out).b2
     clear hfl HK HST HA2 HHH HV HNN HRL
     obtain ⟨va, vc, hve, -⟩ := owns_slice HO.out
     subst hve
     go_wp2
     obtain ⟨e1, e2, e3⟩ := putm_end HM.out HB.out (.slice va n vc) (.int .i64 7) (.int .i64 0) (.string ⟨#[]⟩) (.slice va n vc)
     refine bodyPost_ret (results_cell_row rfl _ _ (B + 1 + 1) 24 _ (0, 0) _ rfl (by exact e3) Tryz.underlying24 rfl (by exact infoPV)) rfl ?_
     exact ⟨(.slice va n vc), rfl, put_fin HO.out HV2.out HM.out.bel.size e2 e1 7, e1⟩
   have hjl : j < ps.length := by
     have h1 := HK.out
     have h2 := HNN.out
     omega
   obtain ⟨y, hy⟩ : ∃ y, ps[j]? = some y := ⟨_, List.getElem?_eq_getElem hjl⟩
   obtain ⟨b1, o1, sy, sz, rfl, hvy, hvz, y0, y1, y2, y3, z0, z1, z2, z3⟩ := HA.out.pair hy
   obtain ⟨ya, yc, rfl, -⟩ := hvy.len
   obtain ⟨za, zc, rfl, -⟩ := hvz.len
   rw [← HK.out] at y0 y1 y2 y3 z0 z1 z2 z3
   rw [H5.out y (List.mem_of_getElem? hy)] at y0
   have HP := Lib.hid (show PairAt w b1 o1 K 5 y.1.n (mkB y.1.s) (.slice ya y.1.l.length yc) y.2.kind y.2.n (mkB y.2.s) (.slice za y.2.l.length zc) from ⟨⟨y0, y1, y2, y3⟩, z0, z1, z2, z3⟩)
   clear y0 y1 y2 y3 z0 z1 z2 z3
   have HYV := Lib.hid (show ∀ (l : List PV) (cs : List Value), IsVs w F l cs → IsVs w F (l ++ [y.1]) (cs ++ [.int .i64 5, .int .i64 y.1.n, .string (mkB y.1.s), .slice ya y.1.l.length yc]) from fun l cs h => by have h2 := h.snoc hvy; unfold pvC at h2; rw [H5.out y (List.mem_of_getElem? hy)] at h2; exact h2)
   have HZV := Lib.hid (show ∀ (l : List PV) (cs : List Value), IsVs w F l cs → IsVs w F (l ++ [y.2]) (cs ++ [.int .i64 y.2.kind, .int .i64 y.2.n, .string (mkB y.2.s), .slice za y.2.l.length zc]) from fun l cs h => h.snoc hvz)
   have hkl : (0 : Int) ≤ (K : Int) := by omega
   have hki : (K : Int) < (N : Int) := by omega
   have hd1 : decide (K < N) = true := decide_eq_true q1
   have hd2 : decide ((K : Int) < (N : Int)) = true := decide_eq_true hki
   have hNe : K + 2 ≤ N := by have h1 := HK.out; have h2 := HNN.out; omega
   have hkl1 : (0 : Int) ≤ (K : Int) + 1 := by omega
   have hki1 : (K : Int) + 1 < (N : Int) := by omega
   have hd3 : decide ((K : Int) + 1 < (N : Int)) = true := decide_eq_true hki1
   have hkw : IntKind.i64.wrap ((K : Int) + 1) = (K : Int) + 1 := IntWalk.i64_in _ (by omega)
   have hkn : ((K : Int) + 1).toNat = K + 1 := by omega
   have hst := HST.out j y hy
   obtain ⟨⟨c0, c1, c2, c3⟩, fz0, fz1, fz2, fz3⟩ := cells4 (HM.out.keep HB.out).b0
   obtain ⟨⟨d0, d1, d2, d3⟩, -⟩ := cells4 (HM.out.keep HB.out).b1
   obtain ⟨⟨y0, y1, y2, y3⟩, z0, z1, z2, z3⟩ := HP.out.keep (HM.out.keep HB.out).bel
   by_cases hj : j = fIx key ps
   · rw [if_pos hj] at hst
     have hKA : K = A' := by have h1 := HA2.out; have h2 := HK.out; omega
     have hAe : ((K : Int) == (A' : Int)) = true := by rw [hKA]; exact beq_self_eq_true _
     have hAf : decide (K = A') = true := decide_eq_true hKA
     have HST2 := Lib.hid (show ∀ cs', IsVs w F (flatV ((repK X ps).take j)) cs' → IsVs w F (flatV ((repK X ps).take (j + 1))) ((cs' ++ [.int .i64 5, .int .i64 y.1.n, .string (mkB y.1.s), .slice ya y.1.l.length yc]) ++ [.int .i64 xk, .int .i64 xn, .string xs, .slice ax M cx]) from fun cs' h => by
       rw [hst]
       have h2 := HXV.out _ _ (HYV.out _ _ h)
       rwa [List.append_assoc] at h2)
     clear hst hvy hvz HYV HZV hKA hj hjl hy HST
     generalize y.1.n = yn at *
     generalize mkB y.1.s = ys at *
     generalize y.1.l.length = yl at *
     generalize y.2.kind = zk at *
     generalize y.2.n = zn at *
     generalize mkB y.2.s = zs at *
     generalize y.2.l.length = zl at *
     go_upto_region 13 with (at_builtin; refine append_row EPV rfl _ _ rfl W2.heap.size _ n cs rfl (HO.out.alloc _) _ 1 _ _ rfl (row_newE1 _ #[.int .i64 5, .int .i64 yn, .string ys, .slice ya yl yc] _ 4 rfl) (one4 _ _ _ _ _ _) (by unfold maxLen; omega) (by omega) (by rw [sizeA]; have := HB.out.size; omega) ?_; intro v5 w5 hO5 hg5 _; have HO5 := Lib.hid hO5; have HB5 := Lib.hid (show Below W2.heap.size W2 w5 from (HB.out.alloc HB.out.size _).grown hg5 (by rw [sizeA]; have := HB.out.size; omega) (fun q hq => (HO.out.lt q hq).1)); clear hO5 hg5)
     clear c0 c1 c2 c3 d0 d1 d2 d3 fz0 fz1 fz2 fz3 y0 y1 y2 y3 z0 z1 z2 z3
     obtain ⟨⟨c0, c1, c2, c3⟩, fz0, fz1, fz2, fz3⟩ := cells4 (HM.out.keep HB5.out).b0
     obtain ⟨⟨d0, d1, d2, d3⟩, -⟩ := cells4 (HM.out.keep HB5.out).b1
     obtain ⟨⟨y0, y1, y2, y3⟩, z0, z1, z2, z3⟩ := HP.out.keep (HM.out.keep HB5.out).bel
     go_wp2_with (at_builtin; refine append_row EPV rfl _ _ rfl W2.heap.size v5 (n + 1) _ rfl (HO5.out.alloc _) _ 1 _ _ rfl (row_newE1 _ #[.int .i64 xk, .int .i64 xn, .string xs, .slice ax M cx] _ 4 rfl) (one4 _ _ _ _ _ _) (by unfold maxLen; omega) (by omega) (by rw [sizeA]; have := HB5.out.size; omega) ?_; intro v6 w6 hO6 hg6 _; have HO6 := Lib.hid hO6; have HB6 := Lib.hid (show Below W2.heap.size W2 w6 from (HB5.out.alloc HB5.out.size _).grown hg6 (by rw [sizeA]; have := HB5.out.size; omega) (fun q hq => (HO5.out.lt q hq).1)); clear hO6 hg6)
     go_roundw
     case rel => exact ⟨j + 1, K + 2, n + 1 + 1, _, rfl, by go_num, by have := HK.out; show K + 2 = 2 * (j + 1); omega, hNe, by omega, HO6, Lib.hid (HST2.out _ HV.out), HB6⟩
     case measure => simp [intOf]; omega
   · rw [if_neg hj] at hst
     have hKA : K ≠ A' := by have h1 := HA2.out; have h2 := HK.out; omega
     have hAe : ((K : Int) == (A' : Int)) = false := by rw [beq_eq_false_iff_ne]; omega
     have hAf : decide (K = A') = false := decide_eq_false hKA
     have HST2 := Lib.hid (show ∀ cs', IsVs w F (flatV ((repK X ps).take j)) cs' → IsVs w F (flatV ((repK X ps).take (j + 1))) ((cs' ++ [.int .i64 5, .int .i64 y.1.n, .string (mkB y.1.s), .slice ya y.1.l.length yc]) ++ [.int .i64 y.2.kind, .int .i64 y.2.n, .string (mkB y.2.s), .slice za y.2.l.length zc]) from fun cs' h => by
       rw [hst]
       have h2 := HZV.out _ _ (HYV.out _ _ h)
       rwa [List.append_assoc] at h2)
     clear hst hvy hvz HYV HZV hKA hj hjl hy HST
     generalize y.1.n = yn at *
     generalize mkB y.1.s = ys at *
     generalize y.1.l.length = yl at *
     generalize y.2.kind = zk at *
     generalize y.2.n = zn at *
     generalize mkB y.2.s = zs at *
     generalize y.2.l.length = zl at *
     go_upto_region 13 with (at_builtin; refine append_row EPV rfl _ _ rfl W2.heap.size _ n cs rfl (HO.out.alloc _) _ 1 _ _ rfl (row_newE1 _ #[.int .i64 5, .int .i64 yn, .string ys, .slice ya yl yc] _ 4 rfl) (one4 _ _ _ _ _ _) (by unfold maxLen; omega) (by omega) (by rw [sizeA]; have := HB.out.size; omega) ?_; intro v5 w5 hO5 hg5 _; have HO5 := Lib.hid hO5; have HB5 := Lib.hid (show Below W2.heap.size W2 w5 from (HB.out.alloc HB.out.size _).grown hg5 (by rw [sizeA]; have := HB.out.size; omega) (fun q hq => (HO.out.lt q hq).1)); clear hO5 hg5)
     clear c0 c1 c2 c3 d0 d1 d2 d3 fz0 fz1 fz2 fz3 y0 y1 y2 y3 z0 z1 z2 z3
     obtain ⟨⟨c0, c1, c2, c3⟩, fz0, fz1, fz2, fz3⟩ := cells4 (HM.out.keep HB5.out).b0
     obtain ⟨⟨d0, d1, d2, d3⟩, -⟩ := cells4 (HM.out.keep HB5.out).b1
     obtain ⟨⟨y0, y1, y2, y3⟩, z0, z1, z2, z3⟩ := HP.out.keep (HM.out.keep HB5.out).bel
     go_wp2_with (at_builtin; refine append_row EPV rfl _ _ rfl W2.heap.size v5 (n + 1) _ rfl (HO5.out.alloc _) _ 1 _ _ rfl (row_newE1 _ #[.int .i64 zk, .int .i64 zn, .string zs, .slice za zl zc] _ 4 rfl) (one4 _ _ _ _ _ _) (by unfold maxLen; omega) (by omega) (by rw [sizeA]; have := HB5.out.size; omega) ?_; intro v6 w6 hO6 hg6 _; have HO6 := Lib.hid hO6; have HB6 := Lib.hid (show Below W2.heap.size W2 w6 from (HB5.out.alloc HB5.out.size _).grown hg6 (by rw [sizeA]; have := HB5.out.size; omega) (fun q hq => (HO5.out.lt q hq).1)); clear hO6 hg6)
     go_roundw
     case rel => exact ⟨j + 1, K + 2, n + 1 + 1, _, rfl, by go_num, by have := HK.out; show K + 2 = 2 * (j + 1); omega, hNe, by omega, HO6, Lib.hid (HST2.out _ HV.out), HB6⟩
     case measure => simp [intOf]; omega
theorem put_ins {w : World} {F : Nat → Prop} {ps : List (PV × PV)} {sl : Value} (hv : IsV w F (dctV ps) sl) (h5 : ∀ y ∈ ps, y.1.kind = 5) (key : List UInt8) {x : PV} {sx : Value} (hx : IsV w F x sx) (hm : ps.length ≤ 400000) (hh : ¬ fIx key ps < ps.length) :
   Calls Tryz.prog 108 #[pvA (dctV ps) sl, .string (mkB key), pvA x sx] w fun e w' => ∃ s', e = .returned (pvA (dctV (insK (.mk 5 0 key [], x) ps)) s') ∧ IsV w' (fun b => F b ∨ w.heap.size ≤ b) (dctV (insK (.mk 5 0 key [], x) ps)) s' ∧ Below w.heap.size w w' := by
 obtain ⟨a1, cap1, e1, g1, g2, -⟩ := hv.len
 subst e1
 obtain ⟨ax, cx, ex, -⟩ := hx.len
 subst ex
 have HFI := Lib.hid (fun (W : World) (h : Below w.heap.size w W) => find_any (hv.below h) h5 key)
 obtain ⟨N, hN⟩ : ∃ N, N = (dctV ps).l.length := ⟨_, rfl⟩
 have hN2 : N = 2 * ps.length := by rw [hN]; exact flat_lenD ps
 rw [← hN] at hv g1 HFI ⊢
 obtain ⟨A, hA⟩ : ∃ A, A = findI key ps := ⟨_, rfl⟩
 rw [← hA] at HFI
 have HA := Lib.hid hv
 have m0 : N ≤ 800000 := by omega
 have m1 : (N : Int) ≤ 9223372036854775807 := by omega
 have HNN := Lib.hid hN2
 have H5 := Lib.hid h5
 have HX := Lib.hid hx
 have HHH := Lib.hid hh
 obtain ⟨X, hX⟩ : ∃ X : PV × PV, X = (.mk 5 0 key [], x) := ⟨_, rfl⟩
 rw [← hX]
 unfold pvA at HFI ⊢
 rw [show (dctV ps).kind = 7 from rfl, show (dctV ps).n = 0 from rfl, show mkB (dctV ps).s = ⟨#[]⟩ from rfl] at HFI ⊢
 obtain ⟨M, hM⟩ : ∃ M, M = x.l.length := ⟨_, rfl⟩
 rw [← hM] at HX ⊢
 obtain ⟨xk, hxk⟩ : ∃ k, k = x.kind := ⟨_, rfl⟩
 obtain ⟨xn, hxn⟩ : ∃ k, k = x.n := ⟨_, rfl⟩
 obtain ⟨xs, hxs⟩ : ∃ k, k = mkB x.s := ⟨_, rfl⟩
 rw [← hxk, ← hxn, ← hxs]
 have HXV := Lib.hid (show ∀ (l : List PV) (cs : List Value), IsVs w F l cs → IsVs w F (l ++ [x]) (cs ++ [.int .i64 xk, .int .i64 xn, .string xs, .slice ax M cx]) from fun l cs h => by rw [hxk, hxn, hxs]; exact h.snoc HX.out)
 obtain rfl : A = -1 := by rw [hA]; unfold findI; rw [if_neg hh]
 have HS1 := Lib.hid (fun (j : Nat) (y : PV × PV) (hy : ps[j]? = some y) (hj : j ≠ gIx key ps) => show flatV (insT X ps (j + 1)) = flatV (insT X ps j) ++ [y.1, y.2] by subst hX; exact insT_step _ ps j y hy hj)
 have HS2 := Lib.hid (fun (j : Nat) (y : PV × PV) (hy : ps[j]? = some y) (hj : j = gIx key ps) => show flatV (insT X ps (j + 1)) = flatV (insT X ps j) ++ [PV.mk 5 0 key [], x, y.1, y.2] by subst hX; subst hj; exact insT_here _ ps y hy)
 have HSE := Lib.hid (show insK X ps = if gIx key ps < ps.length then insT X ps ps.length else insT X ps ps.length ++ [(PV.mk 5 0 key [], x)] by subst hX; exact insT_end _ ps)
 have HKV := Lib.hid (show ∀ (l : List PV) (cs : List Value), IsVs w F l cs → IsVs w F (l ++ [PV.mk 5 0 key []]) (cs ++ [.int .i64 5, .int .i64 0, .string (mkB key), .slice none 0 0]) from fun l cs h => h.snoc (IsV.leaf w F (PV.mk 5 0 key []) rfl))
 have HT0 := Lib.hid (show insT X ps 0 = [] from insT_zero X ps)
 have HC1 := Lib.hid (fun (a : List UInt8) => show Op.bytesLess (mkB key).toList (mkB a).toList = sLt key a by rw [toList_mkB, toList_mkB, less_mkB])
 have HC2 := Lib.hid (fun (a : List UInt8) => show Op.bytesLess (mkB a).toList (mkB key).toList = sLt a key by rw [toList_mkB, toList_mkB, less_mkB])
 have HC3 := Lib.hid (fun (a : List UInt8) => show ((mkB a).toList == (mkB key).toList) = decide (a = key) by rw [toList_mkB key]; exact eq_mkB a key)
 have HC4 := Lib.hid (fun (a : List UInt8) => show ((mkB key).toList == (mkB a).toList) = decide (key = a) by rw [toList_mkB a]; exact eq_mkB key a)
 generalize mkB key = ks at *
 clear hv hN hN2 h5 hx hh hA hX hM hxk hxn hxs HX g1 g2
 go_enter Tryz.func108, Tryz.ntmps108
 obtain ⟨B, hB⟩ : ∃ B, B = w.heap.size := ⟨_, rfl⟩
 have HM0 := Lib.hid (show PutM w (((w.alloc (.cells #[.int .i64 7, .int .i64 0, .string ⟨#[]⟩, .slice a1 N cap1] 24)).alloc (.cells #[.int .i64 xk, .int .i64 xn, .string xs, .slice ax M cx] 24)).alloc (.cells #[.int .i64 0, .int .i64 0, .string ⟨#[]⟩, .slice none 0 0] 24)) B #[.int .i64 7, .int .i64 0, .string ⟨#[]⟩, .slice a1 N cap1] #[.int .i64 xk, .int .i64 xn, .string xs, .slice ax M cx] from
   ⟨heapA_old _ (heapA_old _ (heapA_new _ hB)), heapA_old _ (heapA_new _ (by rw [sizeA, hB])), heapA_new _ (by rw [sizeA, sizeA, hB]), belowA3 _ _ _ _, hB⟩)
 go_upto_region 1 with fail
 rw [← hB]
 clear hB
 generalize ((w.alloc _).alloc _).alloc _ = W1 at *
 obtain ⟨⟨c0, c1, c2, c3⟩, -⟩ := cells4 HM0.out.b0
 go_wp2_with fail
 refine (HFI.out _ HM0.out.bel).mono ?_
 rintro e W2 ⟨rfl, hb2⟩
 have HM := Lib.hid (HM0.out.keep hb2)
 clear hb2 c0 c1 c2 c3 HFI HM0
 go_wp2
 go_loopw [7, 9, 10] (fun vo vd vk wr => ∃ (j K n : Nat) (cs : List Value) (d : Bool), vd = .bool d ∧ vk = .int .i64 K ∧ Hid (d = decide (gIx key ps < j)) ∧ Hid (K = 2 * j) ∧ K ≤ N ∧ n ≤ K + 2 ∧ Hid (d = false → n ≤ K) ∧ Hid (wr.ownsRow W2.heap.size 24 4 vo n cs) ∧ Hid (IsVs w F (flatV (insT X ps j)) cs) ∧ Hid (Below W2.heap.size W2 wr)) (fun _ _ vk _ => N - (intOf vk).toNat)
 case atStart => exact ⟨0, 0, 0, [], false, rfl, rfl, Lib.hid (decide_eq_false (Nat.not_lt_zero _)).symm, rfl, Nat.zero_le _, Nat.zero_le _, Lib.hid fun _ => Nat.le_refl _, World.ownsRow_nil _ _ _ _, Lib.hid (by rw [HT0.out]; rfl), Below.refl _ _⟩
 case round =>
   obtain ⟨j, K, n, cs, d, rfl, rfl, HD, HK, hK, hn, HND, HO, HV, HB⟩ := hrel
   by_cases q1 : K < N
   case neg =>
     have hd1 : decide (K < N) = false := decide_eq_false q1
     have hd2 : decide ((K : Int) < (N : Int)) = false := decide_eq_false (by omega)
     have hq2 : ¬ (K : Int) < (N : Int) := by omega
     have hjl : j = ps.length := by have h1 := HK.out; have h2 := HNN.out; omega
     have hSE := HSE.out
     obtain ⟨va, vc, hve, -⟩ := owns_slice HO.out
     subst hve
     cases d with
     | true =>
       have hg : gIx key ps < ps.length := by
         have h1 := of_decide_eq_true HD.out.symm
         omega
       rw [if_pos hg, ← hjl] at hSE
       have HV2 := Lib.hid (show IsVs w F (flatV (insK X ps)) cs by rw [hSE]; exact HV.out)
       obtain ⟨⟨c0, c1, c2, c3⟩, fz0, fz1, fz2, fz3⟩ := cells4 (HM.out.keep HB.out).b0
       obtain ⟨⟨d0, d1, d2, d3⟩, -⟩ := cells4 (HM.out.keep HB.out).b1
       obtain ⟨⟨x0, x1, x2, x3⟩, gz0, gz1, gz2, gz3⟩ := cells4 (HM.out.keep HB.out).b2
       clear hSE HSE hg hjl HK HS1 HS2 HHH HV HNN HC1 HC2 HC3 HC4 HD HND HKV HXV
       go_wp2
       obtain ⟨e1, e2, e3⟩ := putm_end HM.out HB.out (.slice va n vc) (.int .i64 7) (.int .i64 0) (.string ⟨#[]⟩) (.slice va n vc)
       refine bodyPost_ret (results_cell_row rfl _ _ (B + 1 + 1) 24 _ (0, 0) _ rfl (by exact e3) Tryz.underlying24 rfl (by exact infoPV)) rfl ?_
       exact ⟨(.slice va n vc), rfl, put_fin HO.out HV2.out HM.out.bel.size e2 e1 7, e1⟩
     | false =>
       have hg : ¬ gIx key ps < ps.length := by
         have h1 := of_decide_eq_false HD.out.symm
         omega
       rw [if_neg hg, ← hjl] at hSE
       have HV2 := Lib.hid (show IsVs w F (flatV (insK X ps)) (cs ++ [.int .i64 5, .int .i64 0, .string ks, .slice none 0 0, .int .i64 xk, .int .i64 xn, .string xs, .slice ax M cx]) by
         rw [hSE, flat_app]
         have h2 := HXV.out _ _ (HKV.out _ _ HV.out)
         rw [List.append_assoc, List.append_assoc] at h2
         exact h2)
       have hnK := HND.out rfl
       obtain ⟨⟨c0, c1, c2, c3⟩, fz0, fz1, fz2, fz3⟩ := cells4 (HM.out.keep HB.out).b0
       obtain ⟨⟨d0, d1, d2, d3⟩, -⟩ := cells4 (HM.out.keep HB.out).b1
       obtain ⟨⟨x0, x1, x2, x3⟩, gz0, gz1, gz2, gz3⟩ := cells4 (HM.out.keep HB.out).b2
       clear hSE HSE hg hjl HK HS1 HS2 HHH HV HNN HC1 HC2 HC3 HC4 HD HND HKV HXV
       go_upto_region 19 with (at_builtin; refine append_row EPV rfl _ _ rfl W2.heap.size _ n cs rfl (HO.out.alloc _) _ 2 _ _ rfl (row_newM2 _ #[.int .i64 5, .int .i64 0, .string ks, .slice none 0 0, .int .i64 xk, .int .i64 xn, .string xs, .slice ax M cx] _ rfl) (one8 _ _ _ _ _ _ _ _ _ _ _ _) (by unfold maxLen; omega) (by omega) (by rw [sizeA]; have := HB.out.size; omega) ?_; intro v5 w5 hO5 hg5 _; have HO5 := Lib.hid hO5; have HB5 := Lib.hid (show Below W2.heap.size W2 w5 from (HB.out.alloc HB.out.size _).grown hg5 (by rw [sizeA]; have := HB.out.size; omega) (fun q hq => (HO.out.lt q hq).1)); clear hO5 hg5)
       obtain ⟨va5, vc5, hve5, -⟩ := owns_slice HO5.out
       subst hve5
       clear c0 c1 c2 c3 d0 d1 d2 d3 fz0 fz1 fz2 fz3 x0 x1 x2 x3 gz0 gz1 gz2 gz3
       obtain ⟨⟨c0, c1, c2, c3⟩, fz0, fz1, fz2, fz3⟩ := cells4 (HM.out.keep HB5.out).b0
       obtain ⟨⟨d0, d1, d2, d3⟩, -⟩ := cells4 (HM.out.keep HB5.out).b1
       obtain ⟨⟨x0, x1, x2, x3⟩, gz0, gz1, gz2, gz3⟩ := cells4 (HM.out.keep HB5.out).b2
       go_wp2
       obtain ⟨e1, e2, e3⟩ := putm_end HM.out HB5.out (.slice va5 (n + 2) vc5) (.int .i64 7) (.int .i64 0) (.string ⟨#[]⟩) (.slice va5 (n + 2) vc5)
       refine bodyPost_ret (results_cell_row rfl _ _ (B + 1 + 1) 24 _ (0, 0) _ rfl (by exact e3) Tryz.underlying24 rfl (by exact infoPV)) rfl ?_
       exact ⟨(.slice va5 (n + 2) vc5), rfl, put_fin HO5.out HV2.out HM.out.bel.size e2 e1 7, e1⟩
   have hjl : j < ps.length := by
     have h1 := HK.out
     have h2 := HNN.out
     omega
   obtain ⟨y, hy⟩ : ∃ y, ps[j]? = some y := ⟨_, List.getElem?_eq_getElem hjl⟩
   obtain ⟨b1, o1, sy, sz, rfl, hvy, hvz, y0, y1, y2, y3, z0, z1, z2, z3⟩ := HA.out.pair hy
   obtain ⟨ya, yc, rfl, -⟩ := hvy.len
   obtain ⟨za, zc, rfl, -⟩ := hvz.len
   rw [← HK.out] at y0 y1 y2 y3 z0 z1 z2 z3
   rw [H5.out y (List.mem_of_getElem? hy)] at y0
   have HP := Lib.hid (show PairAt w b1 o1 K 5 y.1.n (mkB y.1.s) (.slice ya y.1.l.length yc) y.2.kind y.2.n (mkB y.2.s) (.slice za y.2.l.length zc) from ⟨⟨y0, y1, y2, y3⟩, z0, z1, z2, z3⟩)
   clear y0 y1 y2 y3 z0 z1 z2 z3
   have HYV := Lib.hid (show ∀ (l : List PV) (cs : List Value), IsVs w F l cs → IsVs w F (l ++ [y.1]) (cs ++ [.int .i64 5, .int .i64 y.1.n, .string (mkB y.1.s), .slice ya y.1.l.length yc]) from fun l cs h => by have h2 := h.snoc hvy; unfold pvC at h2; rw [H5.out y (List.mem_of_getElem? hy)] at h2; exact h2)
   have HZV := Lib.hid (show ∀ (l : List PV) (cs : List Value), IsVs w F l cs → IsVs w F (l ++ [y.2]) (cs ++ [.int .i64 y.2.kind, .int .i64 y.2.n, .string (mkB y.2.s), .slice za y.2.l.length zc]) from fun l cs h => h.snoc hvz)
   have hkl : (0 : Int) ≤ (K : Int) := by omega
   have hki : (K : Int) < (N : Int) := by omega
   have hd1 : decide (K < N) = true := decide_eq_true q1
   have hd2 : decide ((K : Int) < (N : Int)) = true := decide_eq_true hki
   have hNe : K + 2 ≤ N := by have h1 := HK.out; have h2 := HNN.out; omega
   have hkl1 : (0 : Int) ≤ (K : Int) + 1 := by omega
   have hki1 : (K : Int) + 1 < (N : Int) := by omega
   have hd3 : decide ((K : Int) + 1 < (N : Int)) = true := decide_eq_true hki1
   have hkw : IntKind.i64.wrap ((K : Int) + 1) = (K : Int) + 1 := IntWalk.i64_in _ (by omega)
   have hkn : ((K : Int) + 1).toNat = K + 1 := by omega
   have hKm : ((K : Int) == -1) = false := by rw [beq_eq_false_iff_ne]; omega
   have hys : y.1.s ≠ key := fIx_ne key ps j y (by have h1 := HHH.out; have h2 := fIx_le key ps; omega) hy
   have c4 := HC1.out y.1.s
   have c5 := HC2.out y.1.s
   have c6 := HC3.out y.1.s
   have c7 := HC4.out y.1.s
   rw [decide_eq_false hys] at c6
   rw [decide_eq_false (fun e => hys e.symm)] at c7
   clear HC1 HC2 HC3 HC4
   by_cases hj : j = gIx key ps
   · have hyg : sLt key y.1.s = true := gIx_yes key ps y (by rw [← hj]; exact hy)
     rw [hyg] at c4
     rw [sLt_as _ _ hyg] at c5
     obtain rfl : d = false := by rw [HD.out]; exact decide_eq_false (by omega)
     have HDN := Lib.hid (show true = decide (gIx key ps < j + 1) from (decide_eq_true (by omega)).symm)
     have hst := HS2.out j y hy hj
     have hnK := HND.out rfl
     have HST2 := Lib.hid (show ∀ cs', IsVs w F (flatV (insT X ps j)) cs' → IsVs w F (flatV (insT X ps (j + 1))) (((cs' ++ [.int .i64 5, .int .i64 0, .string ks, .slice none 0 0, .int .i64 xk, .int .i64 xn, .string xs, .slice ax M cx]) ++ [.int .i64 5, .int .i64 y.1.n, .string (mkB y.1.s), .slice ya y.1.l.length yc]) ++ [.int .i64 y.2.kind, .int .i64 y.2.n, .string (mkB y.2.s), .slice za y.2.l.length zc]) from fun cs' h => by
       rw [hst]
       have h2 := HZV.out _ _ (HYV.out _ _ (HXV.out _ _ (HKV.out _ _ h)))
       rw [List.append_assoc, List.append_assoc, List.append_assoc, List.append_assoc cs'] at h2
       exact h2)
     clear hst hvy hvz HYV HZV HXV HKV hj hjl hy HS1 HS2 HSE HD HND HHH hyg hys H5 HNN HA
     generalize y.1.n = yn at *
     generalize mkB y.1.s = ys at *
     generalize y.1.l.length = yl at *
     generalize y.2.kind = zk at *
     generalize y.2.n = zn at *
     generalize mkB y.2.s = zs at *
     generalize y.2.l.length = zl at *
     obtain ⟨⟨c0, c1, c2, c3⟩, fz0, fz1, fz2, fz3⟩ := cells4 (HM.out.keep HB.out).b0
     obtain ⟨⟨d0, d1, d2, d3⟩, -⟩ := cells4 (HM.out.keep HB.out).b1
     obtain ⟨⟨y0, y1, y2, y3⟩, z0, z1, z2, z3⟩ := HP.out.keep (HM.out.keep HB.out).bel
     go_upto_region 12 with (at_builtin; refine append_row EPV rfl _ _ rfl W2.heap.size _ n _ rfl (HO.out.alloc _) _ 2 _ _ rfl (row_newM2 _ #[.int .i64 5, .int .i64 0, .string ks, .slice none 0 0, .int .i64 xk, .int .i64 xn, .string xs, .slice ax M cx] _ rfl) (one8 _ _ _ _ _ _ _ _ _ _ _ _) (by unfold maxLen; omega) (by omega) (by rw [sizeA]; have := HB.out.size; omega) ?_; intro v5 w5 hO5 hg5 _; have HO5 := Lib.hid hO5; have HB5 := Lib.hid (show Below W2.heap.size W2 w5 from (HB.out.alloc HB.out.size _).grown hg5 (by rw [sizeA]; have := HB.out.size; omega) (fun q hq => (HO.out.lt q hq).1)); clear hO5 hg5)
     clear c0 c1 c2 c3 d0 d1 d2 d3 fz0 fz1 fz2 fz3 y0 y1 y2 y3 z0 z1 z2 z3
     obtain ⟨⟨c0, c1, c2, c3⟩, fz0, fz1, fz2, fz3⟩ := cells4 (HM.out.keep HB5.out).b0
     obtain ⟨⟨d0, d1, d2, d3⟩, -⟩ := cells4 (HM.out.keep HB5.out).b1
     obtain ⟨⟨y0, y1, y2, y3⟩, z0, z1, z2, z3⟩ := HP.out.keep (HM.out.keep HB5.out).bel
     go_upto_region 13 with (at_builtin; refine append_row EPV rfl _ _ rfl W2.heap.size v5 (n + 2) _ rfl (HO5.out.alloc _) _ 1 _ _ rfl (row_newE1 _ #[.int .i64 5, .int .i64 yn, .string ys, .slice ya yl yc] _ 4 rfl) (one4 _ _ _ _ _ _) (by unfold maxLen; omega) (by omega) (by rw [sizeA]; have := HB5.out.size; omega) ?_; intro v6 w6 hO6 hg6 _; have HO6 := Lib.hid hO6; have HB6 := Lib.hid (show Below W2.heap.size W2 w6 from (HB5.out.alloc HB5.out.size _).grown hg6 (by rw [sizeA]; have := HB5.out.size; omega) (fun q hq => (HO5.out.lt q hq).1)); clear hO6 hg6)
     clear c0 c1 c2 c3 d0 d1 d2 d3 fz0 fz1 fz2 fz3 y0 y1 y2 y3 z0 z1 z2 z3
     obtain ⟨⟨c0, c1, c2, c3⟩, fz0, fz1, fz2, fz3⟩ := cells4 (HM.out.keep HB6.out).b0
     obtain ⟨⟨d0, d1, d2, d3⟩, -⟩ := cells4 (HM.out.keep HB6.out).b1
     obtain ⟨⟨y0, y1, y2, y3⟩, z0, z1, z2, z3⟩ := HP.out.keep (HM.out.keep HB6.out).bel
     go_wp2_with (at_builtin; refine append_row EPV rfl _ _ rfl W2.heap.size v6 ((n + 2) + 1) _ rfl (HO6.out.alloc _) _ 1 _ _ rfl (row_newE1 _ #[.int .i64 zk, .int .i64 zn, .string zs, .slice za zl zc] _ 4 rfl) (one4 _ _ _ _ _ _) (by unfold maxLen; omega) (by omega) (by rw [sizeA]; have := HB6.out.size; omega) ?_; intro v7 w7 hO7 hg7 _; have HO7 := Lib.hid hO7; have HB7 := Lib.hid (show Below W2.heap.size W2 w7 from (HB6.out.alloc HB6.out.size _).grown hg7 (by rw [sizeA]; have := HB6.out.size; omega) (fun q hq => (HO6.out.lt q hq).1)); clear hO7 hg7)
     go_roundw
     case rel => exact ⟨j + 1, K + 2, (n + 2) + 1 + 1, _, true, rfl, by go_num, HDN, by have := HK.out; show K + 2 = 2 * (j + 1); omega, hNe, by omega, Lib.hid (fun h => (by cases h)), HO7, Lib.hid (HST2.out _ HV.out), HB7⟩
     case measure => simp [intOf]; omega
   by_cases hj2 : j < gIx key ps
   · have hyg : sLt key y.1.s = false := gIx_no key ps j y hj2 hy
     have hyl : sLt y.1.s key = true := sLt_tri _ _ hyg (fun e => hys e.symm)
     rw [hyg] at c4
     rw [hyl] at c5
     obtain rfl : d = false := by rw [HD.out]; exact decide_eq_false (by omega)
     have HDN := Lib.hid (show false = decide (gIx key ps < j + 1) from (decide_eq_false (by omega)).symm)
     have hnK := HND.out rfl
     have hst := HS1.out j y hy hj
     have HST2 := Lib.hid (show ∀ cs', IsVs w F (flatV (insT X ps j)) cs' → IsVs w F (flatV (insT X ps (j + 1))) ((cs' ++ [.int .i64 5, .int .i64 y.1.n, .string (mkB y.1.s), .slice ya y.1.l.length yc]) ++ [.int .i64 y.2.kind, .int .i64 y.2.n, .string (mkB y.2.s), .slice za y.2.l.length zc]) from fun cs' h => by
       rw [hst]
       have h2 := HZV.out _ _ (HYV.out _ _ h)
       rwa [List.append_assoc] at h2)
     clear hst hvy hvz HYV HZV HXV HKV hj hjl hy HS1 HS2 HSE HD HND HHH hyg hyl H5 HNN HA hj2 hys
     generalize y.1.n = yn at *
     generalize mkB y.1.s = ys at *
     generalize y.1.l.length = yl at *
     generalize y.2.kind = zk at *
     generalize y.2.n = zn at *
     generalize mkB y.2.s = zs at *
     generalize y.2.l.length = zl at *
     obtain ⟨⟨c0, c1, c2, c3⟩, fz0, fz1, fz2, fz3⟩ := cells4 (HM.out.keep HB.out).b0
     obtain ⟨⟨d0, d1, d2, d3⟩, -⟩ := cells4 (HM.out.keep HB.out).b1
     obtain ⟨⟨y0, y1, y2, y3⟩, z0, z1, z2, z3⟩ := HP.out.keep (HM.out.keep HB.out).bel
     go_upto_region 13 with (at_builtin; refine append_row EPV rfl _ _ rfl W2.heap.size _ n _ rfl (HO.out.alloc _) _ 1 _ _ rfl (row_newE1 _ #[.int .i64 5, .int .i64 yn, .string ys, .slice ya yl yc] _ 4 rfl) (one4 _ _ _ _ _ _) (by unfold maxLen; omega) (by omega) (by rw [sizeA]; have := HB.out.size; omega) ?_; intro v5 w5 hO5 hg5 _; have HO5 := Lib.hid hO5; have HB5 := Lib.hid (show Below W2.heap.size W2 w5 from (HB.out.alloc HB.out.size _).grown hg5 (by rw [sizeA]; have := HB.out.size; omega) (fun q hq => (HO.out.lt q hq).1)); clear hO5 hg5)
     clear c0 c1 c2 c3 d0 d1 d2 d3 fz0 fz1 fz2 fz3 y0 y1 y2 y3 z0 z1 z2 z3
     obtain ⟨⟨c0, c1, c2, c3⟩, fz0, fz1, fz2, fz3⟩ := cells4 (HM.out.keep HB5.out).b0
     obtain ⟨⟨d0, d1, d2, d3⟩, -⟩ := cells4 (HM.out.keep HB5.out).b1
     obtain ⟨⟨y0, y1, y2, y3⟩, z0, z1, z2, z3⟩ := HP.out.keep (HM.out.keep HB5.out).bel
     go_wp2_with (at_builtin; refine append_row EPV rfl _ _ rfl W2.heap.size v5 (n + 1) _ rfl (HO5.out.alloc _) _ 1 _ _ rfl (row_newE1 _ #[.int .i64 zk, .int .i64 zn, .string zs, .slice za zl zc] _ 4 rfl) (one4 _ _ _ _ _ _) (by unfold maxLen; omega) (by omega) (by rw [sizeA]; have := HB5.out.size; omega) ?_; intro v6 w6 hO6 hg6 _; have HO6 := Lib.hid hO6; have HB6 := Lib.hid (show Below W2.heap.size W2 w6 from (HB5.out.alloc HB5.out.size _).grown hg6 (by rw [sizeA]; have := HB5.out.size; omega) (fun q hq => (HO5.out.lt q hq).1)); clear hO6 hg6)
     go_roundw
     case rel => exact ⟨j + 1, K + 2, n + 1 + 1, _, false, rfl, by go_num, HDN, by have := HK.out; show K + 2 = 2 * (j + 1); omega, hNe, by omega, Lib.hid (fun _ => (by omega)), HO6, Lib.hid (HST2.out _ HV.out), HB6⟩
     case measure => simp [intOf]; omega
   · obtain rfl : d = true := by rw [HD.out]; exact decide_eq_true (by omega)
     have HDN := Lib.hid (show true = decide (gIx key ps < j + 1) from (decide_eq_true (by omega)).symm)
     have hst := HS1.out j y hy hj
     have HST2 := Lib.hid (show ∀ cs', IsVs w F (flatV (insT X ps j)) cs' → IsVs w F (flatV (insT X ps (j + 1))) ((cs' ++ [.int .i64 5, .int .i64 y.1.n, .string (mkB y.1.s), .slice ya y.1.l.length yc]) ++ [.int .i64 y.2.kind, .int .i64 y.2.n, .string (mkB y.2.s), .slice za y.2.l.length zc]) from fun cs' h => by
       rw [hst]
       have h2 := HZV.out _ _ (HYV.out _ _ h)
       rwa [List.append_assoc] at h2)
     clear hst hvy hvz HYV HZV HXV HKV hj hjl hy HS1 HS2 HSE HD HND HHH  H5 HNN HA hj2 hys c4 c5 c6 c7
     generalize y.1.n = yn at *
     generalize mkB y.1.s = ys at *
     generalize y.1.l.length = yl at *
     generalize y.2.kind = zk at *
     generalize y.2.n = zn at *
     generalize mkB y.2.s = zs at *
     generalize y.2.l.length = zl at *
     obtain ⟨⟨c0, c1, c2, c3⟩, fz0, fz1, fz2, fz3⟩ := cells4 (HM.out.keep HB.out).b0
     obtain ⟨⟨d0, d1, d2, d3⟩, -⟩ := cells4 (HM.out.keep HB.out).b1
     obtain ⟨⟨y0, y1, y2, y3⟩, z0, z1, z2, z3⟩ := HP.out.keep (HM.out.keep HB.out).bel
     go_upto_region 13 with (at_builtin; refine append_row EPV rfl _ _ rfl W2.heap.size _ n _ rfl (HO.out.alloc _) _ 1 _ _ rfl (row_newE1 _ #[.int .i64 5, .int .i64 yn, .string ys, .slice ya yl yc] _ 4 rfl) (one4 _ _ _ _ _ _) (by unfold maxLen; omega) (by omega) (by rw [sizeA]; have := HB.out.size; omega) ?_; intro v5 w5 hO5 hg5 _; have HO5 := Lib.hid hO5; have HB5 := Lib.hid (show Below W2.heap.size W2 w5 from (HB.out.alloc HB.out.size _).grown hg5 (by rw [sizeA]; have := HB.out.size; omega) (fun q hq => (HO.out.lt q hq).1)); clear hO5 hg5)
     clear c0 c1 c2 c3 d0 d1 d2 d3 fz0 fz1 fz2 fz3 y0 y1 y2 y3 z0 z1 z2 z3
     obtain ⟨⟨c0, c1, c2, c3⟩, fz0, fz1, fz2, fz3⟩ := cells4 (HM.out.keep HB5.out).b0
     obtain ⟨⟨d0, d1, d2, d3⟩, -⟩ := cells4 (HM.out.keep HB5.out).b1
     obtain ⟨⟨y0, y1, y2, y3⟩, z0, z1, z2, z3⟩ := HP.out.keep (HM.out.keep HB5.out).bel
     go_wp2_with (at_builtin; refine append_row EPV rfl _ _ rfl W2.heap.size v5 (n + 1) _ rfl (HO5.out.alloc _) _ 1 _ _ rfl (row_newE1 _ #[.int .i64 zk, .int .i64 zn, .string zs, .slice za zl zc] _ 4 rfl) (one4 _ _ _ _ _ _) (by unfold maxLen; omega) (by omega) (by rw [sizeA]; have := HB5.out.size; omega) ?_; intro v6 w6 hO6 hg6 _; have HO6 := Lib.hid hO6; have HB6 := Lib.hid (show Below W2.heap.size W2 w6 from (HB5.out.alloc HB5.out.size _).grown hg6 (by rw [sizeA]; have := HB5.out.size; omega) (fun q hq => (HO5.out.lt q hq).1)); clear hO6 hg6)
     go_roundw
     case rel => exact ⟨j + 1, K + 2, n + 1 + 1, _, true, rfl, by go_num, HDN, by have := HK.out; show K + 2 = 2 * (j + 1); omega, hNe, by omega, Lib.hid (fun h => (by cases h)), HO6, Lib.hid (HST2.out _ HV.out), HB6⟩
     case measure => simp [intOf]; omega
theorem put_any {w : World} {F : Nat → Prop} {ps : List (PV × PV)} {sl : Value} (hv : IsV w F (dctV ps) sl) (h5 : ∀ y ∈ ps, y.1.kind = 5) (key : List UInt8) {x : PV} {sx : Value} (hx : IsV w F x sx) (hm : ps.length ≤ 400000) :
   Calls Tryz.prog 108 #[pvA (dctV ps) sl, .string (mkB key), pvA x sx] w fun e w' => ∃ s', e = .returned (pvA (dctV (putK (.mk 5 0 key [], x) ps)) s') ∧ IsV w' (fun b => F b ∨ w.heap.size ≤ b) (dctV (putK (.mk 5 0 key [], x) ps)) s' ∧ Below w.heap.size w w' := by
 have hk := fIx_has key ps
 have hu : putK (PV.mk 5 0 key [], x) ps = if hasK key ps then repK (PV.mk 5 0 key [], x) ps else insK (PV.mk 5 0 key [], x) ps := rfl
 rw [hu, hk]
 by_cases h : fIx key ps < ps.length
 · rw [if_pos (decide_eq_true h)]
   exact put_rep hv h5 key hx hm h
 · rw [if_neg (by rw [decide_eq_false h]; decide)]
   exact put_ins hv h5 key hx hm h
end Go.Proofs.YtnkodejgiabamaaGreatDoor
