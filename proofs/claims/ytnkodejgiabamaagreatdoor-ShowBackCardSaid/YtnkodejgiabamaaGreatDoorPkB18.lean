/-
  Our texts Sy2 to ValArg, in one.
-/
import Derived.Test.YtnkodejgiabamaaGreatDoorPkB14
import Derived.Test.YtnkodejgiabamaaGreatDoorPkB17
import Derived.Laws.IdiomStrings
import Derived.Test.YtnkodejgiabamaaGreatDoorRows
import Derived.ProofKit
import Derived.OpenShut
import Derived.Lib.SmallJoins
set_option maxRecDepth 8000
set_option maxHeartbeats 8000000
namespace Go.Proofs.YtnkodejgiabamaaGreatDoor
open Go.RowKit
structure DoM (w wr : World) (B : Nat) (sl : Value) (l : List PV) : Prop where
 b0 : wr.heap[B]? = some (.cells #[.int .i64 0, .int .i64 0, .string ⟨#[]⟩, .slice none 0 0] 24 (0, 0))
 b1 : wr.heap[B + 1]? = some (.cells #[.int .i64 7, .int .i64 0, .string ⟨#[]⟩, sl] 24 (0, 0))
 val : IsV wr (fun b => B + 1 < b) (.mk 7 0 [] l) sl
 bel : Below w.heap.size w wr
 hB : w.heap.size ≤ B
theorem DoM.start (w : World) {B : Nat} (hB : B = w.heap.size) : DoM w ((w.alloc (.cells #[.int .i64 0, .int .i64 0, .string ⟨#[]⟩, .slice none 0 0] 24)).alloc (.cells #[.int .i64 7, .int .i64 0, .string ⟨#[]⟩, .slice none 0 0] 24)) B (.slice none 0 0) [] :=
 ⟨heapA_old _ (heapA_new _ hB), heapA_new _ (by rw [sizeA, hB]), IsV.leaf _ _ _ rfl, belowA2 _ _ _, Nat.le_of_eq hB.symm⟩
theorem DoM.put {w wr W : World} {B : Nat} {sl s' : Value} {l l' : List PV} (h : DoM w wr B sl l) (hv : IsV W (fun b => wr.heap.size ≤ b) (.mk 7 0 [] l') s') (hb : Below wr.heap.size wr W) :
   DoM w ((((W.setCell ⟨B + 1, 0, none⟩ (.int .i64 7)).setCell ⟨B + 1, 1, none⟩ (.int .i64 0)).setCell ⟨B + 1, 2, none⟩ (.string ⟨#[]⟩)).setCell ⟨B + 1, 3, none⟩ s') B s' l' := by
 have hl := lt_of_heapS h.b1
 have hB := h.hB
 exact ⟨(set4_otherS (by omega) _ _ _ _).trans (block_keep hb h.b0), set4 (block_keep hb h.b1) _ _ _ _, IsV.keep (F := fun b => wr.heap.size ≤ b) ⟨by rw [set4_sizeS]; exact Nat.le_refl _, fun b _ hF => set4_otherS (by have hF : wr.heap.size ≤ b := hF; omega) _ _ _ _⟩ (fun b hF => by show B + 1 < b; omega) _ hv, below_set4 (h.bel.trans (hb.mono h.bel.size)) (by omega) _ _ _ _, h.hB⟩
section
variable {w : World} {b : Nat} {x0 x1 x2 x3 : Value} {t : TypeId} (h : w.heap[b]? = some (.cells #[x0, x1, x2, x3] t (0, 0)))
include h
theorem st1 (y0 : Value) : (w.setCell ⟨b, 0, none⟩ y0).heap[b]? = some (.cells #[y0, x1, x2, x3] t (0, 0)) := by rw [heap_setCell_same w b 0 _ _ _ h]; rfl
theorem st2 (y0 y1 : Value) : ((w.setCell ⟨b, 0, none⟩ y0).setCell ⟨b, 1, none⟩ y1).heap[b]? = some (.cells #[y0, y1, x2, x3] t (0, 0)) := by rw [heap_setCell_same _ b 1 _ _ _ (st1 h y0)]; rfl
theorem st3 (y0 y1 y2 : Value) : (((w.setCell ⟨b, 0, none⟩ y0).setCell ⟨b, 1, none⟩ y1).setCell ⟨b, 2, none⟩ y2).heap[b]? = some (.cells #[y0, y1, y2, x3] t (0, 0)) := by rw [heap_setCell_same _ b 2 _ _ _ (st2 h y0 y1)]; rfl
end
theorem dictOf1 {w : World} {g : Nat} (hr : Row w 4 (some ⟨g, 0, none⟩) 2 2 cs1) :
   Calls Tryz.prog 12 #[.slice (some ⟨g, 0, none⟩) 2 2] w fun e w' => ∃ sl, e = .returned (pvA dict1 sl) ∧ IsV w' anyF dict1 sl ∧ Below w.heap.size w w' := by
 have HR := Lib.hid (fun (W : World) (h : Below w.heap.size w W) => hr.mono h)
 have HP := Lib.hid (fun W => vput1 W)
 clear hr
 obtain ⟨B, hB⟩ : ∃ B, B = w.heap.size := ⟨_, rfl⟩
 have HM0 := Lib.hid (DoM.start w hB)
 go_enter Tryz.func12, Tryz.ntmps12
 go_upto_region 2 with fail
 rw [← hB]
 clear hB
 generalize (w.alloc _).alloc _ = W1 at *
 go_wp2
 go_loopw [4] (fun vi wr => (vi = .int .i64 0 ∧ wr = W1) ∨ (vi = .int .i64 2 ∧ ∃ sl, Hid (DoM w wr B sl dict1.l))) (fun vi _ => 2 - (intOf vi).toNat)
 case atStart => exact .inl ⟨rfl, rfl⟩
 case round =>
   rcases hrel with ⟨rfl, hwr⟩ | ⟨rfl, sl, HM⟩
   · rw [hwr]
     clear hwr
     obtain ⟨⟨c0, c1, c2, c3⟩, f0, f1, f2, f3⟩ := cells4 HM0.out.b1
     obtain ⟨bb, off, hbo, hbl, hc⟩ := (HR.out _ HM0.out.bel).2.2.2.2 (by omega)
     cases hbo
     have y2 := hc 2 (.string ⟨#[65]⟩) rfl
     have z0 := hc 4 (.int .i64 2) rfl
     have z1 := hc 5 (.int .i64 7) rfl
     have z2 := hc 6 (.string ⟨#[]⟩) rfl
     have z3 := hc 7 (.slice none 0 0) rfl
     simp only [Nat.zero_add] at y2 z0 z1 z2 z3
     clear hc
     go_wp2
     go_region_with ((go_at_call 26; refine (HP.out _).mono ?_; rintro e wP ⟨sP, rfl, hvP, hbP⟩; obtain ⟨aP, cP, hsP, -, -, -⟩ := hvP.len; subst hsP; simp only [pvA, show dict1.kind = 7 from rfl, show dict1.n = 0 from rfl, show mkB dict1.s = ⟨#[]⟩ from rfl]; have HBP := Lib.hid (show Below W1.heap.size W1 wP from (Below.refl _ _).drew.trans hbP); have HVP := Lib.hid (show IsV wP (fun b => W1.heap.size ≤ b) dict1 _ from hvP); obtain ⟨⟨p0, p1, p2, p3⟩, q0, q1, q2, q3⟩ := cells4 (block_keep HBP.out HM0.out.b1); obtain ⟨⟨a0, a1, a2, a3⟩, a4, a5, a6, a7⟩ := cells4 (st1 (block_keep HBP.out HM0.out.b1) (.int .i64 7)); obtain ⟨⟨b0, b1, b2, b3⟩, b4, b5, b6, b7⟩ := cells4 (st2 (block_keep HBP.out HM0.out.b1) (.int .i64 7) (.int .i64 0)); obtain ⟨⟨e0, e1, e2, e3⟩, e4, e5, e6, e7⟩ := cells4 (st3 (block_keep HBP.out HM0.out.b1) (.int .i64 7) (.int .i64 0) (.string ⟨#[]⟩)); clear hvP hbP))
     all_goals
       have HM2 := Lib.hid (HM0.out.put HVP.out HBP.out)
       clear HVP HBP p0 p1 p2 p3 q0 q1 q2 q3 HP HR a0 a1 a2 a3 a4 a5 a6 a7 b0 b1 b2 b3 b4 b5 b6 b7 e0 e1 e2 e3 e4 e5 e6 e7
       go_wp2
       go_roundw
       case rel => exact .inr ⟨by go_num, _, HM2⟩
       case measure => simp [intOf]
   · obtain ⟨a1, cap1, hs1, -, -, -⟩ := HM.out.val.len
     subst hs1
     obtain ⟨⟨c0, c1, c2, c3⟩, f0, f1, f2, f3⟩ := cells4 HM.out.b1
     obtain ⟨⟨r0, r1, r2, r3⟩, rf0, rf1, rf2, rf3⟩ := cells4 HM.out.b0
     clear HM0 HP HR
     go_wp2
     refine bodyPost_ret (results_cell_row rfl _ _ B 24 _ (0, 0) _ rfl (by exact set4 HM.out.b0 _ _ _ _) Tryz.underlying24 rfl (by kernel_rfl)) rfl ?_
     exact ⟨_, rfl, IsV.keep (F := fun b => B + 1 < b) ⟨by rw [set4_sizeS]; exact Nat.le_refl _, fun b _ hF => set4_otherS (by have hF : B + 1 < b := hF; omega) _ _ _ _⟩ (fun _ _ => trivial) _ HM.out.val, below_set4 HM.out.bel HM.out.hB _ _ _ _⟩
theorem form_d1 : formV dict1 = [60, 60, 47, 65, 32, 55, 62, 62] := by
 unfold dict1
 simp only [formV, rowF, moreF, nameF]
 decide +kernel
theorem check_d1 : checkC dict1 = 0 := by
 unfold dict1 checkC
 simp only [depthV, depthL, firstC, firstL, ownC]
 decide +kernel
theorem depth_d1 : depthV dict1 ≤ 1000 := by
 unfold dict1
 simp only [depthV, depthL]
 decide +kernel
theorem form_r3 : formV (.mk 8 3 [] []) = [51, 32, 48, 32, 82] := by
 simp only [formV]
 decide +kernel
theorem check_r3 : checkC (.mk 8 3 [] []) = 0 := by
 unfold checkC
 simp only [depthV, depthL, firstC, firstL, ownC]
 decide +kernel
theorem show_d1 : showV dict1 = ([60, 60, 47, 65, 32, 55, 62, 62], 0) := by unfold showV; rw [check_d1, form_d1]; rfl
theorem show_r3 : showV (.mk 8 3 [] []) = ([51, 32, 48, 32, 82], 0) := by unfold showV; rw [check_r3, form_r3]; rfl
theorem text_ab : textF [97, 40, 98] = [40, 97, 92, 40, 98, 41] := by decide +kernel
theorem works13 (w : World) : Calls Tryz.prog 5 #[] w fun e w' => e = .returned (.bool true) ∧ Below w.heap.size w w' := by
 have HN := Lib.hid (fun W => nameOf_any ⟨#[65]⟩ W)
 have HI := Lib.hid (fun W => intOf_any 7 W)
 have HD := Lib.hid (fun (W : World) (g : Nat) (h : Row W 4 (some ⟨g, 0, none⟩) 2 2 cs1) => dictOf1 h)
 have HV := Lib.hid (fun (W : World) (sl : Value) (h : IsV W anyF dict1 sl) => showValue_any h depth_d1 (by rw [form_d1]; decide))
 rw [show_d1] at HV
 have HT := Lib.hid (fun W => showText_any [97, 40, 98] W (by decide))
 rw [text_ab] at HT
 have HR := Lib.hid (fun W => refTo_any 3 W)
 have HL := Lib.hid (fun W => showLen_any (v := .mk 8 3 [] []) (sl := .slice none 0 0) (w := W) (IsV.leaf W anyF _ rfl) (by rw [depthV_is]; decide) (by rw [form_r3]; decide))
 rw [show_r3] at HL
 simp only [pvA, PV.kind, PV.n, PV.s] at HL
 rw [show mkB [] = ⟨#[]⟩ from rfl] at HL
 rw [show mkB [97, 40, 98] = ⟨#[97, 40, 98]⟩ from rfl, show mkB [40, 97, 92, 40, 98, 41] = ⟨#[40, 97, 92, 40, 98, 41]⟩ from rfl] at HT
 simp only [show mkB [60, 60, 47, 65, 32, 55, 62, 62] = ⟨#[60, 60, 47, 65, 32, 55, 62, 62]⟩ from rfl] at HV
 go_enter Tryz.func5, Tryz.ntmps5
 go_wp2_with fail
 refine (HN.out _).mono ?_
 rintro e w1 ⟨rfl, hb1⟩
 have HB1 := Lib.hid hb1
 clear hb1
 go_wp2_with fail
 refine (HI.out _).mono ?_
 rintro e w2 ⟨rfl, hb2⟩
 have HB2 := Lib.hid (HB1.out.trans (hb2.mono HB1.out.size))
 clear hb2
 have HB3 := Lib.hid (HB2.out.alloc HB2.out.size (.cells #[.int .i64 5, .int .i64 0, .string ⟨#[65]⟩, .slice none 0 0, .int .i64 2, .int .i64 7, .string ⟨#[]⟩, .slice none 0 0] 24))
 go_wp2_with fail
 refine (HD.out _ _ (row_two w2 #[.int .i64 5, .int .i64 0, .string ⟨#[65]⟩, .slice none 0 0, .int .i64 2, .int .i64 7, .string ⟨#[]⟩, .slice none 0 0] 24 rfl rfl)).mono ?_
 rintro e w3 ⟨sl, rfl, hv3, hb3⟩
 have HB4 := Lib.hid (HB3.out.trans (hb3.mono HB3.out.size))
 clear hb3 HN HI HD
 have HV3 := Lib.hid (HV.out _ _ hv3)
 obtain ⟨sa, sc, rfl, -, -, -⟩ := hv3.len
 simp only [pvA] at HV3 ⊢
 clear hv3 HV
 go_wp2_with fail
 refine HV3.out.mono ?_
 rintro e w4 ⟨rfl, hb4⟩
 have HB5 := Lib.hid (HB4.out.trans (hb4.mono HB4.out.size))
 clear hb4 HV3
 go_wp2_with (first | (go_at_call 15; refine (HT.out _).mono ?_; rintro e w5 ⟨rfl, hb5⟩; have HB6 := Lib.hid (HB5.out.trans (hb5.mono HB5.out.size)); clear hb5) | (go_at_call 17; refine (HR.out _).mono ?_; rintro e w6 ⟨rfl, hb6⟩; have HB7 := Lib.hid (HB6.out.trans (hb6.mono HB6.out.size)); clear hb6) | (go_at_call 16; refine (HL.out _).mono ?_; rintro e w7 ⟨rfl, hb7⟩; have HB8 := Lib.hid (HB7.out.trans (hb7.mono HB7.out.size)); clear hb7))
 go_ret
 exact ⟨rfl, HB8.out⟩
theorem conv_to (W : World) (s : List UInt8) (hl : s.length ≤ 400000) : ∃ (cap : Nat) (W2 : World), (convert 9 32 (.string (mkB s))).run Tryz.prog W = .ok (.slice (some ⟨W.heap.size, 0, none⟩) s.length cap) W2 ∧
   Row W2 1 (some ⟨W.heap.size, 0, none⟩) s.length cap (s.map u8C) ∧ Below W.heap.size W W2 := by
 have h := run_bytes_of_string (P := Tryz.prog) W 9 32 5 (mkB s) Tryz.underlying9 Tryz.underlying32 Tryz.underlying5
 have g1 := grownCap_ge W (mkB s).size 0 5
 have g2 := grownCap_le_maxLen W (mkB s).size 0 5 (by rw [mkB_size]; unfold maxLen; omega)
 generalize grownCap W (mkB s).size 0 5 = cap at *
 have hz := mkB_size s
 rw [hz] at g1 h
 refine ⟨cap, _, h, ⟨by simp, g1, g2, fun h => (by cases h), fun _ => ⟨_, _, rfl, by show W.heap.size < (W.heap.push _).size; rw [Array.size_push]; omega, fun j u hj => ?_⟩⟩, ?_⟩
 · rw [Nat.zero_add]
   show (W.drew.alloc _).cell? ⟨W.drew.heap.size, j, none⟩ = some u
   rw [World.cell?_alloc_mark (W.drew)]
   obtain ⟨hj2, he⟩ := List.getElem?_eq_some_iff.1 hj
   rw [List.length_map] at hj2
   rw [bytesRow_at (mkB s) cap j (by simpa [mkB] using hj2), ← he, List.getElem_map]
   rfl
 · exact ((Below.refl _ _).drew).alloc (Nat.le_refl _) _
theorem whol_back {v : PV} (h : checkC v = 0) : wholW (formV v) = (v, 0) := by
 obtain ⟨h1, h2⟩ := show_back h
 unfold wholW
 rw [h1]
 simp only
 rw [h2]
 simp
theorem showV_casesB (v : PV) : (checkC v = 0 ∧ showV v = (formV v, 0)) ∨ (checkC v ≠ 0 ∧ showV v = ([], checkC v)) := by
 unfold showV
 by_cases h : checkC v = 0
 · exact .inl ⟨h, by rw [if_neg (by simp [h])]⟩
 · exact .inr ⟨h, by rw [if_pos h]⟩
theorem law_sback {v : PV} {sl : Value} {w : World} (hv : IsV w anyF v sl) : Calls Tryz.prog 3 #[pvA v sl] w fun e w' => e = .returned (.bool true) ∧ Below w.heap.size w w' := by
 have HS := Lib.hid (fun (W : World) (h : Below w.heap.size w W) => small_any (hv.below h))
 have HV := Lib.hid (fun (hs : smallV v = true) (W : World) (h : Below w.heap.size w W) => showValue_any (hv.below h) (by have := (small_bd hs).1; omega) (by have := (small_bd hs).2.1; omega))
 have HW := Lib.hid (fun W => works13 W)
 have HVV := Lib.hid (fun (W : World) (h : Below w.heap.size w W) => hv.below h)
 have HLEN := Lib.hid (fun (hs : smallV v = true) => (small_bd hs).2.1)
 have HCC := Lib.hid (showV_casesB v)
 obtain ⟨a1, cap1, rfl, -, -, -⟩ := hv.len
 unfold pvA at HS HV ⊢
 have HB := Lib.hid (belowA w (.cells #[.int .i64 v.kind, .int .i64 v.n, .string (mkB v.s), .slice a1 v.l.length cap1] 24))
 have HX1 := Lib.hid (heapA_new (w := w) (.cells #[.int .i64 v.kind, .int .i64 v.n, .string (mkB v.s), .slice a1 v.l.length cap1] 24) rfl)
 clear hv
 cases hsm : smallV v with
 | false =>
   rw [hsm] at HS
   clear HV HVV HLEN HCC hsm
   generalize v.kind = k0 at *
   generalize v.n = n0 at *
   generalize mkB v.s = s0 at *
   generalize v.l.length = l0 at *
   go_enter Tryz.func3, Tryz.ntmps3
   go_wp2_with (first
     | (go_at_call 4; refine (HS.out _ HB.out).mono ?_; rintro e w1 ⟨rfl, hb1⟩; have HB1 := Lib.hid (HB.out.trans (hb1.mono HB.out.size)))
     | (go_at_call 5; refine (HW.out _).mono ?_; rintro e w5 ⟨rfl, hb5'⟩; have HB5 := Lib.hid (HB1.out.trans (hb5'.mono HB1.out.size))))
   go_ret
   exact ⟨rfl, HB5.out⟩
 | true =>
 rw [hsm] at HS
 have HV2 := Lib.hid (HV.out hsm)
 have hlen := HLEN.out hsm
 have HL := Lib.hid hlen
 clear HV HLEN hsm hlen
 rcases HCC.out with ⟨hc0, hsv⟩ | ⟨hc0, hsv⟩
 case inr =>
   rw [hsv] at HV2
   simp only [show mkB [] = ⟨#[]⟩ from rfl] at HV2
   have en : (checkC v == 0) = false := by rw [beq_eq_false_iff_ne]; exact hc0
   have en' : (checkC v != 0) = true := by simp only [bne, en, Bool.not_false]
   clear HVV HL HCC hc0 hsv
   generalize checkC v = cc at *
   generalize v.kind = k0 at *
   generalize v.n = n0 at *
   generalize mkB v.s = s0 at *
   generalize v.l.length = l0 at *
   go_enter Tryz.func3, Tryz.ntmps3
   go_wp2_with (first
     | (go_at_call 4; refine (HS.out _ HB.out).mono ?_; rintro e w1 ⟨rfl, hb1⟩; have HB1 := Lib.hid (HB.out.trans (hb1.mono HB.out.size)); have HX2 := Lib.hid (block_keep hb1 HX1.out); obtain ⟨⟨c0, c1, c2, c3⟩, -⟩ := cells4 HX2.out)
     | (go_at_call 6; refine (HV2.out _ HB1.out).mono ?_; rintro e w2 ⟨rfl, hb2⟩; have HB2 := Lib.hid (HB1.out.trans (hb2.mono HB1.out.size)))
     | (go_at_call 5; refine (HW.out _).mono ?_; rintro e w5 ⟨rfl, hb5'⟩; have HB5 := Lib.hid (HB2.out.trans (hb5'.mono HB2.out.size))))
   go_ret
   exact ⟨rfl, HB5.out⟩
 rw [hsv] at HV2
 simp only at HV2
 have HCO := Lib.hid (fun (W : World) => conv_to W (formV v) (by have := HL.out; omega))
 have HPW := Lib.hid (fun (W : World) (a : Option Addr) (c : Nat) (h : Row W 1 a (formV v).length c ((formV v).map u8C)) => pwhole_any h (by have := HL.out; omega))
 have HRW := Lib.hid (fun (W : World) (a : Option Addr) (c : Nat) (h : Row W 1 a (formV v).length c ((formV v).map u8C)) => rwhole_any h (by have := HL.out; omega))
 simp only [whol_back hc0] at HPW HRW
 have HSS := Lib.hid (fun (W : World) (s1 s2 : Value) (h1 : IsV W anyF v s1) (h2 : IsV W anyF v s2) => same_any h1 h2)
 simp only [compare_self, pvA] at HSS
 unfold WhEnd at HPW HRW
 simp only [pvA] at HPW HRW
 have hl := HL.out
 clear HL HCC hc0 hsv
 generalize formV v = fv at *
 go_enter Tryz.func3, Tryz.ntmps3
 go_wp2_with (first
   | (go_at_call 4; refine (HS.out _ HB.out).mono ?_; rintro e w1 ⟨rfl, hb1⟩; have HB1 := Lib.hid (HB.out.trans (hb1.mono HB.out.size)); have HX2 := Lib.hid (block_keep hb1 HX1.out); obtain ⟨⟨c0, c1, c2, c3⟩, -⟩ := cells4 HX2.out)
   | (go_at_call 6; refine (HV2.out _ HB1.out).mono ?_; rintro e w2 ⟨rfl, hb2⟩; have HB2 := Lib.hid (HB1.out.trans (hb2.mono HB1.out.size)); have HX3 := Lib.hid (block_keep hb2 HX2.out); clear c0 c1 c2 c3 hb1 hb2 HX2; go_upto_region 6 with fail))
 clear HS HV2 HX1 HB HB1
 obtain ⟨cap3, W3, hrun3, hrow3, hbl3⟩ := HCO.out w2
 go_wp2_with fail
 rw [hrun3]
 go_wp2_with fail
 refine (HPW.out _ _ _ hrow3).mono ?_
 rintro e w4 ⟨sl4, rfl, hx4, hb4⟩
 have HV4 := Lib.hid (HVV.out w4 (HB2.out.trans ((hbl3.trans (hb4.mono hbl3.size)).mono HB2.out.size)))
 obtain ⟨sa4, sc4, rfl, -, -, -⟩ := hx4.len
 have hb4a := hb4.alloc hb4.size (.cells #[.int .i64 v.kind, .int .i64 v.n, .string (mkB v.s), .slice sa4 v.l.length sc4] 24)
 have HT4 := Lib.hid (heapA_new (w := w4) (b := w4.heap.size) (.cells #[.int .i64 v.kind, .int .i64 v.n, .string (mkB v.s), .slice sa4 v.l.length sc4] 24) rfl)
 have HX4 := Lib.hid (hx4.below (belowA w4 (.cells #[.int .i64 v.kind, .int .i64 v.n, .string (mkB v.s), .slice sa4 v.l.length sc4] 24)))
 have HY4 := Lib.hid (block_keep (hbl3.trans (hb4a.mono hbl3.size)) HX3.out)
 have HB4 := Lib.hid (HB2.out.trans ((hbl3.trans (hb4a.mono hbl3.size)).mono HB2.out.size))
 have HZB := Lib.hid (show w.heap.size ≤ w4.heap.size from Nat.le_trans HB2.out.size (hbl3.trans (hb4.mono hbl3.size)).size)
 clear hb4 hb4a hx4 hrow3 hbl3 HV4 HX3 hrun3
 go_upto_region 7 with fail
 generalize w4.heap.size = T4 at *
 generalize World.alloc _ _ = W5 at *
 obtain ⟨cap6, W6, hrun6, hrow6, hbl6⟩ := HCO.out W5
 go_wp2_with fail
 refine (HRW.out _ _ _ hrow6).mono ?_
 rintro e w7 ⟨sl7, rfl, hx7, hb7⟩
 obtain ⟨sa7, sc7, rfl, -, -, -⟩ := hx7.len
 have hb7a := hb7.alloc hb7.size (.cells #[.int .i64 v.kind, .int .i64 v.n, .string (mkB v.s), .slice sa7 v.l.length sc7] 24)
 have HT7 := Lib.hid (heapA_new (w := w7) (b := w7.heap.size) (.cells #[.int .i64 v.kind, .int .i64 v.n, .string (mkB v.s), .slice sa7 v.l.length sc7] 24) rfl)
 have HX7 := Lib.hid (hx7.below (belowA w7 (.cells #[.int .i64 v.kind, .int .i64 v.n, .string (mkB v.s), .slice sa7 v.l.length sc7] 24)))
 have HX47 := Lib.hid (HX4.out.below (hbl6.trans (hb7a.mono hbl6.size)))
 have HY7 := Lib.hid (block_keep (hbl6.trans (hb7a.mono hbl6.size)) HY4.out)
 have HT47 := Lib.hid (block_keep (hbl6.trans (hb7a.mono hbl6.size)) HT4.out)
 have HB7 := Lib.hid (HB4.out.trans ((hbl6.trans (hb7a.mono hbl6.size)).mono HB4.out.size))
 clear hb7 hb7a hx7 hrow6 hbl6 HX4 HY4 HT4 hrun6 HCO HPW HRW
 go_upto_region 8 with fail
 generalize w7.heap.size = T7 at *
 generalize World.alloc _ _ = W8 at *
 obtain ⟨⟨t0, t1, t2, t3⟩, -⟩ := cells4 HT7.out
 obtain ⟨⟨s0, s1, s2, s3⟩, -⟩ := cells4 HT47.out
 obtain ⟨⟨c0, c1, c2, c3⟩, -⟩ := cells4 HY7.out
 go_wp2_with fail
 refine (HSS.out _ _ _ HX47.out (HVV.out _ HB7.out)).mono ?_
 rintro e w9 ⟨rfl, hb9⟩
 have HT9 := Lib.hid (block_keep hb9 HT7.out)
 have HY9 := Lib.hid (block_keep hb9 HY7.out)
 have HX9 := Lib.hid (HX7.out.below hb9)
 have HB9 := Lib.hid (HB7.out.trans (hb9.mono HB7.out.size))
 clear hb9 HT7 HT47 HY7 HX7 HX47 t0 t1 t2 t3 s0 s1 s2 s3 c0 c1 c2 c3
 obtain ⟨⟨t0, t1, t2, t3⟩, -⟩ := cells4 HT9.out
 obtain ⟨⟨c0, c1, c2, c3⟩, -⟩ := cells4 HY9.out
 go_wp2_with fail
 refine (HSS.out _ _ _ HX9.out (HVV.out _ HB9.out)).mono ?_
 rintro e w10 ⟨rfl, hb10⟩
 have HB10 := Lib.hid (HB9.out.trans (hb10.mono HB9.out.size))
 clear hb10
 go_wp2_with (go_at_call 5; refine (HW.out _).mono ?_; rintro e w5 ⟨rfl, hb5'⟩; have HB11 := Lib.hid (HB10.out.trans (hb5'.mono HB10.out.size)))
 go_ret
 exact ⟨rfl, HB11.out⟩
end Go.Proofs.YtnkodejgiabamaaGreatDoor
namespace Go.Proofs.YtnkodejgiabamaaGreatDoor
open Go.ChangeShapes Go.WideShapes Go.Joins Go.RowKit
def tabF : Array Value := (Go.Pinned.utf8FirstZ.map fun (n : Nat) => Value.int .u8 n).toArray
def tabA : Array Value := ([128, 191, 160, 191, 128, 159, 144, 191, 128, 143, 0, 0, 0, 0, 0, 0, 0, 0, 0, 0, 0, 0, 0, 0, 0, 0, 0, 0, 0, 0, 0, 0].map fun (n : Nat) => Value.int .u8 n).toArray
def layS1 (w : World) (g : Nat) (cs : Array Value) : World := { w with heap := w.heap.modify g fun
     | .cells _ t frozen => .cells cs t frozen
     | o => o }
def layS2 (w : World) : World := layS1 (layS1 w 1 tabF) 2 tabA
end Go.Proofs.YtnkodejgiabamaaGreatDoor
namespace Go.Proofs.YtnkodejgiabamaaGreatDoor
open Go.ChangeShapes Go.WideShapes Go.Joins Go.RowKit Go.Deep
def cellsP (l : List (PV × Value)) : List Value := l.flatMap fun p => pvC p.1 p.2
theorem cellsP_len (l : List (PV × Value)) : (cellsP l).length = l.length * 4 := by
 induction l with
 | nil => rfl
 | cons p l ih => unfold cellsP at *; rw [List.flatMap_cons, List.length_append, ih, List.length_cons]; simp [pvC]; omega
theorem row4 {w : World} {b : Nat} : ∀ (l : List (PV × Value)) (off : Nat),
   (∀ i p, l[i]? = some p → w.cell? ⟨b, off + i * 4, none⟩ = some (.int .i64 p.1.kind) ∧ w.cell? ⟨b, off + i * 4 + 1, none⟩ = some (.int .i64 p.1.n) ∧ w.cell? ⟨b, off + i * 4 + 2, none⟩ = some (.string (mkB p.1.s)) ∧ w.cell? ⟨b, off + i * 4 + 3, none⟩ = some p.2) →
   ∀ j u, (cellsP l)[j]? = some u → w.cell? ⟨b, off + j, none⟩ = some u
 | [], _, _, j, u, h => by simp [cellsP] at h
 | p :: l, off, hc, j, u, h => by
   have h0 := hc 0 p rfl
   simp only [Nat.zero_mul, Nat.add_zero] at h0
   have e : cellsP (p :: l) = .int .i64 p.1.kind :: .int .i64 p.1.n :: .string (mkB p.1.s) :: p.2 :: cellsP l := rfl
   rw [e] at h
   match j, h with
   | 0, h => simp at h; subst h; exact h0.1
   | 1, h => simp at h; subst h; exact h0.2.1
   | 2, h => simp at h; subst h; exact h0.2.2.1
   | 3, h => simp at h; subst h; exact h0.2.2.2
   | j + 4, h =>
     have := row4 l (off + 4) (fun i q hq => by
       have := hc (i + 1) q hq
       rw [show off + (i + 1) * 4 = off + 4 + i * 4 by omega] at this
       exact this) j u (by simpa using h)
     rw [show off + 4 + j = off + (j + 4) by omega] at this
     exact this
theorem isVs_of {w : World} : ∀ l : List (PV × Value), (∀ p ∈ l, IsV w anyF p.1 p.2) → IsVs w anyF (l.map (·.1)) (cellsP l)
 | [], _ => rfl
 | p :: l, h => ⟨p.2, cellsP l, rfl, h p (List.mem_cons_self ..), isVs_of l fun q hq => h q (List.mem_cons_of_mem _ hq)⟩
section
variable {H : Type} {enc : TypeId × Value → H} {w : World} {base : Nat} {spare : Nat → Bool} {held : Bool}
set_option maxRecDepth 100000 in
theorem val_cells : ∀ (N fuel : Nat) (cs : List Value) (x : DataW H × List MemPlace), fuel ≤ N → DataW.trod enc Tryz.prog w base spare held fuel 24 cs = some x → ∃ (v : PV) (sl : Value), cs = pvC v sl ∧ IsV w anyF v sl := by
 intro N
 induction N with
 | zero =>
   intro fuel cs x hf h
   obtain rfl : fuel = 0 := by omega
   simp [DataW.trod] at h
 | succ N ih =>
 intro fuel cs x hfu h
 have hC : Tryz.prog.cellsOf 24 = 4 := by kernel_rfl
 obtain ⟨xs, n, rfl, -, hlen, hxl, hf⟩ := DataW.trod_struct Tryz.underlying24 h
 rw [hC] at hlen
 match xs, hxl, cs, hlen with
 | [y0, y1, y2, y3], _, [c0, c1, c2, c3], _ =>
 have k3 : Tryz.prog.cellsOf 3 = 1 := by kernel_rfl
 have k9 : Tryz.prog.cellsOf 9 = 1 := by kernel_rfl
 have k22 : Tryz.prog.cellsOf 22 = 1 := by kernel_rfl
 have g0 : DataW.trod enc Tryz.prog w base spare held n 3 ((([c0, c1, c2, c3] : List Value).drop 0).take (Tryz.prog.cellsOf 3)) = some y0 := hf 0 _ rfl
 have g1 : DataW.trod enc Tryz.prog w base spare held n 3 ((([c0, c1, c2, c3] : List Value).drop 1).take (Tryz.prog.cellsOf 3)) = some y1 := hf 1 _ rfl
 have g2 : DataW.trod enc Tryz.prog w base spare held n 9 ((([c0, c1, c2, c3] : List Value).drop 2).take (Tryz.prog.cellsOf 9)) = some y2 := hf 2 _ rfl
 have g3 : DataW.trod enc Tryz.prog w base spare held n 22 ((([c0, c1, c2, c3] : List Value).drop 3).take (Tryz.prog.cellsOf 22)) = some y3 := hf 3 _ rfl
 rw [k3] at g0 g1
 rw [k9] at g2
 rw [k22] at g3
 obtain ⟨z0, e0, _, _⟩ := DataW.trod_int Tryz.underlying3 g0
 obtain ⟨z1, e1, _, _⟩ := DataW.trod_int Tryz.underlying3 g1
 obtain ⟨s, e2, _, _⟩ := DataW.trod_string Tryz.underlying9 g2
 simp at e0 e1 e2
 subst e0 e1 e2
 rcases DataW.trod_slice Tryz.underlying22 g3 with ⟨e3, _⟩ | ⟨a, len, cap, elems, rest, m, hm, e3, _, _, hl, hc, hel, helem, _⟩
 · simp at e3
   subst e3
   exact ⟨.mk z0 z1 s.data.toList [], .slice none 0 0, rfl, IsV.leaf w anyF _ rfl⟩
 · simp at e3
   subst e3
   subst hm
   have each : ∀ i, i < len → ∃ q : PV × Value, IsV w anyF q.1 q.2 ∧ w.cell? (a.add (i * 4)) = some (.int .i64 q.1.kind) ∧ w.cell? (a.add (i * 4 + 1)) = some (.int .i64 q.1.n) ∧ w.cell? (a.add (i * 4 + 2)) = some (.string (mkB q.1.s)) ∧ w.cell? (a.add (i * 4 + 3)) = some q.2 := fun i hi => by
     have h1 := helem i hi
     rw [List.getElem?_eq_getElem (by omega), hC] at h1
     obtain ⟨cs', h2, h3⟩ := Option.bind_eq_some_iff.1 h1
     obtain ⟨v, sl, rfl, hv⟩ := ih m cs' _ (by omega) h3
     obtain ⟨_, _, hcell⟩ := World.cells?_some h2
     have a0 := hcell 0 (by omega)
     have a1 := hcell 1 (by omega)
     have a2 := hcell 2 (by omega)
     have a3 := hcell 3 (by omega)
     rw [add_add] at a0 a1 a2 a3
     exact ⟨(v, sl), hv, by simpa [pvC] using a0, by simpa [pvC] using a1, by simpa [pvC] using a2, by simpa [pvC] using a3⟩
   have : Inhabited (PV × Value) := ⟨(PV.none, .slice none 0 0)⟩
   obtain ⟨f, hf⟩ := choose_lt each
   let L := (List.range len).map f
   have hL : L.length = len := by simp [L]
   have hv : IsV w anyF (.mk z0 z1 s.data.toList (L.map (·.1))) (.slice (some a) (PV.mk z0 z1 s.data.toList (L.map (·.1))).l.length cap) := by
     refine IsV.mk (cs := cellsP L) ⟨?_, ?_, hc, fun h => (by cases h), fun hn => ?_⟩ (fun _ _ _ => trivial) ?_
     · rw [cellsP_len]; simp [PV.l]
     · simp only [PV.l, List.length_map, hL]; exact hl
     · simp only [PV.l, List.length_map, hL] at hn
       have h0 := (hf 0 hn).2.1
       have hb := World.block_lt_of_cell? w _ h0
       obtain ⟨b, off, spot⟩ := a
       have hspot : spot = none := by simpa [Addr.add] using World.cell?_spot h0
       subst hspot
       refine ⟨b, off, rfl, by simpa [Addr.add] using hb, row4 L off fun i p hp => ?_⟩
       have hi : i < len := by
         have := (List.getElem?_eq_some_iff.1 hp).1
         rwa [hL] at this
       have hp2 : f i = p := by
         simpa [L, hi] using hp
       obtain ⟨_, e0, e1, e2, e3⟩ := hf i hi
       rw [hp2] at e0 e1 e2 e3
       rw [Addr.add_lit] at e0 e1 e2 e3
       rw [← Nat.add_assoc] at e1 e2 e3
       exact ⟨e0, e1, e2, e3⟩
     · refine isVs_of L fun p hp => ?_
       obtain ⟨i, hi, rfl⟩ := List.mem_map.1 hp
       exact (hf i (List.mem_range.1 hi)).1
   refine ⟨_, _, ?_, hv⟩
   simp only [pvC, PV.kind, PV.n, PV.s, PV.l, List.length_map, hL]
   rfl
set_option maxRecDepth 100000 in
theorem val_tree {r : Reach} {b0 : Nat} {v : Value} {d : DataW H} {p : List MemPlace} (hv : Value.okWide Tryz.prog w r b0 24 v) (h : DataW.Trod enc Tryz.prog w base spare held 24 v d p) :
   ∃ (u : PV) (sl : Value), v = pvA u sl ∧ IsV w anyF u sl := by
 obtain ⟨c0, c1, c2, c3, y0, y1, y2, y3, f, rfl, _⟩ := open_agg4 Tryz.underlying24 (by kernel_rfl) (by kernel_rfl) hv h
 obtain ⟨fuel, hf⟩ := h
 obtain ⟨u, sl, e, hu⟩ := val_cells fuel fuel _ _ (Nat.le_refl _) hf
 simp [Value.cells, pvC] at e
 obtain ⟨rfl, rfl, rfl, rfl⟩ := e
 exact ⟨u, _, rfl, hu⟩
end
end Go.Proofs.YtnkodejgiabamaaGreatDoor
