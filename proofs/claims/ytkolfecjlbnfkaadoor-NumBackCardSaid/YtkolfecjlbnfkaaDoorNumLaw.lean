/-
  Walks of the laws of layer 9: are two numbers alike; the law's own example; the number of a text.
-/
import Derived.Test.YtkolfecjlbnfkaaDoorPrint
import Derived.Test.YtkolfecjlbnfkaaDoorNumT
import Derived.Test.YtkolfecjlbnfkaaDoorBelow
namespace Go.Proofs.YtkolfecjlbnfkaaDoor
open Go.RowKit

set_option maxHeartbeats 1000000 in
theorem same_any (k n : Int) (s : ByteArray) (a a' : Option Addr) (m c c' : Nat) (w : World) (_hm : (m : Int) ≤ 9223372036854775807) :
    Calls Tryd.prog 12 #[.agg #[.int .i64 k, .int .i64 n, .string s, .slice a m c], .agg #[.int .i64 k, .int .i64 n, .string s, .slice a' m c']] w fun e w' => e = .returned (.bool true) ∧ Below w.heap.size w w' := by
  have HB := Lib.hid (belowA2 w (.cells #[.int .i64 k, .int .i64 n, .string s, .slice a m c] 25) (.cells #[.int .i64 k, .int .i64 n, .string s, .slice a' m c'] 25))
  go_enter Tryd.func12, Tryd.ntmps12
  go_wp2
  go_ret
  exact ⟨rfl, HB.out⟩

def LawEnd (w : World) (e : Ending) (w' : World) : Prop := e = .returned (.bool true) ∧ Below w.heap.size w w'

theorem dec5 : decL 500000 = [53, 48, 48, 48, 48, 48] := by
  rw [decL_big (by omega), decL_big (by omega), decL_big (by omega), decL_big (by omega), decL_big (by omega), decL_small (by omega)]; rfl
theorem works_parse : parseV (bl ⟨#[46, 53]⟩) = (3, 500000, 0) := by decide
theorem works_print : printV 3 500000 (bareV noStr 0) = ([48, 46, 53], 0) := by
  rw [printV_ok (by decide)]
  show (signL 500000 ++ absL 3 500000, (0 : Int)) = _
  have h1 : absL 3 500000 = decL 0 ++ 46 :: trimF (padL 500000 6) := rfl
  have h2 : padL 500000 6 = [53, 48, 48, 48, 48, 48] := by unfold padL; rw [dec5]; rfl
  rw [h1, h2, decL_small (by omega)]; rfl
theorem works_pad : padV 7 3 = ([48, 48, 55], 0) := by
  rw [show (7 : Int) = ((7 : Nat) : Int) from rfl, padV_ok (by omega) (by omega) (by rw [decL_small (by omega)]; decide)]
  unfold padL; rw [decL_small (by omega)]; rfl

set_option maxRecDepth 8000 in
set_option maxHeartbeats 4000000 in
theorem works9 (w : World) : Calls Tryd.prog 7 #[] w (LawEnd w) := by
  have hP := fun W => parse_any ⟨#[46, 53]⟩ W (by decide)
  have hQ := fun W => print_any 3 500000 noStr none 0 0 W (by omega)
  have hR := fun W => pad_any 7 3 W (by omega) (by omega) (by omega) (by omega)
  rw [works_parse] at hP
  unfold PrintEnd at hQ
  rw [works_print] at hQ
  unfold PadEnd at hR
  rw [works_pad] at hR
  simp only [show mkS [48, 46, 53] = ⟨#[48, 46, 53]⟩ from rfl] at hQ
  simp only [show mkS [48, 48, 55] = ⟨#[48, 48, 55]⟩ from rfl] at hR
  have HP := Lib.hid hP
  have HQ := Lib.hid hQ
  have HR := Lib.hid hR
  clear hP hQ hR
  go_enter Tryd.func7, Tryd.ntmps7
  go_wp2_with fail
  refine (HP.out _).mono ?_
  rintro e w1 ⟨rfl, hb1⟩
  have HB1 := Lib.hid hb1
  clear hb1
  simp only [valC]
  go_wp2_with fail
  refine (HQ.out _).mono ?_
  rintro e w2 ⟨rfl, hb2⟩
  have hk2 := block_keep hb2 (heapA_new _ rfl)
  have HB2 := Lib.hid ((HB1.out.trans ((belowA w1 _).mono HB1.out.size)).trans (hb2.mono (by rw [sizeA]; have := HB1.out.size; omega)))
  obtain ⟨⟨k0, k1, k2, k3⟩, -⟩ := cells4 hk2
  clear hb2 hk2
  go_wp2_with fail
  refine (HR.out _).mono ?_
  rintro e w3 ⟨rfl, q, rfl⟩
  go_wp2
  go_ret
  exact ⟨rfl, below_drewN HB2.out q⟩

set_option maxRecDepth 8000 in
set_option maxHeartbeats 4000000 in
theorem law_parses (s : ByteArray) (w : World) (hs : s.size ≤ 9223372036854775807) : Calls Tryd.prog 3 #[.string s] w (LawEnd w) := by
  have HW := Lib.hid (fun W => works9 W)
  by_cases hbig : 300 < (s.size : Int)
  · go_enter Tryd.func3, Tryd.ntmps3
    go_wp2_with (go_at_call 7; refine (HW.out _).mono ?_; rintro e w' ⟨rfl, hb⟩)
    go_ret
    exact ⟨rfl, hb⟩
  have hbd : decide (300 < (s.size : Int)) = false := by simpa using hbig
  have hs3 : s.size ≤ 300 := by omega
  have hP := fun W => parse_any s W (by omega)
  have hR := fun W => rparse_any s W (by omega)
  have hD := fun W => digits_any s W
  have hE := fun W => rdigits_any s W (by omega)
  obtain ⟨⟨K, N, E⟩, hV⟩ : ∃ V, V = parseV (bl s) := ⟨_, rfl⟩
  obtain ⟨⟨D, G⟩, hU⟩ : ∃ U, U = digitsV (bl s) := ⟨_, rfl⟩
  rw [← hV] at hP hR
  rw [← hU] at hD hE
  unfold ParseEnd valC at hP hR
  unfold DigEnd at hD hE
  simp only at hP hR hD hE
  have HP := Lib.hid hP
  have HR := Lib.hid hR
  have HD := Lib.hid hD
  have HE := Lib.hid hE
  have HS := Lib.hid (fun W => same_any K N noStr none none 0 0 0 W (by omega))
  clear hP hR hD hE hV hU hbig hs
  go_enter Tryd.func3, Tryd.ntmps3
  go_wp2_with fail
  refine (HP.out _).mono ?_
  rintro e w1 ⟨rfl, hb1⟩
  have HB1 := Lib.hid hb1
  clear hb1
  go_wp2_with fail
  refine (HR.out _).mono ?_
  rintro e w2 ⟨rfl, hb2⟩
  have HK2 := Lib.hid (block_keep hb2 (heapA_new _ rfl))
  have HB2 := Lib.hid ((HB1.out.trans ((belowA w1 _).mono HB1.out.size)).trans (hb2.mono (by rw [sizeA]; have := HB1.out.size; omega)))
  clear hb2
  go_wp2_with fail
  refine (HD.out _).mono ?_
  rintro e w3 ⟨rfl, hb3⟩
  have HK3 := Lib.hid (block_keep hb3 (heapA_old _ HK2.out))
  have HL3 := Lib.hid (block_keep hb3 (heapA_new _ rfl))
  have HB3 := Lib.hid ((HB2.out.trans ((belowA w2 _).mono HB2.out.size)).trans (hb3.mono (by rw [sizeA]; have := HB2.out.size; omega)))
  clear hb3
  go_wp2_with fail
  refine (HE.out _).mono ?_
  rintro e w4 ⟨rfl, hb4⟩
  have hk4 := block_keep hb4 HK3.out
  have hl4 := block_keep hb4 HL3.out
  have HB4 := Lib.hid (HB3.out.trans (hb4.mono HB3.out.size))
  obtain ⟨⟨k0, k1, k2, k3⟩, -⟩ := cells4 hk4
  obtain ⟨⟨g0, g1, g2, g3⟩, -⟩ := cells4 hl4
  clear hb4 hk4 hl4
  go_wp2_with fail
  refine (HS.out _).mono ?_
  rintro e w5 ⟨rfl, hb5⟩
  have HB5 := Lib.hid (HB4.out.trans (hb5.mono HB4.out.size))
  clear hb5 k0 k1 k2 k3 g0 g1 g2 g3
  go_wp2_with (go_at_call 7; refine (HW.out _).mono ?_; rintro e w' ⟨rfl, hb⟩)
  go_ret
  exact ⟨rfl, HB5.out.trans (hb.mono HB5.out.size)⟩

theorem print_len {k n : Int} {b : Bool} (h : checkV k n b = 0) : (printV k n b).1.length ≤ 40 := by
  obtain ⟨-, hc⟩ := checkV_cases h
  rw [printV_ok h]
  show (signL n ++ absL k n.natAbs).length ≤ 40
  have h1 : (signL n).length ≤ 1 := by unfold signL; split <;> simp
  have h2 : (absL k n.natAbs).length ≤ 30 := by
    unfold absL
    split
    · have := decL_len 19 n.natAbs (by omega); omega
    · have h3 := decL_len 19 (n.natAbs / 1000000) (by omega)
      have h4 := (mil_trimF (n.natAbs % 1000000) (by omega)).2.2.2
      rw [List.length_append, List.length_cons]; omega
  rw [List.length_append]; omega
theorem bare_parts {s : ByteArray} {m : Nat} (h : bareV s m = true) : s = noStr ∧ m = 0 := by
  unfold bareV at h
  rw [Bool.and_eq_true, decide_eq_true_iff, decide_eq_true_iff] at h
  exact ⟨mkS_ext h.1, h.2⟩
theorem padV_is (n d : Int) : (padV n d).2 = 0 ∨ (padV n d) = ([], 2) := by unfold padV; split <;> simp
theorem pad_short (n d : Int) : (padV n d).1.length ≤ 20 := by
  unfold padV; split
  · simp
  · rename_i h
    have := padL_len (n := n.toNat) (d := d.toNat) (by omega)
    show (padL n.toNat d.toNat).length ≤ 20
    omega

set_option maxRecDepth 8000 in
set_option maxHeartbeats 4000000 in
theorem law_prints (k n : Int) (s : ByteArray) (a : Option Addr) (m c : Nat) (d : Int) (w : World) (hm : (m : Int) ≤ 9223372036854775807) (hn : n < 9223372036854775808) (hn0 : -9223372036854775808 ≤ n) (hd0 : -9223372036854775808 ≤ d) (hd1 : d ≤ 9223372036854775807) :
    Calls Tryd.prog 4 #[.agg #[.int .i64 k, .int .i64 n, .string s, .slice a m c], .int .i64 d] w (LawEnd w) := by
  have hP := fun W => print_any k n s a m c W hm
  have hR := fun W => rprint_any k n s a m c W hm
  have hA := fun W => pad_any n d W hn hn0 hd0 hd1
  have hB := fun W => rpad_any n d W hn hn0 hd0 hd1
  have hC := fun W => check_any k n s a m c W hm
  have hD := fun W => rcheck_any k n s a m c W hm
  unfold PrintEnd at hP hR
  unfold PadEnd at hA hB
  generalize checkV k n (bareV s m) = ce at *
  generalize mkS (printV k n (bareV s m)).1 = ps at *
  generalize (printV k n (bareV s m)).2 = pe at *
  generalize mkS (padV n d).1 = qs at *
  generalize (padV n d).2 = qe at *
  have HP := Lib.hid hP
  have HR := Lib.hid hR
  have HA := Lib.hid hA
  have HB := Lib.hid hB
  have HC := Lib.hid hC
  have HD := Lib.hid hD
  have HW := Lib.hid (fun W => works9 W)
  have HBX := Lib.hid (show (w.alloc (.cells #[.int .i64 k, .int .i64 n, .string s, .slice a m c] 25)).heap[w.heap.size]? = some (.cells #[.int .i64 k, .int .i64 n, .string s, .slice a m c] 25 (0, 0)) from heapA_new _ rfl)
  have HB0 := Lib.hid (belowA w (.cells #[.int .i64 k, .int .i64 n, .string s, .slice a m c] 25))
  unfold LawEnd at HW
  clear hP hR hA hB hC hD hm hn hn0 hd0 hd1
  go_enter Tryd.func4, Tryd.ntmps4
  go_wp2_with fail
  refine (HP.out _).mono ?_
  rintro e w1 ⟨rfl, hb1⟩
  have HK1 := Lib.hid (block_keep hb1 HBX.out)
  have HB1 := Lib.hid (HB0.out.trans (hb1.mono HB0.out.size))
  obtain ⟨⟨k0, k1, k2, k3⟩, -⟩ := cells4 HK1.out
  clear hb1
  go_wp2_with fail
  refine (HR.out _).mono ?_
  rintro e w2 ⟨rfl, hb2⟩
  clear k0 k1 k2 k3
  have HK2 := Lib.hid (block_keep hb2 HK1.out)
  have HB2 := Lib.hid (HB1.out.trans (hb2.mono HB1.out.size))
  obtain ⟨⟨k0, k1, k2, k3⟩, -⟩ := cells4 HK2.out
  clear hb2
  go_wp2_with fail
  refine (HA.out _).mono ?_
  rintro e w3 ⟨rfl, q3, rfl⟩
  go_wp2_with fail
  refine (HB.out _).mono ?_
  rintro e w4 ⟨rfl, q4, rfl⟩
  clear k0 k1 k2 k3
  have HK4 := Lib.hid (show ((w2.drewN q3).drewN q4).heap[w.heap.size]? = _ from HK2.out)
  have HB4 := Lib.hid (below_drewN (below_drewN HB2.out q3) q4)
  generalize (w2.drewN q3).drewN q4 = w4 at *
  obtain ⟨⟨k0, k1, k2, k3⟩, -⟩ := cells4 HK4.out
  have q0 := BelowW.cell k0
  have q1 := BelowW.cell k1
  have q2 := BelowW.cell k2
  have q3 := BelowW.cell k3
  clear k0 k1 k2 k3
  go_wp2
  refine wp_region_below (by kernel_rfl) (by kernel_rfl) ?_
  repeat (quiet_step ((first
    | (go_at_call 17; with_reducible exact Calls.below_of (HC.out _))
    | (go_at_call 18; with_reducible exact Calls.below_of (HD.out _))
    | (go_at_call 7; with_reducible exact Calls.below_of (HW.out _)))))
  refine wpQuiet_nil ?_
  rintro _ ⟨⟨w5, hb5⟩, rfl⟩
  go_wp2
  go_ret
  exact ⟨rfl, HB4.out.trans (hb5.mono HB4.out.size)⟩
end Go.Proofs.YtkolfecjlbnfkaaDoor
