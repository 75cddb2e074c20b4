/-
  The walk of the law InflateSymbols.
-/
import Derived.Test.YtlmdgaajkjbpgaaInfB
import Derived.Test.YtlmdgaajkjbpgaaInf4
import Derived.Test.YtlmdgaajkjbpgaaInf4D
namespace Go.Proofs.Ytlmdgaajkjbpgaa
open Go.RowKit Go.Sort

set_option maxRecDepth 20000 in
set_option maxHeartbeats 4000000 in
theorem law_isym (x : Int) (w : World) (hx : -9223372036854775808 ≤ x ∧ x ≤ 9223372036854775807) : Calls Try.prog 4 #[.int .i64 x] w fun e w' => e = .returned (.bool true) ∧ Below w.heap.size w w' := by
  obtain ⟨⟨p, q, z⟩, hV⟩ : ∃ V, V = lenV5 x := ⟨_, rfl⟩
  obtain ⟨⟨p2, q2, z2⟩, hW⟩ : ∃ V, V = disV x := ⟨_, rfl⟩
  have HL := Lib.hid (fun W => length_any x W hx)
  have HRL := Lib.hid (fun W => rlength_any x W hx)
  have HD := Lib.hid (fun W => distance_any x W hx)
  have HRD := Lib.hid (fun W => rdistance_any x W hx)
  rw [← hV] at HL HRL
  rw [← hW] at HD HRD
  have HF := Lib.hid (fun W => fixed_any W)
  have HRF := Lib.hid (fun W => rfixed_any W)
  have HO := Lib.hid (fun W => order_any W)
  have HRO := Lib.hid (fun W => rorder_any W)
  have HW := Lib.hid (fun W => works_any W)
  clear hV hW hx
  go_enter Try.func4, Try.ntmps4
  go_wp2_with fail
  refine (HL.out _).mono ?_
  rintro e w1 ⟨rfl, rfl⟩
  go_wp2_with fail
  refine (HRL.out _).mono ?_
  rintro e w2 ⟨rfl, rfl⟩
  go_wp2_with fail
  refine (HD.out _).mono ?_
  rintro e w3 ⟨rfl, rfl⟩
  go_wp2_with fail
  refine (HRD.out _).mono ?_
  rintro e w4 ⟨rfl, rfl⟩
  go_wp2_with fail
  refine (HF.out w4).mono ?_
  rintro e w5 ⟨a1, c1, a2, c2, rfl, r1, r2, -, -, hb5, -⟩
  have R1 := Lib.hid r1
  have R2 := Lib.hid r2
  have B5 := Lib.hid hb5
  clear r1 r2 hb5
  go_wp2_with fail
  refine (HRF.out w5).mono ?_
  rintro e w6 ⟨a3, c3, a4, c4, rfl, r3, r4, -, -, hb6⟩
  rw [fixL_len] at r3 ⊢
  rw [fixD_len] at r4 ⊢
  have HS1 := Lib.hid (same_ints _ _ _ _ _ _ w6 (R1.out.mono hb6) r3)
  have HS2 := Lib.hid (fun (W : World) (h : Below w6.heap.size w6 W) => same_ints _ _ _ _ _ _ W ((R2.out.mono hb6).mono h) (r4.mono h))
  have B6 := Lib.hid (B5.out.trans (hb6.mono B5.out.size))
  clear r3 r4 hb6
  go_wp2_with fail
  refine HS1.out.mono ?_
  rintro e w7 ⟨rfl, hb7⟩
  have B7 := Lib.hid hb7
  clear hb7
  go_wp2_with fail
  refine (HS2.out w7 B7.out).mono ?_
  rintro e w8 ⟨rfl, hb8⟩
  have B8 := Lib.hid (B6.out.trans ((B7.out.trans (hb8.mono B7.out.size)).mono B6.out.size))
  clear hb8
  go_wp2_with fail
  refine (HO.out w8).mono ?_
  rintro e w9 ⟨a5, c5, rfl, r5, -, hb9⟩
  have R5 := Lib.hid r5
  have B9 := Lib.hid (B8.out.trans (hb9.mono B8.out.size))
  clear r5 hb9
  go_wp2_with fail
  refine (HRO.out w9).mono ?_
  rintro e w10 ⟨a6, c6, rfl, r6, -, hb10⟩
  have HS3 := Lib.hid (same_ints _ _ _ _ _ _ w10 (R5.out.mono hb10) r6)
  have B10 := Lib.hid (B9.out.trans (hb10.mono B9.out.size))
  clear r6 hb10
  go_wp2_with fail
  refine HS3.out.mono ?_
  rintro e w11 ⟨rfl, hb11⟩
  have B11 := Lib.hid (B10.out.trans (hb11.mono B10.out.size))
  clear hb11
  go_wp2_with fail
  refine (HW.out w11).mono ?_
  rintro e w12 ⟨rfl, hb12⟩
  have B12 := Lib.hid (B11.out.trans (hb12.mono B11.out.size))
  clear hb12
  go_wp2
  go_ret
  exact ⟨rfl, B12.out⟩
end Go.Proofs.Ytlmdgaajkjbpgaa
