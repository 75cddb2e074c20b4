/-
  Our texts LawMost to LawMost, in one.
-/
import Derived.Test.YtlmdgaajkjbpgaaPkI13
/-
  The walk of the law InflateMost.
-/
namespace Go.Proofs.Ytlmdgaajkjbpgaa
open Go.RowKit Go.Sort

set_option maxRecDepth 20000 in
set_option maxHeartbeats 4000000 in
theorem law_most (x y : Nat) (hx : x < 65536) (hy : y < 65536) (a : Option Addr) (cap : Nat) (bs : List UInt8) (w : World) (hr : Row w 1 a bs.length cap (bs.map u8C)) :
    Calls Try.prog 6 #[.slice a bs.length cap, .int .u16 x, .int .u16 y] w fun e w' => e = .returned (.bool true) ∧ Below w.heap.size w w' := by
  have HW := Lib.hid (fun W => works_any W)
  have HR := Lib.hid hr
  by_cases hl : 300 < bs.length
  · have hd : decide ((300 : Int) < (bs.length : Int)) = true := decide_eq_true (by omega)
    clear hr
    go_enter Try.func6, Try.ntmps6
    go_wp2_with fail
    refine (HW.out w).mono ?_
    rintro e w1 ⟨rfl, hb⟩
    go_wp2
    go_ret
    exact ⟨rfl, hb⟩
  · have hd : decide ((300 : Int) < (bs.length : Int)) = false := decide_eq_false (by omega)
    by_cases hxy : y < x
    · have hd2 : decide ((y : Int) < (x : Int)) = true := decide_eq_true (by omega)
      clear hr
      go_enter Try.func6, Try.ntmps6
      go_wp2_with fail
      refine (HW.out w).mono ?_
      rintro e w1 ⟨rfl, hb⟩
      go_wp2
      go_ret
      exact ⟨rfl, hb⟩
    · have hd2 : decide ((y : Int) < (x : Int)) = false := decide_eq_false (by omega)
      by_cases hyl : 2000 < y
      · have hd3 : decide ((2000 : Int) < (y : Int)) = true := decide_eq_true (by omega)
        clear hr
        go_enter Try.func6, Try.ntmps6
        go_wp2_with fail
        refine (HW.out w).mono ?_
        rintro e w1 ⟨rfl, hb⟩
        go_wp2
        go_ret
        exact ⟨rfl, hb⟩
      · have hd3 : decide ((2000 : Int) < (y : Int)) = false := decide_eq_false (by omega)
        have HA := Lib.hid (inflate_res w a cap x bs hr (by omega) (by omega))
        have HB := Lib.hid (fun (W : World) (h : Below w.heap.size w W) => inflate_res W a cap y bs (hr.mono h) (by omega) (by omega))
        have hA1 := endI_le bs x
        have hB1 := endI_le bs y
        have hE := most_end (show x ≤ y by omega) bs
        have hM := most_more (show x ≤ y by omega) bs
        obtain ⟨S1, hS1⟩ : ∃ S1, S1 = endI bs x := ⟨_, rfl⟩
        obtain ⟨S2, hS2⟩ : ∃ S2, S2 = endI bs y := ⟨_, rfl⟩
        rw [← hS1] at HA hA1 hE hM
        rw [← hS2] at HB hB1 hE hM
        have HE := Lib.hid hE
        have HM := Lib.hid hM
        have j1n : decide (x < (resO S1).length) = false := decide_eq_false (by omega)
        have j2n : decide (y < (resO S2).length) = false := decide_eq_false (by omega)
        have j1 : decide ((x : Int) < ((resO S1).length : Int)) = false := decide_eq_false (by omega)
        have j2 : decide ((y : Int) < ((resO S2).length : Int)) = false := decide_eq_false (by omega)
        have j3 : IntKind.i64.wrap (x : Int) = (x : Int) := IntWalk.i64_in _ (by omega)
        have j4 : IntKind.i64.wrap (y : Int) = (y : Int) := IntWalk.i64_in _ (by omega)
        clear hr hS1 hS2 hE hM
        go_enter Try.func6, Try.ntmps6
        go_wp2_with fail
        refine HA.out.mono ?_
        rintro e w1 ⟨v1, B1, rfl, hO1, hb1⟩
        obtain ⟨a1, c1, rfl, -, -⟩ := Row.of_owns hO1
        have HO1 := Lib.hid hO1
        have HB1 := Lib.hid hb1
        clear hO1 hb1
        go_wp2_with fail
        refine (HB.out w1 HB1.out).mono ?_
        rintro e w2 ⟨v2, B2, rfl, hO2, hb2⟩
        obtain ⟨a2, c2, rfl, -, -⟩ := Row.of_owns hO2
        have HO2 := Lib.hid hO2
        have HOa := Lib.hid (ownsRow_keep HO1.out hb2)
        have HB2 := Lib.hid (HB1.out.trans (hb2.mono HB1.out.size))
        clear hO2 hb2
        by_cases h3 : S1.e = 3
        · have HM2 := Lib.hid (HM.out h3)
          by_cases h20 : S2.e = 0
          · have hlt : x < (resO S2).length := HM2.out.resolve_left (fun h => h h20)
            have hd4n : decide (x < (resO S2).length) = true := decide_eq_true (by omega)
            have hd4 : decide ((x : Int) < ((resO S2).length : Int)) = true := decide_eq_true (by omega)
            clear hlt
            go_wp2_with fail
            refine (HW.out w2).mono ?_
            rintro e w3 ⟨rfl, hb⟩
            have HB3 := Lib.hid (HB2.out.trans (hb.mono HB2.out.size))
            clear hb
            go_wp2
            go_ret
            exact ⟨rfl, HB3.out⟩
          · have hb20 : (S2.e == 0) = false := by rw [beq_eq_false_iff_ne]; exact h20
            go_wp2_with fail
            refine (HW.out w2).mono ?_
            rintro e w3 ⟨rfl, hb⟩
            have HB3 := Lib.hid (HB2.out.trans (hb.mono HB2.out.size))
            clear hb
            go_wp2
            go_ret
            exact ⟨rfl, HB3.out⟩
        · have hb3 : (S1.e == 3) = false := by rw [beq_eq_false_iff_ne]; exact h3
          obtain rfl : S1 = S2 := HE.out h3
          have hcx := conv_own HOa.out
          have hcy := conv_own HO2.out
          go_wp2_with fail
          refine (HW.out w2).mono ?_
          rintro e w3 ⟨rfl, hb⟩
          have HB3 := Lib.hid (HB2.out.trans (hb.mono HB2.out.size))
          clear hb
          go_wp2
          go_ret
          exact ⟨rfl, HB3.out⟩
end Go.Proofs.Ytlmdgaajkjbpgaa
