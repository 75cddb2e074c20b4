/-
  Walks of layer 10: space and comments.
-/
import Derived.Test.YtkolfecjlbnfkaaLex2
import Derived.Test.YtkolfecjlbnfkaaLex4
namespace Go.Proofs.Ytkolfecjlbnfkaa
open Go.RowKit

/-- Where space and comments end, from a place on; amid a comment or not. -/
def skN (bs : List UInt8) (b : Bool) (j : Nat) : Nat := if bs.length ≤ j then bs.length else j + skipN b (bs.drop j)
theorem skN_end {bs : List UInt8} {b : Bool} {j : Nat} (h : bs.length ≤ j) : skN bs b j = bs.length := by unfold skN; rw [if_pos h]
theorem skN_go {bs : List UInt8} {b b' : Bool} {j : Nat} (h : j < bs.length) (hs : skipN b (bs.getD j 0 :: bs.drop (j + 1)) = 1 + skipN b' (bs.drop (j + 1))) : skN bs b j = skN bs b' (j + 1) := by
  unfold skN
  rw [if_neg (by omega)]
  have hd : bs.drop j = bs.getD j 0 :: bs.drop (j + 1) := by
    rw [List.drop_eq_getElem_cons h]; simp [List.getD, h]
  rw [hd, hs]
  by_cases h1 : bs.length ≤ j + 1
  · rw [if_pos h1, List.drop_eq_nil_of_le h1]
    simp only [skipN]
    omega
  · rw [if_neg h1]; omega
theorem skN_stop {bs : List UInt8} {j : Nat} (h : j < bs.length) (h1 : bs.getD j 0 ≠ 37) (h2 : isSp (bs.getD j 0) = false) : skN bs false j = j := by
  unfold skN
  rw [if_neg (by omega)]
  have hd : bs.drop j = bs.getD j 0 :: bs.drop (j + 1) := by
    rw [List.drop_eq_getElem_cons h]; simp [List.getD, h]
  rw [hd, skipN, if_neg h1, if_neg (by rw [h2]; decide), Nat.add_zero]
theorem skipV_skN {bs : List UInt8} {k : Int} (h : 0 ≤ k) : skipV bs k = skN bs false k.toNat := by
  unfold skipV skN
  rw [if_neg (by omega)]
  by_cases h1 : (bs.length : Int) ≤ k
  · rw [if_pos h1, if_pos (by omega)]
  · rw [if_neg h1, if_neg (by omega)]

set_option maxRecDepth 8000 in
set_option maxHeartbeats 4000000 in
theorem skip_any {w : World} {a : Option Addr} {cap : Nat} {bs : List UInt8} (hr : Row w 1 a bs.length cap (bs.map u8C)) (hn : bs.length ≤ 100000) (k : Int) :
    Calls Try.prog 17 #[.slice a bs.length cap, .int .i64 k] w fun e w' => e = .returned (.int .i64 (skipV bs k : Nat)) ∧ w = w' := by
  obtain ⟨V, hV⟩ : ∃ V, V = skipV bs k := ⟨_, rfl⟩
  rw [← hV]
  by_cases hk : k < 0
  · have HV := Lib.hid (show V = 0 by rw [hV]; unfold skipV; rw [if_pos hk])
    have hkd : decide (k < 0) = true := decide_eq_true hk
    clear hV hr
    go_enter Try.func17, Try.ntmps17
    go_wp2
    go_ret
    exact ⟨by rw [HV.out]; rfl, rfl⟩
  · have hv := hV.trans (skipV_skN (by omega))
    obtain ⟨j0, hj0⟩ : ∃ j : Nat, k = j := ⟨k.toNat, by omega⟩
    subst hj0
    rw [Int.toNat_natCast] at hv
    have HV := Lib.hid hv
    have hkd : decide ((j0 : Int) < 0) = false := decide_eq_false (by omega)
    have HC := Lib.hid (fun j (hj : j < bs.length) => hr.at 0 j hj)
    clear hV hr hv hk
    go_enter Try.func17, Try.ntmps17
    go_wp2
    go_loop [1, 5] (fun i c => ∃ (j : Nat) (b : Bool), i = .int .i64 j ∧ c = .bool b ∧ Hid (V = skN bs b j))
      (fun i _ => bs.length - (intOf i).toNat)
    case atStart => exact ⟨j0, false, rfl, rfl, HV⟩
    case round =>
      obtain ⟨j, b, rfl, rfl, HJ⟩ := hrel
      by_cases hj : j < bs.length
      · obtain ⟨b0, off, rfl, -, hc⟩ := HC.out j hj
        have hcj := hc j hj
        unfold u8C at hcj
        have hji : decide ((j : Int) < bs.length) = true := by simp; exact hj
        have hjm : j ≤ 99999 := by omega
        have HSP := Lib.hid (fun W => space_any (bs.getD j 0).toNat W)
        rw [← spI_eq] at HSP
        have HG := Lib.hid (fun b b' => @skN_go bs b b' j hj)
        have HST := Lib.hid (fun h1 h2 => @skN_stop bs j hj h1 h2)
        have HM := Lib.hid (show bs.length - (j + 1) < bs.length - j by omega)
        have hjd : decide (j < bs.length) = true := decide_eq_true hj
        clear hc HC hn hkd
        generalize bs.getD j 0 = c at *
        cases b
        · by_cases h37 : c = 37
          · have hx : c.toNat = 37 := by rw [h37]; rfl
            have HV2 := Lib.hid (HJ.out.trans (HG.out false true (by rw [h37]; simp [skipN])))
            rw [hx] at hcj
            clear hx h37
            go_wp2
            go_round
            case rel => exact ⟨j + 1, true, by go_num, rfl, HV2⟩
            case measure => simpa [intOf] using HM.out
          · have hx : ((c.toNat : Int) == 37) = false := by rw [beq_eq_false_iff_ne]; exact fun e => h37 (UInt8.toNat_inj.1 (Int.ofNat_inj.1 e))
            obtain ⟨sp, hsp⟩ : ∃ sp, isSp c = sp := ⟨_, rfl⟩
            rw [hsp] at HSP
            have HS := Lib.hid hsp
            have H37 := Lib.hid h37
            clear h37 hsp
            cases sp
            · have HV2 := Lib.hid (HJ.out.trans (HST.out H37.out HS.out))
              generalize c.toNat = x at *
              go_wp2_with (go_at_call 13; refine (HSP.out _).mono ?_; rintro e w' ⟨rfl, rfl⟩)
              go_ret
              exact ⟨by rw [HV2.out]; rfl, rfl⟩
            · have HV2 := Lib.hid (HJ.out.trans (HG.out false false (by rw [skipN, if_neg H37.out, if_pos HS.out])))
              generalize c.toNat = x at *
              go_wp2_with (go_at_call 13; refine (HSP.out _).mono ?_; rintro e w' ⟨rfl, rfl⟩)
              go_round
              case rel => exact ⟨j + 1, false, by go_num, rfl, HV2⟩
              case measure => simpa [intOf] using HM.out
        · have HV2 := Lib.hid (HJ.out.trans (HG.out true (c != 10 && c != 13) (by rw [skipN])))
          by_cases h10 : c = 10
          · have hx : c.toNat = 10 := by rw [h10]; rfl
            rw [hx] at hcj
            rw [show (c != 10 && c != 13) = false by rw [h10]; rfl] at HV2
            clear hx h10
            go_wp2
            go_round
            case rel => exact ⟨j + 1, false, by go_num, rfl, HV2⟩
            case measure => simpa [intOf] using HM.out
          · by_cases h13 : c = 13
            · have hx : c.toNat = 13 := by rw [h13]; rfl
              rw [hx] at hcj
              rw [show (c != 10 && c != 13) = false by rw [h13]; rfl] at HV2
              clear hx h10 h13
              go_wp2
              go_round
              case rel => exact ⟨j + 1, false, by go_num, rfl, HV2⟩
              case measure => simpa [intOf] using HM.out
            · rw [show (c != 10 && c != 13) = true by simp [h10, h13]] at HV2
              have e1 : ((c.toNat : Int) == 10) = false := by rw [beq_eq_false_iff_ne]; exact fun e => h10 (UInt8.toNat_inj.1 (Int.ofNat_inj.1 e))
              have e2 : ((c.toNat : Int) == 13) = false := by rw [beq_eq_false_iff_ne]; exact fun e => h13 (UInt8.toNat_inj.1 (Int.ofNat_inj.1 e))
              have e3 : ((c.toNat : Int) != 10) = true := by simp only [bne, e1, Bool.not_false]
              have e4 : ((c.toNat : Int) != 13) = true := by simp only [bne, e2, Bool.not_false]
              clear h10 h13
              generalize c.toNat = x at *
              go_wp2
              go_round
              case rel => exact ⟨j + 1, true, by go_num, rfl, HV2⟩
              case measure => simpa [intOf] using HM.out
      · have hji : decide ((j : Int) < bs.length) = false := decide_eq_false (by omega)
        have HV2 := Lib.hid (HJ.out.trans (skN_end (by omega)))
        have hjd : decide (j < bs.length) = false := decide_eq_false hj
        clear hj HC
        go_wp2
        go_ret
        exact ⟨by rw [HV2.out]; rfl, rfl⟩
end Go.Proofs.Ytkolfecjlbnfkaa
