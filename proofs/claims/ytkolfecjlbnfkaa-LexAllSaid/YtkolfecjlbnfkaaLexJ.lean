/-
  Walks of layer 10: the document's Skip.
-/
import Derived.Test.YtkolfecjlbnfkaaLexG
namespace Go.Proofs.Ytkolfecjlbnfkaa
open Go.RowKit

theorem skN_pc {bs : List UInt8} {j : Nat} (h : j < bs.length) (hc : bs.getD j 0 = 37) : skN bs false j = skN bs true j := by
  rw [skN_go (b' := true) h (by rw [hc]; simp [skipN]), skN_go (b := true) (b' := true) h (by rw [hc]; simp [skipN])]
theorem skN_nl {bs : List UInt8} {j : Nat} (h : j < bs.length) (hc : bs.getD j 0 = 10 ∨ bs.getD j 0 = 13) : skN bs true j = skN bs false j := by
  have hl : ∀ l, skipN true (bs.getD j 0 :: l) = 1 + skipN false l := fun l => by
    rcases hc with hc | hc <;> (rw [hc]; simp [skipN])
  have h2 : ∀ l, skipN false (bs.getD j 0 :: l) = 1 + skipN false l := fun l => by
    rcases hc with hc | hc <;> (rw [hc]; simp [skipN, isSp])
  rw [skN_go (b' := false) h (hl _), skN_go (b := false) (b' := false) h (h2 _)]
theorem skN_on {bs : List UInt8} {j : Nat} (h : j < bs.length) (h1 : bs.getD j 0 ≠ 10) (h2 : bs.getD j 0 ≠ 13) : skN bs true j = skN bs true (j + 1) :=
  skN_go h (by rw [skipN, show (bs.getD j 0 != 10 && bs.getD j 0 != 13) = true by rw [Bool.and_eq_true, bne_iff_ne, bne_iff_ne]; exact ⟨h1, h2⟩])

set_option maxRecDepth 8000 in
set_option maxHeartbeats 4000000 in
theorem rskip_any {w : World} {a : Option Addr} {cap : Nat} {bs : List UInt8} (hr : Row w 1 a bs.length cap (bs.map u8C)) (hn : bs.length ≤ 100000) (k : Int) :
    Calls Try.prog 18 #[.slice a bs.length cap, .int .i64 k] w fun e w' => e = .returned (.int .i64 (skipV bs k : Nat)) ∧ w = w' := by
  obtain ⟨V, hV⟩ : ∃ V, V = skipV bs k := ⟨_, rfl⟩
  rw [← hV]
  by_cases hk : k < 0
  · have HV := Lib.hid (show V = 0 by rw [hV]; unfold skipV; rw [if_pos hk])
    have hkd : decide (k < 0) = true := decide_eq_true hk
    clear hV hr
    go_enter Try.func18, Try.ntmps18
    go_wp2
    go_ret
    exact ⟨by rw [HV.out]; rfl, rfl⟩
  · have hv := hV.trans (skipV_skN (by omega))
    obtain ⟨j0, hj0⟩ : ∃ j : Nat, k = j := ⟨k.toNat, by omega⟩
    subst hj0
    rw [Int.toNat_natCast] at hv
    have HV := Lib.hid hv
    have hkd : decide ((j0 : Int) < 0) = false := decide_eq_false (by omega)
    have HC := Lib.hid (fun j (hj : j < bs.length) => hr.at 0 j hj)
    clear hV hr hv hk
    go_enter Try.func18, Try.ntmps18
    go_wp2
    go_loop [1] (fun i => ∃ j : Nat, i = .int .i64 j ∧ Hid (V = skN bs false j))
      (fun i => bs.length - (intOf i).toNat)
    case atStart => exact ⟨j0, rfl, HV⟩
    case round =>
      obtain ⟨j, rfl, HJ⟩ := hrel
      by_cases hj : j < bs.length
      · obtain ⟨b0, off, ha, -, hc⟩ := HC.out j hj
        have hcj := hc j hj
        have HCC := Lib.hid hc
        unfold u8C at hcj
        have hji : decide ((j : Int) < bs.length) = true := by simp; exact hj
        have hjd : decide (j < bs.length) = true := decide_eq_true hj
        have hjm : j ≤ 99999 := by omega
        have HSP := Lib.hid (fun W => rspace_any (bs.getD j 0).toNat W)
        rw [← spI_eq] at HSP
        have HG := Lib.hid (fun b b' => @skN_go bs b b' j hj)
        have HST := Lib.hid (fun h1 h2 => @skN_stop bs j hj h1 h2)
        have HPC := Lib.hid (fun h => @skN_pc bs j hj h)
        have HM := Lib.hid (show bs.length - (j + 1) < bs.length - j by omega)
        have HN := Lib.hid hn
        have HJJ := Lib.hid hj
        obtain ⟨c, hcc⟩ : ∃ c, bs.getD j 0 = c := ⟨_, rfl⟩
        rw [hcc] at hcj HSP HG HST HPC
        have HCJ := Lib.hid hcc
        subst ha
        clear hc HC hn hkd hcc
        obtain ⟨sp, hsp⟩ : ∃ sp, isSp c = sp := ⟨_, rfl⟩
        rw [hsp] at HSP
        have HS := Lib.hid hsp
        clear hsp
        cases sp
        · by_cases h37 : c = 37
          · have hx : c.toNat = 37 := by rw [h37]; rfl
            have HV2 := Lib.hid (HJ.out.trans (HPC.out h37))
            rw [hx] at hcj HSP
            have H37 := Lib.hid h37
            clear hx h37
            go_wp2_with (go_at_call 14; refine (HSP.out _).mono ?_; rintro e w' ⟨rfl, rfl⟩)
            clear hcj hj hji hjd hjm
            go_loop [1] (fun i => ∃ m : Nat, i = .int .i64 m ∧ Hid (j ≤ m) ∧ Hid (V = skN bs true m))
              (fun i => bs.length - (intOf i).toNat)
            case atStart => exact ⟨j, rfl, Lib.hid (Nat.le_refl _), HV2⟩
            case round =>
              obtain ⟨m, rfl, HJM, HMM⟩ := hrel
              by_cases hm : m < bs.length
              · have hcm := HCC.out m hm
                unfold u8C at hcm
                have hmi : decide ((m : Int) < bs.length) = true := by simp; exact hm
                have hmd : decide (m < bs.length) = true := decide_eq_true hm
                have hmm : m ≤ 99999 := by have := HN.out; omega
                have HME := Lib.hid (show bs.length - (m + 1) < bs.length - m by omega)
                by_cases hnl : bs.getD m 0 = 10 ∨ bs.getD m 0 = 13
                · have HV3 := Lib.hid (HMM.out.trans (skN_nl hm hnl))
                  have HJM2 := Lib.hid (show bs.length - m < bs.length - j by
                    have h1 := HJM.out
                    have h2 := HJJ.out
                    have h3 : m ≠ j := fun e => by
                      rw [e, HCJ.out, H37.out] at hnl
                      rcases hnl with h | h <;> exact absurd h (by decide)
                    omega)
                  obtain ⟨x, hx⟩ : ∃ x, (bs.getD m 0).toNat = x := ⟨_, rfl⟩
                  rw [hx] at hcm
                  have hxx : x = 10 ∨ x = 13 := by rw [← hx]; rcases hnl with h | h <;> (rw [h]; decide)
                  clear hx hnl
                  rcases hxx with rfl | rfl
                  all_goals
                    go_wp2
                    go_round
                    case rel => exact ⟨m, rfl, HV3⟩
                    case measure => simpa [intOf] using HJM2.out
                · have HV3 := Lib.hid (HMM.out.trans (skN_on hm (fun e => hnl (.inl e)) (fun e => hnl (.inr e))))
                  have HJM2 := Lib.hid (show j ≤ m + 1 from Nat.le_succ_of_le HJM.out)
                  have e1 : (((bs.getD m 0).toNat : Int) == 10) = false := by rw [beq_eq_false_iff_ne]; exact fun e => hnl (.inl (UInt8.toNat_inj.1 (Int.ofNat_inj.1 e)))
                  have e2 : (((bs.getD m 0).toNat : Int) == 13) = false := by rw [beq_eq_false_iff_ne]; exact fun e => hnl (.inr (UInt8.toNat_inj.1 (Int.ofNat_inj.1 e)))
                  generalize (bs.getD m 0).toNat = x at *
                  have e3 : ((x : Int) != 10) = true := by simp only [bne, e1, Bool.not_false]
                  have e4 : ((x : Int) != 13) = true := by simp only [bne, e2, Bool.not_false]
                  clear hnl
                  go_wp2
                  go_round
                  case rel => exact ⟨m + 1, by go_num, HJM2, HV3⟩
                  case measure => simpa [intOf] using HME.out
              · have hmi : decide ((m : Int) < bs.length) = false := decide_eq_false (by omega)
                have hmd : decide (m < bs.length) = false := decide_eq_false hm
                have HV3 := Lib.hid (HMM.out.trans ((skN_end (b := true) (by omega)).trans (skN_end (b := false) (Nat.le_of_not_lt hm)).symm))
                have HJM2 := Lib.hid (show bs.length - m < bs.length - j by have := HJJ.out; omega)
                clear hm
                go_wp2
                go_round
                case rel => exact ⟨m, rfl, HV3⟩
                case measure => simpa [intOf] using HJM2.out
          · have hx : ((c.toNat : Int) == 37) = false := by rw [beq_eq_false_iff_ne]; exact fun e => h37 (UInt8.toNat_inj.1 (Int.ofNat_inj.1 e))
            have hx2 : ((c.toNat : Int) != 37) = true := by simp only [bne, hx, Bool.not_false]
            have HV2 := Lib.hid (HJ.out.trans (HST.out h37 HS.out))
            clear h37
            generalize c.toNat = x at *
            go_wp2_with (go_at_call 14; refine (HSP.out _).mono ?_; rintro e w' ⟨rfl, rfl⟩)
            go_ret
            exact ⟨by rw [HV2.out]; rfl, rfl⟩
        · have h37 : c ≠ 37 := fun e => by have := HS.out; rw [e] at this; exact absurd this (by decide)
          have HV2 := Lib.hid (HJ.out.trans (HG.out false false (by rw [skipN, if_neg h37, if_pos HS.out])))
          clear h37
          generalize c.toNat = x at *
          go_wp2_with (go_at_call 14; refine (HSP.out _).mono ?_; rintro e w' ⟨rfl, rfl⟩)
          go_round
          case rel => exact ⟨j + 1, by go_num, HV2⟩
          case measure => simpa [intOf] using HM.out
      · have hji : decide ((j : Int) < bs.length) = false := decide_eq_false (by omega)
        have HV2 := Lib.hid (HJ.out.trans (skN_end (by omega)))
        have hjd : decide (j < bs.length) = false := decide_eq_false hj
        clear hj HC
        go_wp2
        go_ret
        exact ⟨by rw [HV2.out]; rfl, rfl⟩
end Go.Proofs.Ytkolfecjlbnfkaa
