/-
  Go's stable merge in place, at elements of one cell ([]int): two runs, the walk (m ≤ mid).
-/
import Derived.Test.YtlmdgaajkjbpgaaSym3
namespace Go.Proofs.Ytlmdgaajkjbpgaa
open Go.RowKit Go.Sort

set_option maxRecDepth 8000 in
set_option maxHeartbeats 8000000 in
theorem sym_lo {α : Type} [Inhabited α] (enc : α → Value) (hE : ∀ x, ∃ n, enc x = .int .i64 n) (cf : α → α → Int) (lt : α → α → Bool) (D : α → Prop) (f : FuncId) (cb : Array Value) (g cap : Nat) (rest : List Value) (n : Nat) (w0 : World)
    (hC : CmpQ Try.prog f cb enc cf D w0 g) (hsz : n < 4611686018427387904) (a m b mid s0 r0 : Nat) (d : Array α) (w : World) (hdn : d.size = n) (hS : SB enc w0 g 3 rest d w) (hD : ∀ i, i < d.size → D d[i]!) (ham : a + 1 < m) (hmb : m + 1 < b) (hb : b ≤ n) (hA : Agree (ltOf cf) lt d a m b)
    (hmid : mid = (a + b) / 2) (hcase : m ≤ mid) (hs0 : s0 = a) (hr0 : r0 = m) (hfin : FinSaid enc lt f cb g cap rest n w0 a m b mid s0 r0 d) :
    Calls Try.prog 70 #[.slice (some ⟨g, 0, none⟩) n cap, .int .i64 a, .int .i64 m, .int .i64 b, .func (.func f) #[] cb] w fun e w' => MergeP enc lt g a b rest d w0 e w' := by
  have hne1 : ((m : Int) - (a : Int) == 1) = false := by rw [beq_eq_false_iff_ne]; omega
  have hne2 : ((b : Int) - (m : Int) == 1) = false := by rw [beq_eq_false_iff_ne]; omega
  have hmid1 : ((a : Int) + (b : Int)) / 2 = (mid : Int) := by omega
  have hma : a < mid := by omega
  have hmB : mid < b := by omega
  have hsr : s0 ≤ r0 := by omega
  have hs0a : a ≤ s0 := by omega
  have hr0m : r0 ≤ m := by omega
  have hr0d : r0 ≤ mid := by omega
  have hs0b : mid + m - s0 ≤ b := by omega
  have hend0 : s0 = a ∨ mid + m - s0 = b := by omega
  have hend1 : r0 = m ∨ r0 = mid := by omega
  have eg := hC.enters
  have HC := Lib.hid hC
  have HS := Lib.hid hS
  have HD := Lib.hid hD
  have HA := Lib.hid hA
  have HS0 := Lib.hid hs0
  have HR0 := Lib.hid hr0
  have FIN := Lib.hid hfin
  clear hC hS hD hA hs0 hr0 hmid hfin
  go_enter Try.func70, Try.ntmps70
  go_wp2
  go_loopw [20, 21] (fun vs vr wr => ∃ (s r : Nat), vs = .int .i64 s ∧ vr = .int .i64 r ∧ s0 ≤ s ∧ s ≤ r ∧ r ≤ r0 ∧ Hid (SB enc w0 g 3 rest d wr) ∧ Hid (s0 < s → lt d[mid + m - s]! d[s - 1]! = false) ∧ Hid (r < r0 → lt d[mid + m - r - 1]! d[r]! = true)) (fun vs vr _ => (intOf vr).toNat - (intOf vs).toNat)
  case atStart => exact ⟨s0, r0, by have := HS0.out; go_num, by have := HR0.out; go_num, Nat.le_refl _, hsr, Nat.le_refl _, HS, Lib.hid (fun h => absurd h (Nat.lt_irrefl _)), Lib.hid (fun h => absurd h (Nat.lt_irrefl _))⟩
  case round =>
    obtain ⟨s, r, rfl, rfl, h3, h4, h5, HSk, HLo, HHi⟩ := hrel
    clear HS
    by_cases hlt : s < r
    · obtain ⟨c, hc⟩ : ∃ c, c = (s + r) / 2 := ⟨_, rfl⟩
      have hc1 := HSk.out.cell (mid + m - 1 - c) (by omega)
      have hc2 := HSk.out.cell c (by omega)
      have hcall := fun q => HC.out.calls (wr.drewN q) (HSk.out.drewN q).grown d[mid + m - 1 - c]! d[c]! (HD.out (mid + m - 1 - c) (by omega)) (HD.out c (by omega))
      have hag := HA.out c (mid + m - 1 - c) (by omega) (by omega) (by omega) (by omega)
      obtain ⟨X, hX⟩ : ∃ X, X = d[mid + m - 1 - c]! := ⟨_, rfl⟩
      obtain ⟨Y, hY⟩ : ∃ Y, Y = d[c]! := ⟨_, rfl⟩
      rw [← hX] at hc1 hcall hag
      rw [← hY] at hc2 hcall hag
      have HX := Lib.hid hX
      have HY := Lib.hid hY
      obtain ⟨x, hx⟩ := hE X
      obtain ⟨y, hy⟩ := hE Y
      rw [hx] at hc1 hcall
      rw [hy] at hc2 hcall
      have HCALL := Lib.hid hcall
      have HAG := Lib.hid hag
      clear hcall hx hy hX hY hag
      have hh1 : ((s : Int) + (r : Int)) / 2 = (c : Int) := by omega
      have hidx : ((mid : Int) + (m : Int) - 1 - (c : Int)).toNat = mid + m - 1 - c := by omega
      have hi0 : 0 ≤ (mid : Int) + (m : Int) - 1 - (c : Int) := by omega
      have hi1 : (mid : Int) + (m : Int) - 1 - (c : Int) < (n : Int) := by omega
      have hcn : (c : Int) < (n : Int) := by omega
      have hhi : s ≤ c := by omega
      have hhj : c < r := by omega
      clear hc
      by_cases hcf : cf X Y < 0
      · have hl : lt X Y = true := by rw [← HAG.out]; simpa [ltOf] using hcf
        have HL := Lib.hid hl
        have hcf2 : cf X Y < 0 := hcf
        have hcfB : decide (cf X Y < 0) = true := by rw [decide_eq_true_iff]; exact hcf
        clear hl hcf
        go_wp2_with fail
        go_quiet ((refine Calls.quiet_of (HCALL.out _)))
        go_wp2
        go_roundw
        case rel => exact ⟨s, c, rfl, rfl, h3, hhi, by omega, Lib.hid (HSk.out.drewN _), HLo, Lib.hid (fun _ => by rw [show mid + m - c - 1 = mid + m - 1 - c from by omega, ← HX.out, ← HY.out]; exact HL.out)⟩
        case measure => simp [intOf]; omega
      · have hl : lt X Y = false := by rw [← HAG.out]; simpa [ltOf] using hcf
        have HL := Lib.hid hl
        have hcf2 : 0 ≤ cf X Y := by omega
        have hcfB : decide (cf X Y < 0) = false := by rw [decide_eq_false_iff_not]; omega
        clear hl hcf
        go_wp2_with fail
        go_quiet ((refine Calls.quiet_of (HCALL.out _)))
        go_wp2
        go_roundw
        case rel => exact ⟨c + 1, r, by go_num, rfl, by omega, by omega, h5, Lib.hid (HSk.out.drewN _), Lib.hid (fun _ => by rw [show mid + m - (c + 1) = mid + m - 1 - c from by omega, Nat.add_sub_cancel, ← HX.out, ← HY.out]; exact HL.out), HHi⟩
        case measure => simp [intOf]; omega
    · obtain rfl : s = r := by omega
      obtain ⟨e, he, hme, heb, hde, hsum, FROT, FS1, FS2, FK1, FK2, FD⟩ := FIN.out s wr h3 h5 HSk.out HLo.out HHi.out
      have he1 : (mid : Int) + (m : Int) - (s : Int) = (e : Int) := by omega
      replace FROT := Lib.hid FROT
      replace FS1 := Lib.hid FS1
      replace FS2 := Lib.hid FS2
      replace FK1 := Lib.hid FK1
      replace FK2 := Lib.hid FK2
      replace FD := Lib.hid FD
      clear he
      by_cases hA1 : s < m
      · by_cases hB1 : m < e
        · by_cases hC1 : a < s
          · by_cases hE1 : e < b
            · have hq0 : (s : Int) < (mid : Int) := by omega
              have hq1 : (mid : Int) < (e : Int) := by omega
              have HROT := Lib.hid (FROT.out (by omega) (by omega))
              go_wp2_with fail
              (with_reducible refine HROT.out.mono ?_)
              rintro e1 w2 ⟨rfl, R, hRs, hRB, hRk, hRp⟩
              have HB2 := Lib.hid hRB
              have HRK := Lib.hid hRk
              have HRP := Lib.hid hRp
              clear hRB hRk hRp
              have hs1 := FS1.out R w2 hRs HB2.out HRK.out HRP.out (by omega) (by omega)
              have HS1C := Lib.hid hs1
              clear hs1
              go_wp2_with fail
              (with_reducible refine HS1C.out.mono ?_)
              rintro e2 w3 ⟨rfl, R1, hR1s', hR1B, hR1p, hR1o⟩
              have hR1s : R1.size = n := hR1s'.trans hRs
              have HB3 := Lib.hid hR1B
              have HP1 := Lib.hid hR1p
              have HO1 := Lib.hid hR1o
              clear hR1s' hR1B hR1p hR1o
              have hs2 := FS2.out R R1 w3 hRs hR1s HB3.out HRK.out HRP.out HP1.out (by omega) (by omega)
              have HS2C := Lib.hid hs2
              clear hs2
              go_wp2_with fail
              (with_reducible refine HS2C.out.mono ?_)
              rintro e3 w4 ⟨rfl, R2, hR2s', hR2B, hR2p, hR2o⟩
              have hR2s : R2.size = n := hR2s'.trans hR1s
              have HB4 := Lib.hid hR2B
              have HP2 := Lib.hid hR2p
              have HO2 := Lib.hid hR2o
              clear hR2s' hR2B hR2p hR2o
              go_wp2
              all_goals go_end0
              all_goals exact ⟨rfl, R2, hR2s.trans hdn.symm, HB4.out, FD.out R R1 R2 hRs HRK.out HRP.out HP1.out HO1.out HP2.out HO2.out⟩
            · have hq0 : (s : Int) < (mid : Int) := by omega
              have hq1 : (mid : Int) < (e : Int) := by omega
              have hq2 : (b : Int) ≤ (e : Int) := by omega
              have HROT := Lib.hid (FROT.out (by omega) (by omega))
              go_wp2_with fail
              (with_reducible refine HROT.out.mono ?_)
              rintro e1 w2 ⟨rfl, R, hRs, hRB, hRk, hRp⟩
              have HB2 := Lib.hid hRB
              have HRK := Lib.hid hRk
              have HRP := Lib.hid hRp
              clear hRB hRk hRp
              have hs1 := FS1.out R w2 hRs HB2.out HRK.out HRP.out (by omega) (by omega)
              have HS1C := Lib.hid hs1
              clear hs1
              go_wp2_with fail
              (with_reducible refine HS1C.out.mono ?_)
              rintro e2 w3 ⟨rfl, R1, hR1s', hR1B, hR1p, hR1o⟩
              have hR1s : R1.size = n := hR1s'.trans hRs
              have HB3 := Lib.hid hR1B
              have HP1 := Lib.hid hR1p
              have HO1 := Lib.hid hR1o
              clear hR1s' hR1B hR1p hR1o
              have hR2s : R1.size = n := hR1s
              have HB4 := Lib.hid HB3.out
              have HP2 := Lib.hid (permIn_refl R1 mid b)
              have HO2 := Lib.hid (FK2.out R R1 HRK.out HP1.out (by omega))
              go_wp2
              all_goals go_end0
              all_goals exact ⟨rfl, R1, hR2s.trans hdn.symm, HB4.out, FD.out R R1 R1 hRs HRK.out HRP.out HP1.out HO1.out HP2.out HO2.out⟩
          · by_cases hE1 : e < b
            · have hq0 : (s : Int) < (mid : Int) := by omega
              have hq1 : (mid : Int) < (e : Int) := by omega
              have hq2 : (s : Int) ≤ (a : Int) := by omega
              have HROT := Lib.hid (FROT.out (by omega) (by omega))
              go_wp2_with fail
              (with_reducible refine HROT.out.mono ?_)
              rintro e1 w2 ⟨rfl, R, hRs, hRB, hRk, hRp⟩
              have HB2 := Lib.hid hRB
              have HRK := Lib.hid hRk
              have HRP := Lib.hid hRp
              clear hRB hRk hRp
              have hR1s : R.size = n := hRs
              have HB3 := Lib.hid HB2.out
              have HP1 := Lib.hid (permIn_refl R a mid)
              have HO1 := Lib.hid (FK1.out R HRK.out (by omega))
              have hs2 := FS2.out R R w2 hRs hR1s HB3.out HRK.out HRP.out HP1.out (by omega) (by omega)
              have HS2C := Lib.hid hs2
              clear hs2
              go_wp2_with fail
              (with_reducible refine HS2C.out.mono ?_)
              rintro e3 w4 ⟨rfl, R2, hR2s', hR2B, hR2p, hR2o⟩
              have hR2s : R2.size = n := hR2s'.trans hR1s
              have HB4 := Lib.hid hR2B
              have HP2 := Lib.hid hR2p
              have HO2 := Lib.hid hR2o
              clear hR2s' hR2B hR2p hR2o
              go_wp2
              all_goals go_end0
              all_goals exact ⟨rfl, R2, hR2s.trans hdn.symm, HB4.out, FD.out R R R2 hRs HRK.out HRP.out HP1.out HO1.out HP2.out HO2.out⟩
            · have hq0 : (s : Int) < (mid : Int) := by omega
              have hq1 : (mid : Int) < (e : Int) := by omega
              have hq2 : (s : Int) ≤ (a : Int) := by omega
              have hq3 : (b : Int) ≤ (e : Int) := by omega
              have HROT := Lib.hid (FROT.out (by omega) (by omega))
              go_wp2_with fail
              (with_reducible refine HROT.out.mono ?_)
              rintro e1 w2 ⟨rfl, R, hRs, hRB, hRk, hRp⟩
              have HB2 := Lib.hid hRB
              have HRK := Lib.hid hRk
              have HRP := Lib.hid hRp
              clear hRB hRk hRp
              have hR1s : R.size = n := hRs
              have HB3 := Lib.hid HB2.out
              have HP1 := Lib.hid (permIn_refl R a mid)
              have HO1 := Lib.hid (FK1.out R HRK.out (by omega))
              have hR2s : R.size = n := hR1s
              have HB4 := Lib.hid HB3.out
              have HP2 := Lib.hid (permIn_refl R mid b)
              have HO2 := Lib.hid (FK2.out R R HRK.out HP1.out (by omega))
              go_wp2
              all_goals go_end0
              all_goals exact ⟨rfl, R, hR2s.trans hdn.symm, HB4.out, FD.out R R R hRs HRK.out HRP.out HP1.out HO1.out HP2.out HO2.out⟩
        · have hq0 : (e : Int) ≤ (m : Int) := by omega
          have hq1 : (mid : Int) ≤ (s : Int) := by omega
          have hq2 : (a : Int) < (s : Int) := by omega
          have hq3 : (e : Int) < (b : Int) := by omega
          have hq4 : (mid : Int) < (e : Int) := by omega
          have hRs : d.size = n := hdn
          have HB2 := Lib.hid HSk.out
          have HRK := Lib.hid (rot_none d s m e (by omega) (by omega) (by omega))
          have HRP := Lib.hid (permIn_refl d a b)
          have hR1s : d.size = n := hRs
          have HB3 := Lib.hid HB2.out
          have HP1 := Lib.hid (permIn_refl d a mid)
          have HO1 := Lib.hid (FK1.out d HRK.out (by omega))
          have hs2 := FS2.out d d wr hRs hR1s HB3.out HRK.out HRP.out HP1.out (by omega) (by omega)
          have HS2C := Lib.hid hs2
          clear hs2
          go_wp2_with fail
          all_goals
            (with_reducible refine HS2C.out.mono ?_)
            rintro e3 w4 ⟨rfl, R2, hR2s', hR2B, hR2p, hR2o⟩
            have hR2s : R2.size = n := hR2s'.trans hR1s
            have HB4 := Lib.hid hR2B
            have HP2 := Lib.hid hR2p
            have HO2 := Lib.hid hR2o
            clear hR2s' hR2B hR2p hR2o
            go_wp2
            all_goals go_end0
            all_goals exact ⟨rfl, R2, hR2s.trans hdn.symm, HB4.out, FD.out d d R2 hRs HRK.out HRP.out HP1.out HO1.out HP2.out HO2.out⟩
      · by_cases hB1 : m < e
        · have hq0 : (m : Int) ≤ (s : Int) := by omega
          have hq1 : (s : Int) < (mid : Int) := by omega
          have hq2 : (a : Int) < (s : Int) := by omega
          have hq3 : (e : Int) < (b : Int) := by omega
          have hq4 : (e : Int) ≤ (mid : Int) := by omega
          have hRs : d.size = n := hdn
          have HB2 := Lib.hid HSk.out
          have HRK := Lib.hid (rot_none d s m e (by omega) (by omega) (by omega))
          have HRP := Lib.hid (permIn_refl d a b)
          have hs1 := FS1.out d wr hRs HB2.out HRK.out HRP.out (by omega) (by omega)
          have HS1C := Lib.hid hs1
          clear hs1
          go_wp2_with fail
          all_goals
            (with_reducible refine HS1C.out.mono ?_)
            rintro e2 w3 ⟨rfl, R1, hR1s', hR1B, hR1p, hR1o⟩
            have hR1s : R1.size = n := hR1s'.trans hRs
            have HB3 := Lib.hid hR1B
            have HP1 := Lib.hid hR1p
            have HO1 := Lib.hid hR1o
            clear hR1s' hR1B hR1p hR1o
            have hR2s : R1.size = n := hR1s
            have HB4 := Lib.hid HB3.out
            have HP2 := Lib.hid (permIn_refl R1 mid b)
            have HO2 := Lib.hid (FK2.out d R1 HRK.out HP1.out (by omega))
            go_wp2
            all_goals go_end0
            all_goals exact ⟨rfl, R1, hR2s.trans hdn.symm, HB4.out, FD.out d R1 R1 hRs HRK.out HRP.out HP1.out HO1.out HP2.out HO2.out⟩
        · have hq0 : (m : Int) ≤ (s : Int) := by omega
          have hq1 : (e : Int) ≤ (m : Int) := by omega
          have hq2 : (mid : Int) ≤ (s : Int) := by omega
          have hq3 : (a : Int) < (s : Int) := by omega
          have hq4 : (e : Int) < (b : Int) := by omega
          have hq5 : (e : Int) ≤ (mid : Int) := by omega
          have hRs : d.size = n := hdn
          have HB2 := Lib.hid HSk.out
          have HRK := Lib.hid (rot_none d s m e (by omega) (by omega) (by omega))
          have HRP := Lib.hid (permIn_refl d a b)
          have hR1s : d.size = n := hRs
          have HB3 := Lib.hid HB2.out
          have HP1 := Lib.hid (permIn_refl d a mid)
          have HO1 := Lib.hid (FK1.out d HRK.out (by omega))
          have hR2s : d.size = n := hR1s
          have HB4 := Lib.hid HB3.out
          have HP2 := Lib.hid (permIn_refl d mid b)
          have HO2 := Lib.hid (FK2.out d d HRK.out HP1.out (by omega))
          go_wp2
          all_goals
            all_goals go_end0
            all_goals exact ⟨rfl, d, hR2s.trans hdn.symm, HB4.out, FD.out d d d hRs HRK.out HRP.out HP1.out HO1.out HP2.out HO2.out⟩
end Go.Proofs.Ytlmdgaajkjbpgaa
