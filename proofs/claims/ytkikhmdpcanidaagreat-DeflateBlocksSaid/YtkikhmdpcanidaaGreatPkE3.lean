/-
  Our texts Sym4 to Inf5, in one.
-/
import Derived.Test.YtkikhmdpcanidaaGreatPkE2
import Derived.BigQuiet
import Derived.Deep.AppendLies
import Derived.Deep.RegionLaw
import Derived.Deep.RegionHeld3
import Derived.ScopeJumps
import Derived.WalkMore
import Derived.Deep.LoopGhost
set_option maxRecDepth 8000
set_option maxHeartbeats 8000000
namespace Go.Proofs.YtkikhmdpcanidaaGreat
open Go.RowKit Go.Sort
theorem sym_hi {α : Type} [Inhabited α] (enc : α → Value) (hE : ∀ x, ∃ n, enc x = .int .i64 n) (cf : α → α → Int) (lt : α → α → Bool) (D : α → Prop) (f : FuncId) (cb : Array Value) (g cap : Nat) (rest : List Value) (n : Nat) (w0 : World)
   (hC : CmpQ Tryz.prog f cb enc cf D w0 g) (hsz : n < 4611686018427387904) (a m b mid s0 r0 : Nat) (d : Array α) (w : World) (hdn : d.size = n) (hS : SB enc w0 g 3 rest d w) (hD : ∀ i, i < d.size → D d[i]!) (ham : a + 1 < m) (hmb : m + 1 < b) (hb : b ≤ n) (hA : zcb (ltOf cf) lt d a m b)
   (hmid : mid = (a + b) / 2) (hcase : mid < m) (hs0 : s0 = mid + m - b) (hr0 : r0 = mid) (hfin : FinSaid enc lt f cb g cap rest n w0 a m b mid s0 r0 d) :
   Calls Tryz.prog 138 #[.slice (some ⟨g, 0, none⟩) n cap, .int .i64 a, .int .i64 m, .int .i64 b, .func (.func f) #[] cb] w fun e w' => zeC enc lt g a b rest d w0 e w' := by
 have hne1 : ((m : Int) - (a : Int) == 1) = false := by rw [beq_eq_false_iff_ne]; omega
 have hne2 : ((b : Int) - (m : Int) == 1) = false := by rw [beq_eq_false_iff_ne]; omega
 have hmid1 : ((a : Int) + (b : Int)) / 2 = (mid : Int) := by omega
 have hma : a < mid := by omega
 have hmB : mid < b := by omega
 have hsr : s0 ≤ r0 := by omega
 have hs0a : a ≤ s0 := by omega
 have hr0m : r0 ≤ m := by omega
 have hr0d : r0 ≤ mid := by omega
 have hs0b : mid + m - s0 ≤ b := by omega
 have hend0 : s0 = a ∨ mid + m - s0 = b := by omega
 have hend1 : r0 = m ∨ r0 = mid := by omega
 have eg := hC.enters
 have HC := Lib.hid hC
 have HS := Lib.hid hS
 have HD := Lib.hid hD
 have HA := Lib.hid hA
 have HS0 := Lib.hid hs0
 have HR0 := Lib.hid hr0
 have FIN := Lib.hid hfin
 clear hC hS hD hA hs0 hr0 hmid hfin
 go_enter Tryz.func138, Tryz.ntmps138
 go_wp2
 go_loopw [20, 21] (fun vs vr wr => ∃ (s r : Nat), vs = .int .i64 s ∧ vr = .int .i64 r ∧ s0 ≤ s ∧ s ≤ r ∧ r ≤ r0 ∧ Hid (SB enc w0 g 3 rest d wr) ∧ Hid (s0 < s → lt d[mid + m - s]! d[s - 1]! = false) ∧ Hid (r < r0 → lt d[mid + m - r - 1]! d[r]! = true)) (fun vs vr _ => (intOf vr).toNat - (intOf vs).toNat)
 case atStart => exact ⟨s0, r0, by have := HS0.out; go_num, by have := HR0.out; go_num, Nat.le_refl _, hsr, Nat.le_refl _, HS, Lib.hid (fun h => absurd h (Nat.lt_irrefl _)), Lib.hid (fun h => absurd h (Nat.lt_irrefl _))⟩
 case round =>
   obtain ⟨s, r, rfl, rfl, h3, h4, h5, HSk, HLo, HHi⟩ := hrel
   clear HS
   by_cases hlt : s < r
   · obtain ⟨c, hc⟩ : ∃ c, c = (s + r) / 2 := ⟨_, rfl⟩
     have hc1 := HSk.out.cell (mid + m - 1 - c) (by omega)
     have hc2 := HSk.out.cell c (by omega)
     have hcall := fun q => HC.out.calls (wr.drewN q) (HSk.out.drewN q).grown d[mid + m - 1 - c]! d[c]! (HD.out (mid + m - 1 - c) (by omega)) (HD.out c (by omega))
     have hag := HA.out c (mid + m - 1 - c) (by omega) (by omega) (by omega) (by omega)
     obtain ⟨X, hX⟩ : ∃ X, X = d[mid + m - 1 - c]! := ⟨_, rfl⟩
     obtain ⟨Y, hY⟩ : ∃ Y, Y = d[c]! := ⟨_, rfl⟩
     rw [← hX] at hc1 hcall hag
     rw [← hY] at hc2 hcall hag
     have HX := Lib.hid hX
     have HY := Lib.hid hY
     obtain ⟨x, hx⟩ := hE X
     obtain ⟨y, hy⟩ := hE Y
     rw [hx] at hc1 hcall
     rw [hy] at hc2 hcall
     have HCALL := Lib.hid hcall
     have HAG := Lib.hid hag
     clear hcall hx hy hX hY hag
     have hh1 : ((s : Int) + (r : Int)) / 2 = (c : Int) := by omega
     have hidx : ((mid : Int) + (m : Int) - 1 - (c : Int)).toNat = mid + m - 1 - c := by omega
     have hi0 : 0 ≤ (mid : Int) + (m : Int) - 1 - (c : Int) := by omega
     have hi1 : (mid : Int) + (m : Int) - 1 - (c : Int) < (n : Int) := by omega
     have hcn : (c : Int) < (n : Int) := by omega
     have hhi : s ≤ c := by omega
     have hhj : c < r := by omega
     clear hc
     by_cases hcf : cf X Y < 0
     · have hl : lt X Y = true := by rw [← HAG.out]; simpa [ltOf] using hcf
       have HL := Lib.hid hl
       have hcf2 : cf X Y < 0 := hcf
       have hcfB : decide (cf X Y < 0) = true := by rw [decide_eq_true_iff]; exact hcf
       clear hl hcf
       go_wp2_with fail
       go_quiet ((refine Calls.quiet_of (HCALL.out _)))
       go_wp2
       go_roundw
       case rel => exact ⟨s, c, rfl, rfl, h3, hhi, by omega, Lib.hid (HSk.out.drewN _), HLo, Lib.hid (fun _ => by rw [show mid + m - c - 1 = mid + m - 1 - c from by omega, ← HX.out, ← HY.out]; exact HL.out)⟩
       case measure => simp [intOf]; omega
     · have hl : lt X Y = false := by rw [← HAG.out]; simpa [ltOf] using hcf
       have HL := Lib.hid hl
       have hcf2 : 0 ≤ cf X Y := by omega
       have hcfB : decide (cf X Y < 0) = false := by rw [decide_eq_false_iff_not]; omega
       clear hl hcf
       go_wp2_with fail
       go_quiet ((refine Calls.quiet_of (HCALL.out _)))
       go_wp2
       go_roundw
       case rel => exact ⟨c + 1, r, by go_num, rfl, by omega, by omega, h5, Lib.hid (HSk.out.drewN _), Lib.hid (fun _ => by rw [show mid + m - (c + 1) = mid + m - 1 - c from by omega, Nat.add_sub_cancel, ← HX.out, ← HY.out]; exact HL.out), HHi⟩
       case measure => simp [intOf]; omega
   · obtain rfl : s = r := by omega
     obtain ⟨e, he, hme, heb, hde, hsum, FROT, FS1, FS2, FK1, FK2, FD⟩ := FIN.out s wr h3 h5 HSk.out HLo.out HHi.out
     have he1 : (mid : Int) + (m : Int) - (s : Int) = (e : Int) := by omega
     replace FROT := Lib.hid FROT
     replace FS1 := Lib.hid FS1
     replace FS2 := Lib.hid FS2
     replace FK1 := Lib.hid FK1
     replace FK2 := Lib.hid FK2
     replace FD := Lib.hid FD
     clear he
     by_cases hA1 : s < m
     · by_cases hB1 : m < e
       · by_cases hC1 : a < s
         · by_cases hE1 : e < b
           · have hq0 : (s : Int) < (mid : Int) := by omega
             have hq1 : (mid : Int) < (e : Int) := by omega
             have HROT := Lib.hid (FROT.out (by omega) (by omega))
             go_wp2_with fail
             (with_reducible refine HROT.out.mono ?_)
             rintro e1 w2 ⟨rfl, R, hRs, hRB, hRk, hRp⟩
             have HB2 := Lib.hid hRB
             have HRK := Lib.hid hRk
             have HRP := Lib.hid hRp
             clear hRB hRk hRp
             have hs1 := FS1.out R w2 hRs HB2.out HRK.out HRP.out (by omega) (by omega)
             have HS1C := Lib.hid hs1
             clear hs1
             go_wp2_with fail
             (with_reducible refine HS1C.out.mono ?_)
             rintro e2 w3 ⟨rfl, R1, hR1s', hR1B, hR1p, hR1o⟩
             have hR1s : R1.size = n := hR1s'.trans hRs
             have HB3 := Lib.hid hR1B
             have HP1 := Lib.hid hR1p
             have HO1 := Lib.hid hR1o
             clear hR1s' hR1B hR1p hR1o
             have hs2 := FS2.out R R1 w3 hRs hR1s HB3.out HRK.out HRP.out HP1.out (by omega) (by omega)
             have HS2C := Lib.hid hs2
             clear hs2
             go_wp2_with fail
             (with_reducible refine HS2C.out.mono ?_)
             rintro e3 w4 ⟨rfl, R2, hR2s', hR2B, hR2p, hR2o⟩
             have hR2s : R2.size = n := hR2s'.trans hR1s
             have HB4 := Lib.hid hR2B
             have HP2 := Lib.hid hR2p
             have HO2 := Lib.hid hR2o
             clear hR2s' hR2B hR2p hR2o
             go_wp2
             all_goals go_end0
             all_goals exact ⟨rfl, R2, hR2s.trans hdn.symm, HB4.out, FD.out R R1 R2 hRs HRK.out HRP.out HP1.out HO1.out HP2.out HO2.out⟩
           · have hq0 : (s : Int) < (mid : Int) := by omega
             have hq1 : (mid : Int) < (e : Int) := by omega
             have hq2 : (b : Int) ≤ (e : Int) := by omega
             have HROT := Lib.hid (FROT.out (by omega) (by omega))
             go_wp2_with fail
             (with_reducible refine HROT.out.mono ?_)
             rintro e1 w2 ⟨rfl, R, hRs, hRB, hRk, hRp⟩
             have HB2 := Lib.hid hRB
             have HRK := Lib.hid hRk
             have HRP := Lib.hid hRp
             clear hRB hRk hRp
             have hs1 := FS1.out R w2 hRs HB2.out HRK.out HRP.out (by omega) (by omega)
             have HS1C := Lib.hid hs1
             clear hs1
             go_wp2_with fail
             (with_reducible refine HS1C.out.mono ?_)
             rintro e2 w3 ⟨rfl, R1, hR1s', hR1B, hR1p, hR1o⟩
             have hR1s : R1.size = n := hR1s'.trans hRs
             have HB3 := Lib.hid hR1B
             have HP1 := Lib.hid hR1p
             have HO1 := Lib.hid hR1o
             clear hR1s' hR1B hR1p hR1o
             have hR2s : R1.size = n := hR1s
             have HB4 := Lib.hid HB3.out
             have HP2 := Lib.hid (permIn_refl R1 mid b)
             have HO2 := Lib.hid (FK2.out R R1 HRK.out HP1.out (by omega))
             go_wp2
             all_goals go_end0
             all_goals exact ⟨rfl, R1, hR2s.trans hdn.symm, HB4.out, FD.out R R1 R1 hRs HRK.out HRP.out HP1.out HO1.out HP2.out HO2.out⟩
         · by_cases hE1 : e < b
           · have hq0 : (s : Int) < (mid : Int) := by omega
             have hq1 : (mid : Int) < (e : Int) := by omega
             have hq2 : (s : Int) ≤ (a : Int) := by omega
             have HROT := Lib.hid (FROT.out (by omega) (by omega))
             go_wp2_with fail
             (with_reducible refine HROT.out.mono ?_)
             rintro e1 w2 ⟨rfl, R, hRs, hRB, hRk, hRp⟩
             have HB2 := Lib.hid hRB
             have HRK := Lib.hid hRk
             have HRP := Lib.hid hRp
             clear hRB hRk hRp
             have hR1s : R.size = n := hRs
             have HB3 := Lib.hid HB2.out
             have HP1 := Lib.hid (permIn_refl R a mid)
             have HO1 := Lib.hid (FK1.out R HRK.out (by omega))
             have hs2 := FS2.out R R w2 hRs hR1s HB3.out HRK.out HRP.out HP1.out (by omega) (by omega)
             have HS2C := Lib.hid hs2
             clear hs2
             go_wp2_with fail
             (with_reducible refine HS2C.out.mono ?_)
             rintro e3 w4 ⟨rfl, R2, hR2s', hR2B, hR2p, hR2o⟩
             have hR2s : R2.size = n := hR2s'.trans hR1s
             have HB4 := Lib.hid hR2B
             have HP2 := Lib.hid hR2p
             have HO2 := Lib.hid hR2o
             clear hR2s' hR2B hR2p hR2o
             go_wp2
             all_goals go_end0
             all_goals exact ⟨rfl, R2, hR2s.trans hdn.symm, HB4.out, FD.out R R R2 hRs HRK.out HRP.out HP1.out HO1.out HP2.out HO2.out⟩
           · have hq0 : (s : Int) < (mid : Int) := by omega
             have hq1 : (mid : Int) < (e : Int) := by omega
             have hq2 : (s : Int) ≤ (a : Int) := by omega
             have hq3 : (b : Int) ≤ (e : Int) := by omega
             have HROT := Lib.hid (FROT.out (by omega) (by omega))
             go_wp2_with fail
             (with_reducible refine HROT.out.mono ?_)
             rintro e1 w2 ⟨rfl, R, hRs, hRB, hRk, hRp⟩
             have HB2 := Lib.hid hRB
             have HRK := Lib.hid hRk
             have HRP := Lib.hid hRp
             clear hRB hRk hRp
             have hR1s : R.size = n := hRs
             have HB3 := Lib.hid HB2.out
             have HP1 := Lib.hid (permIn_refl R a mid)
             have HO1 := Lib.hid (FK1.out R HRK.out (by omega))
             have hR2s : R.size = n := hR1s
             have HB4 := Lib.hid HB3.out
             have HP2 := Lib.hid (permIn_refl R mid b)
             have HO2 := Lib.hid (FK2.out R R HRK.out HP1.out (by omega))
             go_wp2
             all_goals go_end0
             all_goals exact ⟨rfl, R, hR2s.trans hdn.symm, HB4.out, FD.out R R R hRs HRK.out HRP.out HP1.out HO1.out HP2.out HO2.out⟩
       · have hq0 : (e : Int) ≤ (m : Int) := by omega
         have hq1 : (mid : Int) ≤ (s : Int) := by omega
         have hq2 : (a : Int) < (s : Int) := by omega
         have hq3 : (e : Int) < (b : Int) := by omega
         have hq4 : (mid : Int) < (e : Int) := by omega
         have hRs : d.size = n := hdn
         have HB2 := Lib.hid HSk.out
         have HRK := Lib.hid (zbc d s m e (by omega) (by omega) (by omega))
         have HRP := Lib.hid (permIn_refl d a b)
         have hR1s : d.size = n := hRs
         have HB3 := Lib.hid HB2.out
         have HP1 := Lib.hid (permIn_refl d a mid)
         have HO1 := Lib.hid (FK1.out d HRK.out (by omega))
         have hs2 := FS2.out d d wr hRs hR1s HB3.out HRK.out HRP.out HP1.out (by omega) (by omega)
         have HS2C := Lib.hid hs2
         clear hs2
         go_wp2_with fail
         all_goals
           (with_reducible refine HS2C.out.mono ?_)
           rintro e3 w4 ⟨rfl, R2, hR2s', hR2B, hR2p, hR2o⟩
           have hR2s : R2.size = n := hR2s'.trans hR1s
           have HB4 := Lib.hid hR2B
           have HP2 := Lib.hid hR2p
           have HO2 := Lib.hid hR2o
           clear hR2s' hR2B hR2p hR2o
           go_wp2
           all_goals go_end0
           all_goals exact ⟨rfl, R2, hR2s.trans hdn.symm, HB4.out, FD.out d d R2 hRs HRK.out HRP.out HP1.out HO1.out HP2.out HO2.out⟩
     · by_cases hB1 : m < e
       · have hq0 : (m : Int) ≤ (s : Int) := by omega
         have hq1 : (s : Int) < (mid : Int) := by omega
         have hq2 : (a : Int) < (s : Int) := by omega
         have hq3 : (e : Int) < (b : Int) := by omega
         have hq4 : (e : Int) ≤ (mid : Int) := by omega
         have hRs : d.size = n := hdn
         have HB2 := Lib.hid HSk.out
         have HRK := Lib.hid (zbc d s m e (by omega) (by omega) (by omega))
         have HRP := Lib.hid (permIn_refl d a b)
         have hs1 := FS1.out d wr hRs HB2.out HRK.out HRP.out (by omega) (by omega)
         have HS1C := Lib.hid hs1
         clear hs1
         go_wp2_with fail
         all_goals
           (with_reducible refine HS1C.out.mono ?_)
           rintro e2 w3 ⟨rfl, R1, hR1s', hR1B, hR1p, hR1o⟩
           have hR1s : R1.size = n := hR1s'.trans hRs
           have HB3 := Lib.hid hR1B
           have HP1 := Lib.hid hR1p
           have HO1 := Lib.hid hR1o
           clear hR1s' hR1B hR1p hR1o
           have hR2s : R1.size = n := hR1s
           have HB4 := Lib.hid HB3.out
           have HP2 := Lib.hid (permIn_refl R1 mid b)
           have HO2 := Lib.hid (FK2.out d R1 HRK.out HP1.out (by omega))
           go_wp2
           all_goals go_end0
           all_goals exact ⟨rfl, R1, hR2s.trans hdn.symm, HB4.out, FD.out d R1 R1 hRs HRK.out HRP.out HP1.out HO1.out HP2.out HO2.out⟩
       · have hq0 : (m : Int) ≤ (s : Int) := by omega
         have hq1 : (e : Int) ≤ (m : Int) := by omega
         have hq2 : (mid : Int) ≤ (s : Int) := by omega
         have hq3 : (a : Int) < (s : Int) := by omega
         have hq4 : (e : Int) < (b : Int) := by omega
         have hq5 : (e : Int) ≤ (mid : Int) := by omega
         have hRs : d.size = n := hdn
         have HB2 := Lib.hid HSk.out
         have HRK := Lib.hid (zbc d s m e (by omega) (by omega) (by omega))
         have HRP := Lib.hid (permIn_refl d a b)
         have hR1s : d.size = n := hRs
         have HB3 := Lib.hid HB2.out
         have HP1 := Lib.hid (permIn_refl d a mid)
         have HO1 := Lib.hid (FK1.out d HRK.out (by omega))
         have hR2s : d.size = n := hR1s
         have HB4 := Lib.hid HB3.out
         have HP2 := Lib.hid (permIn_refl d mid b)
         have HO2 := Lib.hid (FK2.out d d HRK.out HP1.out (by omega))
         go_wp2
         all_goals
           all_goals go_end0
           all_goals exact ⟨rfl, d, hR2s.trans hdn.symm, HB4.out, FD.out d d d hRs HRK.out HRP.out HP1.out HO1.out HP2.out HO2.out⟩
theorem sym_lo {α : Type} [Inhabited α] (enc : α → Value) (hE : ∀ x, ∃ n, enc x = .int .i64 n) (cf : α → α → Int) (lt : α → α → Bool) (D : α → Prop) (f : FuncId) (cb : Array Value) (g cap : Nat) (rest : List Value) (n : Nat) (w0 : World)
   (hC : CmpQ Tryz.prog f cb enc cf D w0 g) (hsz : n < 4611686018427387904) (a m b mid s0 r0 : Nat) (d : Array α) (w : World) (hdn : d.size = n) (hS : SB enc w0 g 3 rest d w) (hD : ∀ i, i < d.size → D d[i]!) (ham : a + 1 < m) (hmb : m + 1 < b) (hb : b ≤ n) (hA : zcb (ltOf cf) lt d a m b)
   (hmid : mid = (a + b) / 2) (hcase : m ≤ mid) (hs0 : s0 = a) (hr0 : r0 = m) (hfin : FinSaid enc lt f cb g cap rest n w0 a m b mid s0 r0 d) :
   Calls Tryz.prog 138 #[.slice (some ⟨g, 0, none⟩) n cap, .int .i64 a, .int .i64 m, .int .i64 b, .func (.func f) #[] cb] w fun e w' => zeC enc lt g a b rest d w0 e w' := by
 have hne1 : ((m : Int) - (a : Int) == 1) = false := by rw [beq_eq_false_iff_ne]; omega
 have hne2 : ((b : Int) - (m : Int) == 1) = false := by rw [beq_eq_false_iff_ne]; omega
 have hmid1 : ((a : Int) + (b : Int)) / 2 = (mid : Int) := by omega
 have hma : a < mid := by omega
 have hmB : mid < b := by omega
 have hsr : s0 ≤ r0 := by omega
 have hs0a : a ≤ s0 := by omega
 have hr0m : r0 ≤ m := by omega
 have hr0d : r0 ≤ mid := by omega
 have hs0b : mid + m - s0 ≤ b := by omega
 have hend0 : s0 = a ∨ mid + m - s0 = b := by omega
 have hend1 : r0 = m ∨ r0 = mid := by omega
 have eg := hC.enters
 have HC := Lib.hid hC
 have HS := Lib.hid hS
 have HD := Lib.hid hD
 have HA := Lib.hid hA
 have HS0 := Lib.hid hs0
 have HR0 := Lib.hid hr0
 have FIN := Lib.hid hfin
 clear hC hS hD hA hs0 hr0 hmid hfin
 go_enter Tryz.func138, Tryz.ntmps138
 go_wp2
 go_loopw [20, 21] (fun vs vr wr => ∃ (s r : Nat), vs = .int .i64 s ∧ vr = .int .i64 r ∧ s0 ≤ s ∧ s ≤ r ∧ r ≤ r0 ∧ Hid (SB enc w0 g 3 rest d wr) ∧ Hid (s0 < s → lt d[mid + m - s]! d[s - 1]! = false) ∧ Hid (r < r0 → lt d[mid + m - r - 1]! d[r]! = true)) (fun vs vr _ => (intOf vr).toNat - (intOf vs).toNat)
 case atStart => exact ⟨s0, r0, by have := HS0.out; go_num, by have := HR0.out; go_num, Nat.le_refl _, hsr, Nat.le_refl _, HS, Lib.hid (fun h => absurd h (Nat.lt_irrefl _)), Lib.hid (fun h => absurd h (Nat.lt_irrefl _))⟩
 case round =>
   obtain ⟨s, r, rfl, rfl, h3, h4, h5, HSk, HLo, HHi⟩ := hrel
   clear HS
   by_cases hlt : s < r
   · obtain ⟨c, hc⟩ : ∃ c, c = (s + r) / 2 := ⟨_, rfl⟩
     have hc1 := HSk.out.cell (mid + m - 1 - c) (by omega)
     have hc2 := HSk.out.cell c (by omega)
     have hcall := fun q => HC.out.calls (wr.drewN q) (HSk.out.drewN q).grown d[mid + m - 1 - c]! d[c]! (HD.out (mid + m - 1 - c) (by omega)) (HD.out c (by omega))
     have hag := HA.out c (mid + m - 1 - c) (by omega) (by omega) (by omega) (by omega)
     obtain ⟨X, hX⟩ : ∃ X, X = d[mid + m - 1 - c]! := ⟨_, rfl⟩
     obtain ⟨Y, hY⟩ : ∃ Y, Y = d[c]! := ⟨_, rfl⟩
     rw [← hX] at hc1 hcall hag
     rw [← hY] at hc2 hcall hag
     have HX := Lib.hid hX
     have HY := Lib.hid hY
     obtain ⟨x, hx⟩ := hE X
     obtain ⟨y, hy⟩ := hE Y
     rw [hx] at hc1 hcall
     rw [hy] at hc2 hcall
     have HCALL := Lib.hid hcall
     have HAG := Lib.hid hag
     clear hcall hx hy hX hY hag
     have hh1 : ((s : Int) + (r : Int)) / 2 = (c : Int) := by omega
     have hidx : ((mid : Int) + (m : Int) - 1 - (c : Int)).toNat = mid + m - 1 - c := by omega
     have hi0 : 0 ≤ (mid : Int) + (m : Int) - 1 - (c : Int) := by omega
     have hi1 : (mid : Int) + (m : Int) - 1 - (c : Int) < (n : Int) := by omega
     have hcn : (c : Int) < (n : Int) := by omega
     have hhi : s ≤ c := by omega
     have hhj : c < r := by omega
     clear hc
     by_cases hcf : cf X Y < 0
     · have hl : lt X Y = true := by rw [← HAG.out]; simpa [ltOf] using hcf
       have HL := Lib.hid hl
       have hcf2 : cf X Y < 0 := hcf
       have hcfB : decide (cf X Y < 0) = true := by rw [decide_eq_true_iff]; exact hcf
       clear hl hcf
       go_wp2_with fail
       go_quiet ((refine Calls.quiet_of (HCALL.out _)))
       go_wp2
       go_roundw
       case rel => exact ⟨s, c, rfl, rfl, h3, hhi, by omega, Lib.hid (HSk.out.drewN _), HLo, Lib.hid (fun _ => by rw [show mid + m - c - 1 = mid + m - 1 - c from by omega, ← HX.out, ← HY.out]; exact HL.out)⟩
       case measure => simp [intOf]; omega
     · have hl : lt X Y = false := by rw [← HAG.out]; simpa [ltOf] using hcf
       have HL := Lib.hid hl
       have hcf2 : 0 ≤ cf X Y := by omega
       have hcfB : decide (cf X Y < 0) = false := by rw [decide_eq_false_iff_not]; omega
       clear hl hcf
       go_wp2_with fail
       go_quiet ((refine Calls.quiet_of (HCALL.out _)))
       go_wp2
       go_roundw
       case rel => exact ⟨c + 1, r, by go_num, rfl, by omega, by omega, h5, Lib.hid (HSk.out.drewN _), Lib.hid (fun _ => by rw [show mid + m - (c + 1) = mid + m - 1 - c from by omega, Nat.add_sub_cancel, ← HX.out, ← HY.out]; exact HL.out), HHi⟩
       case measure => simp [intOf]; omega
   · obtain rfl : s = r := by omega
     obtain ⟨e, he, hme, heb, hde, hsum, FROT, FS1, FS2, FK1, FK2, FD⟩ := FIN.out s wr h3 h5 HSk.out HLo.out HHi.out
     have he1 : (mid : Int) + (m : Int) - (s : Int) = (e : Int) := by omega
     replace FROT := Lib.hid FROT
     replace FS1 := Lib.hid FS1
     replace FS2 := Lib.hid FS2
     replace FK1 := Lib.hid FK1
     replace FK2 := Lib.hid FK2
     replace FD := Lib.hid FD
     clear he
     by_cases hA1 : s < m
     · by_cases hB1 : m < e
       · by_cases hC1 : a < s
         · by_cases hE1 : e < b
           · have hq0 : (s : Int) < (mid : Int) := by omega
             have hq1 : (mid : Int) < (e : Int) := by omega
             have HROT := Lib.hid (FROT.out (by omega) (by omega))
             go_wp2_with fail
             (with_reducible refine HROT.out.mono ?_)
             rintro e1 w2 ⟨rfl, R, hRs, hRB, hRk, hRp⟩
             have HB2 := Lib.hid hRB
             have HRK := Lib.hid hRk
             have HRP := Lib.hid hRp
             clear hRB hRk hRp
             have hs1 := FS1.out R w2 hRs HB2.out HRK.out HRP.out (by omega) (by omega)
             have HS1C := Lib.hid hs1
             clear hs1
             go_wp2_with fail
             (with_reducible refine HS1C.out.mono ?_)
             rintro e2 w3 ⟨rfl, R1, hR1s', hR1B, hR1p, hR1o⟩
             have hR1s : R1.size = n := hR1s'.trans hRs
             have HB3 := Lib.hid hR1B
             have HP1 := Lib.hid hR1p
             have HO1 := Lib.hid hR1o
             clear hR1s' hR1B hR1p hR1o
             have hs2 := FS2.out R R1 w3 hRs hR1s HB3.out HRK.out HRP.out HP1.out (by omega) (by omega)
             have HS2C := Lib.hid hs2
             clear hs2
             go_wp2_with fail
             (with_reducible refine HS2C.out.mono ?_)
             rintro e3 w4 ⟨rfl, R2, hR2s', hR2B, hR2p, hR2o⟩
             have hR2s : R2.size = n := hR2s'.trans hR1s
             have HB4 := Lib.hid hR2B
             have HP2 := Lib.hid hR2p
             have HO2 := Lib.hid hR2o
             clear hR2s' hR2B hR2p hR2o
             go_wp2
             all_goals go_end0
             all_goals exact ⟨rfl, R2, hR2s.trans hdn.symm, HB4.out, FD.out R R1 R2 hRs HRK.out HRP.out HP1.out HO1.out HP2.out HO2.out⟩
           · have hq0 : (s : Int) < (mid : Int) := by omega
             have hq1 : (mid : Int) < (e : Int) := by omega
             have hq2 : (b : Int) ≤ (e : Int) := by omega
             have HROT := Lib.hid (FROT.out (by omega) (by omega))
             go_wp2_with fail
             (with_reducible refine HROT.out.mono ?_)
             rintro e1 w2 ⟨rfl, R, hRs, hRB, hRk, hRp⟩
             have HB2 := Lib.hid hRB
             have HRK := Lib.hid hRk
             have HRP := Lib.hid hRp
             clear hRB hRk hRp
             have hs1 := FS1.out R w2 hRs HB2.out HRK.out HRP.out (by omega) (by omega)
             have HS1C := Lib.hid hs1
             clear hs1
             go_wp2_with fail
             (with_reducible refine HS1C.out.mono ?_)
             rintro e2 w3 ⟨rfl, R1, hR1s', hR1B, hR1p, hR1o⟩
             have hR1s : R1.size = n := hR1s'.trans hRs
             have HB3 := Lib.hid hR1B
             have HP1 := Lib.hid hR1p
             have HO1 := Lib.hid hR1o
             clear hR1s' hR1B hR1p hR1o
             have hR2s : R1.size = n := hR1s
             have HB4 := Lib.hid HB3.out
             have HP2 := Lib.hid (permIn_refl R1 mid b)
             have HO2 := Lib.hid (FK2.out R R1 HRK.out HP1.out (by omega))
             go_wp2
             all_goals go_end0
             all_goals exact ⟨rfl, R1, hR2s.trans hdn.symm, HB4.out, FD.out R R1 R1 hRs HRK.out HRP.out HP1.out HO1.out HP2.out HO2.out⟩
         · by_cases hE1 : e < b
           · have hq0 : (s : Int) < (mid : Int) := by omega
             have hq1 : (mid : Int) < (e : Int) := by omega
             have hq2 : (s : Int) ≤ (a : Int) := by omega
             have HROT := Lib.hid (FROT.out (by omega) (by omega))
             go_wp2_with fail
             (with_reducible refine HROT.out.mono ?_)
             rintro e1 w2 ⟨rfl, R, hRs, hRB, hRk, hRp⟩
             have HB2 := Lib.hid hRB
             have HRK := Lib.hid hRk
             have HRP := Lib.hid hRp
             clear hRB hRk hRp
             have hR1s : R.size = n := hRs
             have HB3 := Lib.hid HB2.out
             have HP1 := Lib.hid (permIn_refl R a mid)
             have HO1 := Lib.hid (FK1.out R HRK.out (by omega))
             have hs2 := FS2.out R R w2 hRs hR1s HB3.out HRK.out HRP.out HP1.out (by omega) (by omega)
             have HS2C := Lib.hid hs2
             clear hs2
             go_wp2_with fail
             (with_reducible refine HS2C.out.mono ?_)
             rintro e3 w4 ⟨rfl, R2, hR2s', hR2B, hR2p, hR2o⟩
             have hR2s : R2.size = n := hR2s'.trans hR1s
             have HB4 := Lib.hid hR2B
             have HP2 := Lib.hid hR2p
             have HO2 := Lib.hid hR2o
             clear hR2s' hR2B hR2p hR2o
             go_wp2
             all_goals go_end0
             all_goals exact ⟨rfl, R2, hR2s.trans hdn.symm, HB4.out, FD.out R R R2 hRs HRK.out HRP.out HP1.out HO1.out HP2.out HO2.out⟩
           · have hq0 : (s : Int) < (mid : Int) := by omega
             have hq1 : (mid : Int) < (e : Int) := by omega
             have hq2 : (s : Int) ≤ (a : Int) := by omega
             have hq3 : (b : Int) ≤ (e : Int) := by omega
             have HROT := Lib.hid (FROT.out (by omega) (by omega))
             go_wp2_with fail
             (with_reducible refine HROT.out.mono ?_)
             rintro e1 w2 ⟨rfl, R, hRs, hRB, hRk, hRp⟩
             have HB2 := Lib.hid hRB
             have HRK := Lib.hid hRk
             have HRP := Lib.hid hRp
             clear hRB hRk hRp
             have hR1s : R.size = n := hRs
             have HB3 := Lib.hid HB2.out
             have HP1 := Lib.hid (permIn_refl R a mid)
             have HO1 := Lib.hid (FK1.out R HRK.out (by omega))
             have hR2s : R.size = n := hR1s
             have HB4 := Lib.hid HB3.out
             have HP2 := Lib.hid (permIn_refl R mid b)
             have HO2 := Lib.hid (FK2.out R R HRK.out HP1.out (by omega))
             go_wp2
             all_goals go_end0
             all_goals exact ⟨rfl, R, hR2s.trans hdn.symm, HB4.out, FD.out R R R hRs HRK.out HRP.out HP1.out HO1.out HP2.out HO2.out⟩
       · have hq0 : (e : Int) ≤ (m : Int) := by omega
         have hq1 : (mid : Int) ≤ (s : Int) := by omega
         have hq2 : (a : Int) < (s : Int) := by omega
         have hq3 : (e : Int) < (b : Int) := by omega
         have hq4 : (mid : Int) < (e : Int) := by omega
         have hRs : d.size = n := hdn
         have HB2 := Lib.hid HSk.out
         have HRK := Lib.hid (zbc d s m e (by omega) (by omega) (by omega))
         have HRP := Lib.hid (permIn_refl d a b)
         have hR1s : d.size = n := hRs
         have HB3 := Lib.hid HB2.out
         have HP1 := Lib.hid (permIn_refl d a mid)
         have HO1 := Lib.hid (FK1.out d HRK.out (by omega))
         have hs2 := FS2.out d d wr hRs hR1s HB3.out HRK.out HRP.out HP1.out (by omega) (by omega)
         have HS2C := Lib.hid hs2
         clear hs2
         go_wp2_with fail
         all_goals
           (with_reducible refine HS2C.out.mono ?_)
           rintro e3 w4 ⟨rfl, R2, hR2s', hR2B, hR2p, hR2o⟩
           have hR2s : R2.size = n := hR2s'.trans hR1s
           have HB4 := Lib.hid hR2B
           have HP2 := Lib.hid hR2p
           have HO2 := Lib.hid hR2o
           clear hR2s' hR2B hR2p hR2o
           go_wp2
           all_goals go_end0
           all_goals exact ⟨rfl, R2, hR2s.trans hdn.symm, HB4.out, FD.out d d R2 hRs HRK.out HRP.out HP1.out HO1.out HP2.out HO2.out⟩
     · by_cases hB1 : m < e
       · have hq0 : (m : Int) ≤ (s : Int) := by omega
         have hq1 : (s : Int) < (mid : Int) := by omega
         have hq2 : (a : Int) < (s : Int) := by omega
         have hq3 : (e : Int) < (b : Int) := by omega
         have hq4 : (e : Int) ≤ (mid : Int) := by omega
         have hRs : d.size = n := hdn
         have HB2 := Lib.hid HSk.out
         have HRK := Lib.hid (zbc d s m e (by omega) (by omega) (by omega))
         have HRP := Lib.hid (permIn_refl d a b)
         have hs1 := FS1.out d wr hRs HB2.out HRK.out HRP.out (by omega) (by omega)
         have HS1C := Lib.hid hs1
         clear hs1
         go_wp2_with fail
         all_goals
           (with_reducible refine HS1C.out.mono ?_)
           rintro e2 w3 ⟨rfl, R1, hR1s', hR1B, hR1p, hR1o⟩
           have hR1s : R1.size = n := hR1s'.trans hRs
           have HB3 := Lib.hid hR1B
           have HP1 := Lib.hid hR1p
           have HO1 := Lib.hid hR1o
           clear hR1s' hR1B hR1p hR1o
           have hR2s : R1.size = n := hR1s
           have HB4 := Lib.hid HB3.out
           have HP2 := Lib.hid (permIn_refl R1 mid b)
           have HO2 := Lib.hid (FK2.out d R1 HRK.out HP1.out (by omega))
           go_wp2
           all_goals go_end0
           all_goals exact ⟨rfl, R1, hR2s.trans hdn.symm, HB4.out, FD.out d R1 R1 hRs HRK.out HRP.out HP1.out HO1.out HP2.out HO2.out⟩
       · have hq0 : (m : Int) ≤ (s : Int) := by omega
         have hq1 : (e : Int) ≤ (m : Int) := by omega
         have hq2 : (mid : Int) ≤ (s : Int) := by omega
         have hq3 : (a : Int) < (s : Int) := by omega
         have hq4 : (e : Int) < (b : Int) := by omega
         have hq5 : (e : Int) ≤ (mid : Int) := by omega
         have hRs : d.size = n := hdn
         have HB2 := Lib.hid HSk.out
         have HRK := Lib.hid (zbc d s m e (by omega) (by omega) (by omega))
         have HRP := Lib.hid (permIn_refl d a b)
         have hR1s : d.size = n := hRs
         have HB3 := Lib.hid HB2.out
         have HP1 := Lib.hid (permIn_refl d a mid)
         have HO1 := Lib.hid (FK1.out d HRK.out (by omega))
         have hR2s : d.size = n := hR1s
         have HB4 := Lib.hid HB3.out
         have HP2 := Lib.hid (permIn_refl d mid b)
         have HO2 := Lib.hid (FK2.out d d HRK.out HP1.out (by omega))
         go_wp2
         all_goals
           all_goals go_end0
           all_goals exact ⟨rfl, d, hR2s.trans hdn.symm, HB4.out, FD.out d d d hRs HRK.out HRP.out HP1.out HO1.out HP2.out HO2.out⟩
theorem merge_all {α : Type} [Inhabited α] (enc : α → Value) (hE : ∀ x, ∃ n, enc x = .int .i64 n) (cf : α → α → Int) (lt : α → α → Bool) (hL : SWO lt) (D : α → Prop) (f : FuncId) (cb : Array Value) (g cap : Nat) (rest : List Value) (n : Nat) (w0 : World)
   (hC : CmpQ Tryz.prog f cb enc cf D w0 g) (hsz : n < 4611686018427387904) : ∀ N, MergeSaid enc cf lt D f cb g cap rest n w0 N
 | 0 => fun a m b d w h1 h2 h3 h4 h5 h6 => by omega
 | N + 1 => by
   have ih := merge_all enc hE cf lt hL D f cb g cap rest n w0 hC hsz N
   intro a m b d w hN hdn hS hD ham hmb hb h1 h2 hA
   by_cases c1 : m = a + 1
   · subst hdn
     exact sym_left enc hE cf lt hL D f cb g cap a m b rest d w0 w hC hS hD c1 hmb hb hsz h2 hA
   by_cases c2 : b = m + 1
   · subst hdn
     exact sym_right enc hE cf lt hL D f cb g cap a m b rest d w0 w hC hS hD (by omega) c2 hb hsz h1 hA
   obtain ⟨mid, hmid⟩ : ∃ mid, mid = (a + b) / 2 := ⟨_, rfl⟩
   by_cases c3 : mid < m
   · exact sym_hi enc hE cf lt D f cb g cap rest n w0 hC hsz a m b mid (mid + m - b) mid d w hdn hS hD (by omega) (by omega) hb hA hmid c3 rfl rfl
       (sym_fin enc hE cf lt hL D f cb g cap rest n w0 N hsz ih a m b mid (mid + m - b) mid d hN hdn hD hb h1 h2 hA (by omega) (by omega) (by omega) (by omega) (by omega) (by omega) (by omega) (by omega))
   · exact sym_lo enc hE cf lt D f cb g cap rest n w0 hC hsz a m b mid a m d w hdn hS hD (by omega) (by omega) hb hA hmid (by omega) rfl rfl
       (sym_fin enc hE cf lt hL D f cb g cap rest n w0 N hsz ih a m b mid a m d hN hdn hD hb h1 h2 hA (by omega) (by omega) (by omega) (by omega) (by omega) (by omega) (by omega) (by omega))
end Go.Proofs.YtkikhmdpcanidaaGreat
namespace Go.Proofs.YtkikhmdpcanidaaGreat
open Go.RowKit Go.Sort
variable {α : Type} [Inhabited α] {lt lt1 : α → α → Bool} {d R R' : Array α} {lo m hi s i : Nat}
structure Good (lt : α → α → Bool) (d : Array α) (lo hi : Nat) (R : Array α) : Prop where
 srt : SortedIn lt lo (min hi d.size) R
 loc : ∀ k, lo ≤ k → k < hi → k < d.size → ∃ j, lo ≤ j ∧ j < hi ∧ j < d.size ∧ R[k]! = d[j]!
theorem Good.same (h : Good lt d lo hi R) (hR : ∀ k, lo ≤ k → k < hi → k < d.size → R'[k]! = R[k]!) : Good lt d lo hi R' :=
 ⟨zaZ h.srt (fun k h1 h2 => hR k h1 (by omega) (by omega)), fun k h1 h2 h3 => by rw [hR k h1 h2 h3]; exact h.loc k h1 h2 h3⟩
theorem Good.agree (hag : ∀ p q, p < q → q < d.size → lt1 d[q]! d[p]! = lt d[q]! d[p]!) (h1 : Good lt d lo m R) (h2 : Good lt d m hi R) : zcb lt1 lt R lo m (min hi d.size) := fun p q a b c e => by
 obtain ⟨p', _, p2, p3, hp⟩ := h1.loc p a b (by omega)
 obtain ⟨q', q1, q2, q3, hq⟩ := h2.loc q c (by omega) (by omega)
 rw [hp, hq]; exact hag _ _ (by omega) q3
theorem Good.join (h1 : Good lt d lo m R) (h2 : Good lt d m hi R) (hlm : lo ≤ m) (hmh : m ≤ hi) (hsz : R.size = d.size) (hP : PermIn lo (min hi d.size) R R') (hS : SortedIn lt lo (min hi d.size) R') : Good lt d lo hi R' :=
 ⟨hS, fun k a b c => permIn_all R R' lo (min hi d.size) (fun x => ∃ j, lo ≤ j ∧ j < hi ∧ j < d.size ∧ x = d[j]!) (by omega) hP (fun i i1 i2 => by
   by_cases h : i < m
   · obtain ⟨j, a1, a2, a3, a4⟩ := h1.loc i i1 h (by omega); exact ⟨j, a1, by omega, a3, a4⟩
   · obtain ⟨j, a1, a2, a3, a4⟩ := h2.loc i (by omega) (by omega) (by omega); exact ⟨j, by omega, a2, a3, a4⟩) k a (by omega)⟩
theorem Good.wide (h : Good lt d lo m R) (hm : d.size ≤ m) (hmh : m ≤ hi) : Good lt d lo hi R :=
 ⟨by have := h.srt; rwa [show min m d.size = min hi d.size from by omega] at this, fun k a b c => by obtain ⟨j, a1, a2, a3, a4⟩ := h.loc k a (by omega) c; exact ⟨j, a1, by omega, a3, a4⟩⟩
theorem Good.void (h : d.size ≤ lo) : Good lt d lo hi R := ⟨fun p q h1 h2 h3 => by omega, fun k h1 h2 h3 => by omega⟩
structure zb1 (lt : α → α → Bool) (d : Array α) (s i : Nat) (R : Array α) : Prop where
 sz : R.size = d.size
 perm : PermIn 0 d.size d R
 old : ∀ k, s * i ≤ k → R[k]! = d[k]!
 good : ∀ j, j < i → Good lt d (s * j) (s * (j + 1)) R
theorem zb1.start : zb1 lt d s 0 d := ⟨rfl, permIn_refl _ _ _, fun _ _ => rfl, fun _ h => by omega⟩
theorem zb1.step (h : zb1 lt d s i R) (hle : s * i ≤ d.size) (hP : PermIn (s * i) (min (s * i + s) d.size) R R') (hS : SortedIn lt (s * i) (min (s * i + s) d.size) R') : zb1 lt d s (i + 1) R' := by
 have hm : s * (i + 1) = s * i + s := Nat.mul_succ s i
 refine ⟨hP.1.trans h.sz, permIn_trans _ _ _ _ _ h.perm (permIn_mono R R' _ _ 0 d.size (by omega) (by omega) (by rw [h.sz]; omega) hP), fun k hk => ?_, fun j hj => ?_⟩
 · rw [hP.2.1 k (by omega)]; exact h.old k (by omega)
 · by_cases hji : j < i
   · have h2 := Nat.mul_le_mul_left s (show j + 1 ≤ i by omega)
     exact (h.good j hji).same fun k h3 h4 h5 => hP.2.1 k (by omega)
   · obtain rfl : j = i := by omega
     rw [hm]
     exact ⟨hS, fun k a b c => permIn_all R R' _ _ (fun x => ∃ q, s * j ≤ q ∧ q < s * j + s ∧ q < d.size ∧ x = d[q]!) (by rw [h.sz]; omega) hP (fun q h1 h2 => ⟨q, h1, by omega, by omega, h.old q h1⟩) k a (by omega)⟩
theorem zb1.all (h : zb1 lt d s i R) (hn : d.size ≤ s * i) (j : Nat) : Good lt d (s * j) (s * (j + 1)) R := by
 by_cases hj : j < i
 · exact h.good j hj
 · have h2 := Nat.mul_le_mul_left s (show i ≤ j by omega)
   exact Good.void (by omega)
structure za4 (lt : α → α → Bool) (d : Array α) (s i : Nat) (R : Array α) : Prop where
 sz : R.size = d.size
 perm : PermIn 0 d.size d R
 lo : ∀ j, j < i → Good lt d (2 * s * j) (2 * s * (j + 1)) R
 hi : ∀ j, 2 * i ≤ j → Good lt d (s * j) (s * (j + 1)) R
theorem dbl0 (s i : Nat) : s * (2 * i) = 2 * s * i := by rw [← Nat.mul_assoc, Nat.mul_comm s 2]
theorem dbl1 (s i : Nat) : s * (2 * i + 1) = 2 * s * i + s := by rw [Nat.mul_succ, dbl0]
theorem dbl2 (s i : Nat) : s * (2 * i + 1 + 1) = 2 * s * i + 2 * s := by rw [Nat.mul_succ, dbl1]; omega
theorem za4.start (h1 : R.size = d.size) (h2 : PermIn 0 d.size d R) (h3 : ∀ j, Good lt d (s * j) (s * (j + 1)) R) : za4 lt d s 0 R := ⟨h1, h2, fun _ h => by omega, fun j _ => h3 j⟩
theorem za4.left (h : za4 lt d s i R) : Good lt d (2 * s * i) (2 * s * i + s) R := by
 have := h.hi (2 * i) (Nat.le_refl _); rwa [dbl0, dbl1] at this
theorem za4.right (h : za4 lt d s i R) : Good lt d (2 * s * i + s) (2 * s * i + 2 * s) R := by
 have := h.hi (2 * i + 1) (by omega); rwa [dbl1, dbl2] at this
theorem za4.step (h : za4 lt d s i R) (hle : 2 * s * i + s ≤ d.size) (hP : PermIn (2 * s * i) (min (2 * s * i + 2 * s) d.size) R R') (hS : SortedIn lt (2 * s * i) (min (2 * s * i + 2 * s) d.size) R') : za4 lt d s (i + 1) R' := by
 have hm : 2 * s * (i + 1) = 2 * s * i + 2 * s := Nat.mul_succ (2 * s) i
 refine ⟨hP.1.trans h.sz, permIn_trans _ _ _ _ _ h.perm (permIn_mono R R' _ _ 0 d.size (by omega) (by omega) (by rw [h.sz]; omega) hP), fun j hj => ?_, fun j hj => ?_⟩
 · by_cases hji : j < i
   · have h2 := Nat.mul_le_mul_left (2 * s) (show j + 1 ≤ i by omega)
     exact (h.lo j hji).same fun k h3 h4 h5 => hP.2.1 k (by omega)
   · obtain rfl : j = i := by omega
     rw [hm]
     exact h.left.join h.right (by omega) (by omega) h.sz hP hS
 · have h2 := Nat.mul_le_mul_left s (show 2 * i + 1 + 1 ≤ j by omega)
   rw [dbl2] at h2
   exact (h.hi j (by omega)).same fun k h3 h4 h5 => hP.2.1 k (by omega)
theorem za4.done (h : za4 lt d s i R) (hn : d.size ≤ 2 * s * i + s) (j : Nat) : Good lt d (2 * s * j) (2 * s * (j + 1)) R := by
 by_cases hj : j < i
 · exact h.lo j hj
 · by_cases hji : j = i
   · subst hji
     rw [Nat.mul_succ (2 * s) j]
     exact h.left.wide hn (by omega)
   · have h2 := Nat.mul_le_mul_left (2 * s) (show i + 1 ≤ j by omega)
     rw [Nat.mul_succ] at h2
     exact Good.void (by omega)
theorem good_end (h : ∀ j, Good lt d (s * j) (s * (j + 1)) R) (hs : d.size ≤ s) : SortedIn lt 0 d.size R := by
 have := (h 0).srt
 rwa [Nat.mul_zero, Nat.zero_add, Nat.mul_one, show min s d.size = d.size from by omega] at this
theorem mrg_facts {A b : Nat} (h : za4 lt d s i R) (hA : A = 2 * s * i) (hag : ∀ p q, p < q → q < d.size → lt1 d[q]! d[p]! = lt d[q]! d[p]!) (hb : b = min (A + 2 * s) d.size) (hm : A + s < b) :
   SortedIn lt A (A + s) R ∧ SortedIn lt (A + s) b R ∧ zcb lt1 lt R A (A + s) b := by
 have hl := h.left
 have hr := h.right
 rw [← hA] at hl hr
 have h1 := hl.srt
 have h2 := hr.srt
 have h3 := hl.agree hag hr
 rw [show min (A + s) d.size = A + s from by omega] at h1
 rw [← hb] at h2 h3
 exact ⟨h1, h2, h3⟩
theorem mrg_step {A b : Nat} (h : za4 lt d s i R) (hA : A = 2 * s * i) (hb : b = min (A + 2 * s) d.size) (hm : A + s < b) (hP : PermIn A b R R') (hS : SortedIn lt A b R') : za4 lt d s (i + 1) R' := by
 subst hA hb
 exact h.step (by omega) hP hS
theorem zd0 {A b : Nat} (h : zb1 lt d s i R) (hA : A = s * i) (hb : b = min (A + s) d.size) (hm : A ≤ b) (hP : PermIn A b R R') (hS : SortedIn lt A b R') : zb1 lt d s (i + 1) R' := by
 subst hA hb
 exact h.step (by omega) hP hS
theorem zdt {A b : Nat} (h : zb1 lt d s i R) (hA : A = s * i) (hag : ∀ p q, p < q → q < d.size → lt1 d[q]! d[p]! = lt d[q]! d[p]!) (hb : b ≤ d.size) (p q : Nat) (h1 : A ≤ p) (h2 : p < q) (h3 : q < b) : lt1 R[q]! R[p]! = lt R[q]! R[p]! := by
 rw [h.old p (by omega), h.old q (by omega)]
 exact hag p q h2 (by omega)
end Go.Proofs.YtkikhmdpcanidaaGreat
namespace Go.Proofs.YtkikhmdpcanidaaGreat
open Go.RowKit Go.Sort
theorem stable_core {α : Type} [Inhabited α] (enc : α → Value) (hE : ∀ x, ∃ n, enc x = .int .i64 n) (cf : α → α → Int) (lt2 : α → α → Bool) (hO : SWO lt2) (D : α → Prop) (f : FuncId) (cb : Array Value) (g cap n : Nat) (rest : List Value) (d : Array α) (w0 w : World)
   (hC : CmpQ Tryz.prog f cb enc cf D w0 g) (hS : SB enc w0 g 3 rest d w) (hD : ∀ i, i < d.size → D d[i]!) (hag : ∀ p q, p < q → q < d.size → ltOf cf d[q]! d[p]! = lt2 d[q]! d[p]!) (hdn : d.size = n) (hsz : n < 1152921504606846976) :
   Calls Tryz.prog 129 #[.slice (some ⟨g, 0, none⟩) n cap, .int .i64 n, .func (.func f) #[] cb] w fun e w' => e = .returned (.tuple #[]) ∧ ∃ R, SB enc w0 g 3 rest R w' ∧ PermIn 0 d.size d R ∧ SortedIn lt2 0 d.size R := by
 have eg := hC.enters
 have insert : ∀ (A B : Nat) (R : Array α) (wr : World), R.size = n → SB enc w0 g 3 rest R wr → PermIn 0 d.size d R → A ≤ B → B ≤ n →
     Calls Tryz.prog 137 #[.slice (some ⟨g, 0, none⟩) n cap, .int .i64 A, .int .i64 B, .func (.func f) #[] cb] wr fun e w' => e = .returned (.tuple #[]) ∧ SB enc w0 g 3 rest (Sort.insertionSort (ltOf cf) R A B) w' := by
   intro A B R wr h1 h2 h3 h4 h5
   have := ins_any enc hE cf D f cb g cap A B rest R w0 wr hC h2 (zbs D (Nat.le_refl _) h3 hD) h4 (by omega) (by omega)
   rwa [h1] at this
 have merge : ∀ (A s m b i : Nat) (R : Array α) (wr : World), SB enc w0 g 3 rest R wr → za4 lt2 d s i R → A = 2 * s * i → m = A + s → 0 < s → b = min (A + 2 * s) n → m < b →
     Calls Tryz.prog 138 #[.slice (some ⟨g, 0, none⟩) n cap, .int .i64 A, .int .i64 ((A : Int) + (s : Int)), .int .i64 b, .func (.func f) #[] cb] wr fun e w' => e = .returned (.tuple #[]) ∧ ∃ R', SB enc w0 g 3 rest R' w' ∧ za4 lt2 d s (i + 1) R' := by
   intro A s m b i R wr h1 h2 h3 h4 h5 h6 h7
   obtain ⟨q1, q2, q3⟩ := mrg_facts (b := b) h2 h3 hag (by rw [hdn]; exact h6) (by omega)
   rw [← h4] at q1 q2 q3
   have hc := merge_all enc hE cf lt2 hO D f cb g cap rest n w0 hC (by omega) (b - A) A m b R wr (Nat.le_refl _) (h2.sz.trans hdn) h1 (zbs D (Nat.le_refl _) h2.perm hD) (by omega) h7 (by omega) q1 q2 q3
   rw [show (m : Int) = (A : Int) + (s : Int) from by omega] at hc
   exact hc.mono fun e w' ⟨e1, R', _, e3, e4, e5⟩ => ⟨e1, R', e3, mrg_step h2 h3 (by rw [hdn]; exact h6) (by omega) e4 e5⟩
 have HINS := Lib.hid insert
 have HMRG := Lib.hid merge
 have HAG := Lib.hid hag
 have HO := Lib.hid hO
 have HS := Lib.hid hS
 have HDN := Lib.hid hdn
 clear insert merge hag hO hS hC hD hdn
 go_enter Tryz.func129, Tryz.ntmps129
 go_wp2
 go_loopw [7, 8] (fun va vb wr => ∃ (i A B : Nat) (R : Array α), va = .int .i64 A ∧ vb = .int .i64 B ∧ A ≤ n ∧ A + 20 ≤ B ∧ B ≤ A + 20 ∧ Hid (A = 20 * i) ∧ Hid (SB enc w0 g 3 rest R wr) ∧ Hid (zb1 lt2 d 20 i R)) (fun va _ _ => n - (intOf va).toNat)
 case atStart => exact ⟨0, 0, 20, d, rfl, rfl, Nat.zero_le _, by omega, by omega, Lib.hid rfl, HS, Lib.hid zb1.start⟩
 case round =>
   obtain ⟨i, A, B, R, rfl, rfl, hAn, hB1, hB2, HA, HR, HI⟩ := hrel
   clear HS
   have hRn : R.size = n := HI.out.sz.trans HDN.out
   have HRN := Lib.hid hRn
   clear hRn
   by_cases hlt : B ≤ n
   · have hins := HINS.out A B R wr HRN.out HR.out HI.out.perm (by omega) hlt
     have hst := zcN (ltOf cf) lt2 HO.out A B R (by omega) (by rw [HRN.out]; exact hlt) (zdt HI.out HA.out HAG.out (by rw [HDN.out]; exact hlt))
     have HC1 := Lib.hid hins
     have HST := Lib.hid hst
     clear hins hst
     go_wp2_with (go_at_call 137; refine HC1.out.mono ?_; rintro e w2 ⟨rfl, hS2⟩; have HS2 := Lib.hid hS2; clear hS2)
     go_roundw
     case rel => exact ⟨i + 1, B, B + 20, _, rfl, by go_num, hlt, by omega, by omega, Lib.hid (by have := HA.out; omega), HS2, Lib.hid (zd0 HI.out HA.out (by rw [HDN.out]; omega) (by omega) HST.out.1 HST.out.2)⟩
     case measure => simp [intOf]; omega
   · have hins := HINS.out A n R wr HRN.out HR.out HI.out.perm hAn (Nat.le_refl _)
     have hst := zcN (ltOf cf) lt2 HO.out A n R hAn (by rw [HRN.out]; exact Nat.le_refl _) (zdt HI.out HA.out HAG.out (by rw [HDN.out]; exact Nat.le_refl _))
     have hall := fun (R' : Array α) (h1 : PermIn A n R R') (h2 : SortedIn lt2 A n R') => zd0 HI.out HA.out (by rw [HDN.out]; omega) hAn h1 h2
     have hnn : d.size ≤ 20 * (i + 1) := by have := HA.out; have := HDN.out; omega
     have HALL := Lib.hid (hall _ hst.1 hst.2)
     have HC1 := Lib.hid hins
     have HNN := Lib.hid hnn
     clear hins hst hall hnn
     go_wp2_with (go_at_call 137; refine HC1.out.mono ?_; rintro e w2 ⟨rfl, hS2⟩; have HS2 := Lib.hid hS2; clear hS2)
     go_loopw [6] (fun vs wr => ∃ (s : Nat) (R : Array α), vs = .int .i64 s ∧ 20 ≤ s ∧ s ≤ 2305843009213693952 ∧ Hid (SB enc w0 g 3 rest R wr) ∧ Hid (R.size = d.size) ∧ Hid (PermIn 0 d.size d R) ∧ Hid (∀ j, Good lt2 d (s * j) (s * (j + 1)) R)) (fun vs _ => n - (intOf vs).toNat)
     case atStart => exact ⟨20, _, rfl, by omega, by omega, HS2, Lib.hid HALL.out.sz, Lib.hid HALL.out.perm, Lib.hid (HALL.out.all HNN.out)⟩
     case round =>
       obtain ⟨s, R2, rfl, hs20, hsb, HR2, HZ2, HP2, HG2⟩ := hrel
       clear HS2 HALL HC1 HNN HR HI HA hAn hB1 hB2 hlt HRN
       by_cases hsn : s < n
       · go_wp2
         go_loopw [7, 8] (fun va vb wr => ∃ (i A B : Nat) (R : Array α), va = .int .i64 A ∧ vb = .int .i64 B ∧ A ≤ n ∧ A + 2 * s ≤ B ∧ B ≤ A + 2 * s ∧ Hid (A = 2 * s * i) ∧ Hid (SB enc w0 g 3 rest R wr) ∧ Hid (za4 lt2 d s i R)) (fun va _ _ => n - (intOf va).toNat)
         case atStart => exact ⟨0, 0, 2 * s, R2, rfl, by go_num, Nat.zero_le _, by omega, by omega, Lib.hid (by simp), HR2, Lib.hid (za4.start HZ2.out HP2.out HG2.out)⟩
         case round =>
           obtain ⟨j, A2, B2, R3, rfl, rfl, hAn2, hB3, hB4, HA2, HR3, HM⟩ := hrel
           clear HR2 HZ2 HP2 HG2
           by_cases hlt2 : B2 ≤ n
           · have HC2 := Lib.hid (HMRG.out A2 s (A2 + s) B2 j R3 _ HR3.out HM.out HA2.out rfl (by omega) (by omega) (by omega))
             go_wp2_with (go_at_call 138; refine HC2.out.mono ?_; rintro e w3 ⟨rfl, R4, hS3, hM3⟩; have HS3 := Lib.hid hS3; have HM3 := Lib.hid hM3; clear hS3 hM3)
             go_roundw
             case rel => exact ⟨j + 1, B2, B2 + 2 * s, R4, rfl, by go_num, hlt2, by omega, by omega, Lib.hid (by rw [Nat.mul_succ, ← HA2.out]; omega), HS3, HM3⟩
             case measure => simp [intOf]; omega
           · by_cases hm : A2 + s < n
             · have hmI : (A2 : Int) + (s : Int) < (n : Int) := by omega
               have HC2 := Lib.hid (HMRG.out A2 s (A2 + s) n j R3 _ HR3.out HM.out HA2.out rfl (by omega) (by omega) hm)
               go_wp2_with (go_at_call 138; refine HC2.out.mono ?_; rintro e w3 ⟨rfl, R4, hS3, hM3⟩; have HS3 := Lib.hid hS3; have HM3 := Lib.hid hM3; clear hS3 hM3)
               go_roundw
               case rel => exact ⟨2 * s, R4, by go_num, by omega, by omega, HS3, Lib.hid HM3.out.sz, Lib.hid HM3.out.perm, Lib.hid (HM3.out.done (by rw [Nat.mul_succ, ← HA2.out, HDN.out]; omega))⟩
               case measure => simp [intOf]; omega
             · have hmI : (n : Int) ≤ (A2 : Int) + (s : Int) := by omega
               go_wp2
               go_roundw
               case rel => exact ⟨2 * s, R3, by go_num, by omega, by omega, HR3, Lib.hid HM.out.sz, Lib.hid HM.out.perm, Lib.hid (HM.out.done (by rw [← HA2.out, HDN.out]; omega))⟩
               case measure => simp [intOf]; omega
       · go_wp2
         go_end0
         exact ⟨rfl, R2, HR2.out, HP2.out, good_end HG2.out (by rw [HDN.out]; omega)⟩
theorem stable_any {α : Type} [Inhabited α] (enc : α → Value) (hE : ∀ x, ∃ n, enc x = .int .i64 n) (cf : α → α → Int) (lt2 : α → α → Bool) (hO : SWO lt2) (D : α → Prop) (f : FuncId) (cb : Array Value) (g cap : Nat) (rest : List Value) (d : Array α) (w0 w : World)
   (hC : CmpQ Tryz.prog f cb enc cf D w0 g) (hS : SB enc w0 g 3 rest d w) (hD : ∀ i, i < d.size → D d[i]!) (hag : ∀ p q, p < q → q < d.size → ltOf cf d[q]! d[p]! = lt2 d[q]! d[p]!) (hsz : d.size < 1152921504606846976) :
   Calls Tryz.prog 111 #[.slice (some ⟨g, 0, none⟩) d.size cap, .func (.func f) #[] cb] w fun e w' => e = .returned (.tuple #[]) ∧ ∃ R, SB enc w0 g 3 rest R w' ∧ PermIn 0 d.size d R ∧ SortedIn lt2 0 d.size R := by
 obtain ⟨n, hn⟩ : ∃ n, n = d.size := ⟨_, rfl⟩
 have hcore := stable_core enc hE cf lt2 hO D f cb g cap n rest d w0 w hC hS hD hag hn.symm (by omega)
 rw [← hn] at hsz ⊢
 rw [← hn] at hcore
 have HC := Lib.hid hcore
 clear hcore hC hS hD hag hn
 go_enter Tryz.func111, Tryz.ntmps111
 go_wp2_with (go_at_call 129; refine HC.out.mono ?_; rintro e w2 ⟨rfl, R, h1, h2, h3⟩)
 go_end0
 exact ⟨rfl, R, h1, h2, h3⟩
theorem zbQ : ze6 320 := fun cf lt2 D f cb g cap rest d w0 w hO hC hS hD hag hsz => stable_any (Value.int .i64) (fun x => ⟨x, rfl⟩) cf lt2 hO D f cb g cap rest d w0 w hC hS hD hag (by omega)
theorem EByte : zcZ Tryz.prog 22 5 (.int .u8 0) 1 1 := ⟨Tryz.underlying22, by kernel_rfl, rfl, by omega⟩
theorem IsTb.keeps {w w' : World} {Bl S : Nat → Prop} {p : Nat} {l : List Int} (h : IsTb w Bl p l) (hk : zaa S w w') (hS : ∀ b, Bl b → ¬ S b) : IsTb w' Bl p l := by
 obtain ⟨⟨aL, cL, aC, cC, aS, cS, srt, hT, hL, hC, hS2, hso, b1, b2, b3, hnn⟩, hroom, hp⟩ := h
 exact ⟨⟨aL, cL, aC, cC, aS, cS, srt, hk.obj hT (hS p hp), hL.keeps hk (fun x hx => hS _ (b1 x hx)), hC.keeps hk (fun x hx => hS _ (b2 x hx)), hS2.keeps hk (fun x hx => hS _ (b3 x hx)), hso, b1, b2, b3, hnn⟩, hroom, hp⟩
theorem zaa.any {S : Nat → Prop} {w w' : World} (hb : Below w.heap.size w w') : zaa S w w' := ⟨hb.os, hb.tape, hb.output, hb.size, fun b h _ => hb.block b h⟩
theorem IsSt.blt {w : World} {U : Nat → Prop} {sb r : Nat} {bs : List UInt8} {most : Nat} {s : IS} (h : IsSt w U sb r bs most s) {b : Nat} (hb : U b) : b < w.heap.size := (h.ult b hb).2
theorem stab_ok {w : World} {U : Nat → Prop} {sb r : Nat} {bs : List UInt8} {most : Nat} {s : IS} (h : IsSt w U sb r bs most s) (he : s.e = 0) {a : Option Addr} {n cap : Nat} {l : List Int} (hr : Row w 1 a n cap (l.map (Value.int .i64))) (hroom : 0 ≤ zas l) (hn : n ≤ 320) (ha : a ≠ none) :
   Calls Tryz.prog 62 #[.pointer (some ⟨sb, 0, none⟩), .slice a n cap] w fun x w' => ∃ (p : Nat) (Bl : Nat → Prop), x = .returned (.pointer (some ⟨p, 0, none⟩)) ∧ IsTb w' Bl p l ∧ (∀ b, Bl b → w.heap.size ≤ b ∧ b < w'.heap.size) ∧ IsSt w' U sb r bs most s ∧ zaa U w w' := by
 obtain ⟨c0, c1, -, f1, -⟩ := h.cells
 have HS := Lib.hid h
 have HN := Lib.hid (zfv 320 zbQ a n cap l w hr hroom hn ha)
 rw [he] at c1
 have HE := Lib.hid he
 clear h hr hroom ha
 go_enter Tryz.func62, Tryz.ntmps62
 go_wp2_with fail
 refine HN.out.mono ?_
 rintro e w1 ⟨p, rfl, hT, hb⟩
 have HT := Lib.hid hT
 have HB := Lib.hid hb
 have HF := Lib.hid (zaC (HS.out.mono hb) 0)
 clear c0 c1 f1 hT hb
 go_wp2_with fail
 refine HF.out.mono ?_
 rintro e w2 ⟨rfl, h2, k2⟩
 rw [zdC] at h2
 have H2 := Lib.hid h2
 have K2 := Lib.hid k2
 clear h2 k2
 go_wp2
 go_ret
 have hU : ∀ b, U b → b < w.heap.size := fun b hb => HS.out.blt hb
 exact ⟨p, _, rfl, HT.out.keeps K2.out (fun b hb hu => by have := hU b hu; omega), fun b hb => ⟨hb.1, Nat.lt_of_lt_of_le hb.2 K2.out.size⟩, H2.out, (zaa.any HB.out).trans K2.out (fun b hb => .inl hb)⟩
theorem IsSt.putOut {w w1 : World} {U : Nat → Prop} {sb r : Nat} {bs : List UInt8} {most : Nat} {s : IS} {v v' : Value} {o : Obj} {c : UInt8} (h : IsSt w U sb r bs most s) (hv : w.heap[sb]? = some (.cells (stC r s.e v most) 60 (0, 0))) (hO : w.ownsRow (sb + 1) 5 1 v s.out.length (s.out.map u8C)) (hU : ∀ b, v.ownBlock = some b → U b)
   (hO' : w1.ownsRow (sb + 1) 5 1 v' (s.out.length + 1) (s.out.map u8C ++ [u8C c])) (hg : (w.alloc o).grownBy w1 v.ownBlock) (hN : zf5 (w.alloc o) v v') :
   zaQ w U sb r bs most { s with out := s.out ++ [c] } (w1.setCell ⟨sb, 2, none⟩ v') := by
 have hk : zaa (fun b => v.ownBlock = some b) w w1 := ((zaa.refl _ w).alloc o).grown hg (fun k hk => .inl hk)
 have hk2 : zaa (fun b => b = sb) w1 (w1.setCell ⟨sb, 2, none⟩ v') := zaa.setCell (S := fun b => b = sb) (zaa.refl _ w1) (a := ⟨sb, 2, none⟩) (.inl rfl) _
 have hsz := hk.size
 have hult := h.ult
 have hrs := h.lt
 have hsb1 : w1.heap[sb]? = some (.cells (stC r s.e v most) 60 (0, 0)) := hk.obj hv (fun e => by have := (hO.lt sb e).1; omega)
 have hkU : zaa U w w1 := hk.weaken hU
 refine ⟨fun b => U b ∨ v'.ownBlock = some b, ⟨⟨v', ?_, ?_, fun b hb => .inr hb⟩, (h.rd.keeps hk (fun b hb e => by have := (hO.lt b e).1; omega)).keeps hk2 (fun b hb e => by omega), hrs, ⟨.inl h.own.1, .inl h.own.2⟩, fun b hb => ?_⟩, hkU.trans hk2 (fun b hb => .inl (hb ▸ h.own.1)), fun b hb => ?_⟩
 · have := zaM (w := w1) (b := sb) (n := 4) (enc := fun i => if i = 0 then .pointer (some ⟨r, 0, none⟩) else if i = 1 then .int .i64 s.e else if i = 2 then v else .int .i64 most) (t := 60) hsb1 2 v'
   exact this
 · have h3 := zao hO' hk2 (fun b hb e => by have := (hO'.lt b hb).1; omega)
   show World.ownsRow _ _ _ _ v' (s.out ++ [c]).length ((s.out ++ [c]).map u8C)
   rw [List.length_append, List.map_append]
   exact h3
 · have hs2 := hk2.size
   rcases hb with hb | hb
   · have := hult b hb
     exact ⟨this.1, by omega⟩
   · have := hO'.lt b hb
     exact ⟨by omega, by omega⟩
 · rcases hb with hb | hb
   · exact .inl hb
   · rcases hN b hb with e | e
     · exact .inl (hU b e)
     · rw [zad] at e; exact .inr (by omega)
theorem sput5_any {w : World} {U : Nat → Prop} {sb r : Nat} {bs : List UInt8} {most : Nat} {s : IS} (h : IsSt w U sb r bs most s) (c : UInt8) (hb : s.out.length ≤ 100000000) :
   Calls Tryz.prog 97 #[.pointer (some ⟨sb, 0, none⟩), .int .u8 c.toNat] w fun x w' => x = .returned (.tuple #[]) ∧ zaQ w U sb r bs most (zbL most c s) w' := by
 obtain ⟨c0, c1, c3, f1, f2⟩ := h.cells
 have HS := Lib.hid h
 obtain ⟨v, hv, hO, hU⟩ := h.ex
 obtain ⟨a0, cap0, hva, -, -⟩ := Row.of_owns hO
 subst hva
 have c2 : w.cell? ⟨sb, 2, none⟩ = some (.slice a0 s.out.length cap0) := by rw [cell_of_row w sb _ _ _ _ hv]; rfl
 have HV := Lib.hid hv
 have HO := Lib.hid hO
 have HU := Lib.hid hU
 have hsb := h.blt h.own.1
 clear h hv hO hU
 by_cases hl : most ≤ s.out.length
 · have hd : decide (most ≤ s.out.length) = true := decide_eq_true hl
   have HP : Hid (zbL most c s = zaj 3 s) := Lib.hid (if_pos hl)
   go_enter Tryz.func97, Tryz.ntmps97
   go_wp2_with fail
   go_quiet (fail)
   have HF := Lib.hid (zaC (HS.out.drewN nq).1 3)
   go_wp2_with fail
   refine HF.out.mono ?_
   rintro e w2 ⟨rfl, h2, k2⟩
   have H2 := Lib.hid (And.intro h2 ((HS.out.drewN nq).2.trans k2 (fun b hb => .inl hb)))
   clear h2 k2
   go_wp2
   refine bodyPost_ret (results_none rfl _ _ _) rfl ?_
   exact ⟨rfl, by rw [HP.out]; exact IsSt.next H2.out⟩
 · have hd : decide (most ≤ s.out.length) = false := decide_eq_false hl
   have HP : Hid (zbL most c s = { s with out := s.out ++ [c] }) := Lib.hid (if_neg hl)
   go_enter Tryz.func97, Tryz.ntmps97
   go_wp2_with fail
   go_quiet (fail)
   have HSD := Lib.hid (HS.out.drewN nq)
   have HOD := Lib.hid (show (w.drewN nq).ownsRow (sb + 1) 5 1 (.slice a0 s.out.length cap0) s.out.length (s.out.map u8C) from HO.out)
   have HVD := Lib.hid (show (w.drewN nq).heap[sb]? = some (.cells (stC r s.e (.slice a0 s.out.length cap0) most) 60 (0, 0)) from HV.out)
   have d2 : (w.drewN nq).cell? ⟨sb, 2, none⟩ = some (.slice a0 s.out.length cap0) := c2
   have hsbd : sb < (w.drewN nq).heap.size := hsb
   generalize w.drewN nq = W at *
   clear c0 c1 c2 c3 f1 f2
   obtain ⟨y, hy⟩ : ∃ y, y = c.toNat := ⟨_, rfl⟩
   have HY := Lib.hid hy
   rw [← hy]
   clear hy
   go_wp2_with (at_builtin; refine zb9 EByte rfl (.tmp 22) (.tmp 24) rfl (sb + 1) _ s.out.length _ rfl (HOD.out.alloc _) _ 1 _ _ rfl (zaS _ _ _) (zbN rfl) (by unfold maxLen; omega) (by omega) (by rw [zad]; omega) ?_; intro v' w5 hO5 hg5 hN5; obtain ⟨a5, c5, hv5, -, -⟩ := Row.of_owns hO5; subst hv5; have HN := Lib.hid (HSD.out.1.putOut (c := c) HVD.out HOD.out HU.out (by unfold u8C; rw [← HY.out]; exact hO5) hg5 hN5); have hf5 : w5.frozen? ⟨sb, 2, none⟩ = false := frozen_of_row w5 sb 2 _ _ ((((zaa.refl _ W).alloc _).grown hg5 (fun k hk => .inl hk)).obj HVD.out (fun e => by have := (HOD.out.lt sb e).1; omega)); have hc5 : w5.cell? ⟨sb, 2, none⟩ = some (.slice a0 s.out.length cap0) := (((zaa.refl _ W).alloc _).grown hg5 (fun k hk => .inl hk)).cell d2 (fun e => by have := (HOD.out.lt sb e).1; omega); clear hO5 hg5 hN5)
   go_end0
   refine ⟨rfl, ?_⟩
   rw [HP.out]
   exact zaQ.trans HSD.out.2 (fun _ h => .inl h) HN.out
theorem zb0 {w w' : World} {row : Option Nat} (h : w.drew.grownBy w' row) : w.grownBy w' row := ⟨h.os, h.tape, h.output, h.size, h.block⟩
theorem new_at {w : World} {o : Obj} {v : Value} {g n cap : Nat} (h : v.ownBlock = some g ∨ g = w.heap.size + 1) : zf5 (w.alloc o) v (.slice (some ⟨g, 0, none⟩) n cap) := fun b hb => by
 have hb2 : g = b := by simpa [Value.ownBlock] using hb
 subst hb2
 rcases h with h | h
 · exact .inl h
 · rw [zad]; exact .inr (by omega)
theorem zgi (far : Nat) : ∀ (n : Nat) (o : List UInt8), (repL far n o).length = o.length + n
 | 0, o => rfl
 | n + 1, o => by simp only [repL]; rw [zgi far n]; simp; omega
def RepAt (w wr : World) (U : Nat → Prop) (sb r : Nat) (bs : List UInt8) (most : Nat) (s : IS) (far len j : Nat) : Prop :=
 ∃ U1 s1, IsSt wr U1 sb r bs most s1 ∧ zaa U w wr ∧ (∀ b, U1 b → U b ∨ w.heap.size ≤ b) ∧ s1.e = s.e ∧ s1.at_ = s.at_ ∧ s1.out.length = s.out.length + j ∧ repL far (len - j) s1.out = repL far len s.out
theorem RepAt.fin {w wr : World} {U : Nat → Prop} {sb r : Nat} {bs : List UInt8} {most : Nat} {s : IS} {far len : Nat} (h : RepAt w wr U sb r bs most s far len len) : zaQ w U sb r bs most { s with out := repL far len s.out } wr := by
 obtain ⟨U1, s1, h1, h2, h3, h4, h5, h6, h7⟩ := h
 rw [Nat.sub_self] at h7
 have : s1 = { s with out := repL far len s.out } := by
   obtain ⟨a, e, o⟩ := s1
   simp only at h4 h5
   simp only [repL] at h7
   rw [h4, h5, h7]
 rw [← this]
 exact ⟨U1, h1, h2, h3⟩
theorem RepAt.next {w wr w' : World} {U U1 : Nat → Prop} {sb r : Nat} {bs : List UInt8} {most : Nat} {s s1 : IS} {far len j : Nat} (h2 : zaa U w wr) (h3 : ∀ b, U1 b → U b ∨ w.heap.size ≤ b) (h4 : s1.e = s.e) (h5 : s1.at_ = s.at_) (h6 : s1.out.length = s.out.length + j) (h7 : repL far (len - j) s1.out = repL far len s.out) (hj : j < len)
   (hn : zaQ wr U1 sb r bs most { s1 with out := s1.out ++ [s1.out.getD (s1.out.length - far) 0] } w') : RepAt w w' U sb r bs most s far len (j + 1) := by
 obtain ⟨U2, g1, g2, g3⟩ := zaQ.trans h2 h3 hn
 refine ⟨U2, _, g1, g2, g3, h4, h5, by simp; omega, ?_⟩
 rw [← h7, show len - j = (len - (j + 1)) + 1 by omega]
 rfl
set_option maxRecDepth 20000 in
theorem srep_any {w : World} {U : Nat → Prop} {sb r : Nat} {bs : List UInt8} {most : Nat} {s : IS} (h : IsSt w U sb r bs most s) (len far : Nat) (hfar : s.e = 0 → 1 ≤ far) (hb : s.out.length ≤ 20000000) (hm : most ≤ 20000000) (hl : len ≤ 20000000) (hf2 : far ≤ 20000000) :
   Calls Tryz.prog 101 #[.pointer (some ⟨sb, 0, none⟩), .int .i64 len, .int .i64 far] w fun x w' => x = .returned (.tuple #[]) ∧ zaQ w U sb r bs most (repV most len far s) w' := by
 obtain ⟨c0, c1, c3, f1, f2⟩ := h.cells
 have HS := Lib.hid h
 obtain ⟨v, hv, hO, hU⟩ := h.ex
 obtain ⟨a0, cap0, hva, -, -⟩ := Row.of_owns hO
 subst hva
 have c2 : w.cell? ⟨sb, 2, none⟩ = some (.slice a0 s.out.length cap0) := by rw [cell_of_row w sb _ _ _ _ hv]; rfl
 clear h hv hO hU
 by_cases he : s.e = 0
 · have HFR := Lib.hid (hfar he)
   rw [he] at c1
   by_cases h1 : s.out.length < far
   · have d1 : decide ((s.out.length : Int) < far) = true := decide_eq_true (by omega)
     have d1' : decide (s.out.length < far) = true := decide_eq_true h1
     have HP : Hid (repV most len far s = zaj 14 s) := Lib.hid (by unfold repV; rw [if_neg (by simp [he]), if_pos h1])
     have HF := Lib.hid (zaC HS.out 14)
     go_enter Tryz.func101, Tryz.ntmps101
     go_wp2_with fail
     refine HF.out.mono ?_
     rintro e w2 ⟨rfl, h2, k2⟩
     have H2 := Lib.hid (And.intro h2 k2)
     clear h2 k2
     go_wp2
     go_end0
     exact ⟨rfl, by rw [HP.out]; exact IsSt.next H2.out⟩
   · have d1 : decide ((s.out.length : Int) < far) = false := decide_eq_false (by omega)
     have d1' : decide (s.out.length < far) = false := decide_eq_false h1
     have i1 : IntKind.i64.wrap ((most : Int) - s.out.length) = (most : Int) - s.out.length := IntWalk.i64_in _ (by omega)
     by_cases h2 : (most : Int) - s.out.length < len
     · have d2 : decide ((most : Int) - s.out.length < len) = true := decide_eq_true h2
       have HP : Hid (repV most len far s = zaj 3 s) := Lib.hid (by unfold repV; rw [if_neg (by simp [he]), if_neg h1, if_pos h2])
       go_enter Tryz.func101, Tryz.ntmps101
       go_wp2_with fail
       go_quiet (fail)
       have HF := Lib.hid (zaC (HS.out.drewN nq).1 3)
       go_wp2_with fail
       refine HF.out.mono ?_
       rintro e w2 ⟨rfl, h2, k2⟩
       have H2 := Lib.hid (And.intro h2 ((HS.out.drewN nq).2.trans k2 (fun b hb => .inl hb)))
       clear h2 k2
       go_wp2
       go_end0
       exact ⟨rfl, by rw [HP.out]; exact IsSt.next H2.out⟩
     · have d2 : decide ((most : Int) - s.out.length < len) = false := decide_eq_false h2
       have HP : Hid (repV most len far s = { s with out := repL far len s.out }) := Lib.hid (by unfold repV; rw [if_neg (by simp [he]), if_neg h1, if_neg h2])
       go_enter Tryz.func101, Tryz.ntmps101
       go_wp2_with fail
       go_quiet (fail)
       have HR := Lib.hid (show RepAt w (w.drewN nq) U sb r bs most s far len 0 from ⟨U, s, (HS.out.drewN nq).1, (HS.out.drewN nq).2, fun _ h => .inl h, rfl, rfl, rfl, rfl⟩)
       clear c0 c1 c2 c3 f1 f2 d1 d1' d2 i1
       go_wp2_with fail
       go_loopw [7] (fun vi wr => ∃ j : Nat, vi = .int .i64 j ∧ j ≤ len ∧ Hid (RepAt w wr U sb r bs most s far len j)) (fun vi _ => len - (intOf vi).toNat)
       case atStart => exact ⟨0, rfl, Nat.zero_le _, HR⟩
       case round =>
         obtain ⟨j, rfl, hj, HA⟩ := hrel
         by_cases hlt : j < len
         · obtain ⟨U1, s1, g1, g2, g3, g4, g5, g6, g7⟩ := HA.out
           obtain ⟨c0, c1, c3, f1, f2⟩ := g1.cells
           obtain ⟨v1, hv1, hO1, hU1⟩ := g1.ex
           obtain ⟨a1, cap1, hva, hrow, -⟩ := Row.of_owns hO1
           subst hva
           have c2 : wr.cell? ⟨sb, 2, none⟩ = some (.slice a1 s1.out.length cap1) := by rw [cell_of_row wr sb _ _ _ _ hv1]; rfl
           have hfr1 := HFR.out
           obtain ⟨X, hX⟩ : ∃ X, X = s1.out.length - far := ⟨_, rfl⟩
           obtain ⟨b, off, rfl, hblt, hcx⟩ := Row.at (enc := u8C) 0 (l := s1.out) hrow X (by omega)
           have hcX := hcx X (by omega)
           obtain ⟨c, hc⟩ : ∃ c, c = s1.out.getD X 0 := ⟨_, rfl⟩
           rw [← hc] at hcX
           have hXi : (s1.out.length : Int) - far = (X : Int) := by omega
           have iX : IntKind.i64.wrap (X : Int) = (X : Int) := IntWalk.i64_in _ (by omega)
           have hX0 : (0 : Int) ≤ (X : Int) := by omega
           have hX1 : (X : Int) < (s1.out.length : Int) := by omega
           have hX2 : X < s1.out.length := by omega
           have hlen1 : s1.out.length ≤ 20000000 := by omega
           have hsbw := g1.blt g1.own.1
           have HO1 := Lib.hid hO1
           have HV1 := Lib.hid hv1
           have HU1 := Lib.hid hU1
           have HNX := Lib.hid (fun (w' : World) (hn : zaQ wr U1 sb r bs most { s1 with out := s1.out ++ [c] } w') => RepAt.next (far := far) (len := len) g2 g3 g4 g5 g6 g7 hlt (by rw [← hX, ← hc]; exact hn))
           have HG1 := Lib.hid g1
           have hne : b ≠ sb := fun e => by have := (hO1.lt b rfl).1; omega
           clear g1 g2 g3 g4 g5 g6 g7 hO1 hv1 hU1 hrow hX hc hcx hfr1 HA HS HR
           unfold u8C at hcX
           generalize hy : c.toNat = y at hcX
           have HY := Lib.hid hy
           clear hy
           go_wp2_with fail
           go_region_law (first | (obtain ⟨iB, hiB, hzB, hsB, hbB⟩ := info_parts EByte.info; refine step_append_lies _ (by rfl) _ _ _ (by rfl) (sb + 1) 5 iB _ 1 1 EByte.und hiB hzB hsB hbB rfl (by omega) (.slice (some ⟨b, off, none⟩) s1.out.length cap1) s1.out.length _ (by rfl) ((HO1.out.alloc _).drew) ⟨wr.heap.size, 0, none⟩ 1 1 [.int .u8 (y : Nat)] (by rfl) (by rfl) (World.news_of_block (cs := #[.int .u8 (y : Nat)]) (t := 5) (fr := (0, 0)) (heap_alloc_new wr _)) (by simp [Value.oneCell']) (by omega) (by unfold maxLen; omega) (by omega) (by simp; omega) (wr.heap.size + 1) (by simp) ?_; intro g cap7 w7 hO7 hgrow hat hlt7; have hk7 : zaa (fun k => (Value.slice (some ⟨b, off, none⟩) s1.out.length cap1).ownBlock = some k) wr w7 := ((zaa.refl _ wr).alloc (.cells #[.int .u8 (y : Nat)] 5)).grown (zb0 hgrow) (fun k hk => .inl hk); have ho7 := hk7.obj HV1.out (fun e => hne (by simpa [Value.ownBlock] using e)); have hf7 := frozen_of_row w7 sb 2 _ _ ho7; have hc7 : w7.cell? ⟨sb, 2, none⟩ = some (.slice (some ⟨b, off, none⟩) s1.out.length cap1) := (by rw [cell_of_row w7 sb _ _ _ _ ho7]; rfl); have HNN := Lib.hid (HNX.out _ (HG1.out.putOut (c := c) HV1.out HO1.out HU1.out (by unfold u8C; rw [HY.out]; exact hO7) (zb0 hgrow) (new_at hat))); clear hO7 hgrow hat hlt7 hk7 ho7))
           all_goals
             clear hXi iX hX0 hX1 hX2
             go_wp2
             go_roundw
             case rel => exact ⟨j + 1, by go_num, by omega, HNN⟩
             case measure => simp [intOf]; omega
         · obtain rfl : j = len := by omega
           go_wp2
           go_end0
           exact ⟨rfl, by rw [HP.out]; exact HA.out.fin⟩
 · have HP : Hid (repV most len far s = s) := Lib.hid (by unfold repV; rw [if_pos he])
   go_enter Tryz.func101, Tryz.ntmps101
   go_wp2
   go_end0
   exact ⟨rfl, by rw [HP.out]; exact IsSt.next ⟨HS.out, zaa.refl _ _⟩⟩
def LdEnd (V : Int × Int × Bool) (w : World) (e : Ending) (w' : World) : Prop := e = .returned (.tuple #[.int .i64 V.1, .int .i64 V.2.1, .bool V.2.2]) ∧ w' = w
theorem i64_cases {x lo : Int} (n : Nat) (h1 : lo ≤ x) (h2 : x < lo + n) : ∃ k : Nat, k < n ∧ x = lo + k := ⟨(x - lo).toNat, by omega, by omega⟩
theorem zfg (x : Int) (w : World) (hx : -9223372036854775808 ≤ x ∧ x ≤ 9223372036854775807) : Calls Tryz.prog 99 #[.int .i64 x] w (LdEnd (zaA x) w) := by
 by_cases h1 : x < 257
 · have HV : Hid (zaA x = (0, 0, false)) := Lib.hid (by unfold zaA; rw [if_pos (.inl h1)])
   go_enter Tryz.func99, Tryz.ntmps99
   go_wp2
   go_ret3
   exact ⟨by rw [HV.out]; rfl, rfl⟩
 · have d1 : decide (x < 257) = false := decide_eq_false h1
   by_cases h2 : 285 < x
   · have HV : Hid (zaA x = (0, 0, false)) := Lib.hid (by unfold zaA; rw [if_pos (.inr h2)])
     go_enter Tryz.func99, Tryz.ntmps99
     go_wp2
     go_ret3
     exact ⟨by rw [HV.out]; rfl, rfl⟩
   · have hk2 : x = 257 ∨ x = 258 ∨ x = 259 ∨ x = 260 ∨ x = 261 ∨ x = 262 ∨ x = 263 ∨ x = 264 ∨ x = 265 ∨ x = 266 ∨ x = 267 ∨ x = 268 ∨ x = 269 ∨ x = 270 ∨ x = 271 ∨ x = 272 ∨ x = 273 ∨ x = 274 ∨ x = 275 ∨ x = 276 ∨ x = 277 ∨ x = 278 ∨ x = 279 ∨ x = 280 ∨ x = 281 ∨ x = 282 ∨ x = 283 ∨ x = 284 ∨ x = 285 := by omega
     clear hx h1 h2 d1
     rcases hk2 with rfl | rfl | rfl | rfl | rfl | rfl | rfl | rfl | rfl | rfl | rfl | rfl | rfl | rfl | rfl | rfl | rfl | rfl | rfl | rfl | rfl | rfl | rfl | rfl | rfl | rfl | rfl | rfl | rfl
     all_goals
       go_enter Tryz.func99, Tryz.ntmps99
       go_wp2
       go_ret3
       exact ⟨rfl, rfl⟩
theorem zdM (x : Int) (w : World) (hx : -9223372036854775808 ≤ x ∧ x ≤ 9223372036854775807) : Calls Tryz.prog 100 #[.int .i64 x] w (LdEnd (disV x) w) := by
 by_cases h1 : x < 0
 · have HV : Hid (disV x = (0, 0, false)) := Lib.hid (by unfold disV; rw [if_pos (.inl h1)])
   go_enter Tryz.func100, Tryz.ntmps100
   go_wp2
   go_ret3
   exact ⟨by rw [HV.out]; rfl, rfl⟩
 · have d1 : decide (x < 0) = false := decide_eq_false h1
   by_cases h2 : 29 < x
   · have HV : Hid (disV x = (0, 0, false)) := Lib.hid (by unfold disV; rw [if_pos (.inr h2)])
     go_enter Tryz.func100, Tryz.ntmps100
     go_wp2
     go_ret3
     exact ⟨by rw [HV.out]; rfl, rfl⟩
   · have hk2 : x = 0 ∨ x = 1 ∨ x = 2 ∨ x = 3 ∨ x = 4 ∨ x = 5 ∨ x = 6 ∨ x = 7 ∨ x = 8 ∨ x = 9 ∨ x = 10 ∨ x = 11 ∨ x = 12 ∨ x = 13 ∨ x = 14 ∨ x = 15 ∨ x = 16 ∨ x = 17 ∨ x = 18 ∨ x = 19 ∨ x = 20 ∨ x = 21 ∨ x = 22 ∨ x = 23 ∨ x = 24 ∨ x = 25 ∨ x = 26 ∨ x = 27 ∨ x = 28 ∨ x = 29 := by omega
     clear hx h1 h2 d1
     rcases hk2 with rfl | rfl | rfl | rfl | rfl | rfl | rfl | rfl | rfl | rfl | rfl | rfl | rfl | rfl | rfl | rfl | rfl | rfl | rfl | rfl | rfl | rfl | rfl | rfl | rfl | rfl | rfl | rfl | rfl | rfl
     all_goals
       go_enter Tryz.func100, Tryz.ntmps100
       go_wp2
       go_ret3
       exact ⟨rfl, rfl⟩
theorem rpower_any (n : Nat) (hn : n ≤ 20) (w : World) : Calls Tryz.prog 105 #[.int .i64 n] w fun e w' => e = .returned (.int .i64 ((2 : Int) ^ n)) ∧ w' = w := by
 go_enter Tryz.func105, Tryz.ntmps105
 go_wp2
 go_loop [3, 4] (fun vx vk => ∃ k : Nat, vk = .int .i64 k ∧ k ≤ n ∧ vx = .int .i64 ((2 : Int) ^ k)) (fun _ vk => n - (intOf vk).toNat)
 case atStart => exact ⟨0, rfl, Nat.zero_le _, rfl⟩
 case round =>
   obtain ⟨k, rfl, hk, rfl⟩ := hrel
   by_cases hlt : k < n
   · have hb : (2 : Int) ^ k ≤ 2 ^ 20 := by exact_mod_cast Nat.pow_le_pow_right (by omega : 0 < 2) (by omega : k ≤ 20)
     have hb0 : (0 : Int) ≤ 2 ^ k := Int.le_of_lt (Int.pow_pos (by omega))
     obtain ⟨P, hP⟩ : ∃ P, P = (2 : Int) ^ k := ⟨_, rfl⟩
     have HP := Lib.hid hP
     rw [← hP] at hb hb0 ⊢
     have hb2 : P ≤ 1048576 := hb
     clear hP hb
     go_wp2
     go_round
     case rel => exact ⟨k + 1, by go_num, by omega, by rw [Int.pow_succ, ← HP.out, Int.mul_comm]⟩
     case measure => simp [intOf]; omega
   · obtain rfl : k = n := by omega
     go_wp2
     go_ret
     exact ⟨rfl, rfl⟩
end Go.Proofs.YtkikhmdpcanidaaGreat
namespace Go.Proofs.YtkikhmdpcanidaaGreat
open Go
theorem jump_mono {P : Program} {Q : Exit → Act → World → Prop} {a : Act} {w : World} {c : Code} {l : Nat} {J J' : Act → World → Prop} (h : c.wp P (Exit.jump l J Q) a w) (hJ : ∀ a w, J a w → J' a w) : c.wp P (Exit.jump l J' Q) a w := by
 refine wp_mono h ?_
 intro e a' w' hq
 cases e with
 | goto l' => exact ⟨hq.1, hJ _ _ hq.2⟩
 | normal => exact hq
 | exit id => exact hq
 | ret => exact hq
 | panic ch => exact hq
 | outgrown => exact hq
theorem zb3 {P : Program} {Q : Exit → Act → World → Prop} {a : Act} {w : World} {c body : Code} (l : Nat) (I : Nat → Act → World → Prop) (hf : findLabel c l = some (Code.skip.seq body))
   (first : (∀ n a w, I n a w → body.wp P (Exit.jump l (fun a w => ∃ n, I n a w) Q) a w) → c.wp P (Exit.jump l (fun a w => ∃ n, I n a w) Q) a w)
   (pass : ∀ n a w, I n a w → body.wp P (Exit.jump l (fun a' w' => ∃ n', n' < n ∧ I n' a' w') Q) a w) : (Code.scope c).wp P Q a w := by
 refine wp_scope_jumps l (fun a w => ∃ n, I n a w) (fun a w => leastOf (fun n => I n a w)) hf (first fun n a w hI => jump_mono (pass n a w hI) fun a w ⟨n', _, h⟩ => ⟨n', h⟩) ?_
 intro a w hI
 refine wp_seq (wp_skip ?_)
 refine wp_mono (pass _ a w (leastOf_spec hI).1) ?_
 intro e a' w' hq
 cases e with
 | goto l' =>
   obtain ⟨h1, n', hlt, hI'⟩ := hq
   exact ⟨h1, ⟨n', hI'⟩, Nat.lt_of_le_of_lt ((leastOf_spec ⟨n', hI'⟩).2 n' hI') hlt⟩
 | normal => exact hq
 | exit id => exact hq
 | ret => exact hq
 | panic ch => exact hq
 | outgrown => exact hq
end Go.Proofs.YtkikhmdpcanidaaGreat
namespace Go.Proofs.YtkikhmdpcanidaaGreat
open Go.RowKit Go.Sort
theorem zfS {w : World} {U : Nat → Prop} {sb r : Nat} {bs : List UInt8} {most : Nat} {s : IS} {l : List Int} (h : IsSt w U sb r bs most s) (pt : Option Addr) (hT : s.e = 0 → ∃ p Bl, pt = some ⟨p, 0, none⟩ ∧ IsTb w Bl p l ∧ ¬ Bl r) :
   Calls Tryz.prog 98 #[.pointer (some ⟨sb, 0, none⟩), .pointer pt] w fun x w' => x = .returned (.int .i64 (zaq bs l s).1) ∧ IsSt w' U sb r bs most (zaq bs l s).2 ∧ zaa U w w' := by
 by_cases he : s.e = 0
 · obtain ⟨p, Bl, rfl, h1, h2⟩ := hT he
   exact ssym_any h h1 h2 _ (fun _ => rfl)
 · obtain ⟨c0, c1, -, f1, -⟩ := h.cells
   have HS := Lib.hid h
   have HV : Hid (zaq bs l s = (0, s)) := Lib.hid (by unfold zaq; rw [if_pos he])
   clear h hT
   go_enter Tryz.func98, Tryz.ntmps98
   go_wp2
   go_ret
   exact ⟨by rw [HV.out]; rfl, by rw [HV.out]; exact ⟨HS.out, zaa.refl _ _⟩⟩
def TbO (w : World) (U : Nat → Prop) (_ : Nat) (pt : Option Addr) (l : List Int) (e : Int) : Prop := e = 0 → ∃ p Bl, pt = some ⟨p, 0, none⟩ ∧ IsTb w Bl p l ∧ ∀ b, Bl b → b < w.heap.size ∧ ¬ U b
theorem TbO.keeps {w w' : World} {U U' : Nat → Prop} {r : Nat} {pt : Option Addr} {l : List Int} {e e' : Int} (h : TbO w U r pt l e) (hk : zaa U w w') (hU : ∀ b, U' b → U b ∨ w.heap.size ≤ b) (he : e' = 0 → e = 0) : TbO w' U' r pt l e' := fun h0 => by
 obtain ⟨p, Bl, h1, h2, h3⟩ := h (he h0)
 have := hk.size
 exact ⟨p, Bl, h1, h2.keeps hk (fun b hb => (h3 b hb).2), fun b hb => ⟨by have := (h3 b hb).1; omega, fun hu => (hU b hu).elim (h3 b hb).2 (fun h => by have := (h3 b hb).1; omega)⟩⟩
theorem TbO.use {w : World} {U : Nat → Prop} {r : Nat} {pt : Option Addr} {l : List Int} {e : Int} (h : TbO w U r pt l e) (hr : U r) : e = 0 → ∃ p Bl, pt = some ⟨p, 0, none⟩ ∧ IsTb w Bl p l ∧ ¬ Bl r := fun h0 => by
 obtain ⟨p, Bl, h1, h2, h3⟩ := h h0
 exact ⟨p, Bl, h1, h2, fun hb => (h3 r hb).2 hr⟩
def zaP (bs : List UInt8) (most : Nat) (l d : List Int) : Nat → IS → Option IS
 | 0, _ => none
 | n + 1, s => if (zbh bs most l d s).1 then zaP bs most l d n (zbh bs most l d s).2 else some (zbh bs most l d s).2
theorem zbC {bs : List UInt8} {n : Nat} {s : IS} (h : (numV bs n s).2.e = 0) : s.e = 0 := by
 unfold numV at h
 split at h
 · exact h
 · rename_i h1; simpa using h1
theorem zcz {bs : List UInt8} {l : List Int} {s : IS} (h : (zaq bs l s).2.e = 0) : s.e = 0 := by
 unfold zaq at h
 split at h
 · exact h
 · rename_i h1; simpa using h1
theorem zbz {e : Int} {s : IS} (he : e ≠ 0) : (zaj e s).e ≠ 0 := by
 unfold zaj
 split
 · exact he
 · assumption
theorem lenV5_bd (x : Int) : 0 ≤ (zaA x).1 ∧ (zaA x).1 ≤ 258 ∧ 0 ≤ (zaA x).2.1 ∧ (zaA x).2.1 ≤ 5 := by
 by_cases h : x < 257 ∨ 285 < x
 · have : zaA x = (0, 0, false) := by unfold zaA; rw [if_pos h]
   rw [this]; simp
 · obtain ⟨k, hk, rfl⟩ := i64_cases (lo := 257) 29 (by omega) (x := x) (by omega)
   clear h
   revert k
   decide +kernel
theorem disV_bd (x : Int) : 0 ≤ (disV x).1 ∧ (disV x).1 ≤ 24577 ∧ 0 ≤ (disV x).2.1 ∧ (disV x).2.1 ≤ 13 ∧ ((disV x).2.2 = true → 1 ≤ (disV x).1) := by
 by_cases h : x < 0 ∨ 29 < x
 · have : disV x = (0, 0, false) := by unfold disV; rw [if_pos h]
   rw [this]; simp
 · obtain ⟨k, hk, rfl⟩ := i64_cases (lo := 0) 30 (by omega) (x := x) (by omega)
   clear h
   revert k
   decide +kernel
theorem ze7 (l : List Int) (f : Nat → Bool) (left : Nat) : ∀ fuel n, (za7 l f left fuel n).1 ≤ l.length
 | 0, n => Nat.zero_le _
 | fuel + 1, n => by
   unfold za7
   split
   · exact Nat.zero_le _
   · split
     · exact Nat.zero_le _
     · split
       · rename_i k hk
         have := List.mem_of_find?_eq_some hk
         exact Nat.le_of_lt (List.mem_range.1 this)
       · exact ze7 l f left fuel (n + 1)
theorem zcS (bs : List UInt8) (l : List Int) (s : IS) : (zaq bs l s).1 ≤ l.length := by
 unfold zaq
 split
 · exact Nat.zero_le _
 · exact ze7 _ _ _ _ _
def CodG (w wr : World) (U : Nat → Prop) (sb r : Nat) (pt pd : Option Addr) (bs : List UInt8) (most : Nat) (l d : List Int) (g : Nat) (s' : IS) : Prop :=
 ∃ U1 s1, IsSt wr U1 sb r bs most s1 ∧ zaa U w wr ∧ (∀ b, U1 b → U b ∨ w.heap.size ≤ b) ∧ TbO wr U1 r pt l s1.e ∧ TbO wr U1 r pd d s1.e ∧ zaP bs most l d g s1 = some s' ∧ s1.out.length ≤ most
set_option maxRecDepth 100000 in
def CodJ (w : World) (U : Nat → Prop) (sb r : Nat) (pt pd : Option Addr) (bs : List UInt8) (most : Nat) (l d : List Int) (s' : IS) (g : Nat) (a : Act) (wr : World) : Prop :=
 ∃ (u3 u4 u5 u6 u7 u8 u9 u10 u11 u12 u13 u14 u15 u16 u17 u18 u19 u20 u21 u22 u23 u24 u25 u26 u27 u28 u29 u30 u31 u32 u33 u34 u35 u36 u37 u38 u39 u40 u41 u42 u43 u44 u45 u46 u47 u48 u49 u50 u51 u52 u53 u54 u55 u56 u57 u58 u59 u60 u61 u62 u63 u64 u65 u66 u67 u68 u69 u70 u71 u72 u73 u74 u75 u76 u77 u78 u79 u80 : Value), Hid (CodG w wr U sb r pt pd bs most l d g s') ∧ a = { tmps := #[.pointer (some ⟨sb, 0, none⟩), .pointer pt, .pointer pd, u3, u4, u5, u6, u7, u8, u9, u10, u11, u12, u13, u14, u15, u16, u17, u18, u19, u20, u21, u22, u23, u24, u25, u26, u27, u28, u29, u30, u31, u32, u33, u34, u35, u36, u37, u38, u39, u40, u41, u42, u43, u44, u45, u46, u47, u48, u49, u50, u51, u52, u53, u54, u55, u56, u57, u58, u59, u60, u61, u62, u63, u64, u65, u66, u67, u68, u69, u70, u71, u72, u73, u74, u75, u76, u77, u78, u79, u80], defers := [] }
structure Mid (w wr : World) (U U1 : Nat → Prop) (sb r : Nat) (pt pd : Option Addr) (bs : List UInt8) (most : Nat) (l d : List Int) (s : IS) : Prop where
 st : IsSt wr U1 sb r bs most s
 k : zaa U w wr
 u : ∀ b, U1 b → U b ∨ w.heap.size ≤ b
 t : TbO wr U1 r pt l s.e
 d : TbO wr U1 r pd d s.e
 o : s.out.length ≤ most
theorem Mid.next {w wr w' : World} {U U1 : Nat → Prop} {sb r : Nat} {pt pd : Option Addr} {bs : List UInt8} {most : Nat} {l d : List Int} {s s2 : IS} (h : Mid w wr U U1 sb r pt pd bs most l d s) (h1 : IsSt w' U1 sb r bs most s2) (h2 : zaa U1 wr w') (he : s2.e = 0 → s.e = 0) (ho : s2.out.length ≤ most) : Mid w w' U U1 sb r pt pd bs most l d s2 :=
 ⟨h1, h.k.trans h2 h.u, h.u, h.t.keeps h2 (fun _ hb => .inl hb) he, h.d.keeps h2 (fun _ hb => .inl hb) he, ho⟩
theorem Mid.nextU {w wr w' : World} {U U1 : Nat → Prop} {sb r : Nat} {pt pd : Option Addr} {bs : List UInt8} {most : Nat} {l d : List Int} {s s2 : IS} {g : Nat} {s' : IS} (h : Mid w wr U U1 sb r pt pd bs most l d s) (h1 : zaQ wr U1 sb r bs most s2 w') (he : s2.e = 0 → s.e = 0) (ho : s2.out.length ≤ most) (hc : zaP bs most l d g s2 = some s') : CodG w w' U sb r pt pd bs most l d g s' := by
 obtain ⟨U2, g1, g2, g3⟩ := h1
 have := h.k.size
 exact ⟨U2, s2, g1, h.k.trans g2 h.u, fun b hb => (g3 b hb).elim (h.u b) (fun h => .inr (by omega)), h.t.keeps g2 g3 he, h.d.keeps g2 g3 he, hc, ho⟩
theorem zcE {most : Nat} {c : UInt8} {s : IS} (h : s.out.length ≤ most) : (zbL most c s).out.length ≤ most := by
 unfold zbL
 split
 · unfold zaj; split <;> exact h
 · simp; omega
theorem zfU {most : Nat} {c : UInt8} {s : IS} (h : (zbL most c s).e = 0) : s.e = 0 := by
 unfold zbL at h
 split at h
 · exact Decidable.byContradiction fun hn => (by unfold zaj at h; rw [if_neg hn] at h; exact hn h)
 · exact h
theorem zbr {e : Int} {s : IS} (h : (zaj e s).e = 0) (he : e ≠ 0) : s.e = 0 := absurd h (zbz he)
theorem repV_le {most len far : Nat} {s : IS} (h : s.out.length ≤ most) : (repV most len far s).out.length ≤ most := by
 unfold repV
 split
 · exact h
 · split
   · unfold zaj; split <;> exact h
   · split
     · unfold zaj; split <;> exact h
     · rw [show ({ s with out := repL far len s.out } : IS).out = repL far len s.out from rfl, zgi]; omega
theorem repV_e {most len far : Nat} {s : IS} (h : (repV most len far s).e = 0) : s.e = 0 := by
 unfold repV at h
 split at h
 · exact h
 · rename_i h1; simpa using h1
theorem zaB (bs : List UInt8) (n : Nat) (s : IS) : (numV bs n s).2.out = s.out := by
 unfold numV; split
 · rfl
 · split <;> rfl
theorem zbm (bs : List UInt8) (l : List Int) (s : IS) : (zaq bs l s).2.out = s.out := by
 unfold zaq; split <;> rfl
theorem zaR (e : Int) (s : IS) : (zaj e s).out = s.out := by unfold zaj; split <;> rfl
theorem zau (bs : List UInt8) (n : Nat) (s : IS) : (numV bs n s).1 < 2 ^ n := by
 unfold numV
 split
 · exact Nat.pow_pos (by omega)
 · split
   · exact Nat.pow_pos (by omega)
   · exact zeu _ _ _ _ (Nat.le_refl _)
set_option maxRecDepth 100000 in
theorem coded_any {w : World} {U : Nat → Prop} {sb r : Nat} {pt pd : Option Addr} {bs : List UInt8} {most : Nat} {s s' : IS} {l d : List Int} (h : IsSt w U sb r bs most s) (hT : TbO w U r pt l s.e) (hD : TbO w U r pd d s.e) (hl3 : l.length ≤ 320) (hd3 : d.length ≤ 320) (hm : most ≤ 20000000) (ho : s.out.length ≤ most) (g : Nat) (hg : zaP bs most l d g s = some s') :
   Calls Tryz.prog 61 #[.pointer (some ⟨sb, 0, none⟩), .pointer pt, .pointer pd] w fun x w' => x = .returned (.tuple #[]) ∧ zaQ w U sb r bs most s' w' := by
 have HC := Lib.hid (show CodG w w U sb r pt pd bs most l d g s' from ⟨U, s, h, zaa.refl _ _, fun _ h => .inl h, hT, hD, hg, ho⟩)
 clear h hT hD hg ho
 go_enter Tryz.func61, Tryz.ntmps61
 go_wp2_with fail
 refine zb3 0 (CodJ w U sb r pt pd bs most l d s') rfl ?first ?pass
 case first =>
   intro hpass
   have HPASS := Lib.hid hpass
   clear hpass
   go_wp2
   refine wp_label ?_
   rename_i K hK
   exact hK _ _ (HPASS.out _ _ _ ⟨_, _, _, _, _, _, _, _, _, _, _, _, _, _, _, _, _, _, _, _, _, _, _, _, _, _, _, _, _, _, _, _, _, _, _, _, _, _, _, _, _, _, _, _, _, _, _, _, _, _, _, _, _, _, _, _, _, _, _, _, _, _, _, _, _, _, _, _, _, _, _, _, _, _, _, _, _, _, HC, rfl⟩)
 case pass =>
   rintro m a w' ⟨u3, u4, u5, u6, u7, u8, u9, u10, u11, u12, u13, u14, u15, u16, u17, u18, u19, u20, u21, u22, u23, u24, u25, u26, u27, u28, u29, u30, u31, u32, u33, u34, u35, u36, u37, u38, u39, u40, u41, u42, u43, u44, u45, u46, u47, u48, u49, u50, u51, u52, u53, u54, u55, u56, u57, u58, u59, u60, u61, u62, u63, u64, u65, u66, u67, u68, u69, u70, u71, u72, u73, u74, u75, u76, u77, u78, u79, u80, HA, rfl⟩
   obtain ⟨U1, s1, h1, h2, h3, h4, h5, h6, h7⟩ := HA.out
   cases m with
   | zero => cases h6
   | succ m =>
   unfold zaP at h6
   have HM := Lib.hid (show Mid w w' U U1 sb r pt pd bs most l d s1 from ⟨h1, h2, h3, h4, h5, h7⟩)
   have hsy := zfS h1 pt (h4.use h1.own.2)
   have hxl := zcS bs l s1
   have hcv : zbh bs most l d s1 = zbh bs most l d s1 := rfl
   obtain ⟨C, hC⟩ : ∃ C, C = zbh bs most l d s1 := ⟨_, rfl⟩
   rw [← hC] at h6
   unfold zbh at hC
   obtain ⟨x, hx⟩ : ∃ x, x = (zaq bs l s1).1 := ⟨_, rfl⟩
   obtain ⟨s2, hs2⟩ : ∃ s2, s2 = (zaq bs l s1).2 := ⟨_, rfl⟩
   have hout := zbm bs l s1
   have hez := fun (h : (zaq bs l s1).2.e = 0) => zcz h
   simp only [← hx, ← hs2] at hC
   rw [← hx, ← hs2] at hsy
   rw [← hs2] at hout hez
   rw [← hx] at hxl
   have HSY := Lib.hid hsy
   have HC6 := Lib.hid h6
   have HCC := Lib.hid hC
   have HOU := Lib.hid hout
   have HEZ := Lib.hid hez
   have hx320 : x ≤ 320 := by omega
   clear h1 h2 h3 h4 h5 h6 h7 hsy hcv hC hout hez hx hs2 HA HC hxl
   go_wp2_with fail
   refine HSY.out.mono ?_
   rintro e w1 ⟨rfl, q1, q2⟩
   have HM2 := Lib.hid (HM.out.next q1 q2 HEZ.out (by rw [HOU.out]; exact HM.out.o))
   obtain ⟨c0, c1, c3, f1, f2⟩ := q1.cells
   clear q1 q2
   by_cases he : s2.e = 0
   · rw [he] at c1
     by_cases h256 : x = 256
     · subst h256
       have hc := HCC.out
       rw [if_pos (.inr rfl)] at hc
       have h6 := HC6.out
       rw [hc] at h6
       have HE := Lib.hid (Option.some.inj (show some s2 = some s' from h6))
       clear h6 hc
       go_wp2
       simp only [Exit.jump]
       refine bodyPost_ret (results_none rfl _ _ _) rfl ?_
       exact ⟨rfl, by rw [← HE.out]; exact ⟨U1, HM2.out.st, HM2.out.k, HM2.out.u⟩⟩
     · have hc := HCC.out
       rw [if_neg (fun h => h.elim (fun h => h he) h256)] at hc
       have hne : ((x : Int) == 256) = false := by rw [beq_eq_false_iff_ne]; omega
       by_cases hlt : x < 256
       · rw [if_pos hlt] at hc
         have h6 := HC6.out
         rw [hc, if_pos rfl] at h6
         have H66 := Lib.hid h6
         have hp := sput5_any HM2.out.st (UInt8.ofNat x) (by have := HM2.out.o; omega)
         have hcx : (UInt8.ofNat x).toNat = x := by rw [UInt8.toNat_ofNat']; exact Nat.mod_eq_of_lt hlt
         rw [hcx] at hp
         have HPU := Lib.hid hp
         have hd : decide ((x : Int) < 256) = true := decide_eq_true (by omega)
         have hd2 : decide (x < 256) = true := decide_eq_true hlt
         have hw : IntKind.u8.wrap (x : Int) = (x : Int) := by unfold IntKind.wrap; simp [IntKind.bits, IntKind.signed]; omega
         clear h6 hp hcx hc
         go_wp2_with fail
         refine HPU.out.mono ?_
         rintro e w2 ⟨rfl, hn⟩
         have HNX := Lib.hid (HM2.out.nextU hn (fun h => zfU h) (zcE HM2.out.o) H66.out)
         clear hn
         go_wp2
         go_step3
         exact ⟨rfl, m, Nat.lt_succ_self m, _, _, _, _, _, _, _, _, _, _, _, _, _, _, _, _, _, _, _, _, _, _, _, _, _, _, _, _, _, _, _, _, _, _, _, _, _, _, _, _, _, _, _, _, _, _, _, _, _, _, _, _, _, _, _, _, _, _, _, _, _, _, _, _, _, _, _, _, _, _, _, _, _, _, _, _, _, _, HNX, rfl⟩
       · rw [if_neg hlt] at hc
         have hd : decide ((x : Int) < 256) = false := decide_eq_false (by omega)
         have hd2 : decide (x < 256) = false := decide_eq_false hlt
         have HLN := Lib.hid (fun W => zfg (x : Int) W (by omega))
         obtain ⟨b1, b2, b3, b4⟩ := lenV5_bd (x : Int)
         obtain ⟨⟨a0, a1, a2⟩, hA⟩ : ∃ A, A = zaA (x : Int) := ⟨_, rfl⟩
         rw [← hA] at hc HLN b1 b2 b3 b4
         dsimp only at b1 b2 b3 b4 hc
         obtain ⟨n0, rfl⟩ := Int.eq_ofNat_of_zero_le b1
         obtain ⟨n1, rfl⟩ := Int.eq_ofNat_of_zero_le b3
         rw [Int.toNat_natCast, Int.toNat_natCast] at hc
         obtain ⟨s3, hs3⟩ : ∃ s3, s3 = (if a2 = true then s2 else zaj 11 s2) := ⟨_, rfl⟩
         rw [← hs3] at hc
         obtain ⟨k1, hk1⟩ : ∃ k1, k1 = (numV bs n1 s3).1 := ⟨_, rfl⟩
         obtain ⟨s4, hs4⟩ : ∃ s4, s4 = (numV bs n1 s3).2 := ⟨_, rfl⟩
         rw [← hk1, ← hs4] at hc
         obtain ⟨y, hy⟩ : ∃ y, y = (zaq bs d s4).1 := ⟨_, rfl⟩
         obtain ⟨s5, hs5⟩ : ∃ s5, s5 = (zaq bs d s4).2 := ⟨_, rfl⟩
         rw [← hy, ← hs5] at hc
         have hyl : y ≤ 320 := by have := zcS bs d s4; omega
         have HDN := Lib.hid (fun W => zdM (y : Int) W (by omega))
         obtain ⟨e1, e2, e3, e4, e5⟩ := disV_bd (y : Int)
         obtain ⟨⟨f0, f3, f4⟩, hB⟩ : ∃ B, B = disV (y : Int) := ⟨_, rfl⟩
         rw [← hB] at hc HDN e1 e2 e3 e4 e5
         dsimp only at e1 e2 e3 e4 e5 hc
         obtain ⟨m0, rfl⟩ := Int.eq_ofNat_of_zero_le e1
         obtain ⟨m1, rfl⟩ := Int.eq_ofNat_of_zero_le e3
         rw [Int.toNat_natCast, Int.toNat_natCast] at hc
         obtain ⟨s6, hs6⟩ : ∃ s6, s6 = (if f4 = true then s5 else zaj 11 s5) := ⟨_, rfl⟩
         rw [← hs6] at hc
         obtain ⟨k2, hk2⟩ : ∃ k2, k2 = (numV bs m1 s6).1 := ⟨_, rfl⟩
         obtain ⟨s7, hs7⟩ : ∃ s7, s7 = (numV bs m1 s6).2 := ⟨_, rfl⟩
         rw [← hk2, ← hs7] at hc
         have h6 := HC6.out
         rw [hc, if_pos rfl] at h6
         have H66 := Lib.hid h6
         have hk1b : k1 < 32 := by rw [hk1]; exact Nat.lt_of_lt_of_le (zau bs n1 s3) (Nat.pow_le_pow_right (by omega) (by omega : n1 ≤ 5))
         have hk2b : k2 < 8192 := by rw [hk2]; exact Nat.lt_of_lt_of_le (zau bs m1 s6) (Nat.pow_le_pow_right (by omega) (by omega : m1 ≤ 13))
         have HS3 := Lib.hid hs3
         have HK1 := Lib.hid hk1
         have HS4 := Lib.hid hs4
         have HY := Lib.hid hy
         have HS5 := Lib.hid hs5
         have HS6 := Lib.hid hs6
         have HK2 := Lib.hid hk2
         have HS7 := Lib.hid hs7
         have HE5 := Lib.hid e5
         have i1 : IntKind.i64.wrap ((n0 : Int) + k1) = (n0 : Int) + k1 := IntWalk.i64_in _ (by omega)
         have i2 : IntKind.i64.wrap ((m0 : Int) + k2) = (m0 : Int) + k2 := IntWalk.i64_in _ (by omega)
         clear hc hA hB b1 b3 e1 e3 e5 h6 hs3 hk1 hs4 hy hs5 hs6 hk2 hs7
         go_wp2_with fail
         refine (HLN.out _).mono ?_
         rintro e w2 ⟨rfl, rfl⟩
         dsimp only
         cases a2
         case' true =>
           have HM3 := Lib.hid (show Mid w w2 U U1 sb r pt pd bs most l d s3 from by rw [show s3 = s2 from by rw [HS3.out]; rfl]; exact HM2.out)
           obtain ⟨w3, hw3⟩ : ∃ w3, w3 = w2 := ⟨_, rfl⟩
           subst hw3
           go_wp2_with fail
         case' false =>
           have HF := Lib.hid (zaC HM2.out.st 11)
           go_wp2_with fail
           refine HF.out.mono ?_
           rintro e w3 ⟨rfl, p1, p2⟩
           have HM3 := Lib.hid (show Mid w w3 U U1 sb r pt pd bs most l d s3 from by rw [show s3 = zaj 11 s2 from by rw [HS3.out]; rfl]; exact HM2.out.next p1 p2 (fun h => zbr h (by decide)) (by rw [zaR]; exact HM2.out.o))
           clear p1 p2
           go_wp2_with fail
         all_goals
           clear c0 c1 c3 f1 f2 hd hd2 hne
           have hn := zaX HM3.out.st n1 (by omega)
           rw [← HK1.out, ← HS4.out] at hn
           refine hn.mono ?_
           rintro e w4 ⟨rfl, p1, p2⟩
           have HM4 := Lib.hid (HM3.out.next p1 p2 (fun h => zbC (by rw [← HS4.out]; exact h)) (by rw [HS4.out, zaB]; exact HM3.out.o))
           clear hn p1 p2
           go_wp2_with fail
           have hy2 := zfS HM4.out.st pd (HM4.out.d.use HM4.out.st.own.2)
           rw [← HY.out, ← HS5.out] at hy2
           refine hy2.mono ?_
           rintro e w5 ⟨rfl, p1, p2⟩
           have HM5 := Lib.hid (HM4.out.next p1 p2 (fun h => zcz (by rw [← HS5.out]; exact h)) (by rw [HS5.out, zbm]; exact HM4.out.o))
           clear hy2 p1 p2
           go_wp2_with fail
           refine (HDN.out _).mono ?_
           rintro e w6 ⟨rfl, rfl⟩
           dsimp only
           cases f4
           case' true =>
             have HM6 := Lib.hid (show Mid w w6 U U1 sb r pt pd bs most l d s6 from by rw [show s6 = s5 from by rw [HS6.out]; rfl]; exact HM5.out)
             have HFA := Lib.hid (show s6.e = 0 → 1 ≤ m0 from fun _ => by have := HE5.out rfl; omega)
             obtain ⟨w7, hw7⟩ : ∃ w7, w7 = w6 := ⟨_, rfl⟩
             subst hw7
             go_wp2_with fail
           case' false =>
             have HF := Lib.hid (zaC HM5.out.st 11)
             go_wp2_with fail
             refine HF.out.mono ?_
             rintro e w7 ⟨rfl, p1, p2⟩
             have HM6 := Lib.hid (show Mid w w7 U U1 sb r pt pd bs most l d s6 from by rw [show s6 = zaj 11 s5 from by rw [HS6.out]; rfl]; exact HM5.out.next p1 p2 (fun h => zbr h (by decide)) (by rw [zaR]; exact HM5.out.o))
             have HFA := Lib.hid (show s6.e = 0 → 1 ≤ m0 from fun h => absurd (by rw [show s6 = zaj 11 s5 from by rw [HS6.out]; rfl] at h; exact h) (zbz (s := s5) (e := 11) (by decide)))
             clear p1 p2
             go_wp2_with fail
           all_goals
             have hn := zaX HM6.out.st m1 (by omega)
             rw [← HK2.out, ← HS7.out] at hn
             refine hn.mono ?_
             rintro e w8 ⟨rfl, p1, p2⟩
             have HM7 := Lib.hid (HM6.out.next p1 p2 (fun h => zbC (by rw [← HS7.out]; exact h)) (by rw [HS7.out, zaB]; exact HM6.out.o))
             have hr := srep_any HM7.out.st (n0 + k1) (m0 + k2) (fun h => by have := HFA.out (zbC (by rw [← HS7.out]; exact h)); omega) (by have := HM7.out.o; omega) hm (by omega) (by omega)
             rw [show ((n0 + k1 : Nat) : Int) = (n0 : Int) + k1 by omega, show ((m0 + k2 : Nat) : Int) = (m0 : Int) + k2 by omega] at hr
             have HR := Lib.hid hr
             clear hn p1 p2 hr
             go_wp2_with fail
             refine HR.out.mono ?_
             rintro e w9 ⟨rfl, hq⟩
             have HNX := Lib.hid (HM7.out.nextU hq (fun h => repV_e h) (repV_le HM7.out.o) H66.out)
             clear hq
             go_wp2
             go_step3
             exact ⟨rfl, m, Nat.lt_succ_self m, _, _, _, _, _, _, _, _, _, _, _, _, _, _, _, _, _, _, _, _, _, _, _, _, _, _, _, _, _, _, _, _, _, _, _, _, _, _, _, _, _, _, _, _, _, _, _, _, _, _, _, _, _, _, _, _, _, _, _, _, _, _, _, _, _, _, _, _, _, _, _, _, _, _, _, _, _, _, HNX, rfl⟩
   · have h6 := HC6.out
     have hc := HCC.out
     rw [if_pos (.inl he)] at hc
     rw [hc] at h6
     have HE := Lib.hid (Option.some.inj (show some s2 = some s' from h6))
     clear h6 hc
     go_wp2
     simp only [Exit.jump]
     refine bodyPost_ret (results_none rfl _ _ _) rfl ?_
     exact ⟨rfl, by rw [← HE.out]; exact ⟨U1, HM2.out.st, HM2.out.k, HM2.out.u⟩⟩
def tabV (l : List Int) (s : IS) : IS := if s.e ≠ 0 then s else if zas l < 0 then { s with e := 13 } else s
theorem tabV_e {l : List Int} {s : IS} (h : (tabV l s).e = 0) : s.e = 0 := by
 unfold tabV at h
 split at h
 · exact h
 · rename_i h1; simpa using h1
theorem zfp (l : List Int) (s : IS) : (tabV l s).out = s.out := by
 unfold tabV; split
 · rfl
 · split <;> rfl
theorem zgd {w : World} {U : Nat → Prop} {sb r : Nat} {bs : List UInt8} {most : Nat} {s : IS} (h : IsSt w U sb r bs most s) {a : Option Addr} {n cap : Nat} {l : List Int} (hr : Row w 1 a n cap (l.map (Value.int .i64))) (hn : n ≤ 320) (ha : a ≠ none) :
   Calls Tryz.prog 62 #[.pointer (some ⟨sb, 0, none⟩), .slice a n cap] w fun x w' => ∃ pt, x = .returned (.pointer pt) ∧ IsSt w' U sb r bs most (tabV l s) ∧ zaa U w w' ∧ ((tabV l s).e = 0 → ∃ p Bl, pt = some ⟨p, 0, none⟩ ∧ IsTb w' Bl p l ∧ ∀ b, Bl b → w.heap.size ≤ b ∧ b < w'.heap.size) := by
 by_cases he : s.e = 0
 · by_cases hroom : zas l < 0
   · obtain ⟨c0, c1, -, f1, -⟩ := h.cells
     have HS := Lib.hid h
     have HN := Lib.hid (new_bad a n cap l w hr hroom)
     have HV : Hid (tabV l s = zaj 13 s) := Lib.hid (by unfold tabV zaj; rw [if_neg (by simp [he]), if_pos hroom, if_pos he])
     rw [he] at c1
     clear h hr hroom ha
     go_enter Tryz.func62, Tryz.ntmps62
     go_wp2_with fail
     refine HN.out.mono ?_
     rintro e w1 ⟨rfl, hb⟩
     have HF := Lib.hid (zaC (HS.out.mono hb) 13)
     have HB := Lib.hid hb
     have HNE := Lib.hid (zbz (s := s) (e := 13) (by decide))
     clear c0 c1 f1 hb
     go_wp2_with fail
     refine HF.out.mono ?_
     rintro e w2 ⟨rfl, h2, k2⟩
     have H2 := Lib.hid h2
     have K2 := Lib.hid k2
     clear h2 k2
     go_wp2
     go_ret
     exact ⟨none, rfl, by rw [HV.out]; exact H2.out, (zaa.any HB.out).trans K2.out (fun b hb => .inl hb), fun h0 => absurd (by rw [HV.out] at h0; exact h0) HNE.out⟩
   · refine (stab_ok h he hr (by omega) hn ha).mono ?_
     rintro x w' ⟨p, Bl, rfl, h1, h2, h3, h4⟩
     have e1 : tabV l s = s := by unfold tabV; rw [if_neg (by simp [he]), if_neg hroom]
     rw [e1]
     exact ⟨_, rfl, h3, h4, fun _ => ⟨p, Bl, rfl, h1, h2⟩⟩
 · obtain ⟨c0, c1, -, f1, -⟩ := h.cells
   have HS := Lib.hid h
   have HV : Hid (tabV l s = s) := Lib.hid (by unfold tabV; rw [if_pos he])
   have HE := Lib.hid he
   clear h hr
   go_enter Tryz.func62, Tryz.ntmps62
   go_wp2
   go_ret
   exact ⟨none, rfl, by rw [HV.out]; exact HS.out, zaa.refl _ _, fun h0 => absurd (by rw [HV.out] at h0; exact h0) HE.out⟩
theorem zaD {B : Nat} {a w : World} (h : Below B a w) (n : Nat) : Below B a (w.drewN n) := ⟨h.os, h.tape, h.output, h.size, h.block⟩
theorem EInt : zcZ Tryz.prog 34 3 (.int .i64 0) 1 8 := ⟨Tryz.underlying34, by kernel_rfl, rfl, by omega⟩
def ordL : List Int := [16, 17, 18, 0, 8, 7, 9, 6, 10, 5, 11, 4, 12, 3, 13, 2, 14, 1, 15]
def iV (l : List Int) : List Value := l.map (Value.int .i64)
theorem fixL_snoc (k : Nat) : ((List.range (k + 1)).map fun k : Nat => if k < 144 ∨ 279 < k then (8 : Int) else if k < 256 then 9 else 7) = ((List.range k).map fun k : Nat => if k < 144 ∨ 279 < k then (8 : Int) else if k < 256 then 9 else 7) ++ [if k < 144 ∨ 279 < k then (8 : Int) else if k < 256 then 9 else 7] := by rw [List.range_succ, List.map_append]; rfl
def fixA (k : Nat) : List Int := (List.range k).map fun k => if k < 144 ∨ 279 < k then 8 else if k < 256 then 9 else 7
theorem fixA_len (k : Nat) : (fixA k).length = k := by simp [fixA]
theorem fixA_snoc (k : Nat) (v : Int) (h : (if k < 144 ∨ 279 < k then (8 : Int) else if k < 256 then 9 else 7) = v) : fixA (k + 1) = fixA k ++ [v] := by rw [← h]; exact fixL_snoc k
theorem zfy (x : Int) : ∀ u ∈ [Value.int .i64 x], u.oneCell' = true := fun u hu => by simp at hu; subst hu; rfl
theorem zfX : fixA 288 = fixL := by unfold fixA fixL; rfl
theorem fixL_len : fixL.length = 288 := by rw [← zfX, fixA_len]
theorem fixD_len : fixD.length = 30 := by unfold fixD; rw [List.length_map, List.length_range]
end Go.Proofs.YtkikhmdpcanidaaGreat
