/-
  Our texts Sym5 to LawLens, in one.
-/
import Derived.Test.YthmpigmmihiecaaPkH4
import Derived.Deep.Cut
import Derived.Deep.CutRange
set_option maxRecDepth 8000
set_option maxHeartbeats 8000000
namespace Go.Proofs.Ythmpigmmihiecaa
open Go.RowKit Go.Sort
theorem sym_lo {α : Type} [Inhabited α] (enc : α → Value) (hE : ∀ x, ∃ n, enc x = .int .i64 n) (cf : α → α → Int) (lt : α → α → Bool) (D : α → Prop) (f : FuncId) (cb : Array Value) (g cap : Nat) (rest : List Value) (n : Nat) (w0 : World)
   (hC : CmpQ Try.prog f cb enc cf D w0 g) (hsz : n < 4611686018427387904) (a m b mid s0 r0 : Nat) (d : Array α) (w : World) (hdn : d.size = n) (hS : SB enc w0 g 3 rest d w) (hD : ∀ i, i < d.size → D d[i]!) (ham : a + 1 < m) (hmb : m + 1 < b) (hb : b ≤ n) (hA : Agree (ltOf cf) lt d a m b)
   (hmid : mid = (a + b) / 2) (hcase : m ≤ mid) (hs0 : s0 = a) (hr0 : r0 = m) (hfin : FinSaid enc lt f cb g cap rest n w0 a m b mid s0 r0 d) :
   Calls Try.prog 43 #[.slice (some ⟨g, 0, none⟩) n cap, .int .i64 a, .int .i64 m, .int .i64 b, .func (.func f) #[] cb] w fun e w' => MergeP enc lt g a b rest d w0 e w' := by
 have hne1 : ((m : Int) - (a : Int) == 1) = false := by rw [beq_eq_false_iff_ne]; omega
 have hne2 : ((b : Int) - (m : Int) == 1) = false := by rw [beq_eq_false_iff_ne]; omega
 have hmid1 : ((a : Int) + (b : Int)) / 2 = (mid : Int) := by omega
 have hma : a < mid := by omega
 have hmB : mid < b := by omega
 have hsr : s0 ≤ r0 := by omega
 have hs0a : a ≤ s0 := by omega
 have hr0m : r0 ≤ m := by omega
 have hr0d : r0 ≤ mid := by omega
 have hs0b : mid + m - s0 ≤ b := by omega
 have hend0 : s0 = a ∨ mid + m - s0 = b := by omega
 have hend1 : r0 = m ∨ r0 = mid := by omega
 have eg := hC.enters
 have HC := Lib.hid hC
 have HS := Lib.hid hS
 have HD := Lib.hid hD
 have HA := Lib.hid hA
 have HS0 := Lib.hid hs0
 have HR0 := Lib.hid hr0
 have FIN := Lib.hid hfin
 clear hC hS hD hA hs0 hr0 hmid hfin
 go_enter Try.func43, Try.ntmps43
 go_wp2
 go_loopw [20, 21] (fun vs vr wr => ∃ (s r : Nat), vs = .int .i64 s ∧ vr = .int .i64 r ∧ s0 ≤ s ∧ s ≤ r ∧ r ≤ r0 ∧ Hid (SB enc w0 g 3 rest d wr) ∧ Hid (s0 < s → lt d[mid + m - s]! d[s - 1]! = false) ∧ Hid (r < r0 → lt d[mid + m - r - 1]! d[r]! = true)) (fun vs vr _ => (intOf vr).toNat - (intOf vs).toNat)
 case atStart => exact ⟨s0, r0, by have := HS0.out; go_num, by have := HR0.out; go_num, Nat.le_refl _, hsr, Nat.le_refl _, HS, Lib.hid (fun h => absurd h (Nat.lt_irrefl _)), Lib.hid (fun h => absurd h (Nat.lt_irrefl _))⟩
 case round =>
   obtain ⟨s, r, rfl, rfl, h3, h4, h5, HSk, HLo, HHi⟩ := hrel
   clear HS
   by_cases hlt : s < r
   · obtain ⟨c, hc⟩ : ∃ c, c = (s + r) / 2 := ⟨_, rfl⟩
     have hc1 := HSk.out.cell (mid + m - 1 - c) (by omega)
     have hc2 := HSk.out.cell c (by omega)
     have hcall := fun q => HC.out.calls (wr.drewN q) (HSk.out.drewN q).grown d[mid + m - 1 - c]! d[c]! (HD.out (mid + m - 1 - c) (by omega)) (HD.out c (by omega))
     have hag := HA.out c (mid + m - 1 - c) (by omega) (by omega) (by omega) (by omega)
     obtain ⟨X, hX⟩ : ∃ X, X = d[mid + m - 1 - c]! := ⟨_, rfl⟩
     obtain ⟨Y, hY⟩ : ∃ Y, Y = d[c]! := ⟨_, rfl⟩
     rw [← hX] at hc1 hcall hag
     rw [← hY] at hc2 hcall hag
     have HX := Lib.hid hX
     have HY := Lib.hid hY
     obtain ⟨x, hx⟩ := hE X
     obtain ⟨y, hy⟩ := hE Y
     rw [hx] at hc1 hcall
     rw [hy] at hc2 hcall
     have HCALL := Lib.hid hcall
     have HAG := Lib.hid hag
     clear hcall hx hy hX hY hag
     have hh1 : ((s : Int) + (r : Int)) / 2 = (c : Int) := by omega
     have hidx : ((mid : Int) + (m : Int) - 1 - (c : Int)).toNat = mid + m - 1 - c := by omega
     have hi0 : 0 ≤ (mid : Int) + (m : Int) - 1 - (c : Int) := by omega
     have hi1 : (mid : Int) + (m : Int) - 1 - (c : Int) < (n : Int) := by omega
     have hcn : (c : Int) < (n : Int) := by omega
     have hhi : s ≤ c := by omega
     have hhj : c < r := by omega
     clear hc
     by_cases hcf : cf X Y < 0
     · have hl : lt X Y = true := by rw [← HAG.out]; simpa [ltOf] using hcf
       have HL := Lib.hid hl
       have hcf2 : cf X Y < 0 := hcf
       have hcfB : decide (cf X Y < 0) = true := by rw [decide_eq_true_iff]; exact hcf
       clear hl hcf
       go_wp2_with fail
       go_quiet ((refine Calls.quiet_of (HCALL.out _)))
       go_wp2
       go_roundw
       case rel => exact ⟨s, c, rfl, rfl, h3, hhi, by omega, Lib.hid (HSk.out.drewN _), HLo, Lib.hid (fun _ => by rw [show mid + m - c - 1 = mid + m - 1 - c from by omega, ← HX.out, ← HY.out]; exact HL.out)⟩
       case measure => simp [intOf]; omega
     · have hl : lt X Y = false := by rw [← HAG.out]; simpa [ltOf] using hcf
       have HL := Lib.hid hl
       have hcf2 : 0 ≤ cf X Y := by omega
       have hcfB : decide (cf X Y < 0) = false := by rw [decide_eq_false_iff_not]; omega
       clear hl hcf
       go_wp2_with fail
       go_quiet ((refine Calls.quiet_of (HCALL.out _)))
       go_wp2
       go_roundw
       case rel => exact ⟨c + 1, r, by go_num, rfl, by omega, by omega, h5, Lib.hid (HSk.out.drewN _), Lib.hid (fun _ => by rw [show mid + m - (c + 1) = mid + m - 1 - c from by omega, Nat.add_sub_cancel, ← HX.out, ← HY.out]; exact HL.out), HHi⟩
       case measure => simp [intOf]; omega
   · obtain rfl : s = r := by omega
     obtain ⟨e, he, hme, heb, hde, hsum, FROT, FS1, FS2, FK1, FK2, FD⟩ := FIN.out s wr h3 h5 HSk.out HLo.out HHi.out
     have he1 : (mid : Int) + (m : Int) - (s : Int) = (e : Int) := by omega
     replace FROT := Lib.hid FROT
     replace FS1 := Lib.hid FS1
     replace FS2 := Lib.hid FS2
     replace FK1 := Lib.hid FK1
     replace FK2 := Lib.hid FK2
     replace FD := Lib.hid FD
     clear he
     by_cases hA1 : s < m
     · by_cases hB1 : m < e
       · by_cases hC1 : a < s
         · by_cases hE1 : e < b
           · have hq0 : (s : Int) < (mid : Int) := by omega
             have hq1 : (mid : Int) < (e : Int) := by omega
             have HROT := Lib.hid (FROT.out (by omega) (by omega))
             go_wp2_with fail
             (with_reducible refine HROT.out.mono ?_)
             rintro e1 w2 ⟨rfl, R, hRs, hRB, hRk, hRp⟩
             have HB2 := Lib.hid hRB
             have HRK := Lib.hid hRk
             have HRP := Lib.hid hRp
             clear hRB hRk hRp
             have hs1 := FS1.out R w2 hRs HB2.out HRK.out HRP.out (by omega) (by omega)
             have HS1C := Lib.hid hs1
             clear hs1
             go_wp2_with fail
             (with_reducible refine HS1C.out.mono ?_)
             rintro e2 w3 ⟨rfl, R1, hR1s', hR1B, hR1p, hR1o⟩
             have hR1s : R1.size = n := hR1s'.trans hRs
             have HB3 := Lib.hid hR1B
             have HP1 := Lib.hid hR1p
             have HO1 := Lib.hid hR1o
             clear hR1s' hR1B hR1p hR1o
             have hs2 := FS2.out R R1 w3 hRs hR1s HB3.out HRK.out HRP.out HP1.out (by omega) (by omega)
             have HS2C := Lib.hid hs2
             clear hs2
             go_wp2_with fail
             (with_reducible refine HS2C.out.mono ?_)
             rintro e3 w4 ⟨rfl, R2, hR2s', hR2B, hR2p, hR2o⟩
             have hR2s : R2.size = n := hR2s'.trans hR1s
             have HB4 := Lib.hid hR2B
             have HP2 := Lib.hid hR2p
             have HO2 := Lib.hid hR2o
             clear hR2s' hR2B hR2p hR2o
             go_wp2
             all_goals go_end0
             all_goals exact ⟨rfl, R2, hR2s.trans hdn.symm, HB4.out, FD.out R R1 R2 hRs HRK.out HRP.out HP1.out HO1.out HP2.out HO2.out⟩
           · have hq0 : (s : Int) < (mid : Int) := by omega
             have hq1 : (mid : Int) < (e : Int) := by omega
             have hq2 : (b : Int) ≤ (e : Int) := by omega
             have HROT := Lib.hid (FROT.out (by omega) (by omega))
             go_wp2_with fail
             (with_reducible refine HROT.out.mono ?_)
             rintro e1 w2 ⟨rfl, R, hRs, hRB, hRk, hRp⟩
             have HB2 := Lib.hid hRB
             have HRK := Lib.hid hRk
             have HRP := Lib.hid hRp
             clear hRB hRk hRp
             have hs1 := FS1.out R w2 hRs HB2.out HRK.out HRP.out (by omega) (by omega)
             have HS1C := Lib.hid hs1
             clear hs1
             go_wp2_with fail
             (with_reducible refine HS1C.out.mono ?_)
             rintro e2 w3 ⟨rfl, R1, hR1s', hR1B, hR1p, hR1o⟩
             have hR1s : R1.size = n := hR1s'.trans hRs
             have HB3 := Lib.hid hR1B
             have HP1 := Lib.hid hR1p
             have HO1 := Lib.hid hR1o
             clear hR1s' hR1B hR1p hR1o
             have hR2s : R1.size = n := hR1s
             have HB4 := Lib.hid HB3.out
             have HP2 := Lib.hid (permIn_refl R1 mid b)
             have HO2 := Lib.hid (FK2.out R R1 HRK.out HP1.out (by omega))
             go_wp2
             all_goals go_end0
             all_goals exact ⟨rfl, R1, hR2s.trans hdn.symm, HB4.out, FD.out R R1 R1 hRs HRK.out HRP.out HP1.out HO1.out HP2.out HO2.out⟩
         · by_cases hE1 : e < b
           · have hq0 : (s : Int) < (mid : Int) := by omega
             have hq1 : (mid : Int) < (e : Int) := by omega
             have hq2 : (s : Int) ≤ (a : Int) := by omega
             have HROT := Lib.hid (FROT.out (by omega) (by omega))
             go_wp2_with fail
             (with_reducible refine HROT.out.mono ?_)
             rintro e1 w2 ⟨rfl, R, hRs, hRB, hRk, hRp⟩
             have HB2 := Lib.hid hRB
             have HRK := Lib.hid hRk
             have HRP := Lib.hid hRp
             clear hRB hRk hRp
             have hR1s : R.size = n := hRs
             have HB3 := Lib.hid HB2.out
             have HP1 := Lib.hid (permIn_refl R a mid)
             have HO1 := Lib.hid (FK1.out R HRK.out (by omega))
             have hs2 := FS2.out R R w2 hRs hR1s HB3.out HRK.out HRP.out HP1.out (by omega) (by omega)
             have HS2C := Lib.hid hs2
             clear hs2
             go_wp2_with fail
             (with_reducible refine HS2C.out.mono ?_)
             rintro e3 w4 ⟨rfl, R2, hR2s', hR2B, hR2p, hR2o⟩
             have hR2s : R2.size = n := hR2s'.trans hR1s
             have HB4 := Lib.hid hR2B
             have HP2 := Lib.hid hR2p
             have HO2 := Lib.hid hR2o
             clear hR2s' hR2B hR2p hR2o
             go_wp2
             all_goals go_end0
             all_goals exact ⟨rfl, R2, hR2s.trans hdn.symm, HB4.out, FD.out R R R2 hRs HRK.out HRP.out HP1.out HO1.out HP2.out HO2.out⟩
           · have hq0 : (s : Int) < (mid : Int) := by omega
             have hq1 : (mid : Int) < (e : Int) := by omega
             have hq2 : (s : Int) ≤ (a : Int) := by omega
             have hq3 : (b : Int) ≤ (e : Int) := by omega
             have HROT := Lib.hid (FROT.out (by omega) (by omega))
             go_wp2_with fail
             (with_reducible refine HROT.out.mono ?_)
             rintro e1 w2 ⟨rfl, R, hRs, hRB, hRk, hRp⟩
             have HB2 := Lib.hid hRB
             have HRK := Lib.hid hRk
             have HRP := Lib.hid hRp
             clear hRB hRk hRp
             have hR1s : R.size = n := hRs
             have HB3 := Lib.hid HB2.out
             have HP1 := Lib.hid (permIn_refl R a mid)
             have HO1 := Lib.hid (FK1.out R HRK.out (by omega))
             have hR2s : R.size = n := hR1s
             have HB4 := Lib.hid HB3.out
             have HP2 := Lib.hid (permIn_refl R mid b)
             have HO2 := Lib.hid (FK2.out R R HRK.out HP1.out (by omega))
             go_wp2
             all_goals go_end0
             all_goals exact ⟨rfl, R, hR2s.trans hdn.symm, HB4.out, FD.out R R R hRs HRK.out HRP.out HP1.out HO1.out HP2.out HO2.out⟩
       · have hq0 : (e : Int) ≤ (m : Int) := by omega
         have hq1 : (mid : Int) ≤ (s : Int) := by omega
         have hq2 : (a : Int) < (s : Int) := by omega
         have hq3 : (e : Int) < (b : Int) := by omega
         have hq4 : (mid : Int) < (e : Int) := by omega
         have hRs : d.size = n := hdn
         have HB2 := Lib.hid HSk.out
         have HRK := Lib.hid (rot_none d s m e (by omega) (by omega) (by omega))
         have HRP := Lib.hid (permIn_refl d a b)
         have hR1s : d.size = n := hRs
         have HB3 := Lib.hid HB2.out
         have HP1 := Lib.hid (permIn_refl d a mid)
         have HO1 := Lib.hid (FK1.out d HRK.out (by omega))
         have hs2 := FS2.out d d wr hRs hR1s HB3.out HRK.out HRP.out HP1.out (by omega) (by omega)
         have HS2C := Lib.hid hs2
         clear hs2
         go_wp2_with fail
         all_goals
           (with_reducible refine HS2C.out.mono ?_)
           rintro e3 w4 ⟨rfl, R2, hR2s', hR2B, hR2p, hR2o⟩
           have hR2s : R2.size = n := hR2s'.trans hR1s
           have HB4 := Lib.hid hR2B
           have HP2 := Lib.hid hR2p
           have HO2 := Lib.hid hR2o
           clear hR2s' hR2B hR2p hR2o
           go_wp2
           all_goals go_end0
           all_goals exact ⟨rfl, R2, hR2s.trans hdn.symm, HB4.out, FD.out d d R2 hRs HRK.out HRP.out HP1.out HO1.out HP2.out HO2.out⟩
     · by_cases hB1 : m < e
       · have hq0 : (m : Int) ≤ (s : Int) := by omega
         have hq1 : (s : Int) < (mid : Int) := by omega
         have hq2 : (a : Int) < (s : Int) := by omega
         have hq3 : (e : Int) < (b : Int) := by omega
         have hq4 : (e : Int) ≤ (mid : Int) := by omega
         have hRs : d.size = n := hdn
         have HB2 := Lib.hid HSk.out
         have HRK := Lib.hid (rot_none d s m e (by omega) (by omega) (by omega))
         have HRP := Lib.hid (permIn_refl d a b)
         have hs1 := FS1.out d wr hRs HB2.out HRK.out HRP.out (by omega) (by omega)
         have HS1C := Lib.hid hs1
         clear hs1
         go_wp2_with fail
         all_goals
           (with_reducible refine HS1C.out.mono ?_)
           rintro e2 w3 ⟨rfl, R1, hR1s', hR1B, hR1p, hR1o⟩
           have hR1s : R1.size = n := hR1s'.trans hRs
           have HB3 := Lib.hid hR1B
           have HP1 := Lib.hid hR1p
           have HO1 := Lib.hid hR1o
           clear hR1s' hR1B hR1p hR1o
           have hR2s : R1.size = n := hR1s
           have HB4 := Lib.hid HB3.out
           have HP2 := Lib.hid (permIn_refl R1 mid b)
           have HO2 := Lib.hid (FK2.out d R1 HRK.out HP1.out (by omega))
           go_wp2
           all_goals go_end0
           all_goals exact ⟨rfl, R1, hR2s.trans hdn.symm, HB4.out, FD.out d R1 R1 hRs HRK.out HRP.out HP1.out HO1.out HP2.out HO2.out⟩
       · have hq0 : (m : Int) ≤ (s : Int) := by omega
         have hq1 : (e : Int) ≤ (m : Int) := by omega
         have hq2 : (mid : Int) ≤ (s : Int) := by omega
         have hq3 : (a : Int) < (s : Int) := by omega
         have hq4 : (e : Int) < (b : Int) := by omega
         have hq5 : (e : Int) ≤ (mid : Int) := by omega
         have hRs : d.size = n := hdn
         have HB2 := Lib.hid HSk.out
         have HRK := Lib.hid (rot_none d s m e (by omega) (by omega) (by omega))
         have HRP := Lib.hid (permIn_refl d a b)
         have hR1s : d.size = n := hRs
         have HB3 := Lib.hid HB2.out
         have HP1 := Lib.hid (permIn_refl d a mid)
         have HO1 := Lib.hid (FK1.out d HRK.out (by omega))
         have hR2s : d.size = n := hR1s
         have HB4 := Lib.hid HB3.out
         have HP2 := Lib.hid (permIn_refl d mid b)
         have HO2 := Lib.hid (FK2.out d d HRK.out HP1.out (by omega))
         go_wp2
         all_goals
           all_goals go_end0
           all_goals exact ⟨rfl, d, hR2s.trans hdn.symm, HB4.out, FD.out d d d hRs HRK.out HRP.out HP1.out HO1.out HP2.out HO2.out⟩
theorem merge_all {α : Type} [Inhabited α] (enc : α → Value) (hE : ∀ x, ∃ n, enc x = .int .i64 n) (cf : α → α → Int) (lt : α → α → Bool) (hL : SWO lt) (D : α → Prop) (f : FuncId) (cb : Array Value) (g cap : Nat) (rest : List Value) (n : Nat) (w0 : World)
   (hC : CmpQ Try.prog f cb enc cf D w0 g) (hsz : n < 4611686018427387904) : ∀ N, MergeSaid enc cf lt D f cb g cap rest n w0 N
 | 0 => fun a m b d w h1 h2 h3 h4 h5 h6 => by omega
 | N + 1 => by
   have ih := merge_all enc hE cf lt hL D f cb g cap rest n w0 hC hsz N
   intro a m b d w hN hdn hS hD ham hmb hb h1 h2 hA
   by_cases c1 : m = a + 1
   · subst hdn
     exact sym_left enc hE cf lt hL D f cb g cap a m b rest d w0 w hC hS hD c1 hmb hb hsz h2 hA
   by_cases c2 : b = m + 1
   · subst hdn
     exact sym_right enc hE cf lt hL D f cb g cap a m b rest d w0 w hC hS hD (by omega) c2 hb hsz h1 hA
   obtain ⟨mid, hmid⟩ : ∃ mid, mid = (a + b) / 2 := ⟨_, rfl⟩
   by_cases c3 : mid < m
   · exact sym_hi enc hE cf lt D f cb g cap rest n w0 hC hsz a m b mid (mid + m - b) mid d w hdn hS hD (by omega) (by omega) hb hA hmid c3 rfl rfl
       (sym_fin enc hE cf lt hL D f cb g cap rest n w0 N hsz ih a m b mid (mid + m - b) mid d hN hdn hD hb h1 h2 hA (by omega) (by omega) (by omega) (by omega) (by omega) (by omega) (by omega) (by omega))
   · exact sym_lo enc hE cf lt D f cb g cap rest n w0 hC hsz a m b mid a m d w hdn hS hD (by omega) (by omega) hb hA hmid (by omega) rfl rfl
       (sym_fin enc hE cf lt hL D f cb g cap rest n w0 N hsz ih a m b mid a m d hN hdn hD hb h1 h2 hA (by omega) (by omega) (by omega) (by omega) (by omega) (by omega) (by omega) (by omega))
theorem stable_core {α : Type} [Inhabited α] (enc : α → Value) (hE : ∀ x, ∃ n, enc x = .int .i64 n) (cf : α → α → Int) (lt2 : α → α → Bool) (hO : SWO lt2) (D : α → Prop) (f : FuncId) (cb : Array Value) (g cap n : Nat) (rest : List Value) (d : Array α) (w0 w : World)
   (hC : CmpQ Try.prog f cb enc cf D w0 g) (hS : SB enc w0 g 3 rest d w) (hD : ∀ i, i < d.size → D d[i]!) (hag : ∀ p q, p < q → q < d.size → ltOf cf d[q]! d[p]! = lt2 d[q]! d[p]!) (hdn : d.size = n) (hsz : n < 1152921504606846976) :
   Calls Try.prog 30 #[.slice (some ⟨g, 0, none⟩) n cap, .int .i64 n, .func (.func f) #[] cb] w fun e w' => e = .returned (.tuple #[]) ∧ ∃ R, SB enc w0 g 3 rest R w' ∧ PermIn 0 d.size d R ∧ SortedIn lt2 0 d.size R := by
 have eg := hC.enters
 have insert : ∀ (A B : Nat) (R : Array α) (wr : World), R.size = n → SB enc w0 g 3 rest R wr → PermIn 0 d.size d R → A ≤ B → B ≤ n →
     Calls Try.prog 42 #[.slice (some ⟨g, 0, none⟩) n cap, .int .i64 A, .int .i64 B, .func (.func f) #[] cb] wr fun e w' => e = .returned (.tuple #[]) ∧ SB enc w0 g 3 rest (Sort.insertionSort (ltOf cf) R A B) w' := by
   intro A B R wr h1 h2 h3 h4 h5
   have := ins_any enc hE cf D f cb g cap A B rest R w0 wr hC h2 (all_perm D (Nat.le_refl _) h3 hD) h4 (by omega) (by omega)
   rwa [h1] at this
 have merge : ∀ (A s m b i : Nat) (R : Array α) (wr : World), SB enc w0 g 3 rest R wr → MrgInv lt2 d s i R → A = 2 * s * i → m = A + s → 0 < s → b = min (A + 2 * s) n → m < b →
     Calls Try.prog 43 #[.slice (some ⟨g, 0, none⟩) n cap, .int .i64 A, .int .i64 ((A : Int) + (s : Int)), .int .i64 b, .func (.func f) #[] cb] wr fun e w' => e = .returned (.tuple #[]) ∧ ∃ R', SB enc w0 g 3 rest R' w' ∧ MrgInv lt2 d s (i + 1) R' := by
   intro A s m b i R wr h1 h2 h3 h4 h5 h6 h7
   obtain ⟨q1, q2, q3⟩ := mrg_facts (b := b) h2 h3 hag (by rw [hdn]; exact h6) (by omega)
   rw [← h4] at q1 q2 q3
   have hc := merge_all enc hE cf lt2 hO D f cb g cap rest n w0 hC (by omega) (b - A) A m b R wr (Nat.le_refl _) (h2.sz.trans hdn) h1 (all_perm D (Nat.le_refl _) h2.perm hD) (by omega) h7 (by omega) q1 q2 q3
   rw [show (m : Int) = (A : Int) + (s : Int) from by omega] at hc
   exact hc.mono fun e w' ⟨e1, R', _, e3, e4, e5⟩ => ⟨e1, R', e3, mrg_step h2 h3 (by rw [hdn]; exact h6) (by omega) e4 e5⟩
 have HINS := Lib.hid insert
 have HMRG := Lib.hid merge
 have HAG := Lib.hid hag
 have HO := Lib.hid hO
 have HS := Lib.hid hS
 have HDN := Lib.hid hdn
 clear insert merge hag hO hS hC hD hdn
 go_enter Try.func30, Try.ntmps30
 go_wp2
 go_loopw [7, 8] (fun va vb wr => ∃ (i A B : Nat) (R : Array α), va = .int .i64 A ∧ vb = .int .i64 B ∧ A ≤ n ∧ A + 20 ≤ B ∧ B ≤ A + 20 ∧ Hid (A = 20 * i) ∧ Hid (SB enc w0 g 3 rest R wr) ∧ Hid (InsInv lt2 d 20 i R)) (fun va _ _ => n - (intOf va).toNat)
 case atStart => exact ⟨0, 0, 20, d, rfl, rfl, Nat.zero_le _, by omega, by omega, Lib.hid rfl, HS, Lib.hid InsInv.start⟩
 case round =>
   obtain ⟨i, A, B, R, rfl, rfl, hAn, hB1, hB2, HA, HR, HI⟩ := hrel
   clear HS
   have hRn : R.size = n := HI.out.sz.trans HDN.out
   have HRN := Lib.hid hRn
   clear hRn
   by_cases hlt : B ≤ n
   · have hins := HINS.out A B R wr HRN.out HR.out HI.out.perm (by omega) hlt
     have hst := ins_stable (ltOf cf) lt2 HO.out A B R (by omega) (by rw [HRN.out]; exact hlt) (ins_agree HI.out HA.out HAG.out (by rw [HDN.out]; exact hlt))
     have HC1 := Lib.hid hins
     have HST := Lib.hid hst
     clear hins hst
     go_wp2_with (go_at_call 42; refine HC1.out.mono ?_; rintro e w2 ⟨rfl, hS2⟩; have HS2 := Lib.hid hS2; clear hS2)
     go_roundw
     case rel => exact ⟨i + 1, B, B + 20, _, rfl, by go_num, hlt, by omega, by omega, Lib.hid (by have := HA.out; omega), HS2, Lib.hid (ins_step HI.out HA.out (by rw [HDN.out]; omega) (by omega) HST.out.1 HST.out.2)⟩
     case measure => simp [intOf]; omega
   · have hins := HINS.out A n R wr HRN.out HR.out HI.out.perm hAn (Nat.le_refl _)
     have hst := ins_stable (ltOf cf) lt2 HO.out A n R hAn (by rw [HRN.out]; exact Nat.le_refl _) (ins_agree HI.out HA.out HAG.out (by rw [HDN.out]; exact Nat.le_refl _))
     have hall := fun (R' : Array α) (h1 : PermIn A n R R') (h2 : SortedIn lt2 A n R') => ins_step HI.out HA.out (by rw [HDN.out]; omega) hAn h1 h2
     have hnn : d.size ≤ 20 * (i + 1) := by have := HA.out; have := HDN.out; omega
     have HALL := Lib.hid (hall _ hst.1 hst.2)
     have HC1 := Lib.hid hins
     have HNN := Lib.hid hnn
     clear hins hst hall hnn
     go_wp2_with (go_at_call 42; refine HC1.out.mono ?_; rintro e w2 ⟨rfl, hS2⟩; have HS2 := Lib.hid hS2; clear hS2)
     go_loopw [6] (fun vs wr => ∃ (s : Nat) (R : Array α), vs = .int .i64 s ∧ 20 ≤ s ∧ s ≤ 2305843009213693952 ∧ Hid (SB enc w0 g 3 rest R wr) ∧ Hid (R.size = d.size) ∧ Hid (PermIn 0 d.size d R) ∧ Hid (∀ j, Good lt2 d (s * j) (s * (j + 1)) R)) (fun vs _ => n - (intOf vs).toNat)
     case atStart => exact ⟨20, _, rfl, by omega, by omega, HS2, Lib.hid HALL.out.sz, Lib.hid HALL.out.perm, Lib.hid (HALL.out.all HNN.out)⟩
     case round =>
       obtain ⟨s, R2, rfl, hs20, hsb, HR2, HZ2, HP2, HG2⟩ := hrel
       clear HS2 HALL HC1 HNN HR HI HA hAn hB1 hB2 hlt HRN
       by_cases hsn : s < n
       · go_wp2
         go_loopw [7, 8] (fun va vb wr => ∃ (i A B : Nat) (R : Array α), va = .int .i64 A ∧ vb = .int .i64 B ∧ A ≤ n ∧ A + 2 * s ≤ B ∧ B ≤ A + 2 * s ∧ Hid (A = 2 * s * i) ∧ Hid (SB enc w0 g 3 rest R wr) ∧ Hid (MrgInv lt2 d s i R)) (fun va _ _ => n - (intOf va).toNat)
         case atStart => exact ⟨0, 0, 2 * s, R2, rfl, by go_num, Nat.zero_le _, by omega, by omega, Lib.hid (by simp), HR2, Lib.hid (MrgInv.start HZ2.out HP2.out HG2.out)⟩
         case round =>
           obtain ⟨j, A2, B2, R3, rfl, rfl, hAn2, hB3, hB4, HA2, HR3, HM⟩ := hrel
           clear HR2 HZ2 HP2 HG2
           by_cases hlt2 : B2 ≤ n
           · have HC2 := Lib.hid (HMRG.out A2 s (A2 + s) B2 j R3 _ HR3.out HM.out HA2.out rfl (by omega) (by omega) (by omega))
             go_wp2_with (go_at_call 43; refine HC2.out.mono ?_; rintro e w3 ⟨rfl, R4, hS3, hM3⟩; have HS3 := Lib.hid hS3; have HM3 := Lib.hid hM3; clear hS3 hM3)
             go_roundw
             case rel => exact ⟨j + 1, B2, B2 + 2 * s, R4, rfl, by go_num, hlt2, by omega, by omega, Lib.hid (by rw [Nat.mul_succ, ← HA2.out]; omega), HS3, HM3⟩
             case measure => simp [intOf]; omega
           · by_cases hm : A2 + s < n
             · have hmI : (A2 : Int) + (s : Int) < (n : Int) := by omega
               have HC2 := Lib.hid (HMRG.out A2 s (A2 + s) n j R3 _ HR3.out HM.out HA2.out rfl (by omega) (by omega) hm)
               go_wp2_with (go_at_call 43; refine HC2.out.mono ?_; rintro e w3 ⟨rfl, R4, hS3, hM3⟩; have HS3 := Lib.hid hS3; have HM3 := Lib.hid hM3; clear hS3 hM3)
               go_roundw
               case rel => exact ⟨2 * s, R4, by go_num, by omega, by omega, HS3, Lib.hid HM3.out.sz, Lib.hid HM3.out.perm, Lib.hid (HM3.out.done (by rw [Nat.mul_succ, ← HA2.out, HDN.out]; omega))⟩
               case measure => simp [intOf]; omega
             · have hmI : (n : Int) ≤ (A2 : Int) + (s : Int) := by omega
               go_wp2
               go_roundw
               case rel => exact ⟨2 * s, R3, by go_num, by omega, by omega, HR3, Lib.hid HM.out.sz, Lib.hid HM.out.perm, Lib.hid (HM.out.done (by rw [← HA2.out, HDN.out]; omega))⟩
               case measure => simp [intOf]; omega
       · go_wp2
         go_end0
         exact ⟨rfl, R2, HR2.out, HP2.out, good_end HG2.out (by rw [HDN.out]; omega)⟩
theorem stable_any {α : Type} [Inhabited α] (enc : α → Value) (hE : ∀ x, ∃ n, enc x = .int .i64 n) (cf : α → α → Int) (lt2 : α → α → Bool) (hO : SWO lt2) (D : α → Prop) (f : FuncId) (cb : Array Value) (g cap : Nat) (rest : List Value) (d : Array α) (w0 w : World)
   (hC : CmpQ Try.prog f cb enc cf D w0 g) (hS : SB enc w0 g 3 rest d w) (hD : ∀ i, i < d.size → D d[i]!) (hag : ∀ p q, p < q → q < d.size → ltOf cf d[q]! d[p]! = lt2 d[q]! d[p]!) (hsz : d.size < 1152921504606846976) :
   Calls Try.prog 14 #[.slice (some ⟨g, 0, none⟩) d.size cap, .func (.func f) #[] cb] w fun e w' => e = .returned (.tuple #[]) ∧ ∃ R, SB enc w0 g 3 rest R w' ∧ PermIn 0 d.size d R ∧ SortedIn lt2 0 d.size R := by
 obtain ⟨n, hn⟩ : ∃ n, n = d.size := ⟨_, rfl⟩
 have hcore := stable_core enc hE cf lt2 hO D f cb g cap n rest d w0 w hC hS hD hag hn.symm (by omega)
 rw [← hn] at hsz ⊢
 rw [← hn] at hcore
 have HC := Lib.hid hcore
 clear hcore hC hS hD hag hn
 go_enter Try.func14, Try.ntmps14
 go_wp2_with (go_at_call 30; refine HC.out.mono ?_; rintro e w2 ⟨rfl, R, h1, h2, h3⟩)
 go_end0
 exact ⟨rfl, R, h1, h2, h3⟩
theorem stable320 : StableSaid 320 := fun cf lt2 D f cb g cap rest d w0 w hO hC hS hD hag hsz => stable_any (Value.int .i64) (fun x => ⟨x, rfl⟩) cf lt2 hO D f cb g cap rest d w0 w hC hS hD hag (by omega)
structure OkC (l : List Int) (m : Int) : Prop where
 pos : 1 ≤ l.length
 le : l.length ≤ 320
 m1 : 1 ≤ m
 m15 : m ≤ 15
 rng : ∀ j, j < l.length → 0 ≤ l.getD j 0 ∧ l.getD j 0 ≤ 2147483647
 fit : (symsTo l l.length).length ≤ 2 ^ m.toNat
def LenEnd (w : World) (l : List Int) (m : Int) (e : Ending) (w' : World) : Prop :=
 Below w.heap.size w w' ∧ ((¬ OkC l m ∧ e = .returned (.tuple #[.slice none 0 0, .int .i64 2])) ∨
   (OkC l m ∧ ∃ bo L, e = .returned (.tuple #[.slice (some ⟨bo, 0, none⟩) l.length l.length, .int .i64 0]) ∧ OutR w' bo L ∧ GoodL l m.toNat (symsTo l l.length).length L))
theorem cmpLen_any (bx : Nat) (ab ao n cap : Nat) (l : List Int) (x y : Nat) (w : World) (hb : w.cell? ⟨bx, 0, none⟩ = some (.slice (some ⟨ab, ao, none⟩) n cap)) (hc : ∀ j, j < n → w.cell? ⟨ab, ao + j, none⟩ = some (.int .i64 (l.getD j 0))) (hx : x < n) (hy : y < n) :
   Calls Try.prog 15 #[.int .i64 x, .int .i64 y, .pointer (some ⟨bx, 0, none⟩)] w fun e w' => e = .returned (.int .i64 (cfL l x y)) ∧ ∃ q, w' = w.drewN q := by
 have hv : cfL l x y = cmpI (l.getD x 0) (l.getD y 0) := rfl
 have HV := Lib.hid hv
 clear hv
 have hcx := hc x hx
 have hcy := hc y hy
 generalize l.getD x 0 = X at *
 generalize l.getD y 0 = Y at *
 have hx2 : (x : Int) < (n : Int) := by omega
 have hy2 : (y : Int) < (n : Int) := by omega
 clear hc
 go_enter Try.func15, Try.ntmps15
 go_wp2
 go_quiet ((go_at_call 16; exact quiet_eq (cmpI_any _ _ _)))
 go_wp2
 go_ret
 exact ⟨ret_int HV.out.symm, _, rfl⟩
set_option maxRecDepth 20000 in
theorem lengths_any {w : World} {a : Option Addr} {n cap : Nat} {l : List Int} {m : Int} (hr : Row w 1 a n cap (l.map (Value.int .i64))) (hm : -9223372036854775808 ≤ m ∧ m ≤ 9223372036854775807) :
   Calls Try.prog 5 #[.slice a n cap, .int .i64 m] w (LenEnd w l m) := by
 have hl := hr.len1
 have hn63 := hr.2.2.1
 have hcapn := hr.2.1
 unfold maxLen at hn63
 have hR1 := hr.mono (belowA w (.cells #[.slice a n cap] 22))
 have HR := Lib.hid hR1
 have HL := Lib.hid hl
 have HR0 := Lib.hid hr
 have hbad : ∀ (w' : World), Below w.heap.size w w' → ¬ OkC l m → LenEnd w l m (.returned (.tuple #[.slice none 0 0, .int .i64 2])) w' := fun w' hb h => ⟨hb, .inl ⟨h, rfl⟩⟩
 have HBAD := Lib.hid hbad
 clear hr hR1 hl hbad
 by_cases h1 : (n : Int) < 1
 · have HN := Lib.hid (show ¬ OkC l m from fun h => by have := h.pos; have := HL.out; omega)
   go_enter Try.func5, Try.ntmps5
   go_wp2
   go_ret2
   exact HBAD.out _ (belowA _ _) HN.out
 by_cases h2 : (320 : Int) < n
 · have HN := Lib.hid (show ¬ OkC l m from fun h => by have := h.le; have := HL.out; omega)
   go_enter Try.func5, Try.ntmps5
   go_wp2
   go_ret2
   exact HBAD.out _ (belowA _ _) HN.out
 by_cases h3 : m < 1
 · have HN := Lib.hid (show ¬ OkC l m from fun h => by have := h.m1; omega)
   go_enter Try.func5, Try.ntmps5
   go_wp2
   go_ret2
   exact HBAD.out _ (belowA _ _) HN.out
 by_cases h4 : 15 < m
 · have HN := Lib.hid (show ¬ OkC l m from fun h => by have := h.m15; omega)
   go_enter Try.func5, Try.ntmps5
   go_wp2
   go_ret2
   exact HBAD.out _ (belowA _ _) HN.out
 have hbx := heap_alloc_new w (.cells #[.slice a n cap] 22)
 have hsz0 := sizeA w (.cells #[.slice a n cap] 22)
 have hB0 := belowA w (.cells #[.slice a n cap] 22)
 have HB0 := Lib.hid hB0
 have HBX := Lib.hid hbx
 have hn0 : 1 ≤ n := by omega
 obtain ⟨ab, ao, ha, hab, hcel⟩ := HR0.out.at 0 0 (by omega)
 subst ha
 have HCL := Lib.hid (show ∀ W, Below (w.heap.size + 1) (w.alloc (.cells #[.slice (some ⟨ab, ao, none⟩) n cap] 22)) W → ∀ j, j < n → W.cell? ⟨ab, ao + j, none⟩ = some (.int .i64 (l.getD j 0)) from fun W hb j hj => below_cell hb (by show ab < w.heap.size + 1; omega) (cell?_keep hB0 (hcel j hj)))
 have HBC := Lib.hid (show ∀ W, Below (w.heap.size + 1) (w.alloc (.cells #[.slice (some ⟨ab, ao, none⟩) n cap] 22)) W → W.cell? ⟨w.heap.size, 0, none⟩ = some (.slice (some ⟨ab, ao, none⟩) n cap) from fun W hb => by
   rw [cell_of_row W w.heap.size 0 _ _ _ ((hb.block _ (by omega)).trans hbx)]; rfl)
 have HAB := Lib.hid hab
 clear hbx hB0 hcel
 go_enter Try.func5, Try.ntmps5
 go_wp2_with fail
 obtain ⟨W0, hW0⟩ : ∃ W0, w.alloc (.cells #[.slice (some ⟨ab, ao, none⟩) n cap] 22) = W0 := ⟨_, rfl⟩
 rw [hW0] at HB0 HBX HR hsz0 HCL HBC ⊢
 clear hW0
 go_loopw [29, 6, 7] (fun v S6 S7 wr => ∃ (k : Nat) (ns : List LN), v = .int .i64 k ∧ k ≤ n ∧ Hid (BuildQ wr (w.heap.size + 1) S6 S7 ns) ∧ Hid (ns.map LN.key = posTo l k) ∧ Hid (∀ j, j < k → 0 ≤ l.getD j 0 ∧ l.getD j 0 ≤ 2147483647) ∧ Hid (Below (w.heap.size + 1) W0 wr)) (fun v _ _ _ => n - (intOf v).toNat)
 case atStart => exact ⟨0, [], rfl, Nat.zero_le _, Lib.hid (BuildQ.nil _ _), Lib.hid rfl, Lib.hid (fun j hj => by omega), Lib.hid (Below.refl _ _)⟩
 case round =>
   obtain ⟨k, ns, rfl, hk, HQ, HKey, HRg, HB⟩ := hrel
   have hszr := HB.out.size
   by_cases hlt : k < n
   · have hcd : decide ((k : Int) < (n : Int)) = true := decide_eq_true (by omega)
     have hkn : (k : Int) < (n : Int) := by omega
     have z1 := HCL.out _ HB.out k hlt
     have HPS := Lib.hid (posTo_succ l k)
     have HRS := Lib.hid (show 0 ≤ l.getD k 0 ∧ l.getD k 0 ≤ 2147483647 → ∀ j, j < k + 1 → 0 ≤ l.getD j 0 ∧ l.getD j 0 ≤ 2147483647 from fun h j hj => by
       rcases Nat.lt_or_eq_of_le (Nat.le_of_lt_succ hj) with h1 | h1
       · exact HRg.out j h1
       · rw [h1]; exact h)
     have HNK := Lib.hid (show ¬ (0 ≤ l.getD k 0 ∧ l.getD k 0 ≤ 2147483647) → ¬ OkC l m from fun h h' => h (h'.rng k (by rw [HL.out]; exact hlt)))
     have HBW := Lib.hid (show Below w.heap.size w wr from HB0.out.trans (HB.out.mono (Nat.le_succ _)))
     generalize l.getD k 0 = x at z1 HPS HRS HNK
     by_cases hx1 : x < 0
     · have HN := Lib.hid (HNK.out (by omega))
       clear HPS HRS HNK HCL HBC HQ
       go_wp2
       go_ret2
       exact HBAD.out _ HBW.out HN.out
     by_cases hx2 : 2147483647 < x
     · have HN := Lib.hid (HNK.out (by omega))
       clear HPS HRS HNK HCL HBC HQ
       go_wp2
       go_ret2
       exact HBAD.out _ HBW.out HN.out
     by_cases hx3 : 0 < x
     · obtain ⟨c, rfl⟩ : ∃ c : Nat, x = (c : Int) := ⟨x.toNat, by omega⟩
       have hlen : ns.length ≤ k := by
         have h := congrArg List.length HKey.out
         rw [List.length_map] at h
         have := posTo_len l k
         omega
       have HRN := Lib.hid (show ∀ o1 y e, Row ((wr.alloc o1).alloc (.cells #[y] e)) 1 (some ⟨wr.heap.size + 1, 0, none⟩) 1 1 [y] from fun o1 y e => by
         have h := row_new1 (wr.alloc o1) y e
         rwa [sizeA] at h)
       have HSA := Lib.hid (show ∀ o1 o2, w.heap.size + 1 ≤ ((wr.alloc o1).alloc o2).heap.size from fun o1 o2 => by rw [sizeA, sizeA]; omega)
       clear HNK HBC HCL
       go_wp2_with (first
         | (at_builtin; refine append_at ENod rfl (.tmp 42) (.tmp 47) rfl (w.heap.size + 1) _ ns.length _ rfl ((HQ.out.r6.alloc _).alloc _) _ 1 1 _ rfl (HRN.out _ _ _) (one_mem rfl) (by unfold maxLen; omega) (by omega) (HSA.out _ _) ?_; intro v5 w5 hO5 hg5 hn5; have HO5 := Lib.hid hO5; have HG5 := Lib.hid hg5; have HN5 := Lib.hid hn5; have hs5 := hg5.size; rw [sizeA, sizeA] at hs5; have HR7 := Lib.hid (HQ.out.r7_after hg5); clear hO5 hg5 hn5)
         | (at_builtin; refine append_at ETI rfl (.tmp 49) (.tmp 51) rfl (w.heap.size + 1) _ ns.length _ rfl (HR7.out.alloc _) _ 1 1 _ rfl (row_new1 _ _ _) (one_mem rfl) (by unfold maxLen; omega) (by omega) (by rw [sizeA]; omega) ?_; intro v6 w6 hO6 hg6 hn6; have HO6 := Lib.hid hO6; have HG6 := Lib.hid hg6; have HN6 := Lib.hid hn6; have hs6 := hg6.size; rw [sizeA] at hs6; clear hO6 hg6 hn6))
       go_roundw
       case rel =>
         refine ⟨k + 1, ns ++ [⟨wr.heap.size, k, c⟩], by go_num, by omega, Lib.hid (HQ.out.step (by omega) rfl HO5.out HG5.out HN5.out HO6.out HG6.out HN6.out), Lib.hid ?_, Lib.hid (HRS.out (by omega)), Lib.hid ?_⟩
         · rw [List.map_append, HKey.out, HPS.out, if_pos hx3]
           show _ = _ ++ [(k, ((c : Int)).toNat)]
           rw [Int.toNat_natCast]; rfl
         · exact (((((HB.out.alloc (by omega) _).alloc (by rw [sizeA]; omega) _).grown HG5.out (by rw [sizeA, sizeA]; omega) (fun q hq => (HQ.out.r6.lt q hq).1)).alloc (by omega) _).grown HG6.out (by rw [sizeA]; omega) (fun q hq => (HQ.out.r7.lt q hq).1))
       case measure => simp [intOf]; omega
     · go_wp2
       go_roundw
       case rel =>
         refine ⟨k + 1, ns, by go_num, by omega, HQ, Lib.hid ?_, Lib.hid (HRS.out (by omega)), HB⟩
         rw [HKey.out, HPS.out, if_neg hx3, List.append_nil]
       case measure => simp [intOf]; omega
   · have hkn : k = n := by omega
     subst hkn
     have hcd : decide ((k : Int) < (k : Int)) = false := decide_eq_false (by omega)
     obtain ⟨mm, rfl⟩ : ∃ mm : Nat, m = (mm : Int) := ⟨m.toNat, by omega⟩
     obtain ⟨a6, c6, h6, -, -⟩ := Row.of_owns HQ.out.r6
     obtain ⟨a7, c7, h7, -, -⟩ := Row.of_owns HQ.out.r7
     subst h6
     subst h7
     have HBW := Lib.hid (show Below w.heap.size w wr from HB0.out.trans (HB.out.mono (Nat.le_succ _)))
     have hNl : ns.length = (symsTo l k).length := by
       rw [← posTo_syms, ← HKey.out, List.length_map, List.length_map]
     have hNk : ns.length ≤ k := by rw [hNl, ← posTo_syms, List.length_map]; exact posTo_len l k
     have HNL := Lib.hid hNl
     have hpw : 1 ≤ 2 ^ mm ∧ 2 ^ mm ≤ 32768 := by
       have : ∀ m, m ≤ 15 → 1 ≤ 2 ^ m ∧ 2 ^ m ≤ 32768 := by decide
       exact this mm (by omega)
     obtain ⟨P2, hP2⟩ : ∃ P2, P2 = 2 ^ mm := ⟨_, rfl⟩
     have hshl : (2 : Int) ^ mm = (P2 : Int) := by rw [hP2]; norm_cast
     rw [← hP2] at hpw
     have HP2 := Lib.hid hP2
     clear hNl hP2
     by_cases hfit : ns.length ≤ P2
     case neg =>
       have HN := Lib.hid (show ¬ OkC l (mm : Int) from fun h => hfit (by have h := h.fit; rw [Int.toNat_natCast, HL.out, ← HNL.out, ← HP2.out] at h; exact h))
       have hgt : decide ((ns.length : Int) > (P2 : Int)) = true := decide_eq_true (by omega)
       clear HCL HBC HQ
       go_wp2_with fail
       go_ret2
       exact HBAD.out _ HBW.out HN.out
     have HOK := Lib.hid (show OkC l (mm : Int) from ⟨by rw [HL.out]; omega, by rw [HL.out]; omega, by omega, by omega, fun j hj => HRg.out j (by rw [← HL.out]; exact hj), by rw [Int.toNat_natCast, HL.out, ← HNL.out, ← HP2.out]; exact hfit⟩)
     have hgt : decide ((ns.length : Int) > (P2 : Int)) = false := decide_eq_false (by omega)
     have hwr : w.heap.size + 1 ≤ wr.heap.size := by have := HB.out.size; omega
     have hposR : ns.map LN.s = posR l := posR_of (by rw [HL.out]; exact HKey.out)
     have HPR := Lib.hid hposR
     have hRl : (posR l).length = ns.length := by rw [← hposR, List.length_map]
     have HRL := Lib.hid hRl
     clear hposR hRl
     by_cases hN0 : ns.length = 0
     case pos =>
       have hN0i : decide ((ns.length : Int) = 0) = true := decide_eq_true (by omega)
       have hNi : ((ns.length : Int) == 0) = true := by rw [hN0]; rfl
       have HG := Lib.hid (show GoodL l mm (symsTo l l.length).length (List.replicate l.length 0) from good_none (List.eq_nil_of_length_eq_zero (by rw [HRL.out]; exact hN0)))
       clear HQ HCL hN0i
       have hbxc := HBC.out _ HB.out
       clear HBC
       go_wp2_with (at_make; refine make_full ETI rfl (.tmp 60) (.tmp 60) rfl .i64 .i64 _ _ k rfl rfl rfl rfl (by omega) (by unfold maxLen; omega) ?_; intro w4 hown hb4; have HO := Lib.hid (outR_made (own_congr hown (made_fl _ k))); have HB4 := Lib.hid hb4; clear hown hb4)
       go_ret2
       refine ⟨HBW.out.trans (HB4.out.mono HBW.out.size), .inr ⟨HOK.out, wr.heap.size, List.replicate l.length 0, by rw [HL.out]; rfl, by rw [HL.out]; exact HO.out, by rw [Int.toNat_natCast]; exact HG.out⟩⟩
     have hN1 : 0 < ns.length := Nat.pos_of_ne_zero hN0
     have hNi : ((ns.length : Int) == 0) = false := by
       rw [show ((ns.length : Int) == 0) = decide ((ns.length : Int) = 0) from rfl]; exact decide_eq_false (by omega)
     obtain ⟨g6, hg6, hg6b, hg6l⟩ : ∃ g, a6 = some ⟨g, 0, none⟩ ∧ w.heap.size + 1 ≤ g ∧ g < wr.heap.size := by
       rcases HQ.out.r6.2 with ⟨-, h⟩ | ⟨g, cap, cur, hv, hb, hg, -⟩
       · omega
       · simp only [Value.slice.injEq] at hv
         exact ⟨g, hv.1, hb, (Array.getElem?_eq_some_iff.1 hg).1⟩
     obtain ⟨g7, hg7, hg7b, hg7l⟩ : ∃ g, a7 = some ⟨g, 0, none⟩ ∧ w.heap.size + 1 ≤ g ∧ g < wr.heap.size := by
       rcases HQ.out.r7.2 with ⟨-, h⟩ | ⟨g, cap, cur, hv, hb, hg, -⟩
       · omega
       · simp only [Value.slice.injEq] at hv
         exact ⟨g, hv.1, hb, (Array.getElem?_eq_some_iff.1 hg).1⟩
     subst hg6
     subst hg7
     have h67 : g6 ≠ g7 := fun e => HQ.out.a67 g6 rfl (by rw [e]; rfl)
     have hgt7 : decide ((ns.length : Int) > 1) = decide (1 < ns.length) := decide_eq_decide.2 (by omega)
     have hbxc := HBC.out _ HB.out
     go_wp2_with (at_make; refine make_full ETI rfl (.tmp 60) (.tmp 60) rfl .i64 .i64 _ _ k rfl rfl rfl rfl (by omega) (by unfold maxLen; omega) ?_; intro w4 hown hb4; have HO := Lib.hid (outR_made (own_congr hown (made_fl _ k))); have HB4 := Lib.hid hb4; clear hown hb4)
     have HQ4 := Lib.hid (HQ.out.other (keeps_of (fun _ => False) HB4.out) (fun b h => h.elim))
     have HW4 := Lib.hid (HB.out.trans (HB4.out.mono (by omega)))
     have hs4 : wr.heap.size + 1 ≤ w4.heap.size := by
       have := HO.out.lt; omega
     have HC4 := Lib.hid (key_le HKey.out (fun j hj => (HRg.out j hj).2))
     have HTR := Lib.hid (tree_any (HQ4.out.nodes hN1) (by rw [List.length_map]; exact hN1) (by rw [List.length_map]; omega) (by
       have h1 := sumN_le HC4.out
       have h2 := Nat.mul_le_mul_right 2147483647 (show ns.length ≤ 320 by omega)
       omega) (by omega))
     refine HTR.out.mono ?_
     rintro e w5 ⟨x, S', rfl, ht, hp, hnew, hk5⟩
     rw [leavesN_tn, HPR.out] at hp
     have hbS : ¬ S' wr.heap.size := fun h => by
       rcases hnew _ h with ⟨y, hy, e⟩ | h1
       · have := (Array.getElem?_eq_some_iff.1 (HQ.out.tree y hy).2).1; omega
       · omega
     have hk5' : Keeps (fun b => b = g6) w4 w5 := hk5.weaken fun b hb => by simpa [Value.ownBlock] using hb.symm
     have HK5 := Lib.hid hk5'
     have HO5 := Lib.hid (HO.out.keep hk5' (by omega))
     have HP5 := Lib.hid hp
     have HDP := Lib.hid (by
       have h := depths_any hbS x.t x.p x.c 0 (List.replicate k 0) w5 ht HO5.out (fun s hs => by
         rw [List.length_replicate, ← HL.out]
         exact posR_lt l s (hp.mem_iff.1 hs)) (by rw [hp.length_eq, HRL.out]; omega) (by rw [List.length_replicate]; omega)
       rw [List.length_replicate] at h
       exact h)
     clear HTR hk5 hk5' hp hnew ht hbxc
     go_wp2_with fail
     refine HDP.out.mono ?_
     rintro e w6 ⟨rfl, hO6, hk6⟩
     obtain ⟨D, hDl, hDe, hDb⟩ := lay_row (n := k) (R := posR l) (t := x.t) (posR_nodup l) (fun r hr => by rw [← HL.out]; exact posR_lt l r hr) HP5.out
     rw [hDe] at hO6
     have HO6 := Lib.hid hO6
     have HW6 := Lib.hid ((HW4.out.trans (HK5.out.below (by omega) (fun b hb => by omega))).trans (hk6.below (by have := HK5.out.size; omega) (fun b hb => by omega)))
     have hr7 := owns_keeps (owns_keeps HQ4.out.r7 HK5.out (fun b hb => by have e : g7 = b := by simpa [Value.ownBlock] using hb
                                                                           omega)) hk6 (fun b hb => by have e : g7 = b := by simpa [Value.ownBlock] using hb
                                                                                                       omega)
     rw [key_syms HKey.out, HNL.out] at hr7
     have hs6 : w4.heap.size ≤ w6.heap.size := Nat.le_trans HK5.out.size hk6.size
     rcases hr7.2 with ⟨h, -⟩ | ⟨g, cp, cur, hv, hgb, hgo, hle, hcpm, hcur, htk⟩
     · cases h
     simp only [Value.slice.injEq, Option.some.injEq, Addr.mk.injEq, and_true] at hv
     obtain ⟨rfl, -, rfl⟩ := hv
     have hsb : SB (Value.int .i64) w6 g7 3 (cur.toList.drop (symsTo l k).length) (symsTo l k).toArray w6 := SB.start hgo (by simpa using htk)
     have hC : CmpQ Try.prog 15 #[.pointer (some ⟨w.heap.size, 0, none⟩)] (Value.int .i64) (cfL l) (fun x => ∃ q : Nat, q < k ∧ x = (q : Int)) w6 g7 := by
       refine ⟨fun _ _ => by kernel_rfl, fun W hG x y hx hy => ?_⟩
       obtain ⟨qx, hqx, rfl⟩ := hx
       obtain ⟨qy, hqy, rfl⟩ := hy
       have hBW := HW6.out.grown hG (by omega) (fun q hq => by cases hq; exact hg7b)
       exact cmpLen_any w.heap.size ab ao k cap l qx qy W (HBC.out W hBW) (HCL.out W hBW) hqx hqy
     have hstb := stable320 (cfL l) (symLt l) _ 15 _ g7 c7 _ (symsTo l k).toArray w6 w6 (symLt_swo l) hC hsb (fun i hi => by
       rw [arr_get hi]
       obtain ⟨q, h1, _, h2⟩ := mem_symsTo.1 (List.getElem_mem (by simpa using hi))
       exact ⟨q, h1, h2⟩) (fun p q h1 h2 => sym_agree l k p q h1 h2) (by
       have := HNL.out
       simp; omega)
     have hsz : (symsTo l k).toArray.size = ns.length := by rw [HNL.out]; simp
     have HSTB := Lib.hid (by have h := hstb; rw [hsz] at h; exact h)
     have HK6 := Lib.hid hk6
     clear hstb hC hsb hgo htk hcur hr7 hO6 hDe hk6 HDP
     go_wp2_with fail
     refine HSTB.out.mono ?_
     rintro e w7 ⟨rfl, R, hSB, hP, hSo⟩
     obtain ⟨R2, hn2, hp2, hl2, hS2⟩ := ord_of (l := l) (R := R) (by rw [HL.out, hsz]; exact hP) (by rw [HL.out, hsz]; exact hSo)
     have hR2l : R2.length = ns.length := by rw [hp2.length_eq, HRL.out]
     have hrow := hSB.row (cap := c7) (by rw [← hl2, hR2l, HNL.out]; exact hle) hcpm
     rw [← hn2, ← hl2] at hrow
     have HROW := Lib.hid hrow
     have HP2' := Lib.hid hp2
     have HS2 := Lib.hid hS2
     have HR2L := Lib.hid hR2l
     obtain ⟨D2, hD2l, hD2e, hD2b⟩ := rowR_perm (n := k) (posR_nodup l) (fun r hr => by rw [← HL.out]; exact posR_lt l r hr) hDl hp2 hDb
     have HO7 := Lib.hid (show OutR w7 wr.heap.size (rowR k R2 D2) from by
       rw [← hD2e]
       exact HO6.out.keep (Keeps.of_grown hSB.grown (S := fun b => b = g7) (fun q hq => by cases hq; rfl)) (by omega))
     have HW7 := Lib.hid (HW6.out.grown hSB.grown (by omega) (fun q hq => by cases hq; exact hg7b))
     have hs7 : w6.heap.size ≤ w7.heap.size := hSB.grown.size
     have HDB := Lib.hid hD2b
     have HDL := Lib.hid hD2l
     have HND := Lib.hid (show R2.Nodup from hp2.nodup_iff.2 (posR_nodup l))
     have HLT := Lib.hid (show ∀ r ∈ R2, r < k from fun r hr => by rw [← HL.out]; exact posR_lt l r (hp2.mem_iff.1 hr))
     have hbxc := HBC.out _ HW7.out
     clear hSB hP hSo hn2 hp2 hl2 hS2 hrow hD2e hD2b hD2l HSTB hDb hDl HBC HCL hR2l HC4 HQ4 HQ HO6 HKey HRg
     by_cases hN2 : 1 < ns.length
     · have hgt1 : decide ((ns.length : Int) > 1) = true := decide_eq_true (by omega)
       have hgt2 : decide (1 < ns.length) = true := decide_eq_true hN2
       obtain ⟨E, hE, hEl, hEb, hEs⟩ := cutV_good (limit := mm) (g := mm * D2.length + 1) (D := D2) (by omega) (by omega) (fun d hd => (HDB.out d hd).1) (by rw [HDL.out, HR2L.out]; omega) (by rw [HDL.out, HR2L.out, ← HP2.out]; exact hfit) (by omega)
       obtain ⟨M, hM, rfl⟩ := Option.map_eq_some_iff.1 hE
       have HCUT := Lib.hid (by
         have h := cut_any (limit := mm) HO7.out HROW.out (by omega) (by omega) (by rw [HR2L.out]; omega) HDL.out HND.out HLT.out (fun d hd => by have h1 := HDB.out d hd; have h2 := HR2L.out; omega) (by omega) (by omega) hM
         rw [HR2L.out] at h
         exact h)
       generalize (shrinkAll M.reverse (32768 - sumW M)).1.reverse = E at hEl hEb hEs HCUT
       have HEL := Lib.hid hEl
       have HEB := Lib.hid hEb
       have HES := Lib.hid hEs
       clear hM hE hEl hEb hEs
       go_wp2_with fail
       refine HCUT.out.mono ?_
       rintro e w8 ⟨rfl, hO8, hk8⟩
       have HO8 := Lib.hid hO8
       have HW8 := Lib.hid (HW7.out.trans (hk8.below (by omega) (fun b hb => by omega)))
       have hs8 := hk8.size
       have HSRT := Lib.hid (by
         have h := sorted_any sort_int (w := w8) (og := g7) (ocap := c7) (R := R2) (D := E) (n := k) hO8 (fun i hi => by
           obtain ⟨b, off, eb, -, hc⟩ := HROW.out.2.2.2.2 (by omega)
           simp only [Option.some.injEq, Addr.mk.injEq, and_true] at eb
           obtain ⟨rfl, rfl⟩ := eb
           have := hc i _ (natV_at hi)
           rw [Nat.zero_add] at this
           exact hk8.cell this (by omega)) (by omega) (by omega) (by rw [HR2L.out]; omega) (by rw [HR2L.out]; omega) (by rw [HEL.out, HDL.out]) HND.out HLT.out
         rw [HR2L.out] at h
         exact h)
       clear hO8 hk8 HCUT
       go_wp2_with fail
       refine HSRT.out.mono ?_
       rintro e w9 ⟨rfl, D3, hD3p, hD3s, hO9, hk9⟩
       have HO9 := Lib.hid hO9
       have HW9 := Lib.hid (HW8.out.trans (hk9.below (by omega) (fun b hb => by omega)))
       have HG := Lib.hid (show GoodL l mm (symsTo l l.length).length (rowR l.length R2 D3) from good_many HP2'.out HS2.out (by rw [HR2L.out]; omega) (by rw [HEL.out, HDL.out]) HEB.out HES.out hD3p hD3s)
       clear hD3p hD3s hO9 hk9 HSRT
       go_wp2_with fail
       go_ret2
       refine ⟨HB0.out.trans (HW9.out.mono (by omega)), .inr ⟨HOK.out, wr.heap.size, rowR l.length R2 D3, by rw [HL.out]; rfl, by rw [HL.out]; exact HO9.out, by rw [Int.toNat_natCast]; exact HG.out⟩⟩
     · have hgt1 : decide ((ns.length : Int) > 1) = false := decide_eq_false (by omega)
       have hgt2 : decide (1 < ns.length) = false := decide_eq_false hN2
       have HG := Lib.hid (show GoodL l mm (symsTo l l.length).length (rowR l.length R2 D2) from good_one HP2'.out (by rw [HR2L.out]; omega) HDL.out HDB.out (by omega))
       go_wp2_with fail
       go_ret2
       refine ⟨HB0.out.trans (HW7.out.mono (by omega)), .inr ⟨HOK.out, wr.heap.size, rowR l.length R2 D2, by rw [HL.out]; rfl, by rw [HL.out]; exact HO7.out, by rw [Int.toNat_natCast]; exact HG.out⟩⟩
theorem tdead_any (Bl : Nat → Prop) (p : Nat) (l : List Int) (w : World) (h : IsTb w Bl p l) :
   Calls Try.prog 25 #[.pointer (some ⟨p, 0, none⟩)] w fun e w' => e = .returned (.bool false) ∧ w = w' := by
 obtain ⟨⟨aL, cL, aC, cC, aS, cS, srt, hT, hL, hC, hS, hso, b1, b2, b3, hnn⟩, hroom, hp⟩ := h
 have hc := blk_cell hT 0 (by omega)
 unfold tbV at hc
 simp only [if_true] at hc
 obtain ⟨x, rfl⟩ := Option.ne_none_iff_exists'.1 hnn
 have hnil := fun W : World => Lib.run_eql_slice_nil (P := Try.prog) W 22 3 (some x) l.length cL 0 0 Try.underlying22
 clear hT hL hC hS hso b1 b2 b3 hnn
 go_enter Try.func25, Try.ntmps25
 go_wp2
 go_ret
 exact ⟨rfl, rfl⟩
theorem IsTb.kept {w w' : World} {Bl : Nat → Prop} {p r : Nat} {l : List Int} (h : IsTb w Bl p l) (hg : w.grownBy w' (some r)) (hr : ¬ Bl r) : IsTb w' Bl p l := by
 obtain ⟨⟨aL, cL, aC, cC, aS, cS, srt, hT, hL, hC, hS, hso, b1, b2, b3, hnn⟩, hroom, hp⟩ := h
 have hpr : p ≠ r := fun e => hr (e ▸ hp)
 refine ⟨⟨aL, cL, aC, cC, aS, cS, srt, ?_, hL.kept hg (fun x hx e => hr (e ▸ b1 x hx)), hC.kept hg (fun x hx e => hr (e ▸ b2 x hx)), hS.kept hg (fun x hx e => hr (e ▸ b3 x hx)), hso, b1, b2, b3, hnn⟩, hroom, hp⟩
 rw [hg.block p (Array.getElem?_eq_some_iff.1 hT).1 (by simpa using hpr)]
 exact hT
theorem IsTb.mono {w w' : World} {Bl : Nat → Prop} {p : Nat} {l : List Int} (h : IsTb w Bl p l) (hb : Below w.heap.size w w') : IsTb w' Bl p l := by
 obtain ⟨⟨aL, cL, aC, cC, aS, cS, srt, hT, hL, hC, hS, hso, b1, b2, b3, hnn⟩, hroom, hp⟩ := h
 exact ⟨⟨aL, cL, aC, cC, aS, cS, srt, block_keep hb hT, hL.mono hb, hC.mono hb, hS.mono hb, hso, b1, b2, b3, hnn⟩, hroom, hp⟩
theorem IsTb.weaken {w : World} {Bl Bl' : Nat → Prop} {p : Nat} {l : List Int} (h : IsTb w Bl p l) (hB : ∀ b, Bl b → Bl' b) : IsTb w Bl' p l := by
 obtain ⟨⟨aL, cL, aC, cC, aS, cS, srt, hT, hL, hC, hS, hso, b1, b2, b3, hnn⟩, hroom, hp⟩ := h
 exact ⟨⟨aL, cL, aC, cC, aS, cS, srt, hT, hL, hC, hS, hso, fun x hx => hB _ (b1 x hx), fun x hx => hB _ (b2 x hx), fun x hx => hB _ (b3 x hx), hnn⟩, hroom, hB _ hp⟩
theorem getV_one (f : Nat → Bool) (high : Bool) : getV f high 1 1 = if f 0 then 1 else 0 := by
 cases high <;> simp [getV, turnN]
theorem get_cut (r n : Nat) (bs : List UInt8) (high : Bool) (at_ : Nat) (w : World) (h : IsRd w r bs high at_) (hn : n ≤ 32) (hgt : 8 * bs.length < at_ + n) :
   Calls Try.prog 26 #[.pointer (some ⟨r, 0, none⟩), .int .i64 n] w fun e w' => e = .returned (.tuple #[.int .u32 0, .int .i64 10]) ∧ ∃ q, w' = w.drewN q := by
 have hdead := rdead_any r bs high at_ w h
 have hleft := left_any r bs high at_ w h
 have hle := h.le
 have hN : decide (8 * bs.length - at_ < n) = true := by simp; omega
 have hN1 : decide ((n : Int) < 0) = false := by simp
 have hN2 : decide (32 < (n : Int)) = false := by simp; omega
 have HD := Lib.hid hdead
 have HL := Lib.hid hleft
 clear hdead hleft h
 go_enter Try.func26, Try.ntmps26
 go_wp2_with (first
   | (go_at_call 37; refine HD.out.mono ?_; rintro e w' ⟨rfl, rfl⟩)
   | (go_at_call 38; refine HL.out.mono ?_; rintro e w' ⟨rfl, q1, rfl⟩))
 go_ret2
 exact ⟨rfl, _, rfl⟩
theorem ofInt_i64 (a : Nat) (ha : a < 4611686018427387904) : (BitVec.ofInt 64 (a : Int)).toNat = a := by
 rw [BitVec.ofInt_natCast, BitVec.toNat_ofNat]; exact Nat.mod_eq_of_lt (by omega)
theorem i64_or_nat (a b : Nat) (ha : a < 4611686018427387904) (hb : b < 4611686018427387904) : bits .or .i64 (a : Int) (b : Int) = ((a ||| b : Nat) : Int) := by
 have hx : a ||| b < 2 ^ 62 := Nat.or_lt_two_pow (by omega) (by omega)
 show IntKind.i64.wrap ((BitVec.ofInt 64 (a : Int) ||| BitVec.ofInt 64 (b : Int)).toNat : Int) = _
 rw [BitVec.toNat_or, ofInt_i64 a ha, ofInt_i64 b hb, IntKind.wrap_i64]
 omega
theorem or_shl (v x : Nat) (hv : v < 65536) (hx : x < 2) : bits .or .i64 ((v : Int) * 2) (x : Int) = (v : Int) * 2 + x := by
 have e : ((v : Int) * 2) = ((v * 2 : Nat) : Int) := by omega
 rw [e, i64_or_nat _ _ (by omega) (by omega), nat_join 1 (v * 2) x (by omega) (by omega)]
 omega
theorem get_one (r : Nat) (bs : List UInt8) (high : Bool) (at_ : Nat) (w : World) (h : IsRd w r bs high at_) (b : Bool) (hb : bitAt bs high at_ = b) (hle2 : at_ + 1 ≤ 8 * bs.length) :
   Calls Try.prog 26 #[.pointer (some ⟨r, 0, none⟩), .int .i64 1] w fun e w' => e = .returned (.tuple #[.int .u32 (if b then 1 else 0), .int .i64 0]) ∧ IsRd w' r bs high (at_ + 1) ∧ w.grownBy w' (some r) :=
 (get_ok r 1 bs high at_ w h (by omega) hle2).mono fun e w' ⟨he, h1, h2⟩ => ⟨by rw [he, getV_one]; simp only [Nat.add_zero, hb]; cases b <;> rfl, h1, h2⟩
theorem tget_any (Bl : Nat → Prop) (p r : Nat) (l : List Int) (bs : List UInt8) (high : Bool) (at_ : Nat) (w : World) (hT : IsTb w Bl p l) (hR : IsRd w r bs high at_) (hrp : ¬ Bl r) :
   Calls Try.prog 10 #[.pointer (some ⟨p, 0, none⟩), .pointer (some ⟨r, 0, none⟩)] w fun e w' =>
     e = .returned (.tuple #[.int .i64 ((takeV l (fun k => bitAt bs high (at_ + k)) (8 * bs.length - at_)).1 : Nat), .int .i64 (takeV l (fun k => bitAt bs high (at_ + k)) (8 * bs.length - at_)).2.2]) ∧
     IsRd w' r bs high (at_ + (takeV l (fun k => bitAt bs high (at_ + k)) (8 * bs.length - at_)).2.1) ∧ w.grownBy w' (some r) := by
 obtain ⟨V, hV⟩ : ∃ V, V = takeV l (fun k => bitAt bs high (at_ + k)) (8 * bs.length - at_) := ⟨_, rfl⟩
 rw [← hV]
 have HV := Lib.hid hV
 have hdead := tdead_any Bl p l w hT
 have HD := Lib.hid hdead
 have HRd := Lib.hid hR
 have hroom := Lib.hid hT.room
 have hlen := (roomV_ok hT.room).2.1
 have hok1 := Lib.hid (roomV_ok hT.room).2.2.1
 obtain ⟨⟨aL, cL, aC, cC, aS, cS, srt, hTb, hL, hC, hS, hso, b1, b2, b3, hnn⟩, -, hpB⟩ := hT
 have hpr : p ≠ r := fun e => hrp (e ▸ hpB)
 have hSr : ∀ x, aS = some x → x.block ≠ r := fun x hx e => hrp (e ▸ b3 x hx)
 have hcn : ∀ W, w.grownBy W (some r) → ∀ m, 1 ≤ m → m ≤ 15 → W.cell? ⟨p, 2 + m, none⟩ = some (.int .i64 (cn l m)) := fun W hW m h1 h2 => by
   have hc := blk_cell hTb (2 + m) (by omega)
   unfold tbV at hc
   rw [if_neg (by omega), if_neg (by omega), if_neg (by omega), Nat.add_sub_cancel_left] at hc
   exact hW.cell hc (by simpa using hpr)
 have hsl : ∀ W, w.grownBy W (some r) → W.cell? ⟨p, 18, none⟩ = some (.slice aS srt.length cS) := fun W hW => by
   have hc := blk_cell hTb 18 (by omega)
   unfold tbV at hc
   simp only [Nat.reduceEqDiff, if_false, if_true] at hc
   exact hW.cell hc (by simpa using hpr)
 have hsle := Lib.hid hso.len
 have HCN := Lib.hid hcn
 have HSL := Lib.hid hsl
 have HSO := Lib.hid hso
 have HS := Lib.hid hS
 have HSR := Lib.hid hSr
 have hsrtl : srt.length ≤ 320 := by
   have h1 := hso.len
   have h2 := length_symsTo hok1.out l.length (Nat.le_refl _)
   rw [List.take_length] at h2
   have h3 : (symsTo l l.length).length ≤ l.length := by unfold symsTo; rw [List.length_map]; exact Nat.le_trans (List.length_filter_le _ _) (by simp)
   omega
 clear hcn hsl hso hTb hL hC hS b1 b2 b3 hnn hpB hR hdead hrp hV hSr
 have hle := HRd.out.le
 go_enter Try.func10, Try.ntmps10
 go_wp2
 go_step3
 go_wp2_with (go_at_call 25; refine HD.out.mono ?_; rintro e w' ⟨rfl, rfl⟩)
 go_step3
 go_wp2
 go_loopw [6, 7, 8, 9] (fun cd fs at2 i wr => ∃ j : Nat, j ≤ 15 ∧ j ≤ 8 * bs.length - at_ ∧ i = .int .i64 (j + 1 : Nat) ∧ cd = .int .i64 (valN (fun k => bitAt bs high (at_ + k)) j : Nat) ∧ fs = .int .i64 (fcode (cn l) j + cn l j) ∧ at2 = .int .i64 (ats l (j + 1)) ∧
     Hid (fcode (cn l) j + cn l j ≤ (valN (fun k => bitAt bs high (at_ + k)) j : Nat)) ∧ Hid (V = takeGo l (fun k => bitAt bs high (at_ + k)) (8 * bs.length - at_) (15 - j) (j + 1)) ∧ Hid (IsRd wr r bs high (at_ + j)) ∧ Hid (w.grownBy wr (some r))) (fun _ _ _ i _ => 17 - (intOf i).toNat)
 case atStart => exact ⟨0, by omega, by omega, rfl, rfl, by simp [fcode, cn], by simp [ats, cn], Lib.hid (by simp [fcode, cn, valN]), HV, HRd, ⟨rfl, rfl, rfl, Nat.le_refl _, fun _ _ _ => rfl⟩⟩
 case round =>
   obtain ⟨j, hj, hjl, rfl, rfl, rfl, rfl, HF, HVj, HRj, HG⟩ := hrel
   by_cases hlt : j < 15
   · have hfuel : 15 - j = (15 - (j + 1)) + 1 := by omega
     have hgo := HVj.out
     rw [hfuel, takeGo] at hgo
     have hslr := HSL.out wr HG.out
     have hcnr := HCN.out wr HG.out (j + 1) (by omega) (by omega)
     have hal := ats_long hok1.out (n := j + 1) (by omega) (by omega)
     have hamono := ats_mono l (j + 1) 16 (by omega)
     have hann := ats_nonneg l (j + 1)
     have hft := fcode_top hroom.out (j + 1) (by omega)
     have hpw := pow_le_15 (n := j + 1) (by omega)
     have hv1 := valN_lt (fun k => bitAt bs high (at_ + k)) j
     have hpj : 2 ^ j ≤ 16384 := Nat.pow_le_pow_right (n := 2) (by omega) (by omega : j ≤ 14)
     have hfj := fcode_top hroom.out j (by omega)
     have hcb := cn_bd l (j + 1)
     have hcbj := cn_bd l j
     have hso1 := hsle.out
     clear hfuel
     by_cases hlong : hasLong l (j + 1) = false
     · rw [if_pos hlong] at hgo
       have heq : (ats l (j + 1) == (srt.length : Int)) = true := by rw [beq_iff_eq]; have := hal.2 hlong; omega
       have HGO := Lib.hid hgo
       clear hgo hal
       go_wp2
       try rw [Exit.noGoto_ret]
       go_ret2
       rw [HGO.out]
       exact ⟨rfl, HRj.out, HG.out⟩
     · rw [if_neg hlong] at hgo
       have hne : ¬ ats l (j + 1) = ats l 16 := fun e => hlong (hal.1 e)
       have heq : (ats l (j + 1) == (srt.length : Int)) = false := by rw [beq_eq_false_iff_ne]; omega
       clear hal
       by_cases hcut : 8 * bs.length - at_ < j + 1
       · rw [if_pos hcut] at hgo
         have HGO := Lib.hid hgo
         have hcc := get_cut r 1 bs high (at_ + j) wr HRj.out (by omega) (by omega)
         have HCC := Lib.hid hcc
         clear hgo hcc
         go_wp2_with (go_at_call 26; refine HCC.out.mono ?_; rintro e w2 ⟨rfl, q, rfl⟩)
         try rw [Exit.noGoto_ret]
         go_ret2
         rw [HGO.out]
         exact ⟨rfl, ⟨by obtain ⟨a, c, h1, h2, h3⟩ := HRj.out.ex; exact ⟨a, c, h1, h2, h3⟩, HRj.out.le, HRj.out.small⟩, grownBy_drewN HG.out q⟩
       · rw [if_neg hcut] at hgo
         have hval : valN (fun k => bitAt bs high (at_ + k)) (j + 1) = 2 * valN (fun k => bitAt bs high (at_ + k)) j + if bitAt bs high (at_ + j) then 1 else 0 := rfl
         have hf0 := HF.out
         obtain ⟨b, hb⟩ : ∃ b, b = bitAt bs high (at_ + j) := ⟨_, rfl⟩
         rw [← hb] at hval
         have hget := get_one r bs high (at_ + j) wr HRj.out b hb.symm (by omega)
         obtain ⟨v, hv⟩ : ∃ v, v = valN (fun k => bitAt bs high (at_ + k)) j := ⟨_, rfl⟩
         rw [← hv] at hval hv1 hf0
         obtain ⟨v', hv'⟩ : ∃ v', v' = valN (fun k => bitAt bs high (at_ + k)) (j + 1) := ⟨_, rfl⟩
         rw [← hv'] at hval hgo
         rw [show valN (fun k => bitAt bs high (at_ + k)) j = v from hv.symm] at *
         obtain ⟨c, hc0, hc1, hget', hor, hv'b⟩ : ∃ c : Int, 0 ≤ c ∧ c ≤ 1 ∧ (Calls Try.prog 26 #[.pointer (some ⟨r, 0, none⟩), .int .i64 1] wr fun e w' => e = .returned (.tuple #[.int .u32 c, .int .i64 0]) ∧ IsRd w' r bs high (at_ + j + 1) ∧ wr.grownBy w' (some r)) ∧
             bits .or .i64 ((v : Int) * 2) c = (v : Int) * 2 + c ∧ (v' : Int) = (v : Int) * 2 + c := by
           cases b
           · exact ⟨0, by omega, by omega, hget, or_shl v 0 (by omega) (by omega), by rw [hval]; simp; omega⟩
           · exact ⟨1, by omega, by omega, hget, or_shl v 1 (by omega) (by omega), by rw [hval]; simp; omega⟩
         have HGET := Lib.hid hget'
         have HV' := Lib.hid hv'
         clear hget hget' hb hval hv' hv b
         have hfs : fcode (cn l) (j + 1) = (fcode (cn l) j + cn l j) * 2 := rfl
         have hfl : fcode (cn l) (j + 1) ≤ (v' : Int) := by rw [hv'b, hfs]; omega
         by_cases hin : (v' : Int) - fcode (cn l) (j + 1) < cn l (j + 1)
         · obtain ⟨k, hfk, hkl, hk1, hk2⟩ := findSym_some (by omega) hfl hin
           rw [hfk] at hgo
           simp only at hgo
           have hsat := HSO.out.at_ k hkl (by omega)
           rw [hk1, Int.toNat_natCast, hk2] at hsat
           have hbnd := ats_mono l (j + 2) 16 (by omega)
           rw [show ats l (j + 2) = ats l (j + 1) + cn l (j + 1) from rfl] at hbnd
           have hidx : (ats l (j + 1) + ((v' : Int) - fcode (cn l) (j + 1))).toNat < srt.length := by omega
           have hidx2 : (ats l (j + 1) + ((v : Int) * 2 + c) - (fcode (cn l) j + cn l j) * 2).toNat = (ats l (j + 1) + ((v' : Int) - fcode (cn l) (j + 1))).toNat := by
             rw [hv'b, hfs]; congr 1; omega
           have hin2 : (v : Int) * 2 + c - (fcode (cn l) j + cn l j) * 2 < cn l (j + 1) := by omega
           have hlow : 0 ≤ ats l (j + 1) + ((v : Int) * 2 + c) - (fcode (cn l) j + cn l j) * 2 := by omega
           have hupp : ats l (j + 1) + ((v : Int) * 2 + c) - (fcode (cn l) j + cn l j) * 2 < (srt.length : Int) := by omega
           obtain ⟨sb, so, hsa, hsb, hscc⟩ := HS.out.at 0 _ hidx
           have hscell := hscc _ hidx
           rw [hsat, ← hidx2] at hscell
           have hsbr : sb ≠ r := HSR.out _ hsa
           have HGO := Lib.hid hgo
           have HSCELL := Lib.hid hscell
           subst hsa
           clear hgo hfk hk2 hsat hscc hscell hfs hfl hin hidx hidx2 hv'b hbnd
           go_wp2_with (go_at_call 26; refine HGET.out.mono ?_; rintro e w2 ⟨rfl, hR2, hG2⟩; have hGG := grownBy_trans HG.out hG2; have hcn2 := HCN.out w2 hGG (j + 1) (by omega) (by omega); have hsl2 := HSL.out w2 hGG; have hsc2 := hGG.cell HSCELL.out (by simpa using hsbr); have HR2 := Lib.hid hR2; have HGG := Lib.hid hGG; clear hR2 hG2 hGG)
           try rw [Exit.noGoto_ret]
           go_ret2
           rw [HGO.out]
           exact ⟨rfl, by simpa [Nat.add_assoc] using HR2.out, HGG.out⟩
         · rw [findSym_none (by omega) (fun h => hin h.2)] at hgo
           simp only at hgo
           have hin2 : cn l (j + 1) ≤ (v : Int) * 2 + c - (fcode (cn l) j + cn l j) * 2 := by omega
           have hhead : fcode (cn l) (j + 1) + cn l (j + 1) ≤ (v' : Int) := by omega
           have HGO := Lib.hid hgo
           have HFS := Lib.hid hfs
           have HVB := Lib.hid hv'b
           have HHEAD := Lib.hid hhead
           clear hgo hfs hfl hin hv'b hhead
           go_wp2_with (go_at_call 26; refine HGET.out.mono ?_; rintro e w2 ⟨rfl, hR2, hG2⟩; have hGG := grownBy_trans HG.out hG2; have hcn2 := HCN.out w2 hGG (j + 1) (by omega) (by omega); have hsl2 := HSL.out w2 hGG; have HR2 := Lib.hid hR2; have HGG := Lib.hid hGG; clear hR2 hG2 hGG)
           go_roundw
           case rel =>
             refine ⟨j + 1, by omega, by omega, by go_num, ?_, ?_, ?_, ?_, ?_, by simpa [Nat.add_assoc] using HR2, HGG⟩
             · rw [← HV'.out, HVB.out]
             · rw [HFS.out]
             · rfl
             · rw [← HV'.out]; exact HHEAD
             · exact Lib.hid HGO.out
           case measure => simp [intOf]; omega
   · obtain rfl : j = 15 := by omega
     have hgo := HVj.out
     simp only [Nat.sub_self, takeGo] at hgo
     have HGO := Lib.hid hgo
     clear hgo
     go_wp2
     try rw [Exit.noGoto_ret]
     go_ret2
     rw [HGO.out]
     exact ⟨rfl, HRj.out, HG.out⟩
end Go.Proofs.Ythmpigmmihiecaa
namespace Go.Proofs.Ythmpigmmihiecaa
open Go.RowKit
theorem row_arg {k : IntKind} {w : World} {a : Option Addr} {len cap : Nat} {zs : List Int}
   (h : (a = none ∧ len = 0 ∧ cap = 0 ∧ zs = []) ∨ ∃ x, a = some x ∧ len ≤ cap ∧ cap ≤ maxLen ∧ zs.length = cap ∧ (∀ i, i < zs.length → w.cell? (x.add i) = some (.int k (zs.getD i 0))) ∧ ∀ n ∈ zs, (Lit.int k n).wf = true) :
   Row w 1 a len cap ((zs.take len).map (Value.int k)) ∧ (∀ n ∈ zs.take len, (Lit.int k n).wf = true) ∧ (zs.take len).length = len := by
 rcases h with ⟨rfl, rfl, rfl, rfl⟩ | ⟨x, rfl, hl, hm, hz, hc, hw⟩
 · exact ⟨Row.nil w 1, by simp, by simp⟩
 · refine ⟨⟨by simp; omega, hl, hm, fun h => (by cases h), fun hn => ?_⟩, fun n hn => hw n (List.mem_of_mem_take hn), by simp; omega⟩
   have h0 := hc 0 (by omega)
   have hb := World.block_lt_of_cell? w _ h0
   obtain ⟨b, off, spot⟩ := x
   have hspot : spot = none := by simpa [Addr.add] using World.cell?_spot h0
   subst hspot
   refine ⟨b, off, rfl, by simpa [Addr.add] using hb, fun j u hj => ?_⟩
   have hj2 : j < len := by
     have := (List.getElem?_eq_some_iff.1 hj).1
     simp at this; omega
   have h1 := hc j (by omega)
   rw [Addr.add_lit] at h1
   rw [h1, ← hj]
   simp [hj2, List.getD, show j < zs.length by omega]
theorem below_drewN {B : Nat} {a w : World} (h : Below B a w) (n : Nat) : Below B a (w.drewN n) := ⟨h.os, h.tape, h.output, h.size, h.block⟩
theorem wf_i64_bd {n : Int} (h : (Lit.int .i64 n).wf = true) : -9223372036854775808 ≤ n ∧ n ≤ 9223372036854775807 := by
 simp [Lit.wf, IntKind.min, IntKind.max, IntKind.signed, IntKind.bits] at h; omega
end Go.Proofs.Ythmpigmmihiecaa
namespace Go.Proofs.Ythmpigmmihiecaa
open Go.RowKit Go.Sort
def LawEnd (w : World) (e : Ending) (w' : World) : Prop := e = .returned (.bool true) ∧ Below w.heap.size w w'
theorem read_any (a : Option Addr) (cap : Nat) (bs : List UInt8) (high : Bool) (w : World) (hr : Row w 1 a bs.length cap (bs.map fun b => Value.int .u8 b.toNat)) (hby : bs.length ≤ 140737488355328) :
   Calls Try.prog 11 #[.slice a bs.length cap, .bool high] w fun e w' => ∃ r, e = .returned (.pointer (some ⟨r, 0, none⟩)) ∧ IsRd w' r bs high 0 ∧ w.heap.size ≤ r ∧ Below w.heap.size w w' := by
 have hcl := cloneB a bs.length cap _ w hr (by intro u hu; simp at hu; obtain ⟨x, _, rfl⟩ := hu; rfl) (by omega)
 have HCL := Lib.hid hcl
 clear hcl hr
 generalize hn : bs.length = n at *
 have HN := Lib.hid hn
 clear hn
 go_enter Try.func11, Try.ntmps11
 go_wp2_with (go_at_call 27; refine HCL.out.mono ?_; rintro e w1 ⟨v, rfl, hO, hb, hnn⟩; obtain ⟨a1, c1, rfl, hr1, hb1⟩ := Row.of_owns hO; have HO := Lib.hid hO; have HB := Lib.hid hb; have HR1 := Lib.hid hr1; have HB1 := Lib.hid hb1; clear hO hb hnn hr1 hb1)
 go_ret
 have hn := HN.out
 subst hn
 refine ⟨w1.heap.size, rfl, ⟨⟨a1, c1, heapA_new _ rfl, HR1.out.mono (belowA _ _), fun x hx => ?_⟩, by omega, by omega⟩, HB.out.size, HB.out.alloc (by exact HB.out.size) _⟩
 have := (HO.out.lt x.block (by simp [Value.ownBlock, hx])).2
 omega
def l4 : List Int := [2, 1, 3, 3]
theorem room4 : 0 ≤ roomV l4 := by decide
theorem code40 : codeAt l4 0 = 2 := by decide
theorem code43 : codeAt l4 3 = 7 := by decide
theorem take4 : ∀ f : Nat → Bool, f 0 = true → f 1 = true → f 2 = false → takeV l4 f 8 = (2, 3, 0) := by
 intro f h0 h1 h2
 have e1 : valN f 1 = 1 := by simp [valN, h0]
 have e2 : valN f 2 = 3 := by simp [valN, h0, h1]
 have e3 : valN f 3 = 6 := by simp [valN, h0, h1, h2]
 have g1 : findSym l4 1 1 = none := by decide
 have g2 : findSym l4 2 3 = none := by decide
 have g3 : findSym l4 3 6 = some 2 := by decide
 have k1 : hasLong l4 1 = true := by decide
 have k2 : hasLong l4 2 = true := by decide
 have k3 : hasLong l4 3 = true := by decide
 simp [takeV, takeGo, e1, e2, e3, g1, g2, g3, k1, k2, k3]
theorem works4 (w : World) : Calls Try.prog 4 #[] w fun e w' => e = .returned (.bool true) ∧ Below w.heap.size w w' := by
 go_enter Try.func4, Try.ntmps4
 go_wp2_with fail
 have hr0 : Row (w.alloc (.cells #[.int .i64 2, .int .i64 1, .int .i64 3, .int .i64 3] 3)) 1 (some ⟨w.heap.size, 0, none⟩) 4 4 (l4.map (Value.int .i64)) := row_lit w #[.int .i64 2, .int .i64 1, .int .i64 3, .int .i64 3] 3 (by simp [maxLen])
 have hb0 := belowA w (.cells #[.int .i64 2, .int .i64 1, .int .i64 3, .int .i64 3] 3)
 generalize w.alloc (.cells #[.int .i64 2, .int .i64 1, .int .i64 3, .int .i64 3] 3) = w0 at *
 refine (codes_ok _ 4 4 l4 w0 hr0 room4).mono ?_
 rintro e w1 ⟨vC, rfl, hC, hb1⟩
 obtain ⟨aC, cC, rfl, hCr, _⟩ := Row.of_owns hC
 have hbw1 := hb0.trans (hb1.mono hb0.size)
 clear hC hr0 hb0 hb1
 go_wp2_with fail
 have hr2 : Row (w1.alloc (.cells #[.int .i64 2, .int .i64 1, .int .i64 3, .int .i64 3] 3)) 1 (some ⟨w1.heap.size, 0, none⟩) 4 4 (l4.map (Value.int .i64)) := row_lit w1 #[.int .i64 2, .int .i64 1, .int .i64 3, .int .i64 3] 3 (by simp [maxLen])
 have hb2 := belowA w1 (.cells #[.int .i64 2, .int .i64 1, .int .i64 3, .int .i64 3] 3)
 generalize w1.alloc (.cells #[.int .i64 2, .int .i64 1, .int .i64 3, .int .i64 3] 3) = w2 at *
 refine (new_ok 19 stable19 _ 4 4 l4 w2 hr2 room4 (by omega) (by simp)).mono ?_
 rintro e w3 ⟨p, rfl, hT, hb3⟩
 have hCr3 := (hCr.mono hb2).mono hb3
 have hbw3 := (hbw1.trans (hb2.mono hbw1.size)).trans (hb3.mono (Nat.le_trans hbw1.size hb2.size))
 obtain ⟨bC, oC, rfl, _, hcc⟩ := Row.at (enc := id) (.bool false) (l := fl 4 (cdV l4 4)) (by simpa using hCr3) 0 (by omega)
 have hc0 : w3.cell? ⟨bC, oC, none⟩ = some (.int .u32 2) := (hcc 0 (by omega)).trans (by rw [id, show (fl 4 (cdV l4 4)).getD 0 (.bool false) = cdV l4 4 0 from rfl]; unfold cdV; rw [if_pos (by omega), code40])
 have hc3 : w3.cell? ⟨bC, oC + 3, none⟩ = some (.int .u32 7) := (hcc 3 (by omega)).trans (by rw [id, show (fl 4 (cdV l4 4)).getD 3 (.bool false) = cdV l4 4 3 from rfl]; unfold cdV; rw [if_pos (by omega), code43])
 clear hCr hCr3 hcc hb2 hb3 hr2 hbw1
 have HT := Lib.hid hT
 clear hT
 have hs3 := hbw3.size
 have HBW3 := Lib.hid hbw3
 clear hbw3
 go_wp2_with fail
 have hr4 : Row (w3.alloc (.cells #[.int .u8 192] 5)) 1 (some ⟨w3.heap.size, 0, none⟩) 1 1 ([192].map fun b : UInt8 => Value.int .u8 b.toNat) := row_lit w3 #[.int .u8 192] 5 (by simp [maxLen])
 have hb4 := belowA w3 (.cells #[.int .u8 192] 5)
 have hs4 := sizeA w3 (.cells #[.int .u8 192] 5)
 generalize w3.alloc (.cells #[.int .u8 192] 5) = w4 at *
 refine (read_any _ 1 [192] true w4 hr4 (by simp)).mono ?_
 rintro e w5 ⟨r, rfl, hR, hrl, hb5⟩
 have hT5 := (HT.out.mono hb4).mono hb5
 have hbw5 := (HBW3.out.trans (hb4.mono hs3)).trans (hb5.mono (by omega))
 have hpr := fun b (h : w2.heap.size ≤ b) => h
 clear hr4 hb4 hb5
 go_wp2_with fail
 have hTr : IsTb w5 (fun b => b ≠ r) p l4 := by
   refine hT5.weaken ?_
   intro b h
   have h2 : b < w3.heap.size := h.2
   show b ≠ r
   omega
 have htg := tget_any _ p r l4 [192] true 0 w5 hTr hR (by simp)
 have hv := take4 (fun k => bitAt [192] true (0 + k)) (by decide) (by decide) (by decide)
 rw [show 8 * ([192] : List UInt8).length - 0 = 8 from rfl, hv] at htg
 refine htg.mono ?_
 rintro e w6 ⟨rfl, hR6, hg6⟩
 have HB := Lib.hid (hbw5.grown hg6 hbw5.size (fun k hk => by cases hk; omega))
 clear hR hT5 hbw5 hTr hv hR6 hg6
 go_wp2
 go_ret
 exact ⟨rfl, HB.out⟩
def finB (l : List Int) (k : Nat) : Bool := (List.range k).all fun j => decide (0 ≤ l.getD j 0) && decide (l.getD j 0 ≤ 2147483647)
theorem finB_succ (l : List Int) (k : Nat) : finB l (k + 1) = (finB l k && (decide (0 ≤ l.getD k 0) && decide (l.getD k 0 ≤ 2147483647))) := by
 unfold finB
 rw [List.range_succ, List.all_append]
 simp
def fitB (l : List Int) (m : Int) (k : Nat) : Bool := if 0 ≤ m ∧ m < k then decide ((symsTo l l.length).length ≤ 2 ^ m.toNat) else true
theorem fitB_hit {l : List Int} {m : Int} {k : Nat} (h : (k : Int) = m) : fitB l m (k + 1) = (fitB l m k && decide ((symsTo l l.length).length ≤ 2 ^ k)) := by
 subst h
 unfold fitB
 rw [if_pos ⟨by omega, by omega⟩, if_neg (by omega), Int.toNat_natCast, Bool.true_and]
theorem fitB_miss {l : List Int} {m : Int} {k : Nat} (h : (k : Int) ≠ m) : fitB l m (k + 1) = fitB l m k := by
 unfold fitB
 by_cases h1 : 0 ≤ m ∧ m < k
 · rw [if_pos h1, if_pos ⟨h1.1, by omega⟩]
 · rw [if_neg h1, if_neg (by omega)]
def begB (n : Nat) (m : Int) : Bool := decide (1 ≤ n ∧ n ≤ 320 ∧ 1 ≤ m ∧ m ≤ 15)
theorem okC_iff (l : List Int) (m : Int) : ((begB l.length m && finB l l.length) && fitB l m 16) = true ↔ OkC l m := by
 rw [Bool.and_eq_true, Bool.and_eq_true]
 unfold begB finB
 rw [decide_eq_true_iff, List.all_eq_true]
 constructor
 · rintro ⟨⟨⟨h1, h2, h3, h4⟩, h5⟩, h6⟩
   unfold fitB at h6
   rw [if_pos ⟨by omega, by omega⟩, decide_eq_true_iff] at h6
   refine ⟨h1, h2, h3, h4, fun j hj => ?_, h6⟩
   have := h5 j (List.mem_range.2 hj)
   simpa using this
 · intro h
   refine ⟨⟨⟨h.pos, h.le, h.m1, h.m15⟩, fun j hj => ?_⟩, ?_⟩
   · have := h.rng j (List.mem_range.1 hj)
     rw [Bool.and_eq_true, decide_eq_true_iff, decide_eq_true_iff]
     exact this
   · unfold fitB
     have h1 := h.m1
     have h2 := h.m15
     rw [if_pos ⟨by omega, by omega⟩, decide_eq_true_iff]
     exact h.fit
theorem drewN_two (w : World) (p q : Nat) : (w.drewN p).drewN q = w.drewN (p + q) := by simp [World.drewN, Nat.add_assoc]
theorem natV_map (L : List Nat) : natV L = (L.map fun n : Nat => (n : Int)).map (Value.int .i64) := by
 unfold natV
 rw [List.map_map]; rfl
set_option maxRecDepth 20000 in
theorem law_lens {w : World} {a : Option Addr} {n cap : Nat} {l : List Int} {m : Int} (hr : Row w 1 a n cap (l.map (Value.int .i64))) (hm : -9223372036854775808 ≤ m ∧ m ≤ 9223372036854775807) :
   Calls Try.prog 3 #[.slice a n cap, .int .i64 m] w (LawEnd w) := by
 have hl := hr.len1
 have hn63 := hr.2.2.1
 have hcapn := hr.2.1
 unfold maxLen at hn63
 by_cases hbig : 400 < (n : Int)
 · go_enter Try.func3, Try.ntmps3
   go_wp2_with (go_at_call 4; refine (works4 _).mono ?_; rintro e w' ⟨rfl, hb⟩)
   go_ret
   exact ⟨rfl, hb⟩
 have hn400 : n ≤ 400 := by omega
 have HL := Lib.hid hl
 have HR := Lib.hid hr
 have HLN := Lib.hid (lengths_any hr hm)
 clear hl hr
 go_enter Try.func3, Try.ntmps3
 go_upto_region 3 with fail
 go_cut [5, 6] from 14 (fun v5 v6 wx => v5 = .int .i64 0 ∧ v6 = .bool (begB n m) ∧ w = wx)
 case first =>
   as_aux_lemma =>
     have hb : ∀ b, begB n m = b → Value.bool b = .bool (begB n m) := fun b h => by rw [h]
     have HB := Lib.hid hb
     clear hb HR HLN
     by_cases h1 : (n : Int) ≥ 1
     · by_cases h2 : (n : Int) ≤ 320
       · by_cases h3 : m ≥ 1
         · by_cases h4 : m ≤ 15
           · go_wp2_with fail
             go_meet
             exact ⟨rfl, HB.out _ (decide_eq_true (by omega)), rfl⟩
           · go_wp2_with fail
             go_meet
             exact ⟨rfl, HB.out _ (decide_eq_false (by omega)), rfl⟩
         · go_wp2_with fail
           go_meet
           exact ⟨rfl, HB.out _ (decide_eq_false (by omega)), rfl⟩
       · go_wp2_with fail
         go_meet
         exact ⟨rfl, HB.out _ (decide_eq_false (by omega)), rfl⟩
     · go_wp2_with fail
       go_meet
       exact ⟨rfl, HB.out _ (decide_eq_false (by omega)), rfl⟩
 case rest =>
   obtain ⟨rfl, rfl, rfl⟩ := hcut
   go_wp2_with fail
   go_loopw [5, 6, 7] (fun v5 v6 v7 wr => ∃ k : Nat, v7 = .int .i64 k ∧ k ≤ n ∧ v5 = .int .i64 ((symsTo l k).length : Nat) ∧ v6 = .bool (begB n m && finB l k) ∧ w = wr) (fun _ _ v _ => n - (intOf v).toNat)
   case atStart => exact ⟨0, rfl, Nat.zero_le _, rfl, by simp [finB], rfl⟩
   case round =>
     obtain ⟨k, rfl, hk, rfl, rfl, rfl⟩ := hrel
     by_cases hlt : k < n
     case pos =>
       have hcd : decide ((k : Int) < (n : Int)) = true := decide_eq_true (by omega)
       have hkn : (k : Int) < (n : Int) := by omega
       obtain ⟨b, off, rfl, -, hc⟩ := HR.out.at 0 k hlt
       have z1 := hc k hlt
       have HS := Lib.hid (symsTo_succ l k)
       have HF := Lib.hid (finB_succ l k)
       have hlen : (symsTo l k).length ≤ k := by
         rw [← posTo_syms, List.length_map]; exact posTo_len l k
       generalize l.getD k 0 = x at z1 HS HF
       obtain ⟨N, hN⟩ : ∃ N, (symsTo l k).length = N := ⟨_, rfl⟩
       rw [hN] at hlen ⊢
       have HN := Lib.hid hN
       obtain ⟨F, hF⟩ : ∃ F, (begB n m && finB l k) = F := ⟨_, rfl⟩
       rw [hF]
       have HFF := Lib.hid hF
       clear hc hN hF HLN HR
       go_upto_region 7 with fail
       go_cut [6] from 34 to 61 (fun v6 wx => v6 = .bool (F && (decide (0 ≤ x) && decide (x ≤ 2147483647))) ∧ w = wx)
       case first =>
         as_aux_lemma =>
           cases F with
           | false =>
             go_wp2_with fail
             go_meet
             exact ⟨rfl, rfl⟩
           | true =>
             by_cases h1 : x ≥ 0
             · have d0 : decide (0 ≤ x) = true := decide_eq_true h1
               by_cases h2 : x ≤ 2147483647
               · have d1 : decide (x ≤ 2147483647) = true := decide_eq_true h2
                 go_wp2_with fail
                 go_meet
                 exact ⟨by rw [d0, d1]; rfl, rfl⟩
               · have d1 : decide (x ≤ 2147483647) = false := decide_eq_false h2
                 go_wp2_with fail
                 go_meet
                 exact ⟨by rw [d0, d1]; rfl, rfl⟩
             · have d0 : decide (0 ≤ x) = false := decide_eq_false h1
               go_wp2_with fail
               go_meet
               exact ⟨by rw [d0]; rfl, rfl⟩
       case rest =>
         obtain ⟨rfl, rfl⟩ := hcut
         by_cases h3 : x > 0
         · go_wp2_with fail
           go_roundw
           case rel => exact ⟨k + 1, by go_num, by omega, by rw [HS.out, if_pos h3, List.length_append, HN.out]; rfl, by rw [HF.out, ← HFF.out]; simp only [Bool.and_assoc], trivial⟩
           case measure => simp [intOf]; omega
         · go_wp2_with fail
           go_roundw
           case rel => exact ⟨k + 1, by go_num, by omega, by rw [HS.out, if_neg h3, List.append_nil, HN.out], by rw [HF.out, ← HFF.out]; simp only [Bool.and_assoc], trivial⟩
           case measure => simp [intOf]; omega
     have hkn : k = n := by omega
     subst hkn
     have hcd : decide ((k : Int) < (k : Int)) = false := decide_eq_false (by omega)
     obtain ⟨N, hN⟩ : ∃ N, (symsTo l k).length = N := ⟨_, rfl⟩
     obtain ⟨F, hF⟩ : ∃ F, (begB k m && finB l k) = F := ⟨_, rfl⟩
     have hNk : N ≤ k := by rw [← hN, ← posTo_syms, List.length_map]; exact posTo_len l k
     rw [hN, hF]
     have HN := Lib.hid (show (symsTo l l.length).length = N by rw [HL.out]; exact hN)
     have HF := Lib.hid hF
     clear hN hF
     go_wp2_with fail
     go_loopw [6, 8, 9] (fun v6 v8 v9 wr => ∃ j : Nat, v9 = .int .i64 j ∧ j ≤ 16 ∧ v8 = .int .i64 (2 ^ j : Nat) ∧ v6 = .bool (F && fitB l m j) ∧ w = wr) (fun _ _ v _ => 16 - (intOf v).toNat)
     case atStart => exact ⟨0, rfl, Nat.zero_le _, rfl, by rw [show fitB l m 0 = true from if_neg (by omega)]; simp, rfl⟩
     case round =>
       obtain ⟨j, rfl, hj, rfl, rfl, rfl⟩ := hrel
       by_cases hjl : j ≤ 15
       case pos =>
         have hcd : decide ((j : Int) ≤ 15) = true := decide_eq_true (by omega)
         have hp : 1 ≤ 2 ^ j ∧ 2 ^ j ≤ 32768 := by
           have : ∀ m, m ≤ 15 → 1 ≤ 2 ^ m ∧ 2 ^ m ≤ 32768 := by decide
           exact this j hjl
         obtain ⟨P, hP⟩ : ∃ P, 2 ^ j = P := ⟨_, rfl⟩
         rw [hP] at hp ⊢
         have HP := Lib.hid (show 2 ^ (j + 1) = 2 * P by rw [Nat.pow_succ, hP]; omega)
         have HPJ := Lib.hid hP
         clear hP
         have hmul : IntKind.i64.wrap (2 * (P : Int)) = ((2 * P : Nat) : Int) := by rw [IntWalk.i64_in _ (by omega)]; omega
         by_cases he : (j : Int) = m
         · have he1 : decide ((j : Int) = m) = true := decide_eq_true he
           have he2 : ((j : Int) == m) = true := by rw [he]; simp
           have HH := Lib.hid (fitB_hit (l := l) he)
           rw [HN.out, HPJ.out] at HH
           cases hFF : (F && fitB l m j) with
           | false =>
             have HR2 := Lib.hid (show Value.bool false = .bool (F && fitB l m (j + 1)) by rw [HH.out, ← Bool.and_assoc, hFF]; rfl)
             clear hFF HLN HR
             go_wp2_with fail
             go_roundw
             case rel => exact ⟨j + 1, by go_num, by omega, by rw [HP.out]; simp, HR2.out, by first | rfl | trivial⟩
             case measure => simp [intOf]; omega
           | true =>
             by_cases hle : N ≤ P
             · have hle1 : decide ((N : Int) ≤ (P : Int)) = true := decide_eq_true (by omega)
               have hle2 : decide (N ≤ P) = true := decide_eq_true hle
               have HR2 := Lib.hid (show Value.bool true = .bool (F && fitB l m (j + 1)) by rw [HH.out, ← Bool.and_assoc, hFF, hle2]; rfl)
               clear hFF HLN HR
               go_wp2_with fail
               go_roundw
               case rel => exact ⟨j + 1, by go_num, by omega, by rw [HP.out]; simp, HR2.out, by first | rfl | trivial⟩
               case measure => simp [intOf]; omega
             · have hle1 : decide ((N : Int) ≤ (P : Int)) = false := decide_eq_false (by omega)
               have hle2 : decide (N ≤ P) = false := decide_eq_false hle
               have HR2 := Lib.hid (show Value.bool false = .bool (F && fitB l m (j + 1)) by rw [HH.out, ← Bool.and_assoc, hFF, hle2]; rfl)
               clear hFF HLN HR
               go_wp2_with fail
               go_roundw
               case rel => exact ⟨j + 1, by go_num, by omega, by rw [HP.out]; simp, HR2.out, by first | rfl | trivial⟩
               case measure => simp [intOf]; omega
         · have he1 : decide ((j : Int) = m) = false := decide_eq_false he
           have he2 : ((j : Int) == m) = false := by simp [he]
           have HH := Lib.hid (fitB_miss (l := l) he)
           clear HLN HR
           go_wp2_with fail
           go_roundw
           case rel => exact ⟨j + 1, by go_num, by omega, by rw [HP.out]; simp, by rw [HH.out], by first | rfl | trivial⟩
           case measure => simp [intOf]; omega
       have hj16 : j = 16 := by omega
       subst hj16
       have hcd : decide (((16 : Nat) : Int) ≤ 15) = false := decide_eq_false (by omega)
       have HOK := Lib.hid (show (F && fitB l m 16) = true ↔ OkC l m by rw [← HF.out, ← okC_iff, HL.out])
       generalize (F && fitB l m 16) = G at HOK
       have HR1 := Lib.hid HR.out
       go_wp2_with fail
       refine HLN.out.mono ?_
       rintro e w1 ⟨hb1, hcase⟩
       have hr1 := HR1.out.mono hb1
       rcases hcase with ⟨hno, rfl⟩ | ⟨hok, bo, L, rfl, hO, hG⟩
       · have hGf : G = false := by
           cases hG : G with
           | false => rfl
           | true => exact (hno (HOK.out.1 hG)).elim
         subst hGf
         have HB1 := Lib.hid hb1
         clear hb1 hr1 HR HR1 HLN
         go_wp2_with (go_at_call 4; refine (works4 _).mono ?_; rintro e w2 ⟨rfl, hb2⟩; have HB2 := Lib.hid hb2; clear hb2)
         go_ret
         exact ⟨rfl, HB1.out.trans (HB2.out.mono HB1.out.size)⟩
       have hGt : G = true := HOK.out.2 hok
       subst hGt
       have HG := Lib.hid hG
       have HB1 := Lib.hid hb1
       have HR2 := Lib.hid hr1
       have hLl : L.length = k := by rw [hG.len, HL.out]
       have hll := HL.out
       rw [hll]
       have hpos := hok.pos
       have hle3 := hok.le
       have hm1 := hok.m1
       have hm15 := hok.m15
       have hrow : Row w1 1 (some ⟨bo, 0, none⟩) k k ((L.map fun n : Nat => (n : Int)).map (Value.int .i64)) := by
         have h := hO.row (by rw [hLl]; unfold maxLen; omega)
         rw [hLl, natV_map] at h
         exact h
       have hroom := room_good hG hpos hle3 (by omega)
       have hmay : decide (0 ≤ roomV (L.map fun n : Nat => (n : Int))) = true := decide_eq_true (by rw [hroom]; omega)
       have HMAY := Lib.hid (may_any (some ⟨bo, 0, none⟩) k k _ w1 hrow)
       rw [hmay] at HMAY
       have HROW := Lib.hid hrow
       have HROOM := Lib.hid hroom
       have HLL := Lib.hid hLl
       have HO := Lib.hid hO
       clear hb1 hr1 HR HR1 HLN hrow hroom hmay hO hG hok HOK
       go_wp2_with (go_at_call 6; refine HMAY.out.mono ?_; rintro e w2 ⟨rfl, rfl⟩)
       obtain ⟨b, off, hab, -, hcl⟩ := HR2.out.at 0 0 (by omega)
       subst hab
       have HCL := Lib.hid hcl
       clear hcl HMAY
       go_loopw [12] (fun v wr => ∃ i : Nat, v = .int .i64 i ∧ i ≤ k ∧ Hid (∃ q, wr = w1.drewN q)) (fun v _ => k - (intOf v).toNat)
       case atStart => exact ⟨0, rfl, Nat.zero_le _, Lib.hid ⟨0, rfl⟩⟩
       case round =>
         obtain ⟨i, rfl, hi, HQ⟩ := hrel
         by_cases hlt : i < k
         case pos =>
           have hcd : decide ((i : Int) < (k : Int)) = true := decide_eq_true (by omega)
           have hik : (i : Int) < (k : Int) := by omega
           obtain ⟨q, hq⟩ := HQ.out
           have z1 : wr.cell? ⟨b, off + i, none⟩ = some (.int .i64 (l.getD i 0)) := by rw [hq]; exact HCL.out i hlt
           have z2 : wr.cell? ⟨bo, i, none⟩ = some (.int .i64 (L.getD i 0 : Nat)) := by rw [hq]; exact HO.out.cell (by rw [HLL.out]; exact hlt)
           have hle := HG.out.le i
           have hps := HG.out.pos i (by rw [HL.out]; exact hlt)
           have hone := HG.out.one
           rw [HN.out] at hone
           have hone2 : N = 1 → L.getD i 0 ≤ 1 := fun h => hone h i
           have HQQ := Lib.hid hq
           clear hq hone
           obtain ⟨c, hc⟩ : ∃ c, l.getD i 0 = c := ⟨_, rfl⟩
           obtain ⟨x, hx⟩ : ∃ x, L.getD i 0 = x := ⟨_, rfl⟩
           rw [hc] at z1 hps
           rw [hx] at z2 hps hle hone2
           have HC := Lib.hid hc
           have HX := Lib.hid hx
           clear hc hx
           have d1 : decide ((x : Int) > m) = false := decide_eq_false (by omega)
           go_upto_region 24 with fail
           go_cut [144] from 109 to 205 (fun v wx => v = .bool false ∧ Hid (∃ q, wx = w1.drewN q))
           case first =>
             as_aux_lemma =>
               clear HLL HO HG HR2 HROW HROOM HCL
               have key : (c > 0 ∧ 0 < x ∨ ¬ c > 0 ∧ x = 0) ∧ (N = 1 ∧ x ≤ 1 ∨ N ≠ 1) := ⟨by omega, by by_cases h : N = 1; exact .inl ⟨h, hone2 h⟩; exact .inr h⟩
               obtain ⟨k1, k2⟩ := key
               clear hps hone2
               rcases k1 with ⟨k1, k1x⟩ | ⟨k1, k1x⟩
               · have e1 : decide (c > 0) = true := decide_eq_true k1
                 have e2 : decide ((x : Int) > 0) = true := decide_eq_true (by omega)
                 rcases k2 with ⟨k2, k2x⟩ | k2
                 · have e3 : decide ((N : Int) = 1) = true := decide_eq_true (by omega)
                   have e3b : ((N : Int) == 1) = true := e3
                   have e4 : decide ((x : Int) > 1) = false := decide_eq_false (by omega)
                   have e4b : ¬ 1 < x := by omega
                   go_quiet (fail)
                   go_wp2
                   go_meet
                   exact ⟨rfl, Lib.hid ⟨_, by rw [HQQ.out]; exact drewN_two _ _ _⟩⟩
                 · have e3 : decide ((N : Int) = 1) = false := decide_eq_false (by omega)
                   have e3b : ((N : Int) == 1) = false := e3
                   go_quiet (fail)
                   go_wp2
                   go_meet
                   exact ⟨rfl, Lib.hid ⟨_, by rw [HQQ.out]; exact drewN_two _ _ _⟩⟩
               · have e1 : decide (c > 0) = false := decide_eq_false k1
                 have e2 : decide ((x : Int) > 0) = false := decide_eq_false (by omega)
                 have e2b : ¬ 0 < x := by omega
                 rcases k2 with ⟨k2, k2x⟩ | k2
                 · have e3 : decide ((N : Int) = 1) = true := decide_eq_true (by omega)
                   have e3b : ((N : Int) == 1) = true := e3
                   have e4 : decide ((x : Int) > 1) = false := decide_eq_false (by omega)
                   have e4b : ¬ 1 < x := by omega
                   clear k1x k2
                   go_quiet (fail)
                   go_wp2
                   go_meet
                   exact ⟨rfl, Lib.hid ⟨_, by rw [HQQ.out]; exact drewN_two _ _ _⟩⟩
                 · have e3 : decide ((N : Int) = 1) = false := decide_eq_false (by omega)
                   have e3b : ((N : Int) == 1) = false := e3
                   clear k1x
                   go_quiet (fail)
                   go_wp2
                   go_meet
                   exact ⟨rfl, Lib.hid ⟨_, by rw [HQQ.out]; exact drewN_two _ _ _⟩⟩
           case rest =>
             obtain ⟨rfl, HQ2⟩ := hcut
             clear z1 z2 d1 HQQ
             go_wp2_with fail
             go_loopw [13] (fun v wr => ∃ j : Nat, v = .int .i64 j ∧ j ≤ i ∧ Hid (∃ q, wr = w1.drewN q)) (fun v _ => i - (intOf v).toNat)
             case atStart => exact ⟨0, rfl, Nat.zero_le _, HQ2⟩
             case round =>
               obtain ⟨j, rfl, hj, HQ3⟩ := hrel
               by_cases hji : j < i
               case neg =>
                 have hje : j = i := by omega
                 subst hje
                 have hcd2 : decide ((j : Int) < (j : Int)) = false := decide_eq_false (by omega)
                 go_wp2_with fail
                 go_roundw
                 case rel => exact ⟨j + 1, by go_num, by omega, HQ3⟩
                 case measure => simp [intOf]; omega
               have hcd2 : decide ((j : Int) < (i : Int)) = true := decide_eq_true (by omega)
               have hjk : (j : Int) < (k : Int) := by omega
               obtain ⟨q3, hq3⟩ := HQ3.out
               have y1 : wr.cell? ⟨b, off + i, none⟩ = some (.int .i64 c) := by rw [hq3, ← HC.out]; exact HCL.out i hlt
               have y2 : wr.cell? ⟨bo, i, none⟩ = some (.int .i64 x) := by rw [hq3, ← HX.out]; exact HO.out.cell (by rw [HLL.out]; exact hlt)
               have y3 : wr.cell? ⟨b, off + j, none⟩ = some (.int .i64 (l.getD j 0)) := by rw [hq3]; exact HCL.out j (by omega)
               have y4 : wr.cell? ⟨bo, j, none⟩ = some (.int .i64 (L.getD j 0 : Nat)) := by rw [hq3]; exact HO.out.cell (by rw [HLL.out]; omega)
               have m1 := HG.out.mono j i (by rw [HL.out]; omega) (by rw [HL.out]; exact hlt)
               have m2 := HG.out.mono i j (by rw [HL.out]; exact hlt) (by rw [HL.out]; omega)
               rw [HC.out, HX.out] at m1 m2
               generalize l.getD j 0 = cj at y3 m1 m2
               generalize L.getD j 0 = xj at y4 m1 m2
               have HQ4 := Lib.hid hq3
               clear hq3
               go_upto_region 29 with fail
               go_cut [205] from 145 to 205 (fun v wx => v = .bool false ∧ Hid (∃ q, wx = w1.drewN q))
               case first =>
                 as_aux_lemma =>
                   clear HLL HO HG HR2 HROW HROOM HCL hps hone2 hle
                   by_cases a1 : cj > 0
                   · have e1 : decide (cj > 0) = true := decide_eq_true a1
                     by_cases a2 : c > 0
                     · have e2 : decide (c > 0) = true := decide_eq_true a2
                       by_cases a3 : cj > c
                       · have e3 : decide (cj > c) = true := decide_eq_true a3
                         have e4 : decide (c > cj) = false := decide_eq_false (by omega)
                         have e5 : decide ((xj : Int) > x) = false := decide_eq_false (by have := m1 a2 a3; omega)
                         have e5b : ¬ x < xj := by have := m1 a2 a3; omega
                         clear m1 m2
                         go_quiet (fail)
                         go_wp2
                         go_meet
                         exact ⟨rfl, Lib.hid ⟨_, by rw [HQ4.out]; exact drewN_two _ _ _⟩⟩
                       · have e3 : decide (cj > c) = false := decide_eq_false a3
                         by_cases a4 : c > cj
                         · have e4 : decide (c > cj) = true := decide_eq_true a4
                           have e5 : decide ((x : Int) > xj) = false := decide_eq_false (by have := m2 a1 a4; omega)
                           have e5b : ¬ xj < x := by have := m2 a1 a4; omega
                           clear m1 m2
                           go_quiet (fail)
                           go_wp2
                           go_meet
                           exact ⟨rfl, Lib.hid ⟨_, by rw [HQ4.out]; exact drewN_two _ _ _⟩⟩
                         · have e4 : decide (c > cj) = false := decide_eq_false a4
                           clear m1 m2
                           go_quiet (fail)
                           go_wp2
                           go_meet
                           exact ⟨rfl, Lib.hid ⟨_, by rw [HQ4.out]; exact drewN_two _ _ _⟩⟩
                     · have e2 : decide (c > 0) = false := decide_eq_false a2
                       clear m1 m2
                       go_quiet (fail)
                       go_wp2
                       go_meet
                       exact ⟨rfl, Lib.hid ⟨_, by rw [HQ4.out]; exact drewN_two _ _ _⟩⟩
                   · have e1 : decide (cj > 0) = false := decide_eq_false a1
                     clear m1 m2
                     go_quiet (fail)
                     go_wp2
                     go_meet
                     exact ⟨rfl, Lib.hid ⟨_, by rw [HQ4.out]; exact drewN_two _ _ _⟩⟩
               case rest =>
                 obtain ⟨rfl, HQ5⟩ := hcut
                 clear y1 y2 y3 y4 HQ4
                 go_wp2_with fail
                 go_roundw
                 case rel => exact ⟨j + 1, by go_num, by omega, HQ5⟩
                 case measure => simp [intOf]; omega
         have hie : i = k := by omega
         subst hie
         have hcd : decide ((i : Int) < (i : Int)) = false := decide_eq_false (by omega)
         obtain ⟨q, hq⟩ := HQ.out
         subst hq
         have HCO := Lib.hid (rcomplete_any (some ⟨bo, 0, none⟩) i i _ (w1.drewN q) (HROW.out.mono (below_drewN (Below.refl _ _) q)))
         have HBQ := Lib.hid (show Below w.heap.size w (w1.drewN q) from below_drewN HB1.out q)
         have hfull : 2 ≤ N → (roomV (L.map fun n : Nat => (n : Int)) == 32768) = true := fun h => by
           have h1 := HG.out.full (by rw [HN.out]; exact h)
           rw [HROOM.out, h1]; rfl
         by_cases hN2 : N < 2
         · have hn1 : decide ((N : Int) < 2) = true := decide_eq_true (by omega)
           clear hfull
           go_wp2_with (go_at_call 4; refine (works4 _).mono ?_; rintro e w2 ⟨rfl, hb2⟩; have HB2 := Lib.hid hb2; clear hb2)
           go_ret
           exact ⟨rfl, HBQ.out.trans (HB2.out.mono HBQ.out.size)⟩
         · have hn1 : decide ((N : Int) < 2) = false := decide_eq_false (by omega)
           rw [hfull (by omega)] at HCO
           clear hfull
           go_wp2_with (first
             | (go_at_call 7; refine HCO.out.mono ?_; rintro e w2 ⟨rfl, rfl⟩)
             | (go_at_call 4; refine (works4 _).mono ?_; rintro e w2 ⟨rfl, hb2⟩; have HB2 := Lib.hid hb2; clear hb2))
           go_ret
           exact ⟨rfl, HBQ.out.trans (HB2.out.mono HBQ.out.size)⟩
end Go.Proofs.Ythmpigmmihiecaa
