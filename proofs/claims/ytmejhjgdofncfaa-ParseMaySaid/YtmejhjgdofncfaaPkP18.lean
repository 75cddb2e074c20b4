/-
  Our texts QSym5 to QStab2, in one.
-/
import Derived.Test.YtmejhjgdofncfaaPkP17
import Derived.Test.YtmejhjgdofncfaaProg
import Derived.BigQuiet
import Derived.Deep.QuietTactic
/-
  Go's stable merge in place, at elements of one cell ([]int): two runs, the walk (m ≤ mid).
-/
namespace Go.Proofs.Ytmejhjgdofncfaa
open Go.RowKit Go.Sort

set_option maxRecDepth 8000 in
set_option maxHeartbeats 8000000 in
theorem sym_loQ {α : Type} [Inhabited α] (enc : α → Value) (hE : ∀ x, ∃ a n c, enc x = .slice a n c) (cf : α → α → Int) (lt : α → α → Bool) (D : α → Prop) (f : FuncId) (cb : Array Value) (g cap : Nat) (rest : List Value) (n : Nat) (w0 : World)
    (hC : CmpQ Try.prog f cb enc cf D w0 g) (hsz : n < 4611686018427387904) (a m b mid s0 r0 : Nat) (d : Array α) (w : World) (hdn : d.size = n) (hS : SB enc w0 g 25 rest d w) (hD : ∀ i, i < d.size → D d[i]!) (ham : a + 1 < m) (hmb : m + 1 < b) (hb : b ≤ n) (hA : Agree (ltOf cf) lt d a m b)
    (hmid : mid = (a + b) / 2) (hcase : m ≤ mid) (hs0 : s0 = a) (hr0 : r0 = m) (hfin : FinSaidQ enc lt f cb g cap rest n w0 a m b mid s0 r0 d) :
    Calls Try.prog 71 #[.slice (some ⟨g, 0, none⟩) n cap, .int .i64 a, .int .i64 m, .int .i64 b, .func (.func f) #[] cb] w fun e w' => MergePQ enc lt g a b rest d w0 e w' := by
  have hne1 : ((m : Int) - (a : Int) == 1) = false := by rw [beq_eq_false_iff_ne]; omega
  have hne2 : ((b : Int) - (m : Int) == 1) = false := by rw [beq_eq_false_iff_ne]; omega
  have hmid1 : ((a : Int) + (b : Int)) / 2 = (mid : Int) := by omega
  have hma : a < mid := by omega
  have hmB : mid < b := by omega
  have hsr : s0 ≤ r0 := by omega
  have hs0a : a ≤ s0 := by omega
  have hr0m : r0 ≤ m := by omega
  have hr0d : r0 ≤ mid := by omega
  have hs0b : mid + m - s0 ≤ b := by omega
  have hend0 : s0 = a ∨ mid + m - s0 = b := by omega
  have hend1 : r0 = m ∨ r0 = mid := by omega
  have eg := hC.enters
  have HC := Lib.hid hC
  have HS := Lib.hid hS
  have HD := Lib.hid hD
  have HA := Lib.hid hA
  have HS0 := Lib.hid hs0
  have HR0 := Lib.hid hr0
  have FIN := Lib.hid hfin
  clear hC hS hD hA hs0 hr0 hmid hfin
  go_enter Try.func71, Try.ntmps71
  go_wp2
  go_loopw [20, 21] (fun vs vr wr => ∃ (s r : Nat), vs = .int .i64 s ∧ vr = .int .i64 r ∧ s0 ≤ s ∧ s ≤ r ∧ r ≤ r0 ∧ Hid (SB enc w0 g 25 rest d wr) ∧ Hid (s0 < s → lt d[mid + m - s]! d[s - 1]! = false) ∧ Hid (r < r0 → lt d[mid + m - r - 1]! d[r]! = true)) (fun vs vr _ => (intOf vr).toNat - (intOf vs).toNat)
  case atStart => exact ⟨s0, r0, by have := HS0.out; go_num, by have := HR0.out; go_num, Nat.le_refl _, hsr, Nat.le_refl _, HS, Lib.hid (fun h => absurd h (Nat.lt_irrefl _)), Lib.hid (fun h => absurd h (Nat.lt_irrefl _))⟩
  case round =>
    obtain ⟨s, r, rfl, rfl, h3, h4, h5, HSk, HLo, HHi⟩ := hrel
    clear HS
    by_cases hlt : s < r
    · obtain ⟨c, hc⟩ : ∃ c, c = (s + r) / 2 := ⟨_, rfl⟩
      have hc1 := HSk.out.cell (mid + m - 1 - c) (by omega)
      have hc2 := HSk.out.cell c (by omega)
      have hcall := fun q => HC.out.calls (wr.drewN q) (HSk.out.drewN q).grown d[mid + m - 1 - c]! d[c]! (HD.out (mid + m - 1 - c) (by omega)) (HD.out c (by omega))
      have hag := HA.out c (mid + m - 1 - c) (by omega) (by omega) (by omega) (by omega)
      obtain ⟨X, hX⟩ : ∃ X, X = d[mid + m - 1 - c]! := ⟨_, rfl⟩
      obtain ⟨Y, hY⟩ : ∃ Y, Y = d[c]! := ⟨_, rfl⟩
      rw [← hX] at hc1 hcall hag
      rw [← hY] at hc2 hcall hag
      have HX := Lib.hid hX
      have HY := Lib.hid hY
      obtain ⟨x, xn, xc, hx⟩ := hE X
      obtain ⟨y, yn, yc, hy⟩ := hE Y
      rw [hx] at hc1 hcall
      rw [hy] at hc2 hcall
      have HCALL := Lib.hid hcall
      have HAG := Lib.hid hag
      clear hcall hx hy hX hY hag
      have hh1 : ((s : Int) + (r : Int)) / 2 = (c : Int) := by omega
      have hidx : ((mid : Int) + (m : Int) - 1 - (c : Int)).toNat = mid + m - 1 - c := by omega
      have hi0 : 0 ≤ (mid : Int) + (m : Int) - 1 - (c : Int) := by omega
      have hi1 : (mid : Int) + (m : Int) - 1 - (c : Int) < (n : Int) := by omega
      have hcn : (c : Int) < (n : Int) := by omega
      have hhi : s ≤ c := by omega
      have hhj : c < r := by omega
      clear hc
      by_cases hcf : cf X Y < 0
      · have hl : lt X Y = true := by rw [← HAG.out]; simpa [ltOf] using hcf
        have HL := Lib.hid hl
        have hcf2 : cf X Y < 0 := hcf
        have hcfB : decide (cf X Y < 0) = true := by rw [decide_eq_true_iff]; exact hcf
        clear hl hcf
        go_wp2_with fail
        go_quiet ((refine Calls.quiet_of (HCALL.out _)))
        go_wp2
        go_roundw
        case rel => exact ⟨s, c, rfl, rfl, h3, hhi, by omega, Lib.hid (HSk.out.drewN _), HLo, Lib.hid (fun _ => by rw [show mid + m - c - 1 = mid + m - 1 - c from by omega, ← HX.out, ← HY.out]; exact HL.out)⟩
        case measure => simp [intOf]; omega
      · have hl : lt X Y = false := by rw [← HAG.out]; simpa [ltOf] using hcf
        have HL := Lib.hid hl
        have hcf2 : 0 ≤ cf X Y := by omega
        have hcfB : decide (cf X Y < 0) = false := by rw [decide_eq_false_iff_not]; omega
        clear hl hcf
        go_wp2_with fail
        go_quiet ((refine Calls.quiet_of (HCALL.out _)))
        go_wp2
        go_roundw
        case rel => exact ⟨c + 1, r, by go_num, rfl, by omega, by omega, h5, Lib.hid (HSk.out.drewN _), Lib.hid (fun _ => by rw [show mid + m - (c + 1) = mid + m - 1 - c from by omega, Nat.add_sub_cancel, ← HX.out, ← HY.out]; exact HL.out), HHi⟩
        case measure => simp [intOf]; omega
    · obtain rfl : s = r := by omega
      obtain ⟨e, he, hme, heb, hde, hsum, FROT, FS1, FS2, FK1, FK2, FD⟩ := FIN.out s wr h3 h5 HSk.out HLo.out HHi.out
      have he1 : (mid : Int) + (m : Int) - (s : Int) = (e : Int) := by omega
      replace FROT := Lib.hid FROT
      replace FS1 := Lib.hid FS1
      replace FS2 := Lib.hid FS2
      replace FK1 := Lib.hid FK1
      replace FK2 := Lib.hid FK2
      replace FD := Lib.hid FD
      clear he
      by_cases hA1 : s < m
      · by_cases hB1 : m < e
        · by_cases hC1 : a < s
          · by_cases hE1 : e < b
            · have hq0 : (s : Int) < (mid : Int) := by omega
              have hq1 : (mid : Int) < (e : Int) := by omega
              have HROT := Lib.hid (FROT.out (by omega) (by omega))
              go_wp2_with fail
              (with_reducible refine HROT.out.mono ?_)
              rintro e1 w2 ⟨rfl, R, hRs, hRB, hRk, hRp⟩
              have HB2 := Lib.hid hRB
              have HRK := Lib.hid hRk
              have HRP := Lib.hid hRp
              clear hRB hRk hRp
              have hs1 := FS1.out R w2 hRs HB2.out HRK.out HRP.out (by omega) (by omega)
              have HS1C := Lib.hid hs1
              clear hs1
              go_wp2_with fail
              (with_reducible refine HS1C.out.mono ?_)
              rintro e2 w3 ⟨rfl, R1, hR1s', hR1B, hR1p, hR1o⟩
              have hR1s : R1.size = n := hR1s'.trans hRs
              have HB3 := Lib.hid hR1B
              have HP1 := Lib.hid hR1p
              have HO1 := Lib.hid hR1o
              clear hR1s' hR1B hR1p hR1o
              have hs2 := FS2.out R R1 w3 hRs hR1s HB3.out HRK.out HRP.out HP1.out (by omega) (by omega)
              have HS2C := Lib.hid hs2
              clear hs2
              go_wp2_with fail
              (with_reducible refine HS2C.out.mono ?_)
              rintro e3 w4 ⟨rfl, R2, hR2s', hR2B, hR2p, hR2o⟩
              have hR2s : R2.size = n := hR2s'.trans hR1s
              have HB4 := Lib.hid hR2B
              have HP2 := Lib.hid hR2p
              have HO2 := Lib.hid hR2o
              clear hR2s' hR2B hR2p hR2o
              go_wp2
              all_goals go_end0
              all_goals exact ⟨rfl, R2, hR2s.trans hdn.symm, HB4.out, FD.out R R1 R2 hRs HRK.out HRP.out HP1.out HO1.out HP2.out HO2.out⟩
            · have hq0 : (s : Int) < (mid : Int) := by omega
              have hq1 : (mid : Int) < (e : Int) := by omega
              have hq2 : (b : Int) ≤ (e : Int) := by omega
              have HROT := Lib.hid (FROT.out (by omega) (by omega))
              go_wp2_with fail
              (with_reducible refine HROT.out.mono ?_)
              rintro e1 w2 ⟨rfl, R, hRs, hRB, hRk, hRp⟩
              have HB2 := Lib.hid hRB
              have HRK := Lib.hid hRk
              have HRP := Lib.hid hRp
              clear hRB hRk hRp
              have hs1 := FS1.out R w2 hRs HB2.out HRK.out HRP.out (by omega) (by omega)
              have HS1C := Lib.hid hs1
              clear hs1
              go_wp2_with fail
              (with_reducible refine HS1C.out.mono ?_)
              rintro e2 w3 ⟨rfl, R1, hR1s', hR1B, hR1p, hR1o⟩
              have hR1s : R1.size = n := hR1s'.trans hRs
              have HB3 := Lib.hid hR1B
              have HP1 := Lib.hid hR1p
              have HO1 := Lib.hid hR1o
              clear hR1s' hR1B hR1p hR1o
              have hR2s : R1.size = n := hR1s
              have HB4 := Lib.hid HB3.out
              have HP2 := Lib.hid (permIn_refl R1 mid b)
              have HO2 := Lib.hid (FK2.out R R1 HRK.out HP1.out (by omega))
              go_wp2
              all_goals go_end0
              all_goals exact ⟨rfl, R1, hR2s.trans hdn.symm, HB4.out, FD.out R R1 R1 hRs HRK.out HRP.out HP1.out HO1.out HP2.out HO2.out⟩
          · by_cases hE1 : e < b
            · have hq0 : (s : Int) < (mid : Int) := by omega
              have hq1 : (mid : Int) < (e : Int) := by omega
              have hq2 : (s : Int) ≤ (a : Int) := by omega
              have HROT := Lib.hid (FROT.out (by omega) (by omega))
              go_wp2_with fail
              (with_reducible refine HROT.out.mono ?_)
              rintro e1 w2 ⟨rfl, R, hRs, hRB, hRk, hRp⟩
              have HB2 := Lib.hid hRB
              have HRK := Lib.hid hRk
              have HRP := Lib.hid hRp
              clear hRB hRk hRp
              have hR1s : R.size = n := hRs
              have HB3 := Lib.hid HB2.out
              have HP1 := Lib.hid (permIn_refl R a mid)
              have HO1 := Lib.hid (FK1.out R HRK.out (by omega))
              have hs2 := FS2.out R R w2 hRs hR1s HB3.out HRK.out HRP.out HP1.out (by omega) (by omega)
              have HS2C := Lib.hid hs2
              clear hs2
              go_wp2_with fail
              (with_reducible refine HS2C.out.mono ?_)
              rintro e3 w4 ⟨rfl, R2, hR2s', hR2B, hR2p, hR2o⟩
              have hR2s : R2.size = n := hR2s'.trans hR1s
              have HB4 := Lib.hid hR2B
              have HP2 := Lib.hid hR2p
              have HO2 := Lib.hid hR2o
              clear hR2s' hR2B hR2p hR2o
              go_wp2
              all_goals go_end0
              all_goals exact ⟨rfl, R2, hR2s.trans hdn.symm, HB4.out, FD.out R R R2 hRs HRK.out HRP.out HP1.out HO1.out HP2.out HO2.out⟩
            · have hq0 : (s : Int) < (mid : Int) := by omega
              have hq1 : (mid : Int) < (e : Int) := by omega
              have hq2 : (s : Int) ≤ (a : Int) := by omega
              have hq3 : (b : Int) ≤ (e : Int) := by omega
              have HROT := Lib.hid (FROT.out (by omega) (by omega))
              go_wp2_with fail
              (with_reducible refine HROT.out.mono ?_)
              rintro e1 w2 ⟨rfl, R, hRs, hRB, hRk, hRp⟩
              have HB2 := Lib.hid hRB
              have HRK := Lib.hid hRk
              have HRP := Lib.hid hRp
              clear hRB hRk hRp
              have hR1s : R.size = n := hRs
              have HB3 := Lib.hid HB2.out
              have HP1 := Lib.hid (permIn_refl R a mid)
              have HO1 := Lib.hid (FK1.out R HRK.out (by omega))
              have hR2s : R.size = n := hR1s
              have HB4 := Lib.hid HB3.out
              have HP2 := Lib.hid (permIn_refl R mid b)
              have HO2 := Lib.hid (FK2.out R R HRK.out HP1.out (by omega))
              go_wp2
              all_goals go_end0
              all_goals exact ⟨rfl, R, hR2s.trans hdn.symm, HB4.out, FD.out R R R hRs HRK.out HRP.out HP1.out HO1.out HP2.out HO2.out⟩
        · have hq0 : (e : Int) ≤ (m : Int) := by omega
          have hq1 : (mid : Int) ≤ (s : Int) := by omega
          have hq2 : (a : Int) < (s : Int) := by omega
          have hq3 : (e : Int) < (b : Int) := by omega
          have hq4 : (mid : Int) < (e : Int) := by omega
          have hRs : d.size = n := hdn
          have HB2 := Lib.hid HSk.out
          have HRK := Lib.hid (rot_none d s m e (by omega) (by omega) (by omega))
          have HRP := Lib.hid (permIn_refl d a b)
          have hR1s : d.size = n := hRs
          have HB3 := Lib.hid HB2.out
          have HP1 := Lib.hid (permIn_refl d a mid)
          have HO1 := Lib.hid (FK1.out d HRK.out (by omega))
          have hs2 := FS2.out d d wr hRs hR1s HB3.out HRK.out HRP.out HP1.out (by omega) (by omega)
          have HS2C := Lib.hid hs2
          clear hs2
          go_wp2_with fail
          all_goals
            (with_reducible refine HS2C.out.mono ?_)
            rintro e3 w4 ⟨rfl, R2, hR2s', hR2B, hR2p, hR2o⟩
            have hR2s : R2.size = n := hR2s'.trans hR1s
            have HB4 := Lib.hid hR2B
            have HP2 := Lib.hid hR2p
            have HO2 := Lib.hid hR2o
            clear hR2s' hR2B hR2p hR2o
            go_wp2
            all_goals go_end0
            all_goals exact ⟨rfl, R2, hR2s.trans hdn.symm, HB4.out, FD.out d d R2 hRs HRK.out HRP.out HP1.out HO1.out HP2.out HO2.out⟩
      · by_cases hB1 : m < e
        · have hq0 : (m : Int) ≤ (s : Int) := by omega
          have hq1 : (s : Int) < (mid : Int) := by omega
          have hq2 : (a : Int) < (s : Int) := by omega
          have hq3 : (e : Int) < (b : Int) := by omega
          have hq4 : (e : Int) ≤ (mid : Int) := by omega
          have hRs : d.size = n := hdn
          have HB2 := Lib.hid HSk.out
          have HRK := Lib.hid (rot_none d s m e (by omega) (by omega) (by omega))
          have HRP := Lib.hid (permIn_refl d a b)
          have hs1 := FS1.out d wr hRs HB2.out HRK.out HRP.out (by omega) (by omega)
          have HS1C := Lib.hid hs1
          clear hs1
          go_wp2_with fail
          all_goals
            (with_reducible refine HS1C.out.mono ?_)
            rintro e2 w3 ⟨rfl, R1, hR1s', hR1B, hR1p, hR1o⟩
            have hR1s : R1.size = n := hR1s'.trans hRs
            have HB3 := Lib.hid hR1B
            have HP1 := Lib.hid hR1p
            have HO1 := Lib.hid hR1o
            clear hR1s' hR1B hR1p hR1o
            have hR2s : R1.size = n := hR1s
            have HB4 := Lib.hid HB3.out
            have HP2 := Lib.hid (permIn_refl R1 mid b)
            have HO2 := Lib.hid (FK2.out d R1 HRK.out HP1.out (by omega))
            go_wp2
            all_goals go_end0
            all_goals exact ⟨rfl, R1, hR2s.trans hdn.symm, HB4.out, FD.out d R1 R1 hRs HRK.out HRP.out HP1.out HO1.out HP2.out HO2.out⟩
        · have hq0 : (m : Int) ≤ (s : Int) := by omega
          have hq1 : (e : Int) ≤ (m : Int) := by omega
          have hq2 : (mid : Int) ≤ (s : Int) := by omega
          have hq3 : (a : Int) < (s : Int) := by omega
          have hq4 : (e : Int) < (b : Int) := by omega
          have hq5 : (e : Int) ≤ (mid : Int) := by omega
          have hRs : d.size = n := hdn
          have HB2 := Lib.hid HSk.out
          have HRK := Lib.hid (rot_none d s m e (by omega) (by omega) (by omega))
          have HRP := Lib.hid (permIn_refl d a b)
          have hR1s : d.size = n := hRs
          have HB3 := Lib.hid HB2.out
          have HP1 := Lib.hid (permIn_refl d a mid)
          have HO1 := Lib.hid (FK1.out d HRK.out (by omega))
          have hR2s : d.size = n := hR1s
          have HB4 := Lib.hid HB3.out
          have HP2 := Lib.hid (permIn_refl d mid b)
          have HO2 := Lib.hid (FK2.out d d HRK.out HP1.out (by omega))
          go_wp2
          all_goals
            all_goals go_end0
            all_goals exact ⟨rfl, d, hR2s.trans hdn.symm, HB4.out, FD.out d d d hRs HRK.out HRP.out HP1.out HO1.out HP2.out HO2.out⟩
end Go.Proofs.Ytmejhjgdofncfaa
/-
  Go's stable merge in place, at elements of one cell ([]int): the contract.
-/
namespace Go.Proofs.Ytmejhjgdofncfaa
open Go.RowKit Go.Sort

theorem merge_allQ {α : Type} [Inhabited α] (enc : α → Value) (hE : ∀ x, ∃ a n c, enc x = .slice a n c) (cf : α → α → Int) (lt : α → α → Bool) (hL : SWO lt) (D : α → Prop) (f : FuncId) (cb : Array Value) (g cap : Nat) (rest : List Value) (n : Nat) (w0 : World)
    (hC : CmpQ Try.prog f cb enc cf D w0 g) (hsz : n < 4611686018427387904) : ∀ N, MergeSaidQ enc cf lt D f cb g cap rest n w0 N
  | 0 => fun a m b d w h1 h2 h3 h4 h5 h6 => by omega
  | N + 1 => by
    have ih := merge_allQ enc hE cf lt hL D f cb g cap rest n w0 hC hsz N
    intro a m b d w hN hdn hS hD ham hmb hb h1 h2 hA
    by_cases c1 : m = a + 1
    · subst hdn
      exact sym_leftQ enc hE cf lt hL D f cb g cap a m b rest d w0 w hC hS hD c1 hmb hb hsz h2 hA
    by_cases c2 : b = m + 1
    · subst hdn
      exact sym_rightQ enc hE cf lt hL D f cb g cap a m b rest d w0 w hC hS hD (by omega) c2 hb hsz h1 hA
    obtain ⟨mid, hmid⟩ : ∃ mid, mid = (a + b) / 2 := ⟨_, rfl⟩
    by_cases c3 : mid < m
    · exact sym_hiQ enc hE cf lt D f cb g cap rest n w0 hC hsz a m b mid (mid + m - b) mid d w hdn hS hD (by omega) (by omega) hb hA hmid c3 rfl rfl
        (sym_finQ enc hE cf lt hL D f cb g cap rest n w0 N hsz ih a m b mid (mid + m - b) mid d hN hdn hD hb h1 h2 hA (by omega) (by omega) (by omega) (by omega) (by omega) (by omega) (by omega) (by omega))
    · exact sym_loQ enc hE cf lt D f cb g cap rest n w0 hC hsz a m b mid a m d w hdn hS hD (by omega) (by omega) hb hA hmid (by omega) rfl rfl
        (sym_finQ enc hE cf lt hL D f cb g cap rest n w0 N hsz ih a m b mid a m d hN hdn hD hb h1 h2 hA (by omega) (by omega) (by omega) (by omega) (by omega) (by omega) (by omega) (by omega))
end Go.Proofs.Ytmejhjgdofncfaa
/-
  Plain: a stable sort by blocks: what blocks of one size make of blocks of twice that size.
-/
namespace Go.Proofs.Ytmejhjgdofncfaa
open Go.RowKit Go.Sort
variable {α : Type} [Inhabited α] {lt lt1 : α → α → Bool} {d R R' : Array α} {lo m hi s i : Nat}

/-- The places from lo up to hi, as far as there are any, are sorted, and hold what these places held at first. -/
structure Good (lt : α → α → Bool) (d : Array α) (lo hi : Nat) (R : Array α) : Prop where
  srt : SortedIn lt lo (min hi d.size) R
  loc : ∀ k, lo ≤ k → k < hi → k < d.size → ∃ j, lo ≤ j ∧ j < hi ∧ j < d.size ∧ R[k]! = d[j]!

theorem Good.same (h : Good lt d lo hi R) (hR : ∀ k, lo ≤ k → k < hi → k < d.size → R'[k]! = R[k]!) : Good lt d lo hi R' :=
  ⟨sorted_congr h.srt (fun k h1 h2 => hR k h1 (by omega) (by omega)), fun k h1 h2 h3 => by rw [hR k h1 h2 h3]; exact h.loc k h1 h2 h3⟩
theorem Good.agree (hag : ∀ p q, p < q → q < d.size → lt1 d[q]! d[p]! = lt d[q]! d[p]!) (h1 : Good lt d lo m R) (h2 : Good lt d m hi R) : Agree lt1 lt R lo m (min hi d.size) := fun p q a b c e => by
  obtain ⟨p', _, p2, p3, hp⟩ := h1.loc p a b (by omega)
  obtain ⟨q', q1, q2, q3, hq⟩ := h2.loc q c (by omega) (by omega)
  rw [hp, hq]; exact hag _ _ (by omega) q3
theorem Good.join (h1 : Good lt d lo m R) (h2 : Good lt d m hi R) (hlm : lo ≤ m) (hmh : m ≤ hi) (hsz : R.size = d.size) (hP : PermIn lo (min hi d.size) R R') (hS : SortedIn lt lo (min hi d.size) R') : Good lt d lo hi R' :=
  ⟨hS, fun k a b c => permIn_all R R' lo (min hi d.size) (fun x => ∃ j, lo ≤ j ∧ j < hi ∧ j < d.size ∧ x = d[j]!) (by omega) hP (fun i i1 i2 => by
    by_cases h : i < m
    · obtain ⟨j, a1, a2, a3, a4⟩ := h1.loc i i1 h (by omega); exact ⟨j, a1, by omega, a3, a4⟩
    · obtain ⟨j, a1, a2, a3, a4⟩ := h2.loc i (by omega) (by omega) (by omega); exact ⟨j, by omega, a2, a3, a4⟩) k a (by omega)⟩
theorem Good.wide (h : Good lt d lo m R) (hm : d.size ≤ m) (hmh : m ≤ hi) : Good lt d lo hi R :=
  ⟨by have := h.srt; rwa [show min m d.size = min hi d.size from by omega] at this, fun k a b c => by obtain ⟨j, a1, a2, a3, a4⟩ := h.loc k a (by omega) c; exact ⟨j, a1, by omega, a3, a4⟩⟩
theorem Good.void (h : d.size ≤ lo) : Good lt d lo hi R := ⟨fun p q h1 h2 h3 => by omega, fun k h1 h2 h3 => by omega⟩

/-- The first i blocks are sorted; the rest is as it was. -/
structure InsInv (lt : α → α → Bool) (d : Array α) (s i : Nat) (R : Array α) : Prop where
  sz : R.size = d.size
  perm : PermIn 0 d.size d R
  old : ∀ k, s * i ≤ k → R[k]! = d[k]!
  good : ∀ j, j < i → Good lt d (s * j) (s * (j + 1)) R

theorem InsInv.start : InsInv lt d s 0 d := ⟨rfl, permIn_refl _ _ _, fun _ _ => rfl, fun _ h => by omega⟩
theorem InsInv.step (h : InsInv lt d s i R) (hle : s * i ≤ d.size) (hP : PermIn (s * i) (min (s * i + s) d.size) R R') (hS : SortedIn lt (s * i) (min (s * i + s) d.size) R') : InsInv lt d s (i + 1) R' := by
  have hm : s * (i + 1) = s * i + s := Nat.mul_succ s i
  refine ⟨hP.1.trans h.sz, permIn_trans _ _ _ _ _ h.perm (permIn_mono R R' _ _ 0 d.size (by omega) (by omega) (by rw [h.sz]; omega) hP), fun k hk => ?_, fun j hj => ?_⟩
  · rw [hP.2.1 k (by omega)]; exact h.old k (by omega)
  · by_cases hji : j < i
    · have h2 := Nat.mul_le_mul_left s (show j + 1 ≤ i by omega)
      exact (h.good j hji).same fun k h3 h4 h5 => hP.2.1 k (by omega)
    · obtain rfl : j = i := by omega
      rw [hm]
      exact ⟨hS, fun k a b c => permIn_all R R' _ _ (fun x => ∃ q, s * j ≤ q ∧ q < s * j + s ∧ q < d.size ∧ x = d[q]!) (by rw [h.sz]; omega) hP (fun q h1 h2 => ⟨q, h1, by omega, by omega, h.old q h1⟩) k a (by omega)⟩
theorem InsInv.all (h : InsInv lt d s i R) (hn : d.size ≤ s * i) (j : Nat) : Good lt d (s * j) (s * (j + 1)) R := by
  by_cases hj : j < i
  · exact h.good j hj
  · have h2 := Nat.mul_le_mul_left s (show i ≤ j by omega)
    exact Good.void (by omega)

/-- The first i pairs of blocks are one block each. -/
structure MrgInv (lt : α → α → Bool) (d : Array α) (s i : Nat) (R : Array α) : Prop where
  sz : R.size = d.size
  perm : PermIn 0 d.size d R
  lo : ∀ j, j < i → Good lt d (2 * s * j) (2 * s * (j + 1)) R
  hi : ∀ j, 2 * i ≤ j → Good lt d (s * j) (s * (j + 1)) R

theorem dbl0 (s i : Nat) : s * (2 * i) = 2 * s * i := by rw [← Nat.mul_assoc, Nat.mul_comm s 2]
theorem dbl1 (s i : Nat) : s * (2 * i + 1) = 2 * s * i + s := by rw [Nat.mul_succ, dbl0]
theorem dbl2 (s i : Nat) : s * (2 * i + 1 + 1) = 2 * s * i + 2 * s := by rw [Nat.mul_succ, dbl1]; omega

theorem MrgInv.start (h1 : R.size = d.size) (h2 : PermIn 0 d.size d R) (h3 : ∀ j, Good lt d (s * j) (s * (j + 1)) R) : MrgInv lt d s 0 R := ⟨h1, h2, fun _ h => by omega, fun j _ => h3 j⟩
theorem MrgInv.left (h : MrgInv lt d s i R) : Good lt d (2 * s * i) (2 * s * i + s) R := by
  have := h.hi (2 * i) (Nat.le_refl _); rwa [dbl0, dbl1] at this
theorem MrgInv.right (h : MrgInv lt d s i R) : Good lt d (2 * s * i + s) (2 * s * i + 2 * s) R := by
  have := h.hi (2 * i + 1) (by omega); rwa [dbl1, dbl2] at this
theorem MrgInv.step (h : MrgInv lt d s i R) (hle : 2 * s * i + s ≤ d.size) (hP : PermIn (2 * s * i) (min (2 * s * i + 2 * s) d.size) R R') (hS : SortedIn lt (2 * s * i) (min (2 * s * i + 2 * s) d.size) R') : MrgInv lt d s (i + 1) R' := by
  have hm : 2 * s * (i + 1) = 2 * s * i + 2 * s := Nat.mul_succ (2 * s) i
  refine ⟨hP.1.trans h.sz, permIn_trans _ _ _ _ _ h.perm (permIn_mono R R' _ _ 0 d.size (by omega) (by omega) (by rw [h.sz]; omega) hP), fun j hj => ?_, fun j hj => ?_⟩
  · by_cases hji : j < i
    · have h2 := Nat.mul_le_mul_left (2 * s) (show j + 1 ≤ i by omega)
      exact (h.lo j hji).same fun k h3 h4 h5 => hP.2.1 k (by omega)
    · obtain rfl : j = i := by omega
      rw [hm]
      exact h.left.join h.right (by omega) (by omega) h.sz hP hS
  · have h2 := Nat.mul_le_mul_left s (show 2 * i + 1 + 1 ≤ j by omega)
    rw [dbl2] at h2
    exact (h.hi j (by omega)).same fun k h3 h4 h5 => hP.2.1 k (by omega)
theorem MrgInv.done (h : MrgInv lt d s i R) (hn : d.size ≤ 2 * s * i + s) (j : Nat) : Good lt d (2 * s * j) (2 * s * (j + 1)) R := by
  by_cases hj : j < i
  · exact h.lo j hj
  · by_cases hji : j = i
    · subst hji
      rw [Nat.mul_succ (2 * s) j]
      exact h.left.wide hn (by omega)
    · have h2 := Nat.mul_le_mul_left (2 * s) (show i + 1 ≤ j by omega)
      rw [Nat.mul_succ] at h2
      exact Good.void (by omega)
theorem good_end (h : ∀ j, Good lt d (s * j) (s * (j + 1)) R) (hs : d.size ≤ s) : SortedIn lt 0 d.size R := by
  have := (h 0).srt
  rwa [Nat.mul_zero, Nat.zero_add, Nat.mul_one, show min s d.size = d.size from by omega] at this

theorem mrg_facts {A b : Nat} (h : MrgInv lt d s i R) (hA : A = 2 * s * i) (hag : ∀ p q, p < q → q < d.size → lt1 d[q]! d[p]! = lt d[q]! d[p]!) (hb : b = min (A + 2 * s) d.size) (hm : A + s < b) :
    SortedIn lt A (A + s) R ∧ SortedIn lt (A + s) b R ∧ Agree lt1 lt R A (A + s) b := by
  have hl := h.left
  have hr := h.right
  rw [← hA] at hl hr
  have h1 := hl.srt
  have h2 := hr.srt
  have h3 := hl.agree hag hr
  rw [show min (A + s) d.size = A + s from by omega] at h1
  rw [← hb] at h2 h3
  exact ⟨h1, h2, h3⟩
theorem mrg_step {A b : Nat} (h : MrgInv lt d s i R) (hA : A = 2 * s * i) (hb : b = min (A + 2 * s) d.size) (hm : A + s < b) (hP : PermIn A b R R') (hS : SortedIn lt A b R') : MrgInv lt d s (i + 1) R' := by
  subst hA hb
  exact h.step (by omega) hP hS
theorem ins_step {A b : Nat} (h : InsInv lt d s i R) (hA : A = s * i) (hb : b = min (A + s) d.size) (hm : A ≤ b) (hP : PermIn A b R R') (hS : SortedIn lt A b R') : InsInv lt d s (i + 1) R' := by
  subst hA hb
  exact h.step (by omega) hP hS
theorem ins_agree {A b : Nat} (h : InsInv lt d s i R) (hA : A = s * i) (hag : ∀ p q, p < q → q < d.size → lt1 d[q]! d[p]! = lt d[q]! d[p]!) (hb : b ≤ d.size) (p q : Nat) (h1 : A ≤ p) (h2 : p < q) (h3 : q < b) : lt1 R[q]! R[p]! = lt R[q]! R[p]! := by
  rw [h.old p (by omega), h.old q (by omega)]
  exact hag p q h2 (by omega)
end Go.Proofs.Ytmejhjgdofncfaa
/-
  Go's insertion sort by a comparing function, at elements of one cell ([]int).
-/
namespace Go.Proofs.Ytmejhjgdofncfaa
open Go.RowKit Go.Sort

set_option maxHeartbeats 2000000 in
theorem ins_anyQ {α : Type} [Inhabited α] (enc : α → Value) (hE : ∀ x, ∃ a n c, enc x = .slice a n c) (cf : α → α → Int) (D : α → Prop) (f : FuncId) (cb : Array Value) (g cap a b : Nat) (rest : List Value) (d : Array α) (w0 w : World)
    (hC : CmpQ Try.prog f cb enc cf D w0 g) (hS : SB enc w0 g 25 rest d w) (hD : ∀ i, i < d.size → D d[i]!) (hab : a ≤ b) (hb : b ≤ d.size) (hsz : d.size < 4611686018427387904) :
    Calls Try.prog 70 #[.slice (some ⟨g, 0, none⟩) d.size cap, .int .i64 a, .int .i64 b, .func (.func f) #[] cb] w fun e w' => e = .returned (.tuple #[]) ∧ SB enc w0 g 25 rest (Sort.insertionSort (ltOf cf) d a b) w' := by
  have eg := hC.enters
  have HC := Lib.hid hC
  have HS := Lib.hid hS
  have HD := Lib.hid hD
  clear hC hS hD
  go_enter Try.func70, Try.ntmps70
  go_wp2
  go_loopw [8] (fun vi wr => ∃ (i : Nat) (dk : Array α), vi = .int .i64 i ∧ a < i ∧ i ≤ b + 1 ∧ dk.size = d.size ∧ Hid (SB enc w0 g 25 rest dk wr) ∧ Hid (∀ i, i < dk.size → D dk[i]!) ∧
      Hid (insOuter (ltOf cf) a b i dk = insOuter (ltOf cf) a b (a + 1) d)) (fun vi _ => b + 1 - (intOf vi).toNat)
  case atStart => exact ⟨a + 1, d, by go_num, by omega, by omega, rfl, HS, HD, rfl⟩
  case round =>
    obtain ⟨i, dk, rfl, hai, hib, hsk, HSk, HDk, HO⟩ := hrel
    clear HS
    by_cases hlt : i < b
    · go_wp2
      go_loopw [9] (fun vj wr2 => ∃ (j : Nat) (dj : Array α), vj = .int .i64 j ∧ a ≤ j ∧ j ≤ i ∧ dj.size = d.size ∧ Hid (SB enc w0 g 25 rest dj wr2) ∧ Hid (∀ i, i < dj.size → D dj[i]!) ∧
          Hid (insInner (ltOf cf) a j dj = insInner (ltOf cf) a i dk)) (fun vj _ => (intOf vj).toNat)
      case atStart => exact ⟨i, dk, rfl, by omega, Nat.le_refl _, hsk, HSk, HDk, rfl⟩
      case round =>
        obtain ⟨j, dj, rfl, haj, hji, hsj, HSj, HDj, HI⟩ := hrel
        clear HSk HDk
        by_cases hja : a < j
        · have hc1 := HSj.out.cell j (by omega)
          have hc2 := HSj.out.cell (j - 1) (by omega)
          have hf1 := HSj.out.free j
          have hf2 := HSj.out.free (j - 1)
          have hcall := fun q => HC.out.calls (wr.drewN q) (HSj.out.drewN q).grown dj[j]! dj[j-1]! (HDj.out j (by omega)) (HDj.out (j - 1) (by omega))
          obtain ⟨X, hX⟩ : ∃ X, X = dj[j]! := ⟨_, rfl⟩
          obtain ⟨Y, hY⟩ : ∃ Y, Y = dj[j-1]! := ⟨_, rfl⟩
          rw [← hX] at hc1 hcall
          rw [← hY] at hc2 hcall
          have HX := Lib.hid hX
          have HY := Lib.hid hY
          obtain ⟨x, xn, xc, hx⟩ := hE X
          obtain ⟨y, yn, yc, hy⟩ := hE Y
          rw [hx] at hc1 hcall
          rw [hy] at hc2 hcall
          have HCALL := Lib.hid hcall
          have HEx := Lib.hid hx
          have HEy := Lib.hid hy
          clear hcall hx hy hX hY
          have hj1 : (0 : Int) ≤ (j : Int) - 1 := by omega
          have hj2 : ((j : Int) - 1).toNat = j - 1 := by omega
          have hjd : j < d.size := by omega
          have hjd1 : (j : Int) < (d.size : Int) := by omega
          have out : ltOf cf X Y = false → ∀ q, ∃ i' dk', Value.int .i64 ((i : Int) + 1) = .int .i64 (i' : Nat) ∧ a < i' ∧ i' ≤ b + 1 ∧ dk'.size = d.size ∧ Hid (SB enc w0 g 25 rest dk' (wr.drewN q)) ∧ Hid (∀ i, i < dk'.size → D dk'[i]!) ∧ Hid (insOuter (ltOf cf) a b i' dk' = insOuter (ltOf cf) a b (a + 1) d) :=
            fun hl q => ⟨i + 1, dj, by go_num, by omega, by omega, hsj, HSj.out.drewN q, HDj, by rw [← HO.out, outer_go _ _ _ _ _ hlt, ← HI.out, inner_stop _ _ _ _ (.inr (by rw [← HX.out, ← HY.out]; exact hl))]; exact Lib.hid rfl⟩
          have OUT := Lib.hid out
          clear out
          by_cases hcf : cf X Y < 0
          · have hl : ltOf cf X Y = true := by simpa [ltOf] using hcf
            have HL := Lib.hid hl
            clear hl
            go_wp2_with fail
            go_quiet ((refine Calls.quiet_of (HCALL.out _)))
            go_wp2
            go_region
            all_goals go_wp2
            go_roundw
            case rel =>
              refine ⟨j - 1, swp dj j (j - 1), by congr 1; omega, by omega, by omega, by rw [size_swp]; exact hsj, ?_, ?_, ?_⟩
              · have hw := HSj.out.swp j (j - 1) (by omega) (by omega) (nq + 1)
                rw [← HX.out, ← HY.out, HEx.out, HEy.out] at hw
                exact Lib.hid hw
              · exact Lib.hid (fun q hq => by
                  rw [size_swp] at hq
                  by_cases h1 : q = j
                  · subst h1; rw [swp_left _ _ _ hq (by omega)]; exact HDj.out _ (by omega)
                  · by_cases h2 : q = j - 1
                    · subst h2; rw [swp_right _ _ _ hq]; exact HDj.out _ (by omega)
                    · rw [swp_other _ _ _ _ h1 h2]; exact HDj.out _ hq)
              · exact Lib.hid (by rw [← HI.out, inner_go (ltOf cf) a j dj hja (by rw [← HX.out, ← HY.out]; exact HL.out)])
            case measure => simp [intOf]; omega
          · have hl : ltOf cf X Y = false := by simpa [ltOf] using hcf
            have HL := Lib.hid hl
            clear hl
            go_wp2_with fail
            go_quiet ((refine Calls.quiet_of (HCALL.out _)))
            go_wp2
            go_roundw
            case rel => exact OUT.out HL.out nq
            case measure => simp [intOf]; omega
        · have out : ∀ q, ∃ i' dk', Value.int .i64 ((i : Int) + 1) = .int .i64 (i' : Nat) ∧ a < i' ∧ i' ≤ b + 1 ∧ dk'.size = d.size ∧ Hid (SB enc w0 g 25 rest dk' (wr.drewN q)) ∧ Hid (∀ i, i < dk'.size → D dk'[i]!) ∧ Hid (insOuter (ltOf cf) a b i' dk' = insOuter (ltOf cf) a b (a + 1) d) :=
            fun q => ⟨i + 1, dj, by go_num, by omega, by omega, hsj, HSj.out.drewN q, HDj, by rw [← HO.out, outer_go _ _ _ _ _ hlt, ← HI.out, inner_stop _ _ _ _ (.inl (by omega))]; exact Lib.hid rfl⟩
          have OUT := Lib.hid out
          clear out
          have hja2 : decide ((a : Int) < (j : Int)) = false := by simp; omega
          go_wp2
          go_quiet (fail)
          go_wp2
          go_roundw
          case rel => exact OUT.out nq
          case measure => simp [intOf]; omega
    · go_wp2
      go_end0
      refine ⟨rfl, ?_⟩
      have e : Sort.insertionSort (ltOf cf) d a b = dk := by
        unfold Sort.insertionSort; rw [← HO.out, outer_stop _ _ _ _ _ hlt]
      rw [e]
      exact HSk.out
end Go.Proofs.Ytmejhjgdofncfaa
/-
  Go's stable sort by a comparing function, at any number of elements of one cell ([]int).
-/
namespace Go.Proofs.Ytmejhjgdofncfaa
open Go.RowKit Go.Sort

set_option maxRecDepth 8000 in
set_option maxHeartbeats 4000000 in
theorem stable_coreQ {α : Type} [Inhabited α] (enc : α → Value) (hE : ∀ x, ∃ a n c, enc x = .slice a n c) (cf : α → α → Int) (lt2 : α → α → Bool) (hO : SWO lt2) (D : α → Prop) (f : FuncId) (cb : Array Value) (g cap n : Nat) (rest : List Value) (d : Array α) (w0 w : World)
    (hC : CmpQ Try.prog f cb enc cf D w0 g) (hS : SB enc w0 g 25 rest d w) (hD : ∀ i, i < d.size → D d[i]!) (hag : ∀ p q, p < q → q < d.size → ltOf cf d[q]! d[p]! = lt2 d[q]! d[p]!) (hdn : d.size = n) (hsz : n < 1152921504606846976) :
    Calls Try.prog 57 #[.slice (some ⟨g, 0, none⟩) n cap, .int .i64 n, .func (.func f) #[] cb] w fun e w' => e = .returned (.tuple #[]) ∧ ∃ R, SB enc w0 g 25 rest R w' ∧ PermIn 0 d.size d R ∧ SortedIn lt2 0 d.size R := by
  have eg := hC.enters
  have insert : ∀ (A B : Nat) (R : Array α) (wr : World), R.size = n → SB enc w0 g 25 rest R wr → PermIn 0 d.size d R → A ≤ B → B ≤ n →
      Calls Try.prog 70 #[.slice (some ⟨g, 0, none⟩) n cap, .int .i64 A, .int .i64 B, .func (.func f) #[] cb] wr fun e w' => e = .returned (.tuple #[]) ∧ SB enc w0 g 25 rest (Sort.insertionSort (ltOf cf) R A B) w' := by
    intro A B R wr h1 h2 h3 h4 h5
    have := ins_anyQ enc hE cf D f cb g cap A B rest R w0 wr hC h2 (all_perm D (Nat.le_refl _) h3 hD) h4 (by omega) (by omega)
    rwa [h1] at this
  have merge : ∀ (A s m b i : Nat) (R : Array α) (wr : World), SB enc w0 g 25 rest R wr → MrgInv lt2 d s i R → A = 2 * s * i → m = A + s → 0 < s → b = min (A + 2 * s) n → m < b →
      Calls Try.prog 71 #[.slice (some ⟨g, 0, none⟩) n cap, .int .i64 A, .int .i64 ((A : Int) + (s : Int)), .int .i64 b, .func (.func f) #[] cb] wr fun e w' => e = .returned (.tuple #[]) ∧ ∃ R', SB enc w0 g 25 rest R' w' ∧ MrgInv lt2 d s (i + 1) R' := by
    intro A s m b i R wr h1 h2 h3 h4 h5 h6 h7
    obtain ⟨q1, q2, q3⟩ := mrg_facts (b := b) h2 h3 hag (by rw [hdn]; exact h6) (by omega)
    rw [← h4] at q1 q2 q3
    have hc := merge_allQ enc hE cf lt2 hO D f cb g cap rest n w0 hC (by omega) (b - A) A m b R wr (Nat.le_refl _) (h2.sz.trans hdn) h1 (all_perm D (Nat.le_refl _) h2.perm hD) (by omega) h7 (by omega) q1 q2 q3
    rw [show (m : Int) = (A : Int) + (s : Int) from by omega] at hc
    exact hc.mono fun e w' ⟨e1, R', _, e3, e4, e5⟩ => ⟨e1, R', e3, mrg_step h2 h3 (by rw [hdn]; exact h6) (by omega) e4 e5⟩
  have HINS := Lib.hid insert
  have HMRG := Lib.hid merge
  have HAG := Lib.hid hag
  have HO := Lib.hid hO
  have HS := Lib.hid hS
  have HDN := Lib.hid hdn
  clear insert merge hag hO hS hC hD hdn
  go_enter Try.func57, Try.ntmps57
  go_wp2
  go_loopw [7, 8] (fun va vb wr => ∃ (i A B : Nat) (R : Array α), va = .int .i64 A ∧ vb = .int .i64 B ∧ A ≤ n ∧ A + 20 ≤ B ∧ B ≤ A + 20 ∧ Hid (A = 20 * i) ∧ Hid (SB enc w0 g 25 rest R wr) ∧ Hid (InsInv lt2 d 20 i R)) (fun va _ _ => n - (intOf va).toNat)
  case atStart => exact ⟨0, 0, 20, d, rfl, rfl, Nat.zero_le _, by omega, by omega, Lib.hid rfl, HS, Lib.hid InsInv.start⟩
  case round =>
    obtain ⟨i, A, B, R, rfl, rfl, hAn, hB1, hB2, HA, HR, HI⟩ := hrel
    clear HS
    have hRn : R.size = n := HI.out.sz.trans HDN.out
    have HRN := Lib.hid hRn
    clear hRn
    by_cases hlt : B ≤ n
    · have hins := HINS.out A B R wr HRN.out HR.out HI.out.perm (by omega) hlt
      have hst := ins_stable (ltOf cf) lt2 HO.out A B R (by omega) (by rw [HRN.out]; exact hlt) (ins_agree HI.out HA.out HAG.out (by rw [HDN.out]; exact hlt))
      have HC1 := Lib.hid hins
      have HST := Lib.hid hst
      clear hins hst
      go_wp2_with (go_at_call 70; refine HC1.out.mono ?_; rintro e w2 ⟨rfl, hS2⟩; have HS2 := Lib.hid hS2; clear hS2)
      go_roundw
      case rel => exact ⟨i + 1, B, B + 20, _, rfl, by go_num, hlt, by omega, by omega, Lib.hid (by have := HA.out; omega), HS2, Lib.hid (ins_step HI.out HA.out (by rw [HDN.out]; omega) (by omega) HST.out.1 HST.out.2)⟩
      case measure => simp [intOf]; omega
    · have hins := HINS.out A n R wr HRN.out HR.out HI.out.perm hAn (Nat.le_refl _)
      have hst := ins_stable (ltOf cf) lt2 HO.out A n R hAn (by rw [HRN.out]; exact Nat.le_refl _) (ins_agree HI.out HA.out HAG.out (by rw [HDN.out]; exact Nat.le_refl _))
      have hall := fun (R' : Array α) (h1 : PermIn A n R R') (h2 : SortedIn lt2 A n R') => ins_step HI.out HA.out (by rw [HDN.out]; omega) hAn h1 h2
      have hnn : d.size ≤ 20 * (i + 1) := by have := HA.out; have := HDN.out; omega
      have HALL := Lib.hid (hall _ hst.1 hst.2)
      have HC1 := Lib.hid hins
      have HNN := Lib.hid hnn
      clear hins hst hall hnn
      go_wp2_with (go_at_call 70; refine HC1.out.mono ?_; rintro e w2 ⟨rfl, hS2⟩; have HS2 := Lib.hid hS2; clear hS2)
      go_loopw [6] (fun vs wr => ∃ (s : Nat) (R : Array α), vs = .int .i64 s ∧ 20 ≤ s ∧ s ≤ 2305843009213693952 ∧ Hid (SB enc w0 g 25 rest R wr) ∧ Hid (R.size = d.size) ∧ Hid (PermIn 0 d.size d R) ∧ Hid (∀ j, Good lt2 d (s * j) (s * (j + 1)) R)) (fun vs _ => n - (intOf vs).toNat)
      case atStart => exact ⟨20, _, rfl, by omega, by omega, HS2, Lib.hid HALL.out.sz, Lib.hid HALL.out.perm, Lib.hid (HALL.out.all HNN.out)⟩
      case round =>
        obtain ⟨s, R2, rfl, hs20, hsb, HR2, HZ2, HP2, HG2⟩ := hrel
        clear HS2 HALL HC1 HNN HR HI HA hAn hB1 hB2 hlt HRN
        by_cases hsn : s < n
        · go_wp2
          go_loopw [7, 8] (fun va vb wr => ∃ (i A B : Nat) (R : Array α), va = .int .i64 A ∧ vb = .int .i64 B ∧ A ≤ n ∧ A + 2 * s ≤ B ∧ B ≤ A + 2 * s ∧ Hid (A = 2 * s * i) ∧ Hid (SB enc w0 g 25 rest R wr) ∧ Hid (MrgInv lt2 d s i R)) (fun va _ _ => n - (intOf va).toNat)
          case atStart => exact ⟨0, 0, 2 * s, R2, rfl, by go_num, Nat.zero_le _, by omega, by omega, Lib.hid (by simp), HR2, Lib.hid (MrgInv.start HZ2.out HP2.out HG2.out)⟩
          case round =>
            obtain ⟨j, A2, B2, R3, rfl, rfl, hAn2, hB3, hB4, HA2, HR3, HM⟩ := hrel
            clear HR2 HZ2 HP2 HG2
            by_cases hlt2 : B2 ≤ n
            · have HC2 := Lib.hid (HMRG.out A2 s (A2 + s) B2 j R3 _ HR3.out HM.out HA2.out rfl (by omega) (by omega) (by omega))
              go_wp2_with (go_at_call 71; refine HC2.out.mono ?_; rintro e w3 ⟨rfl, R4, hS3, hM3⟩; have HS3 := Lib.hid hS3; have HM3 := Lib.hid hM3; clear hS3 hM3)
              go_roundw
              case rel => exact ⟨j + 1, B2, B2 + 2 * s, R4, rfl, by go_num, hlt2, by omega, by omega, Lib.hid (by rw [Nat.mul_succ, ← HA2.out]; omega), HS3, HM3⟩
              case measure => simp [intOf]; omega
            · by_cases hm : A2 + s < n
              · have hmI : (A2 : Int) + (s : Int) < (n : Int) := by omega
                have HC2 := Lib.hid (HMRG.out A2 s (A2 + s) n j R3 _ HR3.out HM.out HA2.out rfl (by omega) (by omega) hm)
                go_wp2_with (go_at_call 71; refine HC2.out.mono ?_; rintro e w3 ⟨rfl, R4, hS3, hM3⟩; have HS3 := Lib.hid hS3; have HM3 := Lib.hid hM3; clear hS3 hM3)
                go_roundw
                case rel => exact ⟨2 * s, R4, by go_num, by omega, by omega, HS3, Lib.hid HM3.out.sz, Lib.hid HM3.out.perm, Lib.hid (HM3.out.done (by rw [Nat.mul_succ, ← HA2.out, HDN.out]; omega))⟩
                case measure => simp [intOf]; omega
              · have hmI : (n : Int) ≤ (A2 : Int) + (s : Int) := by omega
                go_wp2
                go_roundw
                case rel => exact ⟨2 * s, R3, by go_num, by omega, by omega, HR3, Lib.hid HM.out.sz, Lib.hid HM.out.perm, Lib.hid (HM.out.done (by rw [← HA2.out, HDN.out]; omega))⟩
                case measure => simp [intOf]; omega
        · go_wp2
          go_end0
          exact ⟨rfl, R2, HR2.out, HP2.out, good_end HG2.out (by rw [HDN.out]; omega)⟩

theorem stable_anyQ {α : Type} [Inhabited α] (enc : α → Value) (hE : ∀ x, ∃ a n c, enc x = .slice a n c) (cf : α → α → Int) (lt2 : α → α → Bool) (hO : SWO lt2) (D : α → Prop) (f : FuncId) (cb : Array Value) (g cap : Nat) (rest : List Value) (d : Array α) (w0 w : World)
    (hC : CmpQ Try.prog f cb enc cf D w0 g) (hS : SB enc w0 g 25 rest d w) (hD : ∀ i, i < d.size → D d[i]!) (hag : ∀ p q, p < q → q < d.size → ltOf cf d[q]! d[p]! = lt2 d[q]! d[p]!) (hsz : d.size < 1152921504606846976) :
    Calls Try.prog 40 #[.slice (some ⟨g, 0, none⟩) d.size cap, .func (.func f) #[] cb] w fun e w' => e = .returned (.tuple #[]) ∧ ∃ R, SB enc w0 g 25 rest R w' ∧ PermIn 0 d.size d R ∧ SortedIn lt2 0 d.size R := by
  obtain ⟨n, hn⟩ : ∃ n, n = d.size := ⟨_, rfl⟩
  have hcore := stable_coreQ enc hE cf lt2 hO D f cb g cap n rest d w0 w hC hS hD hag hn.symm (by omega)
  rw [← hn] at hsz ⊢
  rw [← hn] at hcore
  have HC := Lib.hid hcore
  clear hcore hC hS hD hag hn
  go_enter Try.func40, Try.ntmps40
  go_wp2_with (go_at_call 57; refine HC.out.mono ?_; rintro e w2 ⟨rfl, R, h1, h2, h3⟩)
  go_end0
  exact ⟨rfl, R, h1, h2, h3⟩

end Go.Proofs.Ytmejhjgdofncfaa
