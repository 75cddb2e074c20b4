/-
  Our texts Sym3 to Scope, in one.
-/
import Derived.Test.YtngjbhejfojpbaaGreatPkK2
import Derived.BigQuiet
import Derived.Deep.AppendLies
import Derived.Deep.RegionLaw
import Derived.Deep.RegionHeld3
import Derived.ScopeJumps
import Derived.WalkMore
import Derived.Deep.LoopGhost
set_option maxRecDepth 8000
set_option maxHeartbeats 8000000
namespace Go.Proofs.YtngjbhejfojpbaaGreat
open Go.RowKit Go.Sort
def MergeSaid {α : Type} [Inhabited α] (enc : α → Value) (cf : α → α → Int) (lt : α → α → Bool) (D : α → Prop) (f : FuncId) (cb : Array Value) (g cap : Nat) (rest : List Value) (n : Nat) (w0 : World) (N : Nat) : Prop :=
 ∀ (a m b : Nat) (d : Array α) (w : World), b - a ≤ N → d.size = n → SB enc w0 g 3 rest d w → (∀ i, i < d.size → D d[i]!) → a < m → m < b → b ≤ n → SortedIn lt a m d → SortedIn lt m b d → zbP (ltOf cf) lt d a m b →
   Calls Tryz.prog 88 #[.slice (some ⟨g, 0, none⟩) n cap, .int .i64 a, .int .i64 m, .int .i64 b, .func (.func f) #[] cb] w fun e w' => zd2 enc lt g a b rest d w0 e w'
def FinSaid {α : Type} [Inhabited α] (enc : α → Value) (lt : α → α → Bool) (f : FuncId) (cb : Array Value) (g cap : Nat) (rest : List Value) (n : Nat) (w0 : World) (a m b mid s0 r0 : Nat) (d : Array α) : Prop :=
 ∀ (s : Nat) (wr : World), s0 ≤ s → s ≤ r0 → SB enc w0 g 3 rest d wr → (s0 < s → lt d[mid + m - s]! d[s - 1]! = false) → (s < r0 → lt d[mid + m - s - 1]! d[s]! = true) →
     ∃ e, e = mid + m - s ∧ m ≤ e ∧ e ≤ b ∧ mid ≤ e ∧ s + (e - m) = mid ∧
     (s < m → m < e → Calls Tryz.prog 95 #[.slice (some ⟨g, 0, none⟩) n cap, .int .i64 s, .int .i64 m, .int .i64 e, .func (.func f) #[] cb] wr fun e1 w' => e1 = .returned (.tuple #[]) ∧ ∃ R : Array α, R.size = n ∧ SB enc w0 g 3 rest R w' ∧ (∀ k, R[k]! = rotF d s m e k) ∧ PermIn a b d R) ∧
     (∀ (R : Array α) (W : World), R.size = n → SB enc w0 g 3 rest R W → (∀ k, R[k]! = rotF d s m e k) → PermIn a b d R → a < s → s < mid → Calls Tryz.prog 88 #[.slice (some ⟨g, 0, none⟩) n cap, .int .i64 a, .int .i64 s, .int .i64 mid, .func (.func f) #[] cb] W fun e1 w' => zd2 enc lt g a mid rest R w0 e1 w') ∧
     (∀ (R R1 : Array α) (W : World), R.size = n → R1.size = n → SB enc w0 g 3 rest R1 W → (∀ k, R[k]! = rotF d s m e k) → PermIn a b d R → PermIn a mid R R1 → mid < e → e < b → Calls Tryz.prog 88 #[.slice (some ⟨g, 0, none⟩) n cap, .int .i64 mid, .int .i64 e, .int .i64 b, .func (.func f) #[] cb] W fun e1 w' => zd2 enc lt g mid b rest R1 w0 e1 w') ∧
     (∀ R : Array α, (∀ k, R[k]! = rotF d s m e k) → (s = a ∨ s = mid) → SortedIn lt a mid R) ∧
     (∀ R R1 : Array α, (∀ k, R[k]! = rotF d s m e k) → PermIn a mid R R1 → (e = mid ∨ e = b) → SortedIn lt mid b R1) ∧
     (∀ R R1 R2 : Array α, R.size = n → (∀ k, R[k]! = rotF d s m e k) → PermIn a b d R → PermIn a mid R R1 → SortedIn lt a mid R1 → PermIn mid b R1 R2 → SortedIn lt mid b R2 → PermIn a b d R2 ∧ SortedIn lt a b R2)
theorem sym_fin {α : Type} [Inhabited α] (enc : α → Value) (hE : ∀ x, ∃ n, enc x = .int .i64 n) (cf : α → α → Int) (lt : α → α → Bool) (hL : SWO lt) (D : α → Prop) (f : FuncId) (cb : Array Value) (g cap : Nat) (rest : List Value) (n : Nat) (w0 : World) (N : Nat)
   (hsz : n < 4611686018427387904) (ih : MergeSaid enc cf lt D f cb g cap rest n w0 N)
   (a m b mid s0 r0 : Nat) (d : Array α) (hN : b - a ≤ N + 1) (hdn : d.size = n) (hD : ∀ i, i < d.size → D d[i]!) (hb : b ≤ n) (h1 : SortedIn lt a m d) (h2 : SortedIn lt m b d) (hA : zbP (ltOf cf) lt d a m b)
   (hma : a < mid) (hmB : mid < b) (hs0a : a ≤ s0) (hr0m : r0 ≤ m) (hr0d : r0 ≤ mid) (hs0b : mid + m - s0 ≤ b) (hend0 : s0 = a ∨ mid + m - s0 = b) (hend1 : r0 = m ∨ r0 = mid) : FinSaid enc lt f cb g cap rest n w0 a m b mid s0 r0 d := by
 have HD := Lib.hid hD
 have H1 := Lib.hid h1
 have H2 := Lib.hid h2
 have HA := Lib.hid hA
 have HI := Lib.hid ih
 clear hD h1 h2 hA ih
 intro s wr h3 h4 hSB h5 h6
 refine ⟨mid + m - s, rfl, by omega, by omega, by omega, by omega, ?_, ?_, ?_, ?_, ?_, ?_⟩
 · intro h7 h8
   have h9 := rot_any enc hE (.func (.func f) #[] cb) g cap s m (mid + m - s) rest d w0 wr hSB h7 h8 (by omega) (by omega)
   rw [hdn] at h9
   exact h9.mono fun e1 w' ⟨q1, R, q2, q3, q4, q5⟩ => ⟨q1, R, q2, q3, q4, permIn_mono d R s (mid + m - s) a b (by omega) (by omega) (by omega) q5⟩
 · intro R W hR1 hR2 hR3 hR4 h7 h8
   refine HI.out a s mid R W (by omega) hR1 hR2 (zba D (by omega) hR4 HD.out) h7 h8 (by omega) (sp1 hR3 (by omega) (by omega) H1.out) ?_ ?_
   · have := sp2 hR3 (by omega) (by omega) (by omega) H2.out
     rwa [show s + (mid + m - s - m) = mid from by omega] at this
   · have := agree_lo hR3 (a := a) (by omega) (by omega) (by omega : mid + m - s ≤ b) HA.out
     rwa [show s + (mid + m - s - m) = mid from by omega] at this
 · intro R R1 W hR1 hR2 hR3 hR4 hR5 hR6 h7 h8
   have hc : ∀ k, mid ≤ k → R1[k]! = R[k]! := fun k hk => hR6.2.1 k (by omega)
   refine HI.out mid (mid + m - s) b R1 W (by omega) hR2 hR3 (zba D (by omega) hR6 (zba D (by omega) hR5 HD.out)) h7 h8 hb ?_ ?_ ?_
   · have := sp3 hR4 (a := a) (by omega) (by omega) (by omega) H1.out
     rw [show s + (mid + m - s - m) = mid from by omega] at this
     exact zaM this (fun k h9 _ => hc k h9)
   · exact zaM (sp4 hR4 (by omega) (by omega) (by omega) H2.out) (fun k h9 _ => hc k (by omega))
   · have := agree_hi hR4 (b := b) (by omega : a ≤ s) (by omega) (by omega) HA.out
     rw [show s + (mid + m - s - m) = mid from by omega] at this
     exact zd1 this (fun k h9 _ => hc k h9)
 · intro R hR h7
   have := skip_lo hR (by omega : a ≤ s) (by omega) (by omega) (by omega : mid + m - s ≤ b) H1.out H2.out (by omega)
   rwa [show s + (mid + m - s - m) = mid from by omega] at this
 · intro R R1 hR hP h7
   have := skip_hi hR (by omega : a ≤ s) (by omega) (by omega) (by omega : mid + m - s ≤ b) H1.out H2.out (by omega)
   rw [show s + (mid + m - s - m) = mid from by omega] at this
   exact zaM this (fun k h9 _ => hP.2.1 k (by omega))
 · intro R R1 R2 hR1 hR hP p1 s1 p2 s2
   have hm2 : s + (mid + m - s - m) = mid := by omega
   refine ⟨permIn_trans _ _ _ _ _ (permIn_trans _ _ _ _ _ hP (permIn_mono R R1 a mid a b (by omega) (by omega) (by omega) p1)) (permIn_mono R1 R2 mid b a b (by omega) (by omega) (by have := p1.1; omega) p2), ?_⟩
   refine zeP hL d R R1 R2 a m b s (mid + m - s) (by omega) (by omega) (by omega) (by omega) (by omega) (by omega) H1.out H2.out hR (fun q1 q2 => h5 (by omega)) (fun q1 q2 => ?_) (by rw [hm2]; exact p1) (by rw [hm2]; exact s1) (by rw [hm2]; exact p2) (by rw [hm2]; exact s2)
   have h8 := h6 (by omega)
   cases h9 : lt d[s]! d[mid + m - s - 1]! with
   | false => rfl
   | true => have := hL.trans _ _ _ h8 h9; rw [hL.irrefl] at this; cases this
theorem sym_hi {α : Type} [Inhabited α] (enc : α → Value) (hE : ∀ x, ∃ n, enc x = .int .i64 n) (cf : α → α → Int) (lt : α → α → Bool) (D : α → Prop) (f : FuncId) (cb : Array Value) (g cap : Nat) (rest : List Value) (n : Nat) (w0 : World)
   (hC : CmpQ Tryz.prog f cb enc cf D w0 g) (hsz : n < 4611686018427387904) (a m b mid s0 r0 : Nat) (d : Array α) (w : World) (hdn : d.size = n) (hS : SB enc w0 g 3 rest d w) (hD : ∀ i, i < d.size → D d[i]!) (ham : a + 1 < m) (hmb : m + 1 < b) (hb : b ≤ n) (hA : zbP (ltOf cf) lt d a m b)
   (hmid : mid = (a + b) / 2) (hcase : mid < m) (hs0 : s0 = mid + m - b) (hr0 : r0 = mid) (hfin : FinSaid enc lt f cb g cap rest n w0 a m b mid s0 r0 d) :
   Calls Tryz.prog 88 #[.slice (some ⟨g, 0, none⟩) n cap, .int .i64 a, .int .i64 m, .int .i64 b, .func (.func f) #[] cb] w fun e w' => zd2 enc lt g a b rest d w0 e w' := by
 have hne1 : ((m : Int) - (a : Int) == 1) = false := by rw [beq_eq_false_iff_ne]; omega
 have hne2 : ((b : Int) - (m : Int) == 1) = false := by rw [beq_eq_false_iff_ne]; omega
 have hmid1 : ((a : Int) + (b : Int)) / 2 = (mid : Int) := by omega
 have hma : a < mid := by omega
 have hmB : mid < b := by omega
 have hsr : s0 ≤ r0 := by omega
 have hs0a : a ≤ s0 := by omega
 have hr0m : r0 ≤ m := by omega
 have hr0d : r0 ≤ mid := by omega
 have hs0b : mid + m - s0 ≤ b := by omega
 have hend0 : s0 = a ∨ mid + m - s0 = b := by omega
 have hend1 : r0 = m ∨ r0 = mid := by omega
 have eg := hC.enters
 have HC := Lib.hid hC
 have HS := Lib.hid hS
 have HD := Lib.hid hD
 have HA := Lib.hid hA
 have HS0 := Lib.hid hs0
 have HR0 := Lib.hid hr0
 have FIN := Lib.hid hfin
 clear hC hS hD hA hs0 hr0 hmid hfin
 go_enter Tryz.func88, Tryz.ntmps88
 go_wp2
 go_loopw [20, 21] (fun vs vr wr => ∃ (s r : Nat), vs = .int .i64 s ∧ vr = .int .i64 r ∧ s0 ≤ s ∧ s ≤ r ∧ r ≤ r0 ∧ Hid (SB enc w0 g 3 rest d wr) ∧ Hid (s0 < s → lt d[mid + m - s]! d[s - 1]! = false) ∧ Hid (r < r0 → lt d[mid + m - r - 1]! d[r]! = true)) (fun vs vr _ => (intOf vr).toNat - (intOf vs).toNat)
 case atStart => exact ⟨s0, r0, by have := HS0.out; go_num, by have := HR0.out; go_num, Nat.le_refl _, hsr, Nat.le_refl _, HS, Lib.hid (fun h => absurd h (Nat.lt_irrefl _)), Lib.hid (fun h => absurd h (Nat.lt_irrefl _))⟩
 case round =>
   obtain ⟨s, r, rfl, rfl, h3, h4, h5, HSk, HLo, HHi⟩ := hrel
   clear HS
   by_cases hlt : s < r
   · obtain ⟨c, hc⟩ : ∃ c, c = (s + r) / 2 := ⟨_, rfl⟩
     have hc1 := HSk.out.cell (mid + m - 1 - c) (by omega)
     have hc2 := HSk.out.cell c (by omega)
     have hcall := fun q => HC.out.calls (wr.drewN q) (HSk.out.drewN q).grown d[mid + m - 1 - c]! d[c]! (HD.out (mid + m - 1 - c) (by omega)) (HD.out c (by omega))
     have hag := HA.out c (mid + m - 1 - c) (by omega) (by omega) (by omega) (by omega)
     obtain ⟨X, hX⟩ : ∃ X, X = d[mid + m - 1 - c]! := ⟨_, rfl⟩
     obtain ⟨Y, hY⟩ : ∃ Y, Y = d[c]! := ⟨_, rfl⟩
     rw [← hX] at hc1 hcall hag
     rw [← hY] at hc2 hcall hag
     have HX := Lib.hid hX
     have HY := Lib.hid hY
     obtain ⟨x, hx⟩ := hE X
     obtain ⟨y, hy⟩ := hE Y
     rw [hx] at hc1 hcall
     rw [hy] at hc2 hcall
     have HCALL := Lib.hid hcall
     have HAG := Lib.hid hag
     clear hcall hx hy hX hY hag
     have hh1 : ((s : Int) + (r : Int)) / 2 = (c : Int) := by omega
     have hidx : ((mid : Int) + (m : Int) - 1 - (c : Int)).toNat = mid + m - 1 - c := by omega
     have hi0 : 0 ≤ (mid : Int) + (m : Int) - 1 - (c : Int) := by omega
     have hi1 : (mid : Int) + (m : Int) - 1 - (c : Int) < (n : Int) := by omega
     have hcn : (c : Int) < (n : Int) := by omega
     have hhi : s ≤ c := by omega
     have hhj : c < r := by omega
     clear hc
     by_cases hcf : cf X Y < 0
     · have hl : lt X Y = true := by rw [← HAG.out]; simpa [ltOf] using hcf
       have HL := Lib.hid hl
       have hcf2 : cf X Y < 0 := hcf
       have hcfB : decide (cf X Y < 0) = true := by rw [decide_eq_true_iff]; exact hcf
       clear hl hcf
       go_wp2_with fail
       go_quiet ((refine Calls.quiet_of (HCALL.out _)))
       go_wp2
       go_roundw
       case rel => exact ⟨s, c, rfl, rfl, h3, hhi, by omega, Lib.hid (HSk.out.drewN _), HLo, Lib.hid (fun _ => by rw [show mid + m - c - 1 = mid + m - 1 - c from by omega, ← HX.out, ← HY.out]; exact HL.out)⟩
       case measure => simp [intOf]; omega
     · have hl : lt X Y = false := by rw [← HAG.out]; simpa [ltOf] using hcf
       have HL := Lib.hid hl
       have hcf2 : 0 ≤ cf X Y := by omega
       have hcfB : decide (cf X Y < 0) = false := by rw [decide_eq_false_iff_not]; omega
       clear hl hcf
       go_wp2_with fail
       go_quiet ((refine Calls.quiet_of (HCALL.out _)))
       go_wp2
       go_roundw
       case rel => exact ⟨c + 1, r, by go_num, rfl, by omega, by omega, h5, Lib.hid (HSk.out.drewN _), Lib.hid (fun _ => by rw [show mid + m - (c + 1) = mid + m - 1 - c from by omega, Nat.add_sub_cancel, ← HX.out, ← HY.out]; exact HL.out), HHi⟩
       case measure => simp [intOf]; omega
   · obtain rfl : s = r := by omega
     obtain ⟨e, he, hme, heb, hde, hsum, FROT, FS1, FS2, FK1, FK2, FD⟩ := FIN.out s wr h3 h5 HSk.out HLo.out HHi.out
     have he1 : (mid : Int) + (m : Int) - (s : Int) = (e : Int) := by omega
     replace FROT := Lib.hid FROT
     replace FS1 := Lib.hid FS1
     replace FS2 := Lib.hid FS2
     replace FK1 := Lib.hid FK1
     replace FK2 := Lib.hid FK2
     replace FD := Lib.hid FD
     clear he
     by_cases hA1 : s < m
     · by_cases hB1 : m < e
       · by_cases hC1 : a < s
         · by_cases hE1 : e < b
           · have hq0 : (s : Int) < (mid : Int) := by omega
             have hq1 : (mid : Int) < (e : Int) := by omega
             have HROT := Lib.hid (FROT.out (by omega) (by omega))
             go_wp2_with fail
             (with_reducible refine HROT.out.mono ?_)
             rintro e1 w2 ⟨rfl, R, hRs, hRB, hRk, hRp⟩
             have HB2 := Lib.hid hRB
             have HRK := Lib.hid hRk
             have HRP := Lib.hid hRp
             clear hRB hRk hRp
             have hs1 := FS1.out R w2 hRs HB2.out HRK.out HRP.out (by omega) (by omega)
             have HS1C := Lib.hid hs1
             clear hs1
             go_wp2_with fail
             (with_reducible refine HS1C.out.mono ?_)
             rintro e2 w3 ⟨rfl, R1, hR1s', hR1B, hR1p, hR1o⟩
             have hR1s : R1.size = n := hR1s'.trans hRs
             have HB3 := Lib.hid hR1B
             have HP1 := Lib.hid hR1p
             have HO1 := Lib.hid hR1o
             clear hR1s' hR1B hR1p hR1o
             have hs2 := FS2.out R R1 w3 hRs hR1s HB3.out HRK.out HRP.out HP1.out (by omega) (by omega)
             have HS2C := Lib.hid hs2
             clear hs2
             go_wp2_with fail
             (with_reducible refine HS2C.out.mono ?_)
             rintro e3 w4 ⟨rfl, R2, hR2s', hR2B, hR2p, hR2o⟩
             have hR2s : R2.size = n := hR2s'.trans hR1s
             have HB4 := Lib.hid hR2B
             have HP2 := Lib.hid hR2p
             have HO2 := Lib.hid hR2o
             clear hR2s' hR2B hR2p hR2o
             go_wp2
             all_goals go_end0
             all_goals exact ⟨rfl, R2, hR2s.trans hdn.symm, HB4.out, FD.out R R1 R2 hRs HRK.out HRP.out HP1.out HO1.out HP2.out HO2.out⟩
           · have hq0 : (s : Int) < (mid : Int) := by omega
             have hq1 : (mid : Int) < (e : Int) := by omega
             have hq2 : (b : Int) ≤ (e : Int) := by omega
             have HROT := Lib.hid (FROT.out (by omega) (by omega))
             go_wp2_with fail
             (with_reducible refine HROT.out.mono ?_)
             rintro e1 w2 ⟨rfl, R, hRs, hRB, hRk, hRp⟩
             have HB2 := Lib.hid hRB
             have HRK := Lib.hid hRk
             have HRP := Lib.hid hRp
             clear hRB hRk hRp
             have hs1 := FS1.out R w2 hRs HB2.out HRK.out HRP.out (by omega) (by omega)
             have HS1C := Lib.hid hs1
             clear hs1
             go_wp2_with fail
             (with_reducible refine HS1C.out.mono ?_)
             rintro e2 w3 ⟨rfl, R1, hR1s', hR1B, hR1p, hR1o⟩
             have hR1s : R1.size = n := hR1s'.trans hRs
             have HB3 := Lib.hid hR1B
             have HP1 := Lib.hid hR1p
             have HO1 := Lib.hid hR1o
             clear hR1s' hR1B hR1p hR1o
             have hR2s : R1.size = n := hR1s
             have HB4 := Lib.hid HB3.out
             have HP2 := Lib.hid (permIn_refl R1 mid b)
             have HO2 := Lib.hid (FK2.out R R1 HRK.out HP1.out (by omega))
             go_wp2
             all_goals go_end0
             all_goals exact ⟨rfl, R1, hR2s.trans hdn.symm, HB4.out, FD.out R R1 R1 hRs HRK.out HRP.out HP1.out HO1.out HP2.out HO2.out⟩
         · by_cases hE1 : e < b
           · have hq0 : (s : Int) < (mid : Int) := by omega
             have hq1 : (mid : Int) < (e : Int) := by omega
             have hq2 : (s : Int) ≤ (a : Int) := by omega
             have HROT := Lib.hid (FROT.out (by omega) (by omega))
             go_wp2_with fail
             (with_reducible refine HROT.out.mono ?_)
             rintro e1 w2 ⟨rfl, R, hRs, hRB, hRk, hRp⟩
             have HB2 := Lib.hid hRB
             have HRK := Lib.hid hRk
             have HRP := Lib.hid hRp
             clear hRB hRk hRp
             have hR1s : R.size = n := hRs
             have HB3 := Lib.hid HB2.out
             have HP1 := Lib.hid (permIn_refl R a mid)
             have HO1 := Lib.hid (FK1.out R HRK.out (by omega))
             have hs2 := FS2.out R R w2 hRs hR1s HB3.out HRK.out HRP.out HP1.out (by omega) (by omega)
             have HS2C := Lib.hid hs2
             clear hs2
             go_wp2_with fail
             (with_reducible refine HS2C.out.mono ?_)
             rintro e3 w4 ⟨rfl, R2, hR2s', hR2B, hR2p, hR2o⟩
             have hR2s : R2.size = n := hR2s'.trans hR1s
             have HB4 := Lib.hid hR2B
             have HP2 := Lib.hid hR2p
             have HO2 := Lib.hid hR2o
             clear hR2s' hR2B hR2p hR2o
             go_wp2
             all_goals go_end0
             all_goals exact ⟨rfl, R2, hR2s.trans hdn.symm, HB4.out, FD.out R R R2 hRs HRK.out HRP.out HP1.out HO1.out HP2.out HO2.out⟩
           · have hq0 : (s : Int) < (mid : Int) := by omega
             have hq1 : (mid : Int) < (e : Int) := by omega
             have hq2 : (s : Int) ≤ (a : Int) := by omega
             have hq3 : (b : Int) ≤ (e : Int) := by omega
             have HROT := Lib.hid (FROT.out (by omega) (by omega))
             go_wp2_with fail
             (with_reducible refine HROT.out.mono ?_)
             rintro e1 w2 ⟨rfl, R, hRs, hRB, hRk, hRp⟩
             have HB2 := Lib.hid hRB
             have HRK := Lib.hid hRk
             have HRP := Lib.hid hRp
             clear hRB hRk hRp
             have hR1s : R.size = n := hRs
             have HB3 := Lib.hid HB2.out
             have HP1 := Lib.hid (permIn_refl R a mid)
             have HO1 := Lib.hid (FK1.out R HRK.out (by omega))
             have hR2s : R.size = n := hR1s
             have HB4 := Lib.hid HB3.out
             have HP2 := Lib.hid (permIn_refl R mid b)
             have HO2 := Lib.hid (FK2.out R R HRK.out HP1.out (by omega))
             go_wp2
             all_goals go_end0
             all_goals exact ⟨rfl, R, hR2s.trans hdn.symm, HB4.out, FD.out R R R hRs HRK.out HRP.out HP1.out HO1.out HP2.out HO2.out⟩
       · have hq0 : (e : Int) ≤ (m : Int) := by omega
         have hq1 : (mid : Int) ≤ (s : Int) := by omega
         have hq2 : (a : Int) < (s : Int) := by omega
         have hq3 : (e : Int) < (b : Int) := by omega
         have hq4 : (mid : Int) < (e : Int) := by omega
         have hRs : d.size = n := hdn
         have HB2 := Lib.hid HSk.out
         have HRK := Lib.hid (zaW d s m e (by omega) (by omega) (by omega))
         have HRP := Lib.hid (permIn_refl d a b)
         have hR1s : d.size = n := hRs
         have HB3 := Lib.hid HB2.out
         have HP1 := Lib.hid (permIn_refl d a mid)
         have HO1 := Lib.hid (FK1.out d HRK.out (by omega))
         have hs2 := FS2.out d d wr hRs hR1s HB3.out HRK.out HRP.out HP1.out (by omega) (by omega)
         have HS2C := Lib.hid hs2
         clear hs2
         go_wp2_with fail
         all_goals
           (with_reducible refine HS2C.out.mono ?_)
           rintro e3 w4 ⟨rfl, R2, hR2s', hR2B, hR2p, hR2o⟩
           have hR2s : R2.size = n := hR2s'.trans hR1s
           have HB4 := Lib.hid hR2B
           have HP2 := Lib.hid hR2p
           have HO2 := Lib.hid hR2o
           clear hR2s' hR2B hR2p hR2o
           go_wp2
           all_goals go_end0
           all_goals exact ⟨rfl, R2, hR2s.trans hdn.symm, HB4.out, FD.out d d R2 hRs HRK.out HRP.out HP1.out HO1.out HP2.out HO2.out⟩
     · by_cases hB1 : m < e
       · have hq0 : (m : Int) ≤ (s : Int) := by omega
         have hq1 : (s : Int) < (mid : Int) := by omega
         have hq2 : (a : Int) < (s : Int) := by omega
         have hq3 : (e : Int) < (b : Int) := by omega
         have hq4 : (e : Int) ≤ (mid : Int) := by omega
         have hRs : d.size = n := hdn
         have HB2 := Lib.hid HSk.out
         have HRK := Lib.hid (zaW d s m e (by omega) (by omega) (by omega))
         have HRP := Lib.hid (permIn_refl d a b)
         have hs1 := FS1.out d wr hRs HB2.out HRK.out HRP.out (by omega) (by omega)
         have HS1C := Lib.hid hs1
         clear hs1
         go_wp2_with fail
         all_goals
           (with_reducible refine HS1C.out.mono ?_)
           rintro e2 w3 ⟨rfl, R1, hR1s', hR1B, hR1p, hR1o⟩
           have hR1s : R1.size = n := hR1s'.trans hRs
           have HB3 := Lib.hid hR1B
           have HP1 := Lib.hid hR1p
           have HO1 := Lib.hid hR1o
           clear hR1s' hR1B hR1p hR1o
           have hR2s : R1.size = n := hR1s
           have HB4 := Lib.hid HB3.out
           have HP2 := Lib.hid (permIn_refl R1 mid b)
           have HO2 := Lib.hid (FK2.out d R1 HRK.out HP1.out (by omega))
           go_wp2
           all_goals go_end0
           all_goals exact ⟨rfl, R1, hR2s.trans hdn.symm, HB4.out, FD.out d R1 R1 hRs HRK.out HRP.out HP1.out HO1.out HP2.out HO2.out⟩
       · have hq0 : (m : Int) ≤ (s : Int) := by omega
         have hq1 : (e : Int) ≤ (m : Int) := by omega
         have hq2 : (mid : Int) ≤ (s : Int) := by omega
         have hq3 : (a : Int) < (s : Int) := by omega
         have hq4 : (e : Int) < (b : Int) := by omega
         have hq5 : (e : Int) ≤ (mid : Int) := by omega
         have hRs : d.size = n := hdn
         have HB2 := Lib.hid HSk.out
         have HRK := Lib.hid (zaW d s m e (by omega) (by omega) (by omega))
         have HRP := Lib.hid (permIn_refl d a b)
         have hR1s : d.size = n := hRs
         have HB3 := Lib.hid HB2.out
         have HP1 := Lib.hid (permIn_refl d a mid)
         have HO1 := Lib.hid (FK1.out d HRK.out (by omega))
         have hR2s : d.size = n := hR1s
         have HB4 := Lib.hid HB3.out
         have HP2 := Lib.hid (permIn_refl d mid b)
         have HO2 := Lib.hid (FK2.out d d HRK.out HP1.out (by omega))
         go_wp2
         all_goals
           all_goals go_end0
           all_goals exact ⟨rfl, d, hR2s.trans hdn.symm, HB4.out, FD.out d d d hRs HRK.out HRP.out HP1.out HO1.out HP2.out HO2.out⟩
theorem sym_lo {α : Type} [Inhabited α] (enc : α → Value) (hE : ∀ x, ∃ n, enc x = .int .i64 n) (cf : α → α → Int) (lt : α → α → Bool) (D : α → Prop) (f : FuncId) (cb : Array Value) (g cap : Nat) (rest : List Value) (n : Nat) (w0 : World)
   (hC : CmpQ Tryz.prog f cb enc cf D w0 g) (hsz : n < 4611686018427387904) (a m b mid s0 r0 : Nat) (d : Array α) (w : World) (hdn : d.size = n) (hS : SB enc w0 g 3 rest d w) (hD : ∀ i, i < d.size → D d[i]!) (ham : a + 1 < m) (hmb : m + 1 < b) (hb : b ≤ n) (hA : zbP (ltOf cf) lt d a m b)
   (hmid : mid = (a + b) / 2) (hcase : m ≤ mid) (hs0 : s0 = a) (hr0 : r0 = m) (hfin : FinSaid enc lt f cb g cap rest n w0 a m b mid s0 r0 d) :
   Calls Tryz.prog 88 #[.slice (some ⟨g, 0, none⟩) n cap, .int .i64 a, .int .i64 m, .int .i64 b, .func (.func f) #[] cb] w fun e w' => zd2 enc lt g a b rest d w0 e w' := by
 have hne1 : ((m : Int) - (a : Int) == 1) = false := by rw [beq_eq_false_iff_ne]; omega
 have hne2 : ((b : Int) - (m : Int) == 1) = false := by rw [beq_eq_false_iff_ne]; omega
 have hmid1 : ((a : Int) + (b : Int)) / 2 = (mid : Int) := by omega
 have hma : a < mid := by omega
 have hmB : mid < b := by omega
 have hsr : s0 ≤ r0 := by omega
 have hs0a : a ≤ s0 := by omega
 have hr0m : r0 ≤ m := by omega
 have hr0d : r0 ≤ mid := by omega
 have hs0b : mid + m - s0 ≤ b := by omega
 have hend0 : s0 = a ∨ mid + m - s0 = b := by omega
 have hend1 : r0 = m ∨ r0 = mid := by omega
 have eg := hC.enters
 have HC := Lib.hid hC
 have HS := Lib.hid hS
 have HD := Lib.hid hD
 have HA := Lib.hid hA
 have HS0 := Lib.hid hs0
 have HR0 := Lib.hid hr0
 have FIN := Lib.hid hfin
 clear hC hS hD hA hs0 hr0 hmid hfin
 go_enter Tryz.func88, Tryz.ntmps88
 go_wp2
 go_loopw [20, 21] (fun vs vr wr => ∃ (s r : Nat), vs = .int .i64 s ∧ vr = .int .i64 r ∧ s0 ≤ s ∧ s ≤ r ∧ r ≤ r0 ∧ Hid (SB enc w0 g 3 rest d wr) ∧ Hid (s0 < s → lt d[mid + m - s]! d[s - 1]! = false) ∧ Hid (r < r0 → lt d[mid + m - r - 1]! d[r]! = true)) (fun vs vr _ => (intOf vr).toNat - (intOf vs).toNat)
 case atStart => exact ⟨s0, r0, by have := HS0.out; go_num, by have := HR0.out; go_num, Nat.le_refl _, hsr, Nat.le_refl _, HS, Lib.hid (fun h => absurd h (Nat.lt_irrefl _)), Lib.hid (fun h => absurd h (Nat.lt_irrefl _))⟩
 case round =>
   obtain ⟨s, r, rfl, rfl, h3, h4, h5, HSk, HLo, HHi⟩ := hrel
   clear HS
   by_cases hlt : s < r
   · obtain ⟨c, hc⟩ : ∃ c, c = (s + r) / 2 := ⟨_, rfl⟩
     have hc1 := HSk.out.cell (mid + m - 1 - c) (by omega)
     have hc2 := HSk.out.cell c (by omega)
     have hcall := fun q => HC.out.calls (wr.drewN q) (HSk.out.drewN q).grown d[mid + m - 1 - c]! d[c]! (HD.out (mid + m - 1 - c) (by omega)) (HD.out c (by omega))
     have hag := HA.out c (mid + m - 1 - c) (by omega) (by omega) (by omega) (by omega)
     obtain ⟨X, hX⟩ : ∃ X, X = d[mid + m - 1 - c]! := ⟨_, rfl⟩
     obtain ⟨Y, hY⟩ : ∃ Y, Y = d[c]! := ⟨_, rfl⟩
     rw [← hX] at hc1 hcall hag
     rw [← hY] at hc2 hcall hag
     have HX := Lib.hid hX
     have HY := Lib.hid hY
     obtain ⟨x, hx⟩ := hE X
     obtain ⟨y, hy⟩ := hE Y
     rw [hx] at hc1 hcall
     rw [hy] at hc2 hcall
     have HCALL := Lib.hid hcall
     have HAG := Lib.hid hag
     clear hcall hx hy hX hY hag
     have hh1 : ((s : Int) + (r : Int)) / 2 = (c : Int) := by omega
     have hidx : ((mid : Int) + (m : Int) - 1 - (c : Int)).toNat = mid + m - 1 - c := by omega
     have hi0 : 0 ≤ (mid : Int) + (m : Int) - 1 - (c : Int) := by omega
     have hi1 : (mid : Int) + (m : Int) - 1 - (c : Int) < (n : Int) := by omega
     have hcn : (c : Int) < (n : Int) := by omega
     have hhi : s ≤ c := by omega
     have hhj : c < r := by omega
     clear hc
     by_cases hcf : cf X Y < 0
     · have hl : lt X Y = true := by rw [← HAG.out]; simpa [ltOf] using hcf
       have HL := Lib.hid hl
       have hcf2 : cf X Y < 0 := hcf
       have hcfB : decide (cf X Y < 0) = true := by rw [decide_eq_true_iff]; exact hcf
       clear hl hcf
       go_wp2_with fail
       go_quiet ((refine Calls.quiet_of (HCALL.out _)))
       go_wp2
       go_roundw
       case rel => exact ⟨s, c, rfl, rfl, h3, hhi, by omega, Lib.hid (HSk.out.drewN _), HLo, Lib.hid (fun _ => by rw [show mid + m - c - 1 = mid + m - 1 - c from by omega, ← HX.out, ← HY.out]; exact HL.out)⟩
       case measure => simp [intOf]; omega
     · have hl : lt X Y = false := by rw [← HAG.out]; simpa [ltOf] using hcf
       have HL := Lib.hid hl
       have hcf2 : 0 ≤ cf X Y := by omega
       have hcfB : decide (cf X Y < 0) = false := by rw [decide_eq_false_iff_not]; omega
       clear hl hcf
       go_wp2_with fail
       go_quiet ((refine Calls.quiet_of (HCALL.out _)))
       go_wp2
       go_roundw
       case rel => exact ⟨c + 1, r, by go_num, rfl, by omega, by omega, h5, Lib.hid (HSk.out.drewN _), Lib.hid (fun _ => by rw [show mid + m - (c + 1) = mid + m - 1 - c from by omega, Nat.add_sub_cancel, ← HX.out, ← HY.out]; exact HL.out), HHi⟩
       case measure => simp [intOf]; omega
   · obtain rfl : s = r := by omega
     obtain ⟨e, he, hme, heb, hde, hsum, FROT, FS1, FS2, FK1, FK2, FD⟩ := FIN.out s wr h3 h5 HSk.out HLo.out HHi.out
     have he1 : (mid : Int) + (m : Int) - (s : Int) = (e : Int) := by omega
     replace FROT := Lib.hid FROT
     replace FS1 := Lib.hid FS1
     replace FS2 := Lib.hid FS2
     replace FK1 := Lib.hid FK1
     replace FK2 := Lib.hid FK2
     replace FD := Lib.hid FD
     clear he
     by_cases hA1 : s < m
     · by_cases hB1 : m < e
       · by_cases hC1 : a < s
         · by_cases hE1 : e < b
           · have hq0 : (s : Int) < (mid : Int) := by omega
             have hq1 : (mid : Int) < (e : Int) := by omega
             have HROT := Lib.hid (FROT.out (by omega) (by omega))
             go_wp2_with fail
             (with_reducible refine HROT.out.mono ?_)
             rintro e1 w2 ⟨rfl, R, hRs, hRB, hRk, hRp⟩
             have HB2 := Lib.hid hRB
             have HRK := Lib.hid hRk
             have HRP := Lib.hid hRp
             clear hRB hRk hRp
             have hs1 := FS1.out R w2 hRs HB2.out HRK.out HRP.out (by omega) (by omega)
             have HS1C := Lib.hid hs1
             clear hs1
             go_wp2_with fail
             (with_reducible refine HS1C.out.mono ?_)
             rintro e2 w3 ⟨rfl, R1, hR1s', hR1B, hR1p, hR1o⟩
             have hR1s : R1.size = n := hR1s'.trans hRs
             have HB3 := Lib.hid hR1B
             have HP1 := Lib.hid hR1p
             have HO1 := Lib.hid hR1o
             clear hR1s' hR1B hR1p hR1o
             have hs2 := FS2.out R R1 w3 hRs hR1s HB3.out HRK.out HRP.out HP1.out (by omega) (by omega)
             have HS2C := Lib.hid hs2
             clear hs2
             go_wp2_with fail
             (with_reducible refine HS2C.out.mono ?_)
             rintro e3 w4 ⟨rfl, R2, hR2s', hR2B, hR2p, hR2o⟩
             have hR2s : R2.size = n := hR2s'.trans hR1s
             have HB4 := Lib.hid hR2B
             have HP2 := Lib.hid hR2p
             have HO2 := Lib.hid hR2o
             clear hR2s' hR2B hR2p hR2o
             go_wp2
             all_goals go_end0
             all_goals exact ⟨rfl, R2, hR2s.trans hdn.symm, HB4.out, FD.out R R1 R2 hRs HRK.out HRP.out HP1.out HO1.out HP2.out HO2.out⟩
           · have hq0 : (s : Int) < (mid : Int) := by omega
             have hq1 : (mid : Int) < (e : Int) := by omega
             have hq2 : (b : Int) ≤ (e : Int) := by omega
             have HROT := Lib.hid (FROT.out (by omega) (by omega))
             go_wp2_with fail
             (with_reducible refine HROT.out.mono ?_)
             rintro e1 w2 ⟨rfl, R, hRs, hRB, hRk, hRp⟩
             have HB2 := Lib.hid hRB
             have HRK := Lib.hid hRk
             have HRP := Lib.hid hRp
             clear hRB hRk hRp
             have hs1 := FS1.out R w2 hRs HB2.out HRK.out HRP.out (by omega) (by omega)
             have HS1C := Lib.hid hs1
             clear hs1
             go_wp2_with fail
             (with_reducible refine HS1C.out.mono ?_)
             rintro e2 w3 ⟨rfl, R1, hR1s', hR1B, hR1p, hR1o⟩
             have hR1s : R1.size = n := hR1s'.trans hRs
             have HB3 := Lib.hid hR1B
             have HP1 := Lib.hid hR1p
             have HO1 := Lib.hid hR1o
             clear hR1s' hR1B hR1p hR1o
             have hR2s : R1.size = n := hR1s
             have HB4 := Lib.hid HB3.out
             have HP2 := Lib.hid (permIn_refl R1 mid b)
             have HO2 := Lib.hid (FK2.out R R1 HRK.out HP1.out (by omega))
             go_wp2
             all_goals go_end0
             all_goals exact ⟨rfl, R1, hR2s.trans hdn.symm, HB4.out, FD.out R R1 R1 hRs HRK.out HRP.out HP1.out HO1.out HP2.out HO2.out⟩
         · by_cases hE1 : e < b
           · have hq0 : (s : Int) < (mid : Int) := by omega
             have hq1 : (mid : Int) < (e : Int) := by omega
             have hq2 : (s : Int) ≤ (a : Int) := by omega
             have HROT := Lib.hid (FROT.out (by omega) (by omega))
             go_wp2_with fail
             (with_reducible refine HROT.out.mono ?_)
             rintro e1 w2 ⟨rfl, R, hRs, hRB, hRk, hRp⟩
             have HB2 := Lib.hid hRB
             have HRK := Lib.hid hRk
             have HRP := Lib.hid hRp
             clear hRB hRk hRp
             have hR1s : R.size = n := hRs
             have HB3 := Lib.hid HB2.out
             have HP1 := Lib.hid (permIn_refl R a mid)
             have HO1 := Lib.hid (FK1.out R HRK.out (by omega))
             have hs2 := FS2.out R R w2 hRs hR1s HB3.out HRK.out HRP.out HP1.out (by omega) (by omega)
             have HS2C := Lib.hid hs2
             clear hs2
             go_wp2_with fail
             (with_reducible refine HS2C.out.mono ?_)
             rintro e3 w4 ⟨rfl, R2, hR2s', hR2B, hR2p, hR2o⟩
             have hR2s : R2.size = n := hR2s'.trans hR1s
             have HB4 := Lib.hid hR2B
             have HP2 := Lib.hid hR2p
             have HO2 := Lib.hid hR2o
             clear hR2s' hR2B hR2p hR2o
             go_wp2
             all_goals go_end0
             all_goals exact ⟨rfl, R2, hR2s.trans hdn.symm, HB4.out, FD.out R R R2 hRs HRK.out HRP.out HP1.out HO1.out HP2.out HO2.out⟩
           · have hq0 : (s : Int) < (mid : Int) := by omega
             have hq1 : (mid : Int) < (e : Int) := by omega
             have hq2 : (s : Int) ≤ (a : Int) := by omega
             have hq3 : (b : Int) ≤ (e : Int) := by omega
             have HROT := Lib.hid (FROT.out (by omega) (by omega))
             go_wp2_with fail
             (with_reducible refine HROT.out.mono ?_)
             rintro e1 w2 ⟨rfl, R, hRs, hRB, hRk, hRp⟩
             have HB2 := Lib.hid hRB
             have HRK := Lib.hid hRk
             have HRP := Lib.hid hRp
             clear hRB hRk hRp
             have hR1s : R.size = n := hRs
             have HB3 := Lib.hid HB2.out
             have HP1 := Lib.hid (permIn_refl R a mid)
             have HO1 := Lib.hid (FK1.out R HRK.out (by omega))
             have hR2s : R.size = n := hR1s
             have HB4 := Lib.hid HB3.out
             have HP2 := Lib.hid (permIn_refl R mid b)
             have HO2 := Lib.hid (FK2.out R R HRK.out HP1.out (by omega))
             go_wp2
             all_goals go_end0
             all_goals exact ⟨rfl, R, hR2s.trans hdn.symm, HB4.out, FD.out R R R hRs HRK.out HRP.out HP1.out HO1.out HP2.out HO2.out⟩
       · have hq0 : (e : Int) ≤ (m : Int) := by omega
         have hq1 : (mid : Int) ≤ (s : Int) := by omega
         have hq2 : (a : Int) < (s : Int) := by omega
         have hq3 : (e : Int) < (b : Int) := by omega
         have hq4 : (mid : Int) < (e : Int) := by omega
         have hRs : d.size = n := hdn
         have HB2 := Lib.hid HSk.out
         have HRK := Lib.hid (zaW d s m e (by omega) (by omega) (by omega))
         have HRP := Lib.hid (permIn_refl d a b)
         have hR1s : d.size = n := hRs
         have HB3 := Lib.hid HB2.out
         have HP1 := Lib.hid (permIn_refl d a mid)
         have HO1 := Lib.hid (FK1.out d HRK.out (by omega))
         have hs2 := FS2.out d d wr hRs hR1s HB3.out HRK.out HRP.out HP1.out (by omega) (by omega)
         have HS2C := Lib.hid hs2
         clear hs2
         go_wp2_with fail
         all_goals
           (with_reducible refine HS2C.out.mono ?_)
           rintro e3 w4 ⟨rfl, R2, hR2s', hR2B, hR2p, hR2o⟩
           have hR2s : R2.size = n := hR2s'.trans hR1s
           have HB4 := Lib.hid hR2B
           have HP2 := Lib.hid hR2p
           have HO2 := Lib.hid hR2o
           clear hR2s' hR2B hR2p hR2o
           go_wp2
           all_goals go_end0
           all_goals exact ⟨rfl, R2, hR2s.trans hdn.symm, HB4.out, FD.out d d R2 hRs HRK.out HRP.out HP1.out HO1.out HP2.out HO2.out⟩
     · by_cases hB1 : m < e
       · have hq0 : (m : Int) ≤ (s : Int) := by omega
         have hq1 : (s : Int) < (mid : Int) := by omega
         have hq2 : (a : Int) < (s : Int) := by omega
         have hq3 : (e : Int) < (b : Int) := by omega
         have hq4 : (e : Int) ≤ (mid : Int) := by omega
         have hRs : d.size = n := hdn
         have HB2 := Lib.hid HSk.out
         have HRK := Lib.hid (zaW d s m e (by omega) (by omega) (by omega))
         have HRP := Lib.hid (permIn_refl d a b)
         have hs1 := FS1.out d wr hRs HB2.out HRK.out HRP.out (by omega) (by omega)
         have HS1C := Lib.hid hs1
         clear hs1
         go_wp2_with fail
         all_goals
           (with_reducible refine HS1C.out.mono ?_)
           rintro e2 w3 ⟨rfl, R1, hR1s', hR1B, hR1p, hR1o⟩
           have hR1s : R1.size = n := hR1s'.trans hRs
           have HB3 := Lib.hid hR1B
           have HP1 := Lib.hid hR1p
           have HO1 := Lib.hid hR1o
           clear hR1s' hR1B hR1p hR1o
           have hR2s : R1.size = n := hR1s
           have HB4 := Lib.hid HB3.out
           have HP2 := Lib.hid (permIn_refl R1 mid b)
           have HO2 := Lib.hid (FK2.out d R1 HRK.out HP1.out (by omega))
           go_wp2
           all_goals go_end0
           all_goals exact ⟨rfl, R1, hR2s.trans hdn.symm, HB4.out, FD.out d R1 R1 hRs HRK.out HRP.out HP1.out HO1.out HP2.out HO2.out⟩
       · have hq0 : (m : Int) ≤ (s : Int) := by omega
         have hq1 : (e : Int) ≤ (m : Int) := by omega
         have hq2 : (mid : Int) ≤ (s : Int) := by omega
         have hq3 : (a : Int) < (s : Int) := by omega
         have hq4 : (e : Int) < (b : Int) := by omega
         have hq5 : (e : Int) ≤ (mid : Int) := by omega
         have hRs : d.size = n := hdn
         have HB2 := Lib.hid HSk.out
         have HRK := Lib.hid (zaW d s m e (by omega) (by omega) (by omega))
         have HRP := Lib.hid (permIn_refl d a b)
         have hR1s : d.size = n := hRs
         have HB3 := Lib.hid HB2.out
         have HP1 := Lib.hid (permIn_refl d a mid)
         have HO1 := Lib.hid (FK1.out d HRK.out (by omega))
         have hR2s : d.size = n := hR1s
         have HB4 := Lib.hid HB3.out
         have HP2 := Lib.hid (permIn_refl d mid b)
         have HO2 := Lib.hid (FK2.out d d HRK.out HP1.out (by omega))
         go_wp2
         all_goals
           all_goals go_end0
           all_goals exact ⟨rfl, d, hR2s.trans hdn.symm, HB4.out, FD.out d d d hRs HRK.out HRP.out HP1.out HO1.out HP2.out HO2.out⟩
theorem merge_all {α : Type} [Inhabited α] (enc : α → Value) (hE : ∀ x, ∃ n, enc x = .int .i64 n) (cf : α → α → Int) (lt : α → α → Bool) (hL : SWO lt) (D : α → Prop) (f : FuncId) (cb : Array Value) (g cap : Nat) (rest : List Value) (n : Nat) (w0 : World)
   (hC : CmpQ Tryz.prog f cb enc cf D w0 g) (hsz : n < 4611686018427387904) : ∀ N, MergeSaid enc cf lt D f cb g cap rest n w0 N
 | 0 => fun a m b d w h1 h2 h3 h4 h5 h6 => by omega
 | N + 1 => by
   have ih := merge_all enc hE cf lt hL D f cb g cap rest n w0 hC hsz N
   intro a m b d w hN hdn hS hD ham hmb hb h1 h2 hA
   by_cases c1 : m = a + 1
   · subst hdn
     exact sym_left enc hE cf lt hL D f cb g cap a m b rest d w0 w hC hS hD c1 hmb hb hsz h2 hA
   by_cases c2 : b = m + 1
   · subst hdn
     exact sym_right enc hE cf lt hL D f cb g cap a m b rest d w0 w hC hS hD (by omega) c2 hb hsz h1 hA
   obtain ⟨mid, hmid⟩ : ∃ mid, mid = (a + b) / 2 := ⟨_, rfl⟩
   by_cases c3 : mid < m
   · exact sym_hi enc hE cf lt D f cb g cap rest n w0 hC hsz a m b mid (mid + m - b) mid d w hdn hS hD (by omega) (by omega) hb hA hmid c3 rfl rfl
       (sym_fin enc hE cf lt hL D f cb g cap rest n w0 N hsz ih a m b mid (mid + m - b) mid d hN hdn hD hb h1 h2 hA (by omega) (by omega) (by omega) (by omega) (by omega) (by omega) (by omega) (by omega))
   · exact sym_lo enc hE cf lt D f cb g cap rest n w0 hC hsz a m b mid a m d w hdn hS hD (by omega) (by omega) hb hA hmid (by omega) rfl rfl
       (sym_fin enc hE cf lt hL D f cb g cap rest n w0 N hsz ih a m b mid a m d hN hdn hD hb h1 h2 hA (by omega) (by omega) (by omega) (by omega) (by omega) (by omega) (by omega) (by omega))
end Go.Proofs.YtngjbhejfojpbaaGreat
namespace Go.Proofs.YtngjbhejfojpbaaGreat
open Go.RowKit Go.Sort
variable {α : Type} [Inhabited α] {lt lt1 : α → α → Bool} {d R R' : Array α} {lo m hi s i : Nat}
structure Good (lt : α → α → Bool) (d : Array α) (lo hi : Nat) (R : Array α) : Prop where
 srt : SortedIn lt lo (min hi d.size) R
 loc : ∀ k, lo ≤ k → k < hi → k < d.size → ∃ j, lo ≤ j ∧ j < hi ∧ j < d.size ∧ R[k]! = d[j]!
theorem Good.same (h : Good lt d lo hi R) (hR : ∀ k, lo ≤ k → k < hi → k < d.size → R'[k]! = R[k]!) : Good lt d lo hi R' :=
 ⟨zaM h.srt (fun k h1 h2 => hR k h1 (by omega) (by omega)), fun k h1 h2 h3 => by rw [hR k h1 h2 h3]; exact h.loc k h1 h2 h3⟩
theorem Good.agree (hag : ∀ p q, p < q → q < d.size → lt1 d[q]! d[p]! = lt d[q]! d[p]!) (h1 : Good lt d lo m R) (h2 : Good lt d m hi R) : zbP lt1 lt R lo m (min hi d.size) := fun p q a b c e => by
 obtain ⟨p', _, p2, p3, hp⟩ := h1.loc p a b (by omega)
 obtain ⟨q', q1, q2, q3, hq⟩ := h2.loc q c (by omega) (by omega)
 rw [hp, hq]; exact hag _ _ (by omega) q3
theorem Good.join (h1 : Good lt d lo m R) (h2 : Good lt d m hi R) (hlm : lo ≤ m) (hmh : m ≤ hi) (hsz : R.size = d.size) (hP : PermIn lo (min hi d.size) R R') (hS : SortedIn lt lo (min hi d.size) R') : Good lt d lo hi R' :=
 ⟨hS, fun k a b c => permIn_all R R' lo (min hi d.size) (fun x => ∃ j, lo ≤ j ∧ j < hi ∧ j < d.size ∧ x = d[j]!) (by omega) hP (fun i i1 i2 => by
   by_cases h : i < m
   · obtain ⟨j, a1, a2, a3, a4⟩ := h1.loc i i1 h (by omega); exact ⟨j, a1, by omega, a3, a4⟩
   · obtain ⟨j, a1, a2, a3, a4⟩ := h2.loc i (by omega) (by omega) (by omega); exact ⟨j, by omega, a2, a3, a4⟩) k a (by omega)⟩
theorem Good.wide (h : Good lt d lo m R) (hm : d.size ≤ m) (hmh : m ≤ hi) : Good lt d lo hi R :=
 ⟨by have := h.srt; rwa [show min m d.size = min hi d.size from by omega] at this, fun k a b c => by obtain ⟨j, a1, a2, a3, a4⟩ := h.loc k a (by omega) c; exact ⟨j, a1, by omega, a3, a4⟩⟩
theorem Good.void (h : d.size ≤ lo) : Good lt d lo hi R := ⟨fun p q h1 h2 h3 => by omega, fun k h1 h2 h3 => by omega⟩
structure zbC (lt : α → α → Bool) (d : Array α) (s i : Nat) (R : Array α) : Prop where
 sz : R.size = d.size
 perm : PermIn 0 d.size d R
 old : ∀ k, s * i ≤ k → R[k]! = d[k]!
 good : ∀ j, j < i → Good lt d (s * j) (s * (j + 1)) R
theorem zbC.start : zbC lt d s 0 d := ⟨rfl, permIn_refl _ _ _, fun _ _ => rfl, fun _ h => by omega⟩
theorem zbC.step (h : zbC lt d s i R) (hle : s * i ≤ d.size) (hP : PermIn (s * i) (min (s * i + s) d.size) R R') (hS : SortedIn lt (s * i) (min (s * i + s) d.size) R') : zbC lt d s (i + 1) R' := by
 have hm : s * (i + 1) = s * i + s := Nat.mul_succ s i
 refine ⟨hP.1.trans h.sz, permIn_trans _ _ _ _ _ h.perm (permIn_mono R R' _ _ 0 d.size (by omega) (by omega) (by rw [h.sz]; omega) hP), fun k hk => ?_, fun j hj => ?_⟩
 · rw [hP.2.1 k (by omega)]; exact h.old k (by omega)
 · by_cases hji : j < i
   · have h2 := Nat.mul_le_mul_left s (show j + 1 ≤ i by omega)
     exact (h.good j hji).same fun k h3 h4 h5 => hP.2.1 k (by omega)
   · obtain rfl : j = i := by omega
     rw [hm]
     exact ⟨hS, fun k a b c => permIn_all R R' _ _ (fun x => ∃ q, s * j ≤ q ∧ q < s * j + s ∧ q < d.size ∧ x = d[q]!) (by rw [h.sz]; omega) hP (fun q h1 h2 => ⟨q, h1, by omega, by omega, h.old q h1⟩) k a (by omega)⟩
theorem zbC.all (h : zbC lt d s i R) (hn : d.size ≤ s * i) (j : Nat) : Good lt d (s * j) (s * (j + 1)) R := by
 by_cases hj : j < i
 · exact h.good j hj
 · have h2 := Nat.mul_le_mul_left s (show i ≤ j by omega)
   exact Good.void (by omega)
structure zaP (lt : α → α → Bool) (d : Array α) (s i : Nat) (R : Array α) : Prop where
 sz : R.size = d.size
 perm : PermIn 0 d.size d R
 lo : ∀ j, j < i → Good lt d (2 * s * j) (2 * s * (j + 1)) R
 hi : ∀ j, 2 * i ≤ j → Good lt d (s * j) (s * (j + 1)) R
theorem dbl0 (s i : Nat) : s * (2 * i) = 2 * s * i := by rw [← Nat.mul_assoc, Nat.mul_comm s 2]
theorem dbl1 (s i : Nat) : s * (2 * i + 1) = 2 * s * i + s := by rw [Nat.mul_succ, dbl0]
theorem dbl2 (s i : Nat) : s * (2 * i + 1 + 1) = 2 * s * i + 2 * s := by rw [Nat.mul_succ, dbl1]; omega
theorem zaP.start (h1 : R.size = d.size) (h2 : PermIn 0 d.size d R) (h3 : ∀ j, Good lt d (s * j) (s * (j + 1)) R) : zaP lt d s 0 R := ⟨h1, h2, fun _ h => by omega, fun j _ => h3 j⟩
theorem zaP.left (h : zaP lt d s i R) : Good lt d (2 * s * i) (2 * s * i + s) R := by
 have := h.hi (2 * i) (Nat.le_refl _); rwa [dbl0, dbl1] at this
theorem zaP.right (h : zaP lt d s i R) : Good lt d (2 * s * i + s) (2 * s * i + 2 * s) R := by
 have := h.hi (2 * i + 1) (by omega); rwa [dbl1, dbl2] at this
theorem zaP.step (h : zaP lt d s i R) (hle : 2 * s * i + s ≤ d.size) (hP : PermIn (2 * s * i) (min (2 * s * i + 2 * s) d.size) R R') (hS : SortedIn lt (2 * s * i) (min (2 * s * i + 2 * s) d.size) R') : zaP lt d s (i + 1) R' := by
 have hm : 2 * s * (i + 1) = 2 * s * i + 2 * s := Nat.mul_succ (2 * s) i
 refine ⟨hP.1.trans h.sz, permIn_trans _ _ _ _ _ h.perm (permIn_mono R R' _ _ 0 d.size (by omega) (by omega) (by rw [h.sz]; omega) hP), fun j hj => ?_, fun j hj => ?_⟩
 · by_cases hji : j < i
   · have h2 := Nat.mul_le_mul_left (2 * s) (show j + 1 ≤ i by omega)
     exact (h.lo j hji).same fun k h3 h4 h5 => hP.2.1 k (by omega)
   · obtain rfl : j = i := by omega
     rw [hm]
     exact h.left.join h.right (by omega) (by omega) h.sz hP hS
 · have h2 := Nat.mul_le_mul_left s (show 2 * i + 1 + 1 ≤ j by omega)
   rw [dbl2] at h2
   exact (h.hi j (by omega)).same fun k h3 h4 h5 => hP.2.1 k (by omega)
theorem zaP.done (h : zaP lt d s i R) (hn : d.size ≤ 2 * s * i + s) (j : Nat) : Good lt d (2 * s * j) (2 * s * (j + 1)) R := by
 by_cases hj : j < i
 · exact h.lo j hj
 · by_cases hji : j = i
   · subst hji
     rw [Nat.mul_succ (2 * s) j]
     exact h.left.wide hn (by omega)
   · have h2 := Nat.mul_le_mul_left (2 * s) (show i + 1 ≤ j by omega)
     rw [Nat.mul_succ] at h2
     exact Good.void (by omega)
theorem good_end (h : ∀ j, Good lt d (s * j) (s * (j + 1)) R) (hs : d.size ≤ s) : SortedIn lt 0 d.size R := by
 have := (h 0).srt
 rwa [Nat.mul_zero, Nat.zero_add, Nat.mul_one, show min s d.size = d.size from by omega] at this
theorem mrg_facts {A b : Nat} (h : zaP lt d s i R) (hA : A = 2 * s * i) (hag : ∀ p q, p < q → q < d.size → lt1 d[q]! d[p]! = lt d[q]! d[p]!) (hb : b = min (A + 2 * s) d.size) (hm : A + s < b) :
   SortedIn lt A (A + s) R ∧ SortedIn lt (A + s) b R ∧ zbP lt1 lt R A (A + s) b := by
 have hl := h.left
 have hr := h.right
 rw [← hA] at hl hr
 have h1 := hl.srt
 have h2 := hr.srt
 have h3 := hl.agree hag hr
 rw [show min (A + s) d.size = A + s from by omega] at h1
 rw [← hb] at h2 h3
 exact ⟨h1, h2, h3⟩
theorem mrg_step {A b : Nat} (h : zaP lt d s i R) (hA : A = 2 * s * i) (hb : b = min (A + 2 * s) d.size) (hm : A + s < b) (hP : PermIn A b R R') (hS : SortedIn lt A b R') : zaP lt d s (i + 1) R' := by
 subst hA hb
 exact h.step (by omega) hP hS
theorem zdx {A b : Nat} (h : zbC lt d s i R) (hA : A = s * i) (hb : b = min (A + s) d.size) (hm : A ≤ b) (hP : PermIn A b R R') (hS : SortedIn lt A b R') : zbC lt d s (i + 1) R' := by
 subst hA hb
 exact h.step (by omega) hP hS
theorem zcN {A b : Nat} (h : zbC lt d s i R) (hA : A = s * i) (hag : ∀ p q, p < q → q < d.size → lt1 d[q]! d[p]! = lt d[q]! d[p]!) (hb : b ≤ d.size) (p q : Nat) (h1 : A ≤ p) (h2 : p < q) (h3 : q < b) : lt1 R[q]! R[p]! = lt R[q]! R[p]! := by
 rw [h.old p (by omega), h.old q (by omega)]
 exact hag p q h2 (by omega)
end Go.Proofs.YtngjbhejfojpbaaGreat
namespace Go.Proofs.YtngjbhejfojpbaaGreat
open Go.RowKit Go.Sort
theorem stable_core {α : Type} [Inhabited α] (enc : α → Value) (hE : ∀ x, ∃ n, enc x = .int .i64 n) (cf : α → α → Int) (lt2 : α → α → Bool) (hO : SWO lt2) (D : α → Prop) (f : FuncId) (cb : Array Value) (g cap n : Nat) (rest : List Value) (d : Array α) (w0 w : World)
   (hC : CmpQ Tryz.prog f cb enc cf D w0 g) (hS : SB enc w0 g 3 rest d w) (hD : ∀ i, i < d.size → D d[i]!) (hag : ∀ p q, p < q → q < d.size → ltOf cf d[q]! d[p]! = lt2 d[q]! d[p]!) (hdn : d.size = n) (hsz : n < 1152921504606846976) :
   Calls Tryz.prog 79 #[.slice (some ⟨g, 0, none⟩) n cap, .int .i64 n, .func (.func f) #[] cb] w fun e w' => e = .returned (.tuple #[]) ∧ ∃ R, SB enc w0 g 3 rest R w' ∧ PermIn 0 d.size d R ∧ SortedIn lt2 0 d.size R := by
 have eg := hC.enters
 have insert : ∀ (A B : Nat) (R : Array α) (wr : World), R.size = n → SB enc w0 g 3 rest R wr → PermIn 0 d.size d R → A ≤ B → B ≤ n →
     Calls Tryz.prog 87 #[.slice (some ⟨g, 0, none⟩) n cap, .int .i64 A, .int .i64 B, .func (.func f) #[] cb] wr fun e w' => e = .returned (.tuple #[]) ∧ SB enc w0 g 3 rest (Sort.insertionSort (ltOf cf) R A B) w' := by
   intro A B R wr h1 h2 h3 h4 h5
   have := ins_any enc hE cf D f cb g cap A B rest R w0 wr hC h2 (zba D (Nat.le_refl _) h3 hD) h4 (by omega) (by omega)
   rwa [h1] at this
 have merge : ∀ (A s m b i : Nat) (R : Array α) (wr : World), SB enc w0 g 3 rest R wr → zaP lt2 d s i R → A = 2 * s * i → m = A + s → 0 < s → b = min (A + 2 * s) n → m < b →
     Calls Tryz.prog 88 #[.slice (some ⟨g, 0, none⟩) n cap, .int .i64 A, .int .i64 ((A : Int) + (s : Int)), .int .i64 b, .func (.func f) #[] cb] wr fun e w' => e = .returned (.tuple #[]) ∧ ∃ R', SB enc w0 g 3 rest R' w' ∧ zaP lt2 d s (i + 1) R' := by
   intro A s m b i R wr h1 h2 h3 h4 h5 h6 h7
   obtain ⟨q1, q2, q3⟩ := mrg_facts (b := b) h2 h3 hag (by rw [hdn]; exact h6) (by omega)
   rw [← h4] at q1 q2 q3
   have hc := merge_all enc hE cf lt2 hO D f cb g cap rest n w0 hC (by omega) (b - A) A m b R wr (Nat.le_refl _) (h2.sz.trans hdn) h1 (zba D (Nat.le_refl _) h2.perm hD) (by omega) h7 (by omega) q1 q2 q3
   rw [show (m : Int) = (A : Int) + (s : Int) from by omega] at hc
   exact hc.mono fun e w' ⟨e1, R', _, e3, e4, e5⟩ => ⟨e1, R', e3, mrg_step h2 h3 (by rw [hdn]; exact h6) (by omega) e4 e5⟩
 have HINS := Lib.hid insert
 have HMRG := Lib.hid merge
 have HAG := Lib.hid hag
 have HO := Lib.hid hO
 have HS := Lib.hid hS
 have HDN := Lib.hid hdn
 clear insert merge hag hO hS hC hD hdn
 go_enter Tryz.func79, Tryz.ntmps79
 go_wp2
 go_loopw [7, 8] (fun va vb wr => ∃ (i A B : Nat) (R : Array α), va = .int .i64 A ∧ vb = .int .i64 B ∧ A ≤ n ∧ A + 20 ≤ B ∧ B ≤ A + 20 ∧ Hid (A = 20 * i) ∧ Hid (SB enc w0 g 3 rest R wr) ∧ Hid (zbC lt2 d 20 i R)) (fun va _ _ => n - (intOf va).toNat)
 case atStart => exact ⟨0, 0, 20, d, rfl, rfl, Nat.zero_le _, by omega, by omega, Lib.hid rfl, HS, Lib.hid zbC.start⟩
 case round =>
   obtain ⟨i, A, B, R, rfl, rfl, hAn, hB1, hB2, HA, HR, HI⟩ := hrel
   clear HS
   have hRn : R.size = n := HI.out.sz.trans HDN.out
   have HRN := Lib.hid hRn
   clear hRn
   by_cases hlt : B ≤ n
   · have hins := HINS.out A B R wr HRN.out HR.out HI.out.perm (by omega) hlt
     have hst := zcc (ltOf cf) lt2 HO.out A B R (by omega) (by rw [HRN.out]; exact hlt) (zcN HI.out HA.out HAG.out (by rw [HDN.out]; exact hlt))
     have HC1 := Lib.hid hins
     have HST := Lib.hid hst
     clear hins hst
     go_wp2_with (go_at_call 87; refine HC1.out.mono ?_; rintro e w2 ⟨rfl, hS2⟩; have HS2 := Lib.hid hS2; clear hS2)
     go_roundw
     case rel => exact ⟨i + 1, B, B + 20, _, rfl, by go_num, hlt, by omega, by omega, Lib.hid (by have := HA.out; omega), HS2, Lib.hid (zdx HI.out HA.out (by rw [HDN.out]; omega) (by omega) HST.out.1 HST.out.2)⟩
     case measure => simp [intOf]; omega
   · have hins := HINS.out A n R wr HRN.out HR.out HI.out.perm hAn (Nat.le_refl _)
     have hst := zcc (ltOf cf) lt2 HO.out A n R hAn (by rw [HRN.out]; exact Nat.le_refl _) (zcN HI.out HA.out HAG.out (by rw [HDN.out]; exact Nat.le_refl _))
     have hall := fun (R' : Array α) (h1 : PermIn A n R R') (h2 : SortedIn lt2 A n R') => zdx HI.out HA.out (by rw [HDN.out]; omega) hAn h1 h2
     have hnn : d.size ≤ 20 * (i + 1) := by have := HA.out; have := HDN.out; omega
     have HALL := Lib.hid (hall _ hst.1 hst.2)
     have HC1 := Lib.hid hins
     have HNN := Lib.hid hnn
     clear hins hst hall hnn
     go_wp2_with (go_at_call 87; refine HC1.out.mono ?_; rintro e w2 ⟨rfl, hS2⟩; have HS2 := Lib.hid hS2; clear hS2)
     go_loopw [6] (fun vs wr => ∃ (s : Nat) (R : Array α), vs = .int .i64 s ∧ 20 ≤ s ∧ s ≤ 2305843009213693952 ∧ Hid (SB enc w0 g 3 rest R wr) ∧ Hid (R.size = d.size) ∧ Hid (PermIn 0 d.size d R) ∧ Hid (∀ j, Good lt2 d (s * j) (s * (j + 1)) R)) (fun vs _ => n - (intOf vs).toNat)
     case atStart => exact ⟨20, _, rfl, by omega, by omega, HS2, Lib.hid HALL.out.sz, Lib.hid HALL.out.perm, Lib.hid (HALL.out.all HNN.out)⟩
     case round =>
       obtain ⟨s, R2, rfl, hs20, hsb, HR2, HZ2, HP2, HG2⟩ := hrel
       clear HS2 HALL HC1 HNN HR HI HA hAn hB1 hB2 hlt HRN
       by_cases hsn : s < n
       · go_wp2
         go_loopw [7, 8] (fun va vb wr => ∃ (i A B : Nat) (R : Array α), va = .int .i64 A ∧ vb = .int .i64 B ∧ A ≤ n ∧ A + 2 * s ≤ B ∧ B ≤ A + 2 * s ∧ Hid (A = 2 * s * i) ∧ Hid (SB enc w0 g 3 rest R wr) ∧ Hid (zaP lt2 d s i R)) (fun va _ _ => n - (intOf va).toNat)
         case atStart => exact ⟨0, 0, 2 * s, R2, rfl, by go_num, Nat.zero_le _, by omega, by omega, Lib.hid (by simp), HR2, Lib.hid (zaP.start HZ2.out HP2.out HG2.out)⟩
         case round =>
           obtain ⟨j, A2, B2, R3, rfl, rfl, hAn2, hB3, hB4, HA2, HR3, HM⟩ := hrel
           clear HR2 HZ2 HP2 HG2
           by_cases hlt2 : B2 ≤ n
           · have HC2 := Lib.hid (HMRG.out A2 s (A2 + s) B2 j R3 _ HR3.out HM.out HA2.out rfl (by omega) (by omega) (by omega))
             go_wp2_with (go_at_call 88; refine HC2.out.mono ?_; rintro e w3 ⟨rfl, R4, hS3, hM3⟩; have HS3 := Lib.hid hS3; have HM3 := Lib.hid hM3; clear hS3 hM3)
             go_roundw
             case rel => exact ⟨j + 1, B2, B2 + 2 * s, R4, rfl, by go_num, hlt2, by omega, by omega, Lib.hid (by rw [Nat.mul_succ, ← HA2.out]; omega), HS3, HM3⟩
             case measure => simp [intOf]; omega
           · by_cases hm : A2 + s < n
             · have hmI : (A2 : Int) + (s : Int) < (n : Int) := by omega
               have HC2 := Lib.hid (HMRG.out A2 s (A2 + s) n j R3 _ HR3.out HM.out HA2.out rfl (by omega) (by omega) hm)
               go_wp2_with (go_at_call 88; refine HC2.out.mono ?_; rintro e w3 ⟨rfl, R4, hS3, hM3⟩; have HS3 := Lib.hid hS3; have HM3 := Lib.hid hM3; clear hS3 hM3)
               go_roundw
               case rel => exact ⟨2 * s, R4, by go_num, by omega, by omega, HS3, Lib.hid HM3.out.sz, Lib.hid HM3.out.perm, Lib.hid (HM3.out.done (by rw [Nat.mul_succ, ← HA2.out, HDN.out]; omega))⟩
               case measure => simp [intOf]; omega
             · have hmI : (n : Int) ≤ (A2 : Int) + (s : Int) := by omega
               go_wp2
               go_roundw
               case rel => exact ⟨2 * s, R3, by go_num, by omega, by omega, HR3, Lib.hid HM.out.sz, Lib.hid HM.out.perm, Lib.hid (HM.out.done (by rw [← HA2.out, HDN.out]; omega))⟩
               case measure => simp [intOf]; omega
       · go_wp2
         go_end0
         exact ⟨rfl, R2, HR2.out, HP2.out, good_end HG2.out (by rw [HDN.out]; omega)⟩
theorem stable_any {α : Type} [Inhabited α] (enc : α → Value) (hE : ∀ x, ∃ n, enc x = .int .i64 n) (cf : α → α → Int) (lt2 : α → α → Bool) (hO : SWO lt2) (D : α → Prop) (f : FuncId) (cb : Array Value) (g cap : Nat) (rest : List Value) (d : Array α) (w0 w : World)
   (hC : CmpQ Tryz.prog f cb enc cf D w0 g) (hS : SB enc w0 g 3 rest d w) (hD : ∀ i, i < d.size → D d[i]!) (hag : ∀ p q, p < q → q < d.size → ltOf cf d[q]! d[p]! = lt2 d[q]! d[p]!) (hsz : d.size < 1152921504606846976) :
   Calls Tryz.prog 61 #[.slice (some ⟨g, 0, none⟩) d.size cap, .func (.func f) #[] cb] w fun e w' => e = .returned (.tuple #[]) ∧ ∃ R, SB enc w0 g 3 rest R w' ∧ PermIn 0 d.size d R ∧ SortedIn lt2 0 d.size R := by
 obtain ⟨n, hn⟩ : ∃ n, n = d.size := ⟨_, rfl⟩
 have hcore := stable_core enc hE cf lt2 hO D f cb g cap n rest d w0 w hC hS hD hag hn.symm (by omega)
 rw [← hn] at hsz ⊢
 rw [← hn] at hcore
 have HC := Lib.hid hcore
 clear hcore hC hS hD hag hn
 go_enter Tryz.func61, Tryz.ntmps61
 go_wp2_with (go_at_call 79; refine HC.out.mono ?_; rintro e w2 ⟨rfl, R, h1, h2, h3⟩)
 go_end0
 exact ⟨rfl, R, h1, h2, h3⟩
theorem zbp : zeO 320 := fun cf lt2 D f cb g cap rest d w0 w hO hC hS hD hag hsz => stable_any (Value.int .i64) (fun x => ⟨x, rfl⟩) cf lt2 hO D f cb g cap rest d w0 w hC hS hD hag (by omega)
theorem zcw {l : List Int} (hok1 : hok l = true) (s : Nat) : lenN l s ≤ 15 := by
 unfold lenN
 by_cases h : s < l.length
 · have := za4 hok1 (l.getD s 0) (by simp [List.getD, h]); omega
 · simp [List.getD, h]
theorem WrQ.keeps {w w' : World} {S T : Nat → Prop} {wb : Nat} {high : Bool} {B : List Bool} (h : WrQ w S wb high B) (hk : zaa T w w') (hT : ∀ b, S b → ¬ T b) : WrQ w' S wb high B := by
 obtain ⟨bs, v, hw, hq⟩ := h
 exact ⟨bs, v, ⟨hk.obj hw.blk (hT wb hw.own), zas hw.row hk (fun b hb => hT b (hw.at_ b hb)), hw.at_, hw.own, fun b hb => ⟨(hw.lt b hb).1, Nat.lt_of_lt_of_le (hw.lt b hb).2 hk.size⟩⟩, hq⟩
theorem WrQ.lt {w : World} {S : Nat → Prop} {wb : Nat} {high : Bool} {B : List Bool} (h : WrQ w S wb high B) : ∀ b, S b → wb ≤ b ∧ b < w.heap.size := by
 obtain ⟨bs, v, hw, hq⟩ := h
 exact hw.lt
def symV (ss : List Nat) : List Value := ss.map fun s : Nat => Value.int .i64 (s : Int)
theorem symV_snoc (ss : List Nat) (s : Nat) : symV (ss ++ [s]) = symV ss ++ [.int .i64 (s : Int)] := by simp [symV]
structure BackAt (l : List Int) (high : Bool) (wb : Nat) (w2 : World) (ss : List Nat) (v : Value) (S : Nat → Prop) (wr : World) : Prop where
 wr_ : WrQ wr S wb high (zcs l ss)
 own : wr.ownsRow (wb + 1) 3 1 v ss.length (symV ss)
 apart : ∀ b, v.ownBlock = some b → ¬ S b
 below : Below wb w2 wr
 may : ∀ s ∈ ss, s < l.length ∧ 0 < l.getD s 0
theorem BackAt.next {l : List Int} {high : Bool} {wb : Nat} {w2 wr w5 w6 : World} {ss : List Nat} {s : Nat} {v v' : Value} {S : Nat → Prop} (h : BackAt l high wb w2 ss v S wr) (hs : s < l.length) (hp : 0 < l.getD s 0) (hwb : wb ≤ w2.heap.size)
   (hn : zab wr S wb high (zcs l ss ++ zaU l s (lenN l s)) w5) (o : Obj) (hO : w6.ownsRow (wb + 1) 3 1 v' (ss.length + 1) (symV ss ++ [.int .i64 (s : Int)])) (hg : (w5.alloc o).grownBy w6 v.ownBlock) (hN : NewAt (w5.alloc o) v v') :
   ∃ S', BackAt l high wb w2 (ss ++ [s]) v' S' w6 := by
 obtain ⟨S2, hq, hk, hS⟩ := hn
 rw [← bitsOf_snoc] at hq
 have hlt := hq.lt
 have hlt0 := h.wr_.lt
 have hb2 := h.below.size
 have hv2 : ∀ b, v.ownBlock = some b → ¬ S2 b := fun b hb hc => by
   have h1 := h.own.lt b hb
   rcases hS b hc with h2 | h2
   · exact h.apart b hb h2
   · omega
 have hk2 : zaa (fun b => v.ownBlock = some b) w5 w6 := ((zaa.refl _ w5).alloc o).grown hg (fun k hk => .inl hk)
 refine ⟨S2, ⟨hq.keeps hk2 (fun b hb hc => hv2 b hc hb), ?_, fun b hb hc => ?_, ?_, fun x hx => ?_⟩⟩
 · rw [symV_snoc, List.length_append]; exact hO
 · rcases hN b hb with h1 | h1
   · exact hv2 b h1 hc
   · rw [zae] at h1; have := (hlt b hc).2; omega
 · refine h.below.trans (Below.trans (hk.below (B := wb) (by omega) (fun b hb => (hlt0 b hb).1)) ?_)
   exact hk2.below (by have := hk.size; omega) (fun b hb => by have := (h.own.lt b hb).1; omega)
 · rcases List.mem_append.1 hx with h1 | h1
   · exact h.may x h1
   · simp at h1; subst h1; exact ⟨hs, hp⟩
end Go.Proofs.YtngjbhejfojpbaaGreat
namespace Go.Proofs.YtngjbhejfojpbaaGreat
open Go.RowKit
def u8C (b : UInt8) : Value := .int .u8 b.toNat
structure IS where
 at_ : Nat
 e : Int
 out : List UInt8
def bitF (bs : List UInt8) (at_ : Nat) : Nat → Bool := fun k => zaF bs false (at_ + k)
def zaq (e : Int) (s : IS) : IS := if s.e = 0 then { s with e := e } else s
def numV (bs : List UInt8) (n : Nat) (s : IS) : Nat × IS :=
 if s.e ≠ 0 then (0, s) else if 8 * bs.length < s.at_ + n then (0, { s with e := 10 }) else (getV (bitF bs s.at_) false n n, { s with at_ := s.at_ + n })
def zat (bs : List UInt8) (l : List Int) (s : IS) : Nat × IS :=
 if s.e ≠ 0 then (0, s) else ((zc7 l (bitF bs s.at_) (8 * bs.length - s.at_)).1, { s with at_ := s.at_ + (zc7 l (bitF bs s.at_) (8 * bs.length - s.at_)).2.1, e := (zc7 l (bitF bs s.at_) (8 * bs.length - s.at_)).2.2 })
def zbT (most : Nat) (c : UInt8) (s : IS) : IS := if most ≤ s.out.length then zaq 3 s else { s with out := s.out ++ [c] }
def repL (far : Nat) : Nat → List UInt8 → List UInt8
 | 0, o => o
 | n + 1, o => repL far n (o ++ [o.getD (o.length - far) 0])
def repV (most len far : Nat) (s : IS) : IS :=
 if s.e ≠ 0 then s else if s.out.length < far then zaq 14 s else if (most : Int) - s.out.length < len then zaq 3 s else { s with out := repL far len s.out }
def zaz (x : Int) : Int × Int × Bool := if x < 257 ∨ 285 < x then (0, 0, false) else if x = 285 then (258, 0, true) else if x < 265 then (x - 254, 0, true) else (3 + (4 + (x - 261) % 4) * 2 ^ ((x - 261) / 4).toNat, (x - 261) / 4, true)
def disV (x : Int) : Int × Int × Bool := if x < 0 ∨ 29 < x then (0, 0, false) else if x < 4 then (x + 1, 0, true) else (1 + (2 + x % 2) * 2 ^ ((x - 2) / 2).toNat, (x - 2) / 2, true)
def zbJ (bs : List UInt8) (most : Nat) (l d : List Int) (s : IS) : Bool × IS :=
 let q := zat bs l s
 if q.2.e ≠ 0 ∨ q.1 = 256 then (false, q.2) else
 if q.1 < 256 then (true, zbT most (UInt8.ofNat q.1) q.2) else
 let a := zaz q.1
 let s1 := if a.2.2 then q.2 else zaq 11 q.2
 let n1 := numV bs a.2.1.toNat s1
 let q2 := zat bs d n1.2
 let b := disV q2.1
 let s2 := if b.2.2 then q2.2 else zaq 11 q2.2
 let n2 := numV bs b.2.1.toNat s2
 (true, repV most (a.1.toNat + n1.1) (b.1.toNat + n2.1) n2.2)
def fixL : List Int := (List.range 288).map fun k => if k < 144 ∨ 279 < k then 8 else if k < 256 then 9 else 7
def fixD : List Int := (List.range 30).map fun _ => 5
end Go.Proofs.YtngjbhejfojpbaaGreat
namespace Go.Proofs.YtngjbhejfojpbaaGreat
open Go.RowKit Go.Sort
def stC (r : Nat) (e : Int) (v : Value) (most : Nat) : Array Value := #[.pointer (some ⟨r, 0, none⟩), .int .i64 e, v, .int .i64 most]
structure IsSt (w : World) (U : Nat → Prop) (sb r : Nat) (bs : List UInt8) (most : Nat) (s : IS) : Prop where
 ex : ∃ v, w.heap[sb]? = some (.cells (stC r s.e v most) 47 (0, 0)) ∧ w.ownsRow (sb + 1) 5 1 v s.out.length (s.out.map u8C) ∧ ∀ b, v.ownBlock = some b → U b
 rd : IsRd w r bs false s.at_
 lt : r < sb
 own : U sb ∧ U r
 ult : ∀ b, U b → r ≤ b ∧ b < w.heap.size
def zaC (w : World) (U : Nat → Prop) (sb r : Nat) (bs : List UInt8) (most : Nat) (s : IS) (w' : World) : Prop := ∃ U', IsSt w' U' sb r bs most s ∧ zaa U w w' ∧ ∀ b, U' b → U b ∨ w.heap.size ≤ b
theorem IsRd.keeps {w w' : World} {V : Nat → Prop} {r : Nat} {bs : List UInt8} {high : Bool} {at_ : Nat} (h : IsRd w r bs high at_) (hk : zaa V w w') (hV : ∀ b, b ≤ r → ¬ V b) : IsRd w' r bs high at_ := by
 obtain ⟨⟨a, cap, h1, h2, h3⟩, h4, h5⟩ := h
 exact ⟨⟨a, cap, hk.obj h1 (hV r (Nat.le_refl _)), h2.keeps hk (fun x hx => hV _ (Nat.le_of_lt (h3 x hx))), h3⟩, h4, h5⟩
theorem IsSt.keeps {w w' : World} {U V : Nat → Prop} {sb r : Nat} {bs : List UInt8} {most : Nat} {s : IS} (h : IsSt w U sb r bs most s) (hk : zaa V w w') (hV : ∀ b, b ≤ r ∨ U b → ¬ V b) : IsSt w' U sb r bs most s := by
 obtain ⟨⟨v, h1, h2, h3⟩, h4, h5, h6, h7⟩ := h
 exact ⟨⟨v, hk.obj h1 (hV sb (.inr h6.1)), zas h2 hk (fun b hb => hV b (.inr (h3 b hb))), h3⟩, h4.keeps hk (fun b hb => hV b (.inl hb)), h5, h6, fun b hb => ⟨(h7 b hb).1, Nat.lt_of_lt_of_le (h7 b hb).2 hk.size⟩⟩
theorem IsSt.mono {w w' : World} {U : Nat → Prop} {sb r : Nat} {bs : List UInt8} {most : Nat} {s : IS} (h : IsSt w U sb r bs most s) (hb : Below w.heap.size w w') : IsSt w' U sb r bs most s :=
 h.keeps (zaa.of_below (S := fun b => w.heap.size ≤ b) hb (fun _ h => h)) (fun b hb2 hn => by
   have := (h.ult r h.own.2).2
   rcases hb2 with h1 | h1
   · omega
   · have := (h.ult b h1).2; omega)
theorem IsSt.got {w w' : World} {U : Nat → Prop} {sb r : Nat} {bs : List UInt8} {most : Nat} {s : IS} {at2 : Nat} (h : IsSt w U sb r bs most s) (hR : IsRd w' r bs false at2) (hg : w.grownBy w' (some r)) : IsSt w' U sb r bs most { s with at_ := at2 } ∧ zaa U w w' := by
 have hk : zaa (fun b => b = r) w w' := zaa.of_grown (S := fun b => b = r) hg (fun k hk => by simpa using hk.symm)
 obtain ⟨⟨v, h1, h2, h3⟩, h4, h5, h6, h7⟩ := h
 have hne : sb ≠ r := by omega
 exact ⟨⟨⟨v, hk.obj h1 hne, zas h2 hk (fun b hb e => by have := (h2.lt b hb).1; omega), h3⟩, hR, h5, h6, fun b hb => ⟨(h7 b hb).1, Nat.lt_of_lt_of_le (h7 b hb).2 hk.size⟩⟩, hk.weaken (fun b hb => hb ▸ h6.2)⟩
theorem IsSt.cells {w : World} {U : Nat → Prop} {sb r : Nat} {bs : List UInt8} {most : Nat} {s : IS} (h : IsSt w U sb r bs most s) :
   w.cell? ⟨sb, 0, none⟩ = some (.pointer (some ⟨r, 0, none⟩)) ∧ w.cell? ⟨sb, 1, none⟩ = some (.int .i64 s.e) ∧ w.cell? ⟨sb, 3, none⟩ = some (.int .i64 most) ∧ w.frozen? ⟨sb, 1, none⟩ = false ∧ w.frozen? ⟨sb, 2, none⟩ = false := by
 obtain ⟨⟨v, h1, -⟩, -⟩ := h
 refine ⟨?_, ?_, ?_, frozen_of_row w sb 1 _ _ h1, frozen_of_row w sb 2 _ _ h1⟩ <;> (rw [cell_of_row w sb _ _ _ _ h1]; rfl)
theorem IsSt.setE {w : World} {U : Nat → Prop} {sb r : Nat} {bs : List UInt8} {most : Nat} {s : IS} (h : IsSt w U sb r bs most s) (e : Int) : IsSt (w.setCell ⟨sb, 1, none⟩ (.int .i64 e)) U sb r bs most { s with e := e } ∧ zaa U w (w.setCell ⟨sb, 1, none⟩ (.int .i64 e)) := by
 have hk : zaa (fun b => b = sb) w (w.setCell ⟨sb, 1, none⟩ (.int .i64 e)) := zaa.setCell (S := fun b => b = sb) (zaa.refl _ w) (a := ⟨sb, 1, none⟩) (.inl rfl) _
 obtain ⟨⟨v, h1, h2, h3⟩, h4, h5, h6, h7⟩ := h
 refine ⟨⟨⟨v, ?_, zas h2 hk (fun b hb e => by have := (h2.lt b hb).1; omega), h3⟩, h4.keeps hk (fun b hb e => by omega), h5, h6, fun b hb => ⟨(h7 b hb).1, Nat.lt_of_lt_of_le (h7 b hb).2 hk.size⟩⟩, hk.weaken (fun b hb => hb ▸ h6.1)⟩
 have := zaG (w := w) (b := sb) (n := 4) (enc := fun i => if i = 0 then .pointer (some ⟨r, 0, none⟩) else if i = 1 then .int .i64 s.e else if i = 2 then v else .int .i64 most) (t := 47) h1 1 (.int .i64 e)
 exact this
theorem IsSt.next {w w' : World} {U : Nat → Prop} {sb r : Nat} {bs : List UInt8} {most : Nat} {s : IS} (h : IsSt w' U sb r bs most s ∧ zaa U w w') : zaC w U sb r bs most s w' := ⟨U, h.1, h.2, fun _ h => .inl h⟩
theorem zaC.trans {w w1 w2 : World} {U U1 : Nat → Prop} {sb r : Nat} {bs : List UInt8} {most : Nat} {s : IS} (hk : zaa U w w1) (hs : ∀ b, U1 b → U b ∨ w.heap.size ≤ b) (h2 : zaC w1 U1 sb r bs most s w2) : zaC w U sb r bs most s w2 := by
 obtain ⟨U2, h3, h4, h5⟩ := h2
 have := hk.size
 exact ⟨U2, h3, hk.trans h4 hs, fun b hb => (h5 b hb).elim (hs b) (fun h => .inr (by omega))⟩
theorem IsSt.drewN {w : World} {U : Nat → Prop} {sb r : Nat} {bs : List UInt8} {most : Nat} {s : IS} (h : IsSt w U sb r bs most s) (q : Nat) : IsSt (w.drewN q) U sb r bs most s ∧ zaa U w (w.drewN q) :=
 ⟨h.keeps ((zaa.refl (fun _ => False) w).drewN q) (fun _ _ h => h), (zaa.refl U w).drewN q⟩
theorem zau {w : World} {U : Nat → Prop} {sb r : Nat} {bs : List UInt8} {most : Nat} {s : IS} (h : IsSt w U sb r bs most s) (e : Int) :
   Calls Tryz.prog 30 #[.pointer (some ⟨sb, 0, none⟩), .int .i64 e] w fun x w' => x = .returned (.tuple #[]) ∧ IsSt w' U sb r bs most (zaq e s) ∧ zaa U w w' := by
 obtain ⟨c0, c1, -, f1, -⟩ := h.cells
 have HS := Lib.hid h
 have HE := Lib.hid (h.setE e)
 clear h
 by_cases he : s.e = 0
 · have HF : Hid (zaq e s = { s with e := e }) := Lib.hid (by unfold zaq; rw [if_pos he])
   rw [he] at c1
   go_enter Tryz.func30, Tryz.ntmps30
   go_wp2
   go_end0
   exact ⟨rfl, by rw [HF.out]; exact HE.out⟩
 · have HF : Hid (zaq e s = s) := Lib.hid (by unfold zaq; rw [if_neg he])
   go_enter Tryz.func30, Tryz.ntmps30
   go_wp2
   go_end0
   exact ⟨rfl, by rw [HF.out]; exact ⟨HS.out, zaa.refl _ _⟩⟩
theorem zev (s : IS) : zaq 0 s = s := by
 obtain ⟨a, e, o⟩ := s
 unfold zaq
 split
 · rename_i h; simp only at h; rw [h]
 · rfl
theorem failV_set (e : Int) (s : IS) (h : s.e = 0) : zaq e s = { s with e := e } := by unfold zaq; rw [if_pos h]
theorem ssym_any {w : World} {U Bl : Nat → Prop} {sb r p : Nat} {bs : List UInt8} {most : Nat} {s : IS} {l : List Int} (h : IsSt w U sb r bs most s) (hT : IsTb w Bl p l) (hU : ¬ Bl r) (pt : Option Addr) (hpt : s.e = 0 → pt = some ⟨p, 0, none⟩) :
   Calls Tryz.prog 51 #[.pointer (some ⟨sb, 0, none⟩), .pointer pt] w fun x w' => x = .returned (.int .i64 (zat bs l s).1) ∧ IsSt w' U sb r bs most (zat bs l s).2 ∧ zaa U w w' := by
 obtain ⟨c0, c1, -, f1, -⟩ := h.cells
 have HS := Lib.hid h
 by_cases he : s.e = 0
 · obtain rfl := hpt he
   rw [he] at c1
   obtain ⟨V, hV⟩ : ∃ V, V = zc7 l (bitF bs s.at_) (8 * bs.length - s.at_) := ⟨_, rfl⟩
   have HV : Hid (zat bs l s = (V.1, { s with at_ := s.at_ + V.2.1, e := V.2.2 })) := Lib.hid (by unfold zat; rw [if_neg (by simp [he]), ← hV])
   have hg := tget_any Bl p r l bs false s.at_ w hT h.rd hU
   rw [show zc7 l (fun k => zaF bs false (s.at_ + k)) (8 * bs.length - s.at_) = V from hV.symm] at hg
   have HG := Lib.hid hg
   obtain ⟨x, m, e⟩ := V
   clear h hg hV
   go_enter Tryz.func51, Tryz.ntmps51
   go_wp2_with fail
   refine HG.out.mono ?_
   rintro e2 w1 ⟨rfl, hR, hgr⟩
   have HN := Lib.hid (HS.out.got hR hgr)
   have HF := Lib.hid (zau (HS.out.got hR hgr).1 e)
   clear c0 c1 f1 hR hgr
   dsimp only
   go_wp2_with fail
   refine HF.out.mono ?_
   rintro e2 w2 ⟨rfl, h2, k2⟩
   rw [failV_set e { s with at_ := s.at_ + m } he] at h2
   have H2 := Lib.hid h2
   have K2 := Lib.hid k2
   clear h2 k2
   go_wp2
   go_ret
   exact ⟨by rw [HV.out]; rfl, by rw [HV.out]; exact ⟨H2.out, HN.out.2.trans K2.out (fun b hb => .inl hb)⟩⟩
 · have HV : Hid (zat bs l s = (0, s)) := Lib.hid (by unfold zat; rw [if_pos he])
   clear h
   go_enter Tryz.func51, Tryz.ntmps51
   go_wp2
   go_ret
   exact ⟨by rw [HV.out]; rfl, by rw [HV.out]; exact ⟨HS.out, zaa.refl _ _⟩⟩
theorem zaH {w : World} {U : Nat → Prop} {sb r : Nat} {bs : List UInt8} {most : Nat} {s : IS} (h : IsSt w U sb r bs most s) (n : Nat) (hn : n ≤ 32) :
   Calls Tryz.prog 24 #[.pointer (some ⟨sb, 0, none⟩), .int .i64 n] w fun x w' => x = .returned (.int .i64 (numV bs n s).1) ∧ IsSt w' U sb r bs most (numV bs n s).2 ∧ zaa U w w' := by
 obtain ⟨c0, c1, -, f1, -⟩ := h.cells
 have HS := Lib.hid h
 by_cases he : s.e = 0
 · rw [he] at c1
   by_cases hl : 8 * bs.length < s.at_ + n
   · have HV : Hid (numV bs n s = (0, zaq 10 s)) := Lib.hid (by unfold numV zaq; rw [if_neg (by simp [he]), if_pos hl, if_pos he])
     have HG := Lib.hid (get_cut r n bs false s.at_ w h.rd hn hl)
     clear h hl
     go_enter Tryz.func24, Tryz.ntmps24
     go_wp2_with fail
     refine HG.out.mono ?_
     rintro e w1 ⟨rfl, q, rfl⟩
     have HF := Lib.hid (zau (HS.out.drewN q).1 10)
     clear c0 c1 f1
     go_wp2_with fail
     refine HF.out.mono ?_
     rintro e w2 ⟨rfl, h2, k2⟩
     have H2 := Lib.hid h2
     have K2 := Lib.hid k2
     clear h2 k2
     go_wp2
     go_ret
     exact ⟨by rw [HV.out]; rfl, by rw [HV.out]; exact ⟨H2.out, (HS.out.drewN q).2.trans K2.out (fun b hb => .inl hb)⟩⟩
   · have HV : Hid (numV bs n s = (getV (bitF bs s.at_) false n n, { s with at_ := s.at_ + n })) := Lib.hid (by unfold numV; rw [if_neg (by simp [he]), if_neg hl])
     have HG := Lib.hid (get_ok r n bs false s.at_ w h.rd hn (by omega))
     have HE := Lib.hid he
     clear h hl
     go_enter Tryz.func24, Tryz.ntmps24
     go_wp2_with fail
     refine HG.out.mono ?_
     rintro e w1 ⟨rfl, hR, hg⟩
     have HN := Lib.hid (HS.out.got hR hg)
     have HF := Lib.hid (zau (HS.out.got hR hg).1 0)
     have hlt := zfl (bitF bs s.at_) false n n (Nat.le_refl _)
     have h32 := pow32 hn
     obtain ⟨g, hgv⟩ : ∃ g, g = getV (bitF bs s.at_) false n n := ⟨_, rfl⟩
     rw [← hgv] at HV hlt
     rw [show getV (fun k => zaF bs false (s.at_ + k)) false n n = g from hgv.symm]
     have hg32 : g < 4294967296 := by omega
     clear c0 c1 f1 hR hg hlt h32 hgv
     go_wp2_with fail
     refine HF.out.mono ?_
     rintro e w2 ⟨rfl, h2, k2⟩
     have h3 := zev { s with at_ := s.at_ + n }
     rw [h3] at h2
     have H2 := Lib.hid h2
     have K2 := Lib.hid k2
     clear h2 k2 h3
     go_wp2
     go_ret
     refine ⟨?_, by rw [HV.out]; exact ⟨H2.out, HN.out.2.trans K2.out (fun b hb => .inl hb)⟩⟩
     rw [HV.out]; rfl
 · have HV : Hid (numV bs n s = (0, s)) := Lib.hid (by unfold numV; rw [if_pos he])
   clear h
   go_enter Tryz.func24, Tryz.ntmps24
   go_wp2
   go_ret
   exact ⟨by rw [HV.out]; rfl, by rw [HV.out]; exact ⟨HS.out, zaa.refl _ _⟩⟩
theorem EByte : zcJ Tryz.prog 22 5 (.int .u8 0) 1 1 := ⟨Tryz.underlying22, by kernel_rfl, rfl, by omega⟩
theorem zaa.any {S : Nat → Prop} {w w' : World} (hb : Below w.heap.size w w') : zaa S w w' := ⟨hb.os, hb.tape, hb.output, hb.size, fun b h _ => hb.block b h⟩
theorem IsSt.blt {w : World} {U : Nat → Prop} {sb r : Nat} {bs : List UInt8} {most : Nat} {s : IS} (h : IsSt w U sb r bs most s) {b : Nat} (hb : U b) : b < w.heap.size := (h.ult b hb).2
theorem stab_ok {w : World} {U : Nat → Prop} {sb r : Nat} {bs : List UInt8} {most : Nat} {s : IS} (h : IsSt w U sb r bs most s) (he : s.e = 0) {a : Option Addr} {n cap : Nat} {l : List Int} (hr : Row w 1 a n cap (l.map (Value.int .i64))) (hroom : 0 ≤ zax l) (hn : n ≤ 320) (ha : a ≠ none) :
   Calls Tryz.prog 28 #[.pointer (some ⟨sb, 0, none⟩), .slice a n cap] w fun x w' => ∃ (p : Nat) (Bl : Nat → Prop), x = .returned (.pointer (some ⟨p, 0, none⟩)) ∧ IsTb w' Bl p l ∧ (∀ b, Bl b → w.heap.size ≤ b ∧ b < w'.heap.size) ∧ IsSt w' U sb r bs most s ∧ zaa U w w' := by
 obtain ⟨c0, c1, -, f1, -⟩ := h.cells
 have HS := Lib.hid h
 have HN := Lib.hid (zeI 320 zbp a n cap l w hr hroom hn ha)
 rw [he] at c1
 have HE := Lib.hid he
 clear h hr hroom ha
 go_enter Tryz.func28, Tryz.ntmps28
 go_wp2_with fail
 refine HN.out.mono ?_
 rintro e w1 ⟨p, rfl, hT, hb⟩
 have HT := Lib.hid hT
 have HB := Lib.hid hb
 have HF := Lib.hid (zau (HS.out.mono hb) 0)
 clear c0 c1 f1 hT hb
 go_wp2_with fail
 refine HF.out.mono ?_
 rintro e w2 ⟨rfl, h2, k2⟩
 rw [zev] at h2
 have H2 := Lib.hid h2
 have K2 := Lib.hid k2
 clear h2 k2
 go_wp2
 go_ret
 have hU : ∀ b, U b → b < w.heap.size := fun b hb => HS.out.blt hb
 exact ⟨p, _, rfl, HT.out.keeps K2.out (fun b hb hu => by have := hU b hu; omega), fun b hb => ⟨hb.1, Nat.lt_of_lt_of_le hb.2 K2.out.size⟩, H2.out, (zaa.any HB.out).trans K2.out (fun b hb => .inl hb)⟩
theorem IsSt.putOut {w w1 : World} {U : Nat → Prop} {sb r : Nat} {bs : List UInt8} {most : Nat} {s : IS} {v v' : Value} {o : Obj} {c : UInt8} (h : IsSt w U sb r bs most s) (hv : w.heap[sb]? = some (.cells (stC r s.e v most) 47 (0, 0))) (hO : w.ownsRow (sb + 1) 5 1 v s.out.length (s.out.map u8C)) (hU : ∀ b, v.ownBlock = some b → U b)
   (hO' : w1.ownsRow (sb + 1) 5 1 v' (s.out.length + 1) (s.out.map u8C ++ [u8C c])) (hg : (w.alloc o).grownBy w1 v.ownBlock) (hN : NewAt (w.alloc o) v v') :
   zaC w U sb r bs most { s with out := s.out ++ [c] } (w1.setCell ⟨sb, 2, none⟩ v') := by
 have hk : zaa (fun b => v.ownBlock = some b) w w1 := ((zaa.refl _ w).alloc o).grown hg (fun k hk => .inl hk)
 have hk2 : zaa (fun b => b = sb) w1 (w1.setCell ⟨sb, 2, none⟩ v') := zaa.setCell (S := fun b => b = sb) (zaa.refl _ w1) (a := ⟨sb, 2, none⟩) (.inl rfl) _
 have hsz := hk.size
 have hult := h.ult
 have hrs := h.lt
 have hsb1 : w1.heap[sb]? = some (.cells (stC r s.e v most) 47 (0, 0)) := hk.obj hv (fun e => by have := (hO.lt sb e).1; omega)
 have hkU : zaa U w w1 := hk.weaken hU
 refine ⟨fun b => U b ∨ v'.ownBlock = some b, ⟨⟨v', ?_, ?_, fun b hb => .inr hb⟩, (h.rd.keeps hk (fun b hb e => by have := (hO.lt b e).1; omega)).keeps hk2 (fun b hb e => by omega), hrs, ⟨.inl h.own.1, .inl h.own.2⟩, fun b hb => ?_⟩, hkU.trans hk2 (fun b hb => .inl (hb ▸ h.own.1)), fun b hb => ?_⟩
 · have := zaG (w := w1) (b := sb) (n := 4) (enc := fun i => if i = 0 then .pointer (some ⟨r, 0, none⟩) else if i = 1 then .int .i64 s.e else if i = 2 then v else .int .i64 most) (t := 47) hsb1 2 v'
   exact this
 · have h3 := zas hO' hk2 (fun b hb e => by have := (hO'.lt b hb).1; omega)
   show World.ownsRow _ _ _ _ v' (s.out ++ [c]).length ((s.out ++ [c]).map u8C)
   rw [List.length_append, List.map_append]
   exact h3
 · have hs2 := hk2.size
   rcases hb with hb | hb
   · have := hult b hb
     exact ⟨this.1, by omega⟩
   · have := hO'.lt b hb
     exact ⟨by omega, by omega⟩
 · rcases hb with hb | hb
   · exact .inl hb
   · rcases hN b hb with e | e
     · exact .inl (hU b e)
     · rw [zae] at e; exact .inr (by omega)
theorem sput5_any {w : World} {U : Nat → Prop} {sb r : Nat} {bs : List UInt8} {most : Nat} {s : IS} (h : IsSt w U sb r bs most s) (c : UInt8) (hb : s.out.length ≤ 100000000) :
   Calls Tryz.prog 50 #[.pointer (some ⟨sb, 0, none⟩), .int .u8 c.toNat] w fun x w' => x = .returned (.tuple #[]) ∧ zaC w U sb r bs most (zbT most c s) w' := by
 obtain ⟨c0, c1, c3, f1, f2⟩ := h.cells
 have HS := Lib.hid h
 obtain ⟨v, hv, hO, hU⟩ := h.ex
 obtain ⟨a0, cap0, hva, -, -⟩ := Row.of_owns hO
 subst hva
 have c2 : w.cell? ⟨sb, 2, none⟩ = some (.slice a0 s.out.length cap0) := by rw [cell_of_row w sb _ _ _ _ hv]; rfl
 have HV := Lib.hid hv
 have HO := Lib.hid hO
 have HU := Lib.hid hU
 have hsb := h.blt h.own.1
 clear h hv hO hU
 by_cases hl : most ≤ s.out.length
 · have hd : decide (most ≤ s.out.length) = true := decide_eq_true hl
   have HP : Hid (zbT most c s = zaq 3 s) := Lib.hid (if_pos hl)
   go_enter Tryz.func50, Tryz.ntmps50
   go_wp2_with fail
   go_quiet (fail)
   have HF := Lib.hid (zau (HS.out.drewN nq).1 3)
   go_wp2_with fail
   refine HF.out.mono ?_
   rintro e w2 ⟨rfl, h2, k2⟩
   have H2 := Lib.hid (And.intro h2 ((HS.out.drewN nq).2.trans k2 (fun b hb => .inl hb)))
   clear h2 k2
   go_wp2
   refine bodyPost_ret (results_none rfl _ _ _) rfl ?_
   exact ⟨rfl, by rw [HP.out]; exact IsSt.next H2.out⟩
 · have hd : decide (most ≤ s.out.length) = false := decide_eq_false hl
   have HP : Hid (zbT most c s = { s with out := s.out ++ [c] }) := Lib.hid (if_neg hl)
   go_enter Tryz.func50, Tryz.ntmps50
   go_wp2_with fail
   go_quiet (fail)
   have HSD := Lib.hid (HS.out.drewN nq)
   have HOD := Lib.hid (show (w.drewN nq).ownsRow (sb + 1) 5 1 (.slice a0 s.out.length cap0) s.out.length (s.out.map u8C) from HO.out)
   have HVD := Lib.hid (show (w.drewN nq).heap[sb]? = some (.cells (stC r s.e (.slice a0 s.out.length cap0) most) 47 (0, 0)) from HV.out)
   have d2 : (w.drewN nq).cell? ⟨sb, 2, none⟩ = some (.slice a0 s.out.length cap0) := c2
   have hsbd : sb < (w.drewN nq).heap.size := hsb
   generalize w.drewN nq = W at *
   clear c0 c1 c2 c3 f1 f2
   obtain ⟨y, hy⟩ : ∃ y, y = c.toNat := ⟨_, rfl⟩
   have HY := Lib.hid hy
   rw [← hy]
   clear hy
   go_wp2_with (at_builtin; refine zb8 EByte rfl (.tmp 22) (.tmp 24) rfl (sb + 1) _ s.out.length _ rfl (HOD.out.alloc _) _ 1 _ _ rfl (zbl _ _ _) (zb5 rfl) (by unfold maxLen; omega) (by omega) (by rw [zae]; omega) ?_; intro v' w5 hO5 hg5 hN5; obtain ⟨a5, c5, hv5, -, -⟩ := Row.of_owns hO5; subst hv5; have HN := Lib.hid (HSD.out.1.putOut (c := c) HVD.out HOD.out HU.out (by unfold u8C; rw [← HY.out]; exact hO5) hg5 hN5); have hf5 : w5.frozen? ⟨sb, 2, none⟩ = false := frozen_of_row w5 sb 2 _ _ ((((zaa.refl _ W).alloc _).grown hg5 (fun k hk => .inl hk)).obj HVD.out (fun e => by have := (HOD.out.lt sb e).1; omega)); have hc5 : w5.cell? ⟨sb, 2, none⟩ = some (.slice a0 s.out.length cap0) := (((zaa.refl _ W).alloc _).grown hg5 (fun k hk => .inl hk)).cell d2 (fun e => by have := (HOD.out.lt sb e).1; omega); clear hO5 hg5 hN5)
   go_end0
   refine ⟨rfl, ?_⟩
   rw [HP.out]
   exact zaC.trans HSD.out.2 (fun _ h => .inl h) HN.out
theorem zdl {w w' : World} {row : Option Nat} (h : w.drew.grownBy w' row) : w.grownBy w' row := ⟨h.os, h.tape, h.output, h.size, h.block⟩
theorem new_at {w : World} {o : Obj} {v : Value} {g n cap : Nat} (h : v.ownBlock = some g ∨ g = w.heap.size + 1) : NewAt (w.alloc o) v (.slice (some ⟨g, 0, none⟩) n cap) := fun b hb => by
 have hb2 : g = b := by simpa [Value.ownBlock] using hb
 subst hb2
 rcases h with h | h
 · exact .inl h
 · rw [zae]; exact .inr (by omega)
theorem zff (far : Nat) : ∀ (n : Nat) (o : List UInt8), (repL far n o).length = o.length + n
 | 0, o => rfl
 | n + 1, o => by simp only [repL]; rw [zff far n]; simp; omega
def RepAt (w wr : World) (U : Nat → Prop) (sb r : Nat) (bs : List UInt8) (most : Nat) (s : IS) (far len j : Nat) : Prop :=
 ∃ U1 s1, IsSt wr U1 sb r bs most s1 ∧ zaa U w wr ∧ (∀ b, U1 b → U b ∨ w.heap.size ≤ b) ∧ s1.e = s.e ∧ s1.at_ = s.at_ ∧ s1.out.length = s.out.length + j ∧ repL far (len - j) s1.out = repL far len s.out
theorem RepAt.fin {w wr : World} {U : Nat → Prop} {sb r : Nat} {bs : List UInt8} {most : Nat} {s : IS} {far len : Nat} (h : RepAt w wr U sb r bs most s far len len) : zaC w U sb r bs most { s with out := repL far len s.out } wr := by
 obtain ⟨U1, s1, h1, h2, h3, h4, h5, h6, h7⟩ := h
 rw [Nat.sub_self] at h7
 have : s1 = { s with out := repL far len s.out } := by
   obtain ⟨a, e, o⟩ := s1
   simp only at h4 h5
   simp only [repL] at h7
   rw [h4, h5, h7]
 rw [← this]
 exact ⟨U1, h1, h2, h3⟩
theorem RepAt.next {w wr w' : World} {U U1 : Nat → Prop} {sb r : Nat} {bs : List UInt8} {most : Nat} {s s1 : IS} {far len j : Nat} (h2 : zaa U w wr) (h3 : ∀ b, U1 b → U b ∨ w.heap.size ≤ b) (h4 : s1.e = s.e) (h5 : s1.at_ = s.at_) (h6 : s1.out.length = s.out.length + j) (h7 : repL far (len - j) s1.out = repL far len s.out) (hj : j < len)
   (hn : zaC wr U1 sb r bs most { s1 with out := s1.out ++ [s1.out.getD (s1.out.length - far) 0] } w') : RepAt w w' U sb r bs most s far len (j + 1) := by
 obtain ⟨U2, g1, g2, g3⟩ := zaC.trans h2 h3 hn
 refine ⟨U2, _, g1, g2, g3, h4, h5, by simp; omega, ?_⟩
 rw [← h7, show len - j = (len - (j + 1)) + 1 by omega]
 rfl
set_option maxRecDepth 20000 in
theorem srep_any {w : World} {U : Nat → Prop} {sb r : Nat} {bs : List UInt8} {most : Nat} {s : IS} (h : IsSt w U sb r bs most s) (len far : Nat) (hfar : s.e = 0 → 1 ≤ far) (hb : s.out.length ≤ 20000000) (hm : most ≤ 20000000) (hl : len ≤ 20000000) (hf2 : far ≤ 20000000) :
   Calls Tryz.prog 54 #[.pointer (some ⟨sb, 0, none⟩), .int .i64 len, .int .i64 far] w fun x w' => x = .returned (.tuple #[]) ∧ zaC w U sb r bs most (repV most len far s) w' := by
 obtain ⟨c0, c1, c3, f1, f2⟩ := h.cells
 have HS := Lib.hid h
 obtain ⟨v, hv, hO, hU⟩ := h.ex
 obtain ⟨a0, cap0, hva, -, -⟩ := Row.of_owns hO
 subst hva
 have c2 : w.cell? ⟨sb, 2, none⟩ = some (.slice a0 s.out.length cap0) := by rw [cell_of_row w sb _ _ _ _ hv]; rfl
 clear h hv hO hU
 by_cases he : s.e = 0
 · have HFR := Lib.hid (hfar he)
   rw [he] at c1
   by_cases h1 : s.out.length < far
   · have d1 : decide ((s.out.length : Int) < far) = true := decide_eq_true (by omega)
     have d1' : decide (s.out.length < far) = true := decide_eq_true h1
     have HP : Hid (repV most len far s = zaq 14 s) := Lib.hid (by unfold repV; rw [if_neg (by simp [he]), if_pos h1])
     have HF := Lib.hid (zau HS.out 14)
     go_enter Tryz.func54, Tryz.ntmps54
     go_wp2_with fail
     refine HF.out.mono ?_
     rintro e w2 ⟨rfl, h2, k2⟩
     have H2 := Lib.hid (And.intro h2 k2)
     clear h2 k2
     go_wp2
     go_end0
     exact ⟨rfl, by rw [HP.out]; exact IsSt.next H2.out⟩
   · have d1 : decide ((s.out.length : Int) < far) = false := decide_eq_false (by omega)
     have d1' : decide (s.out.length < far) = false := decide_eq_false h1
     have i1 : IntKind.i64.wrap ((most : Int) - s.out.length) = (most : Int) - s.out.length := IntWalk.i64_in _ (by omega)
     by_cases h2 : (most : Int) - s.out.length < len
     · have d2 : decide ((most : Int) - s.out.length < len) = true := decide_eq_true h2
       have HP : Hid (repV most len far s = zaq 3 s) := Lib.hid (by unfold repV; rw [if_neg (by simp [he]), if_neg h1, if_pos h2])
       go_enter Tryz.func54, Tryz.ntmps54
       go_wp2_with fail
       go_quiet (fail)
       have HF := Lib.hid (zau (HS.out.drewN nq).1 3)
       go_wp2_with fail
       refine HF.out.mono ?_
       rintro e w2 ⟨rfl, h2, k2⟩
       have H2 := Lib.hid (And.intro h2 ((HS.out.drewN nq).2.trans k2 (fun b hb => .inl hb)))
       clear h2 k2
       go_wp2
       go_end0
       exact ⟨rfl, by rw [HP.out]; exact IsSt.next H2.out⟩
     · have d2 : decide ((most : Int) - s.out.length < len) = false := decide_eq_false h2
       have HP : Hid (repV most len far s = { s with out := repL far len s.out }) := Lib.hid (by unfold repV; rw [if_neg (by simp [he]), if_neg h1, if_neg h2])
       go_enter Tryz.func54, Tryz.ntmps54
       go_wp2_with fail
       go_quiet (fail)
       have HR := Lib.hid (show RepAt w (w.drewN nq) U sb r bs most s far len 0 from ⟨U, s, (HS.out.drewN nq).1, (HS.out.drewN nq).2, fun _ h => .inl h, rfl, rfl, rfl, rfl⟩)
       clear c0 c1 c2 c3 f1 f2 d1 d1' d2 i1
       go_wp2_with fail
       go_loopw [7] (fun vi wr => ∃ j : Nat, vi = .int .i64 j ∧ j ≤ len ∧ Hid (RepAt w wr U sb r bs most s far len j)) (fun vi _ => len - (intOf vi).toNat)
       case atStart => exact ⟨0, rfl, Nat.zero_le _, HR⟩
       case round =>
         obtain ⟨j, rfl, hj, HA⟩ := hrel
         by_cases hlt : j < len
         · obtain ⟨U1, s1, g1, g2, g3, g4, g5, g6, g7⟩ := HA.out
           obtain ⟨c0, c1, c3, f1, f2⟩ := g1.cells
           obtain ⟨v1, hv1, hO1, hU1⟩ := g1.ex
           obtain ⟨a1, cap1, hva, hrow, -⟩ := Row.of_owns hO1
           subst hva
           have c2 : wr.cell? ⟨sb, 2, none⟩ = some (.slice a1 s1.out.length cap1) := by rw [cell_of_row wr sb _ _ _ _ hv1]; rfl
           have hfr1 := HFR.out
           obtain ⟨X, hX⟩ : ∃ X, X = s1.out.length - far := ⟨_, rfl⟩
           obtain ⟨b, off, rfl, hblt, hcx⟩ := Row.at (enc := u8C) 0 (l := s1.out) hrow X (by omega)
           have hcX := hcx X (by omega)
           obtain ⟨c, hc⟩ : ∃ c, c = s1.out.getD X 0 := ⟨_, rfl⟩
           rw [← hc] at hcX
           have hXi : (s1.out.length : Int) - far = (X : Int) := by omega
           have iX : IntKind.i64.wrap (X : Int) = (X : Int) := IntWalk.i64_in _ (by omega)
           have hX0 : (0 : Int) ≤ (X : Int) := by omega
           have hX1 : (X : Int) < (s1.out.length : Int) := by omega
           have hX2 : X < s1.out.length := by omega
           have hlen1 : s1.out.length ≤ 20000000 := by omega
           have hsbw := g1.blt g1.own.1
           have HO1 := Lib.hid hO1
           have HV1 := Lib.hid hv1
           have HU1 := Lib.hid hU1
           have HNX := Lib.hid (fun (w' : World) (hn : zaC wr U1 sb r bs most { s1 with out := s1.out ++ [c] } w') => RepAt.next (far := far) (len := len) g2 g3 g4 g5 g6 g7 hlt (by rw [← hX, ← hc]; exact hn))
           have HG1 := Lib.hid g1
           have hne : b ≠ sb := fun e => by have := (hO1.lt b rfl).1; omega
           clear g1 g2 g3 g4 g5 g6 g7 hO1 hv1 hU1 hrow hX hc hcx hfr1 HA HS HR
           unfold u8C at hcX
           generalize hy : c.toNat = y at hcX
           have HY := Lib.hid hy
           clear hy
           go_wp2_with fail
           go_region_law (first | (obtain ⟨iB, hiB, hzB, hsB, hbB⟩ := info_parts EByte.info; refine step_append_lies _ (by rfl) _ _ _ (by rfl) (sb + 1) 5 iB _ 1 1 EByte.und hiB hzB hsB hbB rfl (by omega) (.slice (some ⟨b, off, none⟩) s1.out.length cap1) s1.out.length _ (by rfl) ((HO1.out.alloc _).drew) ⟨wr.heap.size, 0, none⟩ 1 1 [.int .u8 (y : Nat)] (by rfl) (by rfl) (World.news_of_block (cs := #[.int .u8 (y : Nat)]) (t := 5) (fr := (0, 0)) (heap_alloc_new wr _)) (by simp [Value.oneCell']) (by omega) (by unfold maxLen; omega) (by omega) (by simp; omega) (wr.heap.size + 1) (by simp) ?_; intro g cap7 w7 hO7 hgrow hat hlt7; have hk7 : zaa (fun k => (Value.slice (some ⟨b, off, none⟩) s1.out.length cap1).ownBlock = some k) wr w7 := ((zaa.refl _ wr).alloc (.cells #[.int .u8 (y : Nat)] 5)).grown (zdl hgrow) (fun k hk => .inl hk); have ho7 := hk7.obj HV1.out (fun e => hne (by simpa [Value.ownBlock] using e)); have hf7 := frozen_of_row w7 sb 2 _ _ ho7; have hc7 : w7.cell? ⟨sb, 2, none⟩ = some (.slice (some ⟨b, off, none⟩) s1.out.length cap1) := (by rw [cell_of_row w7 sb _ _ _ _ ho7]; rfl); have HNN := Lib.hid (HNX.out _ (HG1.out.putOut (c := c) HV1.out HO1.out HU1.out (by unfold u8C; rw [HY.out]; exact hO7) (zdl hgrow) (new_at hat))); clear hO7 hgrow hat hlt7 hk7 ho7))
           all_goals
             clear hXi iX hX0 hX1 hX2
             go_wp2
             go_roundw
             case rel => exact ⟨j + 1, by go_num, by omega, HNN⟩
             case measure => simp [intOf]; omega
         · obtain rfl : j = len := by omega
           go_wp2
           go_end0
           exact ⟨rfl, by rw [HP.out]; exact HA.out.fin⟩
 · have HP : Hid (repV most len far s = s) := Lib.hid (by unfold repV; rw [if_pos he])
   go_enter Tryz.func54, Tryz.ntmps54
   go_wp2
   go_end0
   exact ⟨rfl, by rw [HP.out]; exact IsSt.next ⟨HS.out, zaa.refl _ _⟩⟩
def LdEnd (V : Int × Int × Bool) (w : World) (e : Ending) (w' : World) : Prop := e = .returned (.tuple #[.int .i64 V.1, .int .i64 V.2.1, .bool V.2.2]) ∧ w' = w
theorem i64_cases {x lo : Int} (n : Nat) (h1 : lo ≤ x) (h2 : x < lo + n) : ∃ k : Nat, k < n ∧ x = lo + k := ⟨(x - lo).toNat, by omega, by omega⟩
theorem zeB (x : Int) (w : World) (hx : -9223372036854775808 ≤ x ∧ x ≤ 9223372036854775807) : Calls Tryz.prog 52 #[.int .i64 x] w (LdEnd (zaz x) w) := by
 by_cases h1 : x < 257
 · have HV : Hid (zaz x = (0, 0, false)) := Lib.hid (by unfold zaz; rw [if_pos (.inl h1)])
   go_enter Tryz.func52, Tryz.ntmps52
   go_wp2
   go_ret3
   exact ⟨by rw [HV.out]; rfl, rfl⟩
 · have d1 : decide (x < 257) = false := decide_eq_false h1
   by_cases h2 : 285 < x
   · have HV : Hid (zaz x = (0, 0, false)) := Lib.hid (by unfold zaz; rw [if_pos (.inr h2)])
     go_enter Tryz.func52, Tryz.ntmps52
     go_wp2
     go_ret3
     exact ⟨by rw [HV.out]; rfl, rfl⟩
   · have hk2 : x = 257 ∨ x = 258 ∨ x = 259 ∨ x = 260 ∨ x = 261 ∨ x = 262 ∨ x = 263 ∨ x = 264 ∨ x = 265 ∨ x = 266 ∨ x = 267 ∨ x = 268 ∨ x = 269 ∨ x = 270 ∨ x = 271 ∨ x = 272 ∨ x = 273 ∨ x = 274 ∨ x = 275 ∨ x = 276 ∨ x = 277 ∨ x = 278 ∨ x = 279 ∨ x = 280 ∨ x = 281 ∨ x = 282 ∨ x = 283 ∨ x = 284 ∨ x = 285 := by omega
     clear hx h1 h2 d1
     rcases hk2 with rfl | rfl | rfl | rfl | rfl | rfl | rfl | rfl | rfl | rfl | rfl | rfl | rfl | rfl | rfl | rfl | rfl | rfl | rfl | rfl | rfl | rfl | rfl | rfl | rfl | rfl | rfl | rfl | rfl
     all_goals
       go_enter Tryz.func52, Tryz.ntmps52
       go_wp2
       go_ret3
       exact ⟨rfl, rfl⟩
theorem zdp (x : Int) (w : World) (hx : -9223372036854775808 ≤ x ∧ x ≤ 9223372036854775807) : Calls Tryz.prog 53 #[.int .i64 x] w (LdEnd (disV x) w) := by
 by_cases h1 : x < 0
 · have HV : Hid (disV x = (0, 0, false)) := Lib.hid (by unfold disV; rw [if_pos (.inl h1)])
   go_enter Tryz.func53, Tryz.ntmps53
   go_wp2
   go_ret3
   exact ⟨by rw [HV.out]; rfl, rfl⟩
 · have d1 : decide (x < 0) = false := decide_eq_false h1
   by_cases h2 : 29 < x
   · have HV : Hid (disV x = (0, 0, false)) := Lib.hid (by unfold disV; rw [if_pos (.inr h2)])
     go_enter Tryz.func53, Tryz.ntmps53
     go_wp2
     go_ret3
     exact ⟨by rw [HV.out]; rfl, rfl⟩
   · have hk2 : x = 0 ∨ x = 1 ∨ x = 2 ∨ x = 3 ∨ x = 4 ∨ x = 5 ∨ x = 6 ∨ x = 7 ∨ x = 8 ∨ x = 9 ∨ x = 10 ∨ x = 11 ∨ x = 12 ∨ x = 13 ∨ x = 14 ∨ x = 15 ∨ x = 16 ∨ x = 17 ∨ x = 18 ∨ x = 19 ∨ x = 20 ∨ x = 21 ∨ x = 22 ∨ x = 23 ∨ x = 24 ∨ x = 25 ∨ x = 26 ∨ x = 27 ∨ x = 28 ∨ x = 29 := by omega
     clear hx h1 h2 d1
     rcases hk2 with rfl | rfl | rfl | rfl | rfl | rfl | rfl | rfl | rfl | rfl | rfl | rfl | rfl | rfl | rfl | rfl | rfl | rfl | rfl | rfl | rfl | rfl | rfl | rfl | rfl | rfl | rfl | rfl | rfl | rfl
     all_goals
       go_enter Tryz.func53, Tryz.ntmps53
       go_wp2
       go_ret3
       exact ⟨rfl, rfl⟩
end Go.Proofs.YtngjbhejfojpbaaGreat
namespace Go.Proofs.YtngjbhejfojpbaaGreat
open Go
theorem jump_mono {P : Program} {Q : Exit → Act → World → Prop} {a : Act} {w : World} {c : Code} {l : Nat} {J J' : Act → World → Prop} (h : c.wp P (Exit.jump l J Q) a w) (hJ : ∀ a w, J a w → J' a w) : c.wp P (Exit.jump l J' Q) a w := by
 refine wp_mono h ?_
 intro e a' w' hq
 cases e with
 | goto l' => exact ⟨hq.1, hJ _ _ hq.2⟩
 | normal => exact hq
 | exit id => exact hq
 | ret => exact hq
 | panic ch => exact hq
 | outgrown => exact hq
theorem zbD {P : Program} {Q : Exit → Act → World → Prop} {a : Act} {w : World} {c body : Code} (l : Nat) (I : Nat → Act → World → Prop) (hf : findLabel c l = some (Code.skip.seq body))
   (first : (∀ n a w, I n a w → body.wp P (Exit.jump l (fun a w => ∃ n, I n a w) Q) a w) → c.wp P (Exit.jump l (fun a w => ∃ n, I n a w) Q) a w)
   (pass : ∀ n a w, I n a w → body.wp P (Exit.jump l (fun a' w' => ∃ n', n' < n ∧ I n' a' w') Q) a w) : (Code.scope c).wp P Q a w := by
 refine wp_scope_jumps l (fun a w => ∃ n, I n a w) (fun a w => leastOf (fun n => I n a w)) hf (first fun n a w hI => jump_mono (pass n a w hI) fun a w ⟨n', _, h⟩ => ⟨n', h⟩) ?_
 intro a w hI
 refine wp_seq (wp_skip ?_)
 refine wp_mono (pass _ a w (leastOf_spec hI).1) ?_
 intro e a' w' hq
 cases e with
 | goto l' =>
   obtain ⟨h1, n', hlt, hI'⟩ := hq
   exact ⟨h1, ⟨n', hI'⟩, Nat.lt_of_le_of_lt ((leastOf_spec ⟨n', hI'⟩).2 n' hI') hlt⟩
 | normal => exact hq
 | exit id => exact hq
 | ret => exact hq
 | panic ch => exact hq
 | outgrown => exact hq
end Go.Proofs.YtngjbhejfojpbaaGreat
