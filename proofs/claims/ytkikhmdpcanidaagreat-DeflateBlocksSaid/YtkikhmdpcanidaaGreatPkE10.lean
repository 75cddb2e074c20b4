/-
  Our texts NSym1 to HCu1, in one.
-/
import Derived.Test.YtkikhmdpcanidaaGreatPkE9
import Derived.Test.YtkikhmdpcanidaaGreatProg
import Derived.BigQuiet
import Derived.Deep.QuietTactic
import Derived.Deep.RegionHeldLaw
set_option maxRecDepth 8000
set_option maxHeartbeats 8000000
namespace Go.Proofs.YtkikhmdpcanidaaGreat
open Go.RowKit Go.Sort
theorem zdA {α : Type} [Inhabited α] (enc : α → Value) (hE : ∀ x, ∃ n, enc x = .pointer n) (F : Value) (g cap a b n : Nat) (rest pre : List Value) (o : Nat) (d : Array α) (w0 w : World)
   (hS : SBo enc w0 g 178 rest pre o d w) (hab : a + n ≤ b) (hb : b + n ≤ d.size) (hsz : d.size < 4611686018427387904) :
   Calls Tryz.prog 168 #[.slice (some ⟨g, o, none⟩) d.size cap, .int .i64 a, .int .i64 b, .int .i64 n, F] w fun e w' => e = .returned (.tuple #[]) ∧ ∃ R : Array α, R.size = d.size ∧ SBo enc w0 g 178 rest pre o R w' ∧ (∀ k, R[k]! = swR d a b n k) ∧ PermIn a (b + n) d R := by
 have HS := Lib.hid hS
 clear hS
 go_enter Tryz.func168, Tryz.ntmps168
 go_wp2
 go_loopw [10] (fun vi wr => ∃ (i : Nat) (dk : Array α), vi = .int .i64 i ∧ i ≤ n ∧ dk.size = d.size ∧ Hid (SBo enc w0 g 178 rest pre o dk wr) ∧ Hid (∀ k, dk[k]! = swR d a b i k) ∧ Hid (PermIn a (b + n) d dk)) (fun vi _ => n - (intOf vi).toNat)
 case atStart => exact ⟨0, d, rfl, by omega, rfl, HS, Lib.hid (fun k => (swR_zero d a b k).symm), Lib.hid (permIn_refl _ _ _)⟩
 case round =>
   obtain ⟨i, dk, rfl, hin, hsk, HSk, HR, HP⟩ := hrel
   clear HS
   by_cases hlt : i < n
   · have hc1 := HSk.out.cell (a + i) (by omega)
     have hc2 := HSk.out.cell (b + i) (by omega)
     have hf1 := HSk.out.free (a + i)
     have hf2 := HSk.out.free (b + i)
     obtain ⟨X, hX⟩ : ∃ X, X = dk[a + i]! := ⟨_, rfl⟩
     obtain ⟨Y, hY⟩ : ∃ Y, Y = dk[b + i]! := ⟨_, rfl⟩
     rw [← hX] at hc1
     rw [← hY] at hc2
     have HX := Lib.hid hX
     have HY := Lib.hid hY
     obtain ⟨x, hx⟩ := hE X
     obtain ⟨y, hy⟩ := hE Y
     rw [hx] at hc1
     rw [hy] at hc2
     have HEx := Lib.hid hx
     have HEy := Lib.hid hy
     clear hx hy hX hY
     have hj1 : ((a : Int) + (i : Int)).toNat = a + i := by omega
     have hj2 : ((b : Int) + (i : Int)).toNat = b + i := by omega
     have hb1 : (a : Int) + (i : Int) < (d.size : Int) := by omega
     have hb2 : (b : Int) + (i : Int) < (d.size : Int) := by omega
     go_wp2
     go_region
     all_goals go_wp2
     go_roundw
     case rel =>
       refine ⟨i + 1, swp dk (a + i) (b + i), by go_num, by omega, by rw [size_swp]; exact hsk, ?_, Lib.hid (swR_step d dk a b n i hlt hab (by omega) HR.out), Lib.hid (permIn_trans _ _ _ _ _ HP.out (swp_permIn dk a (b + n) (a + i) (b + i) (by omega) (by omega) (by omega) (by omega) (by omega)))⟩
       have hw := HSk.out.swp (a + i) (b + i) (by omega) (by omega) 1
       rw [← HX.out, ← HY.out, HEx.out, HEy.out] at hw
       exact Lib.hid hw
     case measure => simp [intOf]; omega
   · obtain rfl : n = i := by omega
     go_wp2
     go_end0
     exact ⟨rfl, dk, hsk, HSk.out, HR.out, HP.out⟩
theorem rot_anyN {α : Type} [Inhabited α] (enc : α → Value) (hE : ∀ x, ∃ n, enc x = .pointer n) (F : Value) (g cap a m b : Nat) (rest pre : List Value) (o : Nat) (d : Array α) (w0 w : World)
   (hS : SBo enc w0 g 178 rest pre o d w) (ham : a < m) (hmb : m < b) (hb : b ≤ d.size) (hsz : d.size < 4611686018427387904) :
   Calls Tryz.prog 162 #[.slice (some ⟨g, o, none⟩) d.size cap, .int .i64 a, .int .i64 m, .int .i64 b, F] w fun e w' => e = .returned (.tuple #[]) ∧ ∃ R : Array α, R.size = d.size ∧ SBo enc w0 g 178 rest pre o R w' ∧ (∀ k, R[k]! = rotF d a m b k) ∧ PermIn a b d R := by
 have HS := Lib.hid hS
 clear hS
 go_enter Tryz.func162, Tryz.ntmps162
 go_wp2
 go_loopw [10, 11] (fun vi vj wr => ∃ (i j : Nat) (dk : Array α), vi = .int .i64 i ∧ vj = .int .i64 j ∧ 0 < i ∧ 0 < j ∧ i ≤ m - a ∧ j ≤ b - m ∧ dk.size = d.size ∧ Hid (SBo enc w0 g 178 rest pre o dk wr) ∧ Hid (∀ k, rotF dk (m - i) m (m + j) k = rotF d a m b k) ∧ Hid (PermIn a b d dk)) (fun vi vj _ => (intOf vi).toNat + (intOf vj).toNat)
 case atStart => exact ⟨m - a, b - m, d, by go_num, by go_num, by omega, by omega, by omega, by omega, rfl, HS, Lib.hid (fun k => by rw [show m - (m - a) = a from by omega, show m + (b - m) = b from by omega]), Lib.hid (permIn_refl _ _ _)⟩
 case round =>
   obtain ⟨i, j, dk, rfl, rfl, hi, hj, him, hjm, hsk, HSk, HR, HP⟩ := hrel
   clear HS
   have hmi : ((m - i : Nat) : Int) = (m : Int) - i := by omega
   by_cases hgt : j < i
   · have hsw := zdA enc hE F g cap (m - i) m j rest pre o dk w0 wr HSk.out (by omega) (by omega) (by omega)
     rw [hmi, hsk] at hsw
     have HSW := Lib.hid hsw
     have hne : ((i : Int) == (j : Int)) = false := by rw [beq_eq_false_iff_ne]; omega
     clear hsw
     go_wp2_with (go_at_call 168; refine HSW.out.mono ?_; rintro e w2 ⟨rfl, R, hRs, hRB, hRk, hRP⟩; have HB2 := Lib.hid hRB; have HK2 := Lib.hid hRk; have HP2 := Lib.hid hRP; clear hRB hRk hRP)
     go_roundw
     case rel => exact ⟨i - j, j, R, by go_num, rfl, by omega, by omega, by omega, by omega, hRs, HB2, Lib.hid (fun k => by rw [rot_gt dk R m i j hgt (by omega) HK2.out k]; exact HR.out k), Lib.hid (permIn_trans _ _ _ _ _ HP.out (permIn_mono dk R (m - i) (m + j) a b (by omega) (by omega) (by omega) HP2.out))⟩
     case measure => simp [intOf]; omega
   · by_cases hlt : i < j
     · have hsw := zdA enc hE F g cap (m - i) (m + j - i) i rest pre o dk w0 wr HSk.out (by omega) (by omega) (by omega)
       rw [hmi, hsk, show ((m + j - i : Nat) : Int) = (m : Int) + j - i from by omega] at hsw
       have HSW := Lib.hid hsw
       have hne : ((i : Int) == (j : Int)) = false := by rw [beq_eq_false_iff_ne]; omega
       clear hsw
       go_wp2_with (go_at_call 168; refine HSW.out.mono ?_; rintro e w2 ⟨rfl, R, hRs, hRB, hRk, hRP⟩; have HB2 := Lib.hid hRB; have HK2 := Lib.hid hRk; have HP2 := Lib.hid hRP; clear hRB hRk hRP)
       go_roundw
       case rel => exact ⟨i, j - i, R, rfl, by go_num, by omega, by omega, by omega, by omega, hRs, HB2, Lib.hid (fun k => by rw [rot_lt dk R m i j hlt (by omega) HK2.out k]; exact HR.out k), Lib.hid (permIn_trans _ _ _ _ _ HP.out (permIn_mono dk R (m - i) (m + j - i + i) a b (by omega) (by omega) (by omega) HP2.out))⟩
       case measure => simp [intOf]; omega
     · obtain rfl : i = j := by omega
       have hsw := zdA enc hE F g cap (m - i) m i rest pre o dk w0 wr HSk.out (by omega) (by omega) (by omega)
       rw [hmi, hsk] at hsw
       have HSW := Lib.hid hsw
       clear hsw
       go_wp2_with (go_at_call 168; refine HSW.out.mono ?_; rintro e w2 ⟨rfl, R, hRs, hRB, hRk, hRP⟩; have HB2 := Lib.hid hRB; have HK2 := Lib.hid hRk; have HP2 := Lib.hid hRP; clear hRB hRk hRP)
       go_end0
       exact ⟨rfl, R, hRs, HB2.out, fun k => by rw [rot_eq dk R m i (by omega) HK2.out k]; exact HR.out k, permIn_trans _ _ _ _ _ HP.out (permIn_mono dk R (m - i) (m + i) a b (by omega) (by omega) (by omega) HP2.out)⟩
def zc4 {α : Type} [Inhabited α] (enc : α → Value) (lt : α → α → Bool) (g a b : Nat) (rest pre : List Value) (o : Nat) (d : Array α) (w0 : World) (e : Ending) (w' : World) : Prop :=
 e = .returned (.tuple #[]) ∧ ∃ R : Array α, R.size = d.size ∧ SBo enc w0 g 178 rest pre o R w' ∧ PermIn a b d R ∧ SortedIn lt a b R
theorem sym_leftN {α : Type} [Inhabited α] (enc : α → Value) (hE : ∀ x, ∃ n, enc x = .pointer n) (cf : α → α → Int) (lt : α → α → Bool) (hL : SWO lt) (D : α → Prop) (f : FuncId) (cb : Array Value) (g cap a m b : Nat) (rest pre : List Value) (o : Nat) (d : Array α) (w0 w : World)
   (hC : CmpQ Tryz.prog f cb enc cf D w0 g) (hS : SBo enc w0 g 178 rest pre o d w) (hD : ∀ i, i < d.size → D d[i]!) (hm : m = a + 1) (hmb : m < b) (hb : b ≤ d.size) (hsz : d.size < 4611686018427387904)
   (h2 : SortedIn lt m b d) (hA : zcb (ltOf cf) lt d a m b) :
   Calls Tryz.prog 152 #[.slice (some ⟨g, o, none⟩) d.size cap, .int .i64 a, .int .i64 m, .int .i64 b, .func (.func f) #[] cb] w fun e w' => zc4 enc lt g a b rest pre o d w0 e w' := by
 have eg := hC.enters
 have HC := Lib.hid hC
 have HS := Lib.hid hS
 have HD := Lib.hid hD
 have H2 := Lib.hid h2
 have HA := Lib.hid hA
 clear hC hS hD h2 hA
 have heq : ((m : Int) - (a : Int) == 1) = true := by rw [beq_iff_eq]; omega
 go_enter Tryz.func152, Tryz.ntmps152
 go_wp2
 go_loopw [10, 11] (fun vi vj wr => ∃ (i j : Nat), vi = .int .i64 i ∧ vj = .int .i64 j ∧ m ≤ i ∧ i ≤ j ∧ j ≤ b ∧ Hid (SBo enc w0 g 178 rest pre o d wr) ∧ Hid (∀ q, m ≤ q → q < i → lt d[q]! d[a]! = true) ∧ Hid (∀ q, j ≤ q → q < b → lt d[q]! d[a]! = false)) (fun vi vj _ => (intOf vj).toNat - (intOf vi).toNat)
 case atStart => exact ⟨m, b, rfl, rfl, Nat.le_refl _, by omega, Nat.le_refl _, HS, Lib.hid (fun q h1 h2 => by omega), Lib.hid (fun q h1 h2 => by omega)⟩
 case round =>
   obtain ⟨i, j, rfl, rfl, hai, hij, hjb, HSk, HLo, HHi⟩ := hrel
   clear HS
   by_cases hlt : i < j
   · obtain ⟨h, hh⟩ : ∃ h, h = (i + j) / 2 := ⟨_, rfl⟩
     have hc1 := HSk.out.cell h (by omega)
     have hc2 := HSk.out.cell a (by omega)
     have hcall := fun q => HC.out.calls (wr.drewN q) (HSk.out.drewN q).grown d[h]! d[a]! (HD.out h (by omega)) (HD.out a (by omega))
     have hag := HA.out a h (Nat.le_refl _) (by omega) (by omega) (by omega)
     obtain ⟨X, hX⟩ : ∃ X, X = d[h]! := ⟨_, rfl⟩
     obtain ⟨Y, hY⟩ : ∃ Y, Y = d[a]! := ⟨_, rfl⟩
     rw [← hX] at hc1 hcall hag
     rw [← hY] at hc2 hcall hag
     have HX := Lib.hid hX
     have HY := Lib.hid hY
     obtain ⟨x, hx⟩ := hE X
     obtain ⟨y, hy⟩ := hE Y
     rw [hx] at hc1 hcall
     rw [hy] at hc2 hcall
     have HCALL := Lib.hid hcall
     have HAG := Lib.hid hag
     clear hcall hx hy hX hY hag
     have hh1 : ((i : Int) + (j : Int)) / 2 = (h : Int) := by omega
     have hhb : (h : Int) < (d.size : Int) := by omega
     have hab : (a : Int) < (d.size : Int) := by omega
     have hhi : i ≤ h := by omega
     have hhj : h < j := by omega
     clear hh
     by_cases hcf : cf X Y < 0
     · have hl : lt X Y = true := by rw [← HAG.out]; simpa [ltOf] using hcf
       have HL := Lib.hid hl
       have hcf2 : cf X Y < 0 := hcf
       clear hl hcf
       go_wp2_with fail
       go_quiet ((refine Calls.quiet_of (HCALL.out _)))
       go_wp2
       go_roundw
       case rel => exact ⟨h + 1, j, by go_num, rfl, by omega, by omega, hjb, Lib.hid (HSk.out.drewN _), Lib.hid (fun q h3 h4 => low_all hL H2.out (by omega : h < b) (by rw [← HX.out, ← HY.out]; exact HL.out) q h3 (by omega)), HHi⟩
       case measure => simp [intOf]; omega
     · have hl : lt X Y = false := by rw [← HAG.out]; simpa [ltOf] using hcf
       have HL := Lib.hid hl
       have hcf2 : 0 ≤ cf X Y := by omega
       clear hl hcf
       go_wp2_with fail
       go_quiet ((refine Calls.quiet_of (HCALL.out _)))
       go_wp2
       go_roundw
       case rel => exact ⟨i, h, rfl, rfl, hai, hhi, by omega, Lib.hid (HSk.out.drewN _), HLo, Lib.hid (fun q h3 h4 => high_all hL H2.out (by omega) (by rw [← HX.out, ← HY.out]; exact HL.out) q h3 h4)⟩
       case measure => simp [intOf]; omega
   · obtain rfl : i = j := by omega
     go_wp2
     go_loopw [13] (fun vk wr2 => ∃ (k : Nat) (dk : Array α), vk = .int .i64 k ∧ a ≤ k ∧ k ≤ i - 1 ∧ dk.size = d.size ∧ Hid (SBo enc w0 g 178 rest pre o dk wr2) ∧ Hid (∀ q, dk[q]! = shlF d a k q) ∧ Hid (PermIn a b d dk)) (fun vk _ => i - (intOf vk).toNat)
     case atStart => exact ⟨a, d, rfl, Nat.le_refl _, by omega, rfl, HSk, Lib.hid (fun q => (shlF_zero d a q).symm), Lib.hid (permIn_refl _ _ _)⟩
     case round =>
       obtain ⟨k, dk, rfl, hak, hki, hsk, HSk2, HR, HP⟩ := hrel
       clear HSk
       by_cases hk : k < i - 1
       · have hc1 := HSk2.out.cell k (by omega)
         have hc2 := HSk2.out.cell (k + 1) (by omega)
         have hf1 := HSk2.out.free k
         have hf2 := HSk2.out.free (k + 1)
         obtain ⟨X, hX⟩ : ∃ X, X = dk[k]! := ⟨_, rfl⟩
         obtain ⟨Y, hY⟩ : ∃ Y, Y = dk[k + 1]! := ⟨_, rfl⟩
         rw [← hX] at hc1
         rw [← hY] at hc2
         have HX := Lib.hid hX
         have HY := Lib.hid hY
         obtain ⟨x, hx⟩ := hE X
         obtain ⟨y, hy⟩ := hE Y
         rw [hx] at hc1
         rw [hy] at hc2
         have HEx := Lib.hid hx
         have HEy := Lib.hid hy
         clear hx hy hX hY
         have hj1 : ((k : Int) + 1).toNat = k + 1 := by omega
         have hb1 : (k : Int) < (d.size : Int) := by omega
         have hb2 : (k : Int) + 1 < (d.size : Int) := by omega
         go_wp2
         go_region
         all_goals go_wp2
         go_roundw
         case rel =>
           refine ⟨k + 1, swp dk k (k + 1), by go_num, by omega, by omega, by rw [size_swp]; exact hsk, ?_, Lib.hid (shlF_step d dk a k hak (by omega) HR.out), Lib.hid (permIn_trans _ _ _ _ _ HP.out (swp_permIn dk a b k (k + 1) (by omega) (by omega) (by omega) (by omega) (by omega)))⟩
           have hw := HSk2.out.swp k (k + 1) (by omega) (by omega) 1
           rw [← HX.out, ← HY.out, HEx.out, HEy.out] at hw
           exact Lib.hid hw
         case measure => simp [intOf]; omega
       · obtain rfl : k = i - 1 := by omega
         go_wp2
         go_end0
         exact ⟨rfl, dk, hsk, HSk2.out, HP.out, left_done hL d dk a b i (by omega) hjb (by rw [← hm]; exact H2.out) (by rw [← hm]; exact HLo.out) HHi.out HR.out⟩
theorem sym_rightN {α : Type} [Inhabited α] (enc : α → Value) (hE : ∀ x, ∃ n, enc x = .pointer n) (cf : α → α → Int) (lt : α → α → Bool) (hL : SWO lt) (D : α → Prop) (f : FuncId) (cb : Array Value) (g cap a m b : Nat) (rest pre : List Value) (o : Nat) (d : Array α) (w0 w : World)
   (hC : CmpQ Tryz.prog f cb enc cf D w0 g) (hS : SBo enc w0 g 178 rest pre o d w) (hD : ∀ i, i < d.size → D d[i]!) (ham : a + 1 < m) (hbm : b = m + 1) (hb : b ≤ d.size) (hsz : d.size < 4611686018427387904)
   (h1 : SortedIn lt a m d) (hA : zcb (ltOf cf) lt d a m b) :
   Calls Tryz.prog 152 #[.slice (some ⟨g, o, none⟩) d.size cap, .int .i64 a, .int .i64 m, .int .i64 b, .func (.func f) #[] cb] w fun e w' => zc4 enc lt g a b rest pre o d w0 e w' := by
 have eg := hC.enters
 have HC := Lib.hid hC
 have HS := Lib.hid hS
 have HD := Lib.hid hD
 have H1 := Lib.hid h1
 have HA := Lib.hid hA
 clear hC hS hD h1 hA
 have hne : ((m : Int) - (a : Int) == 1) = false := by rw [beq_eq_false_iff_ne]; omega
 have heq : ((b : Int) - (m : Int) == 1) = true := by rw [beq_iff_eq]; omega
 go_enter Tryz.func152, Tryz.ntmps152
 go_wp2
 go_loopw [14, 15] (fun vi vj wr => ∃ (i j : Nat), vi = .int .i64 i ∧ vj = .int .i64 j ∧ a ≤ i ∧ i ≤ j ∧ j ≤ m ∧ Hid (SBo enc w0 g 178 rest pre o d wr) ∧ Hid (∀ q, a ≤ q → q < i → lt d[m]! d[q]! = false) ∧ Hid (∀ q, j ≤ q → q < m → lt d[m]! d[q]! = true)) (fun vi vj _ => (intOf vj).toNat - (intOf vi).toNat)
 case atStart => exact ⟨a, m, rfl, rfl, Nat.le_refl _, by omega, Nat.le_refl _, HS, Lib.hid (fun q h1 h2 => by omega), Lib.hid (fun q h1 h2 => by omega)⟩
 case round =>
   obtain ⟨i, j, rfl, rfl, hai, hij, hjb, HSk, HLo, HHi⟩ := hrel
   clear HS
   by_cases hlt : i < j
   · obtain ⟨h, hh⟩ : ∃ h, h = (i + j) / 2 := ⟨_, rfl⟩
     have hc1 := HSk.out.cell m (by omega)
     have hc2 := HSk.out.cell h (by omega)
     have hcall := fun q => HC.out.calls (wr.drewN q) (HSk.out.drewN q).grown d[m]! d[h]! (HD.out m (by omega)) (HD.out h (by omega))
     have hag := HA.out h m (by omega) (by omega) (by omega) (by omega)
     obtain ⟨X, hX⟩ : ∃ X, X = d[m]! := ⟨_, rfl⟩
     obtain ⟨Y, hY⟩ : ∃ Y, Y = d[h]! := ⟨_, rfl⟩
     rw [← hX] at hc1 hcall hag
     rw [← hY] at hc2 hcall hag
     have HX := Lib.hid hX
     have HY := Lib.hid hY
     obtain ⟨x, hx⟩ := hE X
     obtain ⟨y, hy⟩ := hE Y
     rw [hx] at hc1 hcall
     rw [hy] at hc2 hcall
     have HCALL := Lib.hid hcall
     have HAG := Lib.hid hag
     clear hcall hx hy hX hY hag
     have hh1 : ((i : Int) + (j : Int)) / 2 = (h : Int) := by omega
     have hhb : (h : Int) < (d.size : Int) := by omega
     have hmd : (m : Int) < (d.size : Int) := by omega
     have hhi : i ≤ h := by omega
     have hhj : h < j := by omega
     clear hh
     by_cases hcf : cf X Y < 0
     · have hl : lt X Y = true := by rw [← HAG.out]; simpa [ltOf] using hcf
       have HL := Lib.hid hl
       have hcf2 : cf X Y < 0 := hcf
       have hcfB : decide (cf X Y < 0) = true := by rw [decide_eq_true_iff]; exact hcf
       clear hl hcf
       go_wp2_with fail
       go_quiet ((refine Calls.quiet_of (HCALL.out _)))
       go_wp2
       go_roundw
       case rel => exact ⟨i, h, rfl, rfl, hai, hhi, by omega, Lib.hid (HSk.out.drewN _), HLo, Lib.hid (fun q h3 h4 => high_all' hL H1.out (by omega) (by rw [← HX.out, ← HY.out]; exact HL.out) q h3 h4)⟩
       case measure => simp [intOf]; omega
     · have hl : lt X Y = false := by rw [← HAG.out]; simpa [ltOf] using hcf
       have HL := Lib.hid hl
       have hcf2 : 0 ≤ cf X Y := by omega
       have hcfB : decide (cf X Y < 0) = false := by rw [decide_eq_false_iff_not]; omega
       clear hl hcf
       go_wp2_with fail
       go_quiet ((refine Calls.quiet_of (HCALL.out _)))
       go_wp2
       go_roundw
       case rel => exact ⟨h + 1, j, by go_num, rfl, by omega, by omega, hjb, Lib.hid (HSk.out.drewN _), Lib.hid (fun q h3 h4 => low_all' hL H1.out (by omega : h < m) (by rw [← HX.out, ← HY.out]; exact HL.out) q h3 (by omega)), HHi⟩
       case measure => simp [intOf]; omega
   · obtain rfl : i = j := by omega
     go_wp2
     go_loopw [17] (fun vk wr2 => ∃ (k : Nat) (dk : Array α), vk = .int .i64 k ∧ i ≤ k ∧ k ≤ m ∧ dk.size = d.size ∧ Hid (SBo enc w0 g 178 rest pre o dk wr2) ∧ Hid (∀ q, dk[q]! = shrF d m k q) ∧ Hid (PermIn a b d dk)) (fun vk _ => (intOf vk).toNat)
     case atStart => exact ⟨m, d, rfl, hjb, Nat.le_refl _, rfl, HSk, Lib.hid (fun q => (shrF_zero d m q).symm), Lib.hid (permIn_refl _ _ _)⟩
     case round =>
       obtain ⟨k, dk, rfl, hik, hkm, hsk, HSk2, HR, HP⟩ := hrel
       clear HSk
       by_cases hk : i < k
       · obtain ⟨u, rfl⟩ : ∃ u, k = u + 1 := ⟨k - 1, by omega⟩
         have hc1 := HSk2.out.cell (u + 1) (by omega)
         have hc2 := HSk2.out.cell u (by omega)
         have hf1 := HSk2.out.free (u + 1)
         have hf2 := HSk2.out.free u
         obtain ⟨X, hX⟩ : ∃ X, X = dk[u + 1]! := ⟨_, rfl⟩
         obtain ⟨Y, hY⟩ : ∃ Y, Y = dk[u]! := ⟨_, rfl⟩
         rw [← hX] at hc1
         rw [← hY] at hc2
         have HX := Lib.hid hX
         have HY := Lib.hid hY
         obtain ⟨x, hx⟩ := hE X
         obtain ⟨y, hy⟩ := hE Y
         rw [hx] at hc1
         rw [hy] at hc2
         have HEx := Lib.hid hx
         have HEy := Lib.hid hy
         clear hx hy hX hY
         have hj1 : ((u : Int) + 1).toNat = u + 1 := by omega
         have hj2 : ((u : Int) + 1 - 1) = u := by omega
         have hb1 : (u : Int) < (d.size : Int) := by omega
         have hb2 : (u : Int) + 1 < (d.size : Int) := by omega
         go_wp2
         go_region
         all_goals go_wp2
         go_roundw
         case rel =>
           refine ⟨u, swp dk (u + 1) u, by go_num, by omega, by omega, by rw [size_swp]; exact hsk, ?_, Lib.hid (shrF_step d dk m u (by omega) (by omega) HR.out), Lib.hid (permIn_trans _ _ _ _ _ HP.out (swp_permIn dk a b (u + 1) u (by omega) (by omega) (by omega) (by omega) (by omega)))⟩
           have hw := HSk2.out.swp (u + 1) u (by omega) (by omega) 1
           rw [← HX.out, ← HY.out, HEx.out, HEy.out] at hw
           exact Lib.hid hw
         case measure => simp [intOf]
       · obtain rfl : i = k := by omega
         go_wp2
         go_end0
         refine ⟨rfl, dk, hsk, HSk2.out, HP.out, ?_⟩
         rw [hbm]
         exact ze3 hL d dk a m i hai hjb H1.out HLo.out HHi.out HR.out
def zfe {α : Type} [Inhabited α] (enc : α → Value) (cf : α → α → Int) (lt : α → α → Bool) (D : α → Prop) (f : FuncId) (cb : Array Value) (g cap : Nat) (rest pre : List Value) (o : Nat) (n : Nat) (w0 : World) (N : Nat) : Prop :=
 ∀ (a m b : Nat) (d : Array α) (w : World), b - a ≤ N → d.size = n → SBo enc w0 g 178 rest pre o d w → (∀ i, i < d.size → D d[i]!) → a < m → m < b → b ≤ n → SortedIn lt a m d → SortedIn lt m b d → zcb (ltOf cf) lt d a m b →
   Calls Tryz.prog 152 #[.slice (some ⟨g, o, none⟩) n cap, .int .i64 a, .int .i64 m, .int .i64 b, .func (.func f) #[] cb] w fun e w' => zc4 enc lt g a b rest pre o d w0 e w'
def zfM {α : Type} [Inhabited α] (enc : α → Value) (lt : α → α → Bool) (f : FuncId) (cb : Array Value) (g cap : Nat) (rest pre : List Value) (o : Nat) (n : Nat) (w0 : World) (a m b mid s0 r0 : Nat) (d : Array α) : Prop :=
 ∀ (s : Nat) (wr : World), s0 ≤ s → s ≤ r0 → SBo enc w0 g 178 rest pre o d wr → (s0 < s → lt d[mid + m - s]! d[s - 1]! = false) → (s < r0 → lt d[mid + m - s - 1]! d[s]! = true) →
     ∃ e, e = mid + m - s ∧ m ≤ e ∧ e ≤ b ∧ mid ≤ e ∧ s + (e - m) = mid ∧
     (s < m → m < e → Calls Tryz.prog 162 #[.slice (some ⟨g, o, none⟩) n cap, .int .i64 s, .int .i64 m, .int .i64 e, .func (.func f) #[] cb] wr fun e1 w' => e1 = .returned (.tuple #[]) ∧ ∃ R : Array α, R.size = n ∧ SBo enc w0 g 178 rest pre o R w' ∧ (∀ k, R[k]! = rotF d s m e k) ∧ PermIn a b d R) ∧
     (∀ (R : Array α) (W : World), R.size = n → SBo enc w0 g 178 rest pre o R W → (∀ k, R[k]! = rotF d s m e k) → PermIn a b d R → a < s → s < mid → Calls Tryz.prog 152 #[.slice (some ⟨g, o, none⟩) n cap, .int .i64 a, .int .i64 s, .int .i64 mid, .func (.func f) #[] cb] W fun e1 w' => zc4 enc lt g a mid rest pre o R w0 e1 w') ∧
     (∀ (R R1 : Array α) (W : World), R.size = n → R1.size = n → SBo enc w0 g 178 rest pre o R1 W → (∀ k, R[k]! = rotF d s m e k) → PermIn a b d R → PermIn a mid R R1 → mid < e → e < b → Calls Tryz.prog 152 #[.slice (some ⟨g, o, none⟩) n cap, .int .i64 mid, .int .i64 e, .int .i64 b, .func (.func f) #[] cb] W fun e1 w' => zc4 enc lt g mid b rest pre o R1 w0 e1 w') ∧
     (∀ R : Array α, (∀ k, R[k]! = rotF d s m e k) → (s = a ∨ s = mid) → SortedIn lt a mid R) ∧
     (∀ R R1 : Array α, (∀ k, R[k]! = rotF d s m e k) → PermIn a mid R R1 → (e = mid ∨ e = b) → SortedIn lt mid b R1) ∧
     (∀ R R1 R2 : Array α, R.size = n → (∀ k, R[k]! = rotF d s m e k) → PermIn a b d R → PermIn a mid R R1 → SortedIn lt a mid R1 → PermIn mid b R1 R2 → SortedIn lt mid b R2 → PermIn a b d R2 ∧ SortedIn lt a b R2)
theorem sym_finN {α : Type} [Inhabited α] (enc : α → Value) (hE : ∀ x, ∃ n, enc x = .pointer n) (cf : α → α → Int) (lt : α → α → Bool) (hL : SWO lt) (D : α → Prop) (f : FuncId) (cb : Array Value) (g cap : Nat) (rest pre : List Value) (o : Nat) (n : Nat) (w0 : World) (N : Nat)
   (hsz : n < 4611686018427387904) (ih : zfe enc cf lt D f cb g cap rest pre o n w0 N)
   (a m b mid s0 r0 : Nat) (d : Array α) (hN : b - a ≤ N + 1) (hdn : d.size = n) (hD : ∀ i, i < d.size → D d[i]!) (hb : b ≤ n) (h1 : SortedIn lt a m d) (h2 : SortedIn lt m b d) (hA : zcb (ltOf cf) lt d a m b)
   (hma : a < mid) (hmB : mid < b) (hs0a : a ≤ s0) (hr0m : r0 ≤ m) (hr0d : r0 ≤ mid) (hs0b : mid + m - s0 ≤ b) (hend0 : s0 = a ∨ mid + m - s0 = b) (hend1 : r0 = m ∨ r0 = mid) : zfM enc lt f cb g cap rest pre o n w0 a m b mid s0 r0 d := by
 have HD := Lib.hid hD
 have H1 := Lib.hid h1
 have H2 := Lib.hid h2
 have HA := Lib.hid hA
 have HI := Lib.hid ih
 clear hD h1 h2 hA ih
 intro s wr h3 h4 hSB h5 h6
 refine ⟨mid + m - s, rfl, by omega, by omega, by omega, by omega, ?_, ?_, ?_, ?_, ?_, ?_⟩
 · intro h7 h8
   have h9 := rot_anyN enc hE (.func (.func f) #[] cb) g cap s m (mid + m - s) rest pre o d w0 wr hSB h7 h8 (by omega) (by omega)
   rw [hdn] at h9
   exact h9.mono fun e1 w' ⟨q1, R, q2, q3, q4, q5⟩ => ⟨q1, R, q2, q3, q4, permIn_mono d R s (mid + m - s) a b (by omega) (by omega) (by omega) q5⟩
 · intro R W hR1 hR2 hR3 hR4 h7 h8
   refine HI.out a s mid R W (by omega) hR1 hR2 (zbs D (by omega) hR4 HD.out) h7 h8 (by omega) (sp1 hR3 (by omega) (by omega) H1.out) ?_ ?_
   · have := sp2 hR3 (by omega) (by omega) (by omega) H2.out
     rwa [show s + (mid + m - s - m) = mid from by omega] at this
   · have := agree_lo hR3 (a := a) (by omega) (by omega) (by omega : mid + m - s ≤ b) HA.out
     rwa [show s + (mid + m - s - m) = mid from by omega] at this
 · intro R R1 W hR1 hR2 hR3 hR4 hR5 hR6 h7 h8
   have hc : ∀ k, mid ≤ k → R1[k]! = R[k]! := fun k hk => hR6.2.1 k (by omega)
   refine HI.out mid (mid + m - s) b R1 W (by omega) hR2 hR3 (zbs D (by omega) hR6 (zbs D (by omega) hR5 HD.out)) h7 h8 hb ?_ ?_ ?_
   · have := sp3 hR4 (a := a) (by omega) (by omega) (by omega) H1.out
     rw [show s + (mid + m - s - m) = mid from by omega] at this
     exact zaZ this (fun k h9 _ => hc k h9)
   · exact zaZ (sp4 hR4 (by omega) (by omega) (by omega) H2.out) (fun k h9 _ => hc k (by omega))
   · have := agree_hi hR4 (b := b) (by omega : a ≤ s) (by omega) (by omega) HA.out
     rw [show s + (mid + m - s - m) = mid from by omega] at this
     exact zd9 this (fun k h9 _ => hc k h9)
 · intro R hR h7
   have := skip_lo hR (by omega : a ≤ s) (by omega) (by omega) (by omega : mid + m - s ≤ b) H1.out H2.out (by omega)
   rwa [show s + (mid + m - s - m) = mid from by omega] at this
 · intro R R1 hR hP h7
   have := skip_hi hR (by omega : a ≤ s) (by omega) (by omega) (by omega : mid + m - s ≤ b) H1.out H2.out (by omega)
   rw [show s + (mid + m - s - m) = mid from by omega] at this
   exact zaZ this (fun k h9 _ => hP.2.1 k (by omega))
 · intro R R1 R2 hR1 hR hP p1 s1 p2 s2
   have hm2 : s + (mid + m - s - m) = mid := by omega
   refine ⟨permIn_trans _ _ _ _ _ (permIn_trans _ _ _ _ _ hP (permIn_mono R R1 a mid a b (by omega) (by omega) (by omega) p1)) (permIn_mono R1 R2 mid b a b (by omega) (by omega) (by have := p1.1; omega) p2), ?_⟩
   refine zfc hL d R R1 R2 a m b s (mid + m - s) (by omega) (by omega) (by omega) (by omega) (by omega) (by omega) H1.out H2.out hR (fun q1 q2 => h5 (by omega)) (fun q1 q2 => ?_) (by rw [hm2]; exact p1) (by rw [hm2]; exact s1) (by rw [hm2]; exact p2) (by rw [hm2]; exact s2)
   have h8 := h6 (by omega)
   cases h9 : lt d[s]! d[mid + m - s - 1]! with
   | false => rfl
   | true => have := hL.trans _ _ _ h8 h9; rw [hL.irrefl] at this; cases this
theorem sym_hiN {α : Type} [Inhabited α] (enc : α → Value) (hE : ∀ x, ∃ n, enc x = .pointer n) (cf : α → α → Int) (lt : α → α → Bool) (D : α → Prop) (f : FuncId) (cb : Array Value) (g cap : Nat) (rest pre : List Value) (o : Nat) (n : Nat) (w0 : World)
   (hC : CmpQ Tryz.prog f cb enc cf D w0 g) (hsz : n < 4611686018427387904) (a m b mid s0 r0 : Nat) (d : Array α) (w : World) (hdn : d.size = n) (hS : SBo enc w0 g 178 rest pre o d w) (hD : ∀ i, i < d.size → D d[i]!) (ham : a + 1 < m) (hmb : m + 1 < b) (hb : b ≤ n) (hA : zcb (ltOf cf) lt d a m b)
   (hmid : mid = (a + b) / 2) (hcase : mid < m) (hs0 : s0 = mid + m - b) (hr0 : r0 = mid) (hfin : zfM enc lt f cb g cap rest pre o n w0 a m b mid s0 r0 d) :
   Calls Tryz.prog 152 #[.slice (some ⟨g, o, none⟩) n cap, .int .i64 a, .int .i64 m, .int .i64 b, .func (.func f) #[] cb] w fun e w' => zc4 enc lt g a b rest pre o d w0 e w' := by
 have hne1 : ((m : Int) - (a : Int) == 1) = false := by rw [beq_eq_false_iff_ne]; omega
 have hne2 : ((b : Int) - (m : Int) == 1) = false := by rw [beq_eq_false_iff_ne]; omega
 have hmid1 : ((a : Int) + (b : Int)) / 2 = (mid : Int) := by omega
 have hma : a < mid := by omega
 have hmB : mid < b := by omega
 have hsr : s0 ≤ r0 := by omega
 have hs0a : a ≤ s0 := by omega
 have hr0m : r0 ≤ m := by omega
 have hr0d : r0 ≤ mid := by omega
 have hs0b : mid + m - s0 ≤ b := by omega
 have hend0 : s0 = a ∨ mid + m - s0 = b := by omega
 have hend1 : r0 = m ∨ r0 = mid := by omega
 have eg := hC.enters
 have HC := Lib.hid hC
 have HS := Lib.hid hS
 have HD := Lib.hid hD
 have HA := Lib.hid hA
 have HS0 := Lib.hid hs0
 have HR0 := Lib.hid hr0
 have FIN := Lib.hid hfin
 clear hC hS hD hA hs0 hr0 hmid hfin
 go_enter Tryz.func152, Tryz.ntmps152
 go_wp2
 go_loopw [20, 21] (fun vs vr wr => ∃ (s r : Nat), vs = .int .i64 s ∧ vr = .int .i64 r ∧ s0 ≤ s ∧ s ≤ r ∧ r ≤ r0 ∧ Hid (SBo enc w0 g 178 rest pre o d wr) ∧ Hid (s0 < s → lt d[mid + m - s]! d[s - 1]! = false) ∧ Hid (r < r0 → lt d[mid + m - r - 1]! d[r]! = true)) (fun vs vr _ => (intOf vr).toNat - (intOf vs).toNat)
 case atStart => exact ⟨s0, r0, by have := HS0.out; go_num, by have := HR0.out; go_num, Nat.le_refl _, hsr, Nat.le_refl _, HS, Lib.hid (fun h => absurd h (Nat.lt_irrefl _)), Lib.hid (fun h => absurd h (Nat.lt_irrefl _))⟩
 case round =>
   obtain ⟨s, r, rfl, rfl, h3, h4, h5, HSk, HLo, HHi⟩ := hrel
   clear HS
   by_cases hlt : s < r
   · obtain ⟨c, hc⟩ : ∃ c, c = (s + r) / 2 := ⟨_, rfl⟩
     have hc1 := HSk.out.cell (mid + m - 1 - c) (by omega)
     have hc2 := HSk.out.cell c (by omega)
     have hcall := fun q => HC.out.calls (wr.drewN q) (HSk.out.drewN q).grown d[mid + m - 1 - c]! d[c]! (HD.out (mid + m - 1 - c) (by omega)) (HD.out c (by omega))
     have hag := HA.out c (mid + m - 1 - c) (by omega) (by omega) (by omega) (by omega)
     obtain ⟨X, hX⟩ : ∃ X, X = d[mid + m - 1 - c]! := ⟨_, rfl⟩
     obtain ⟨Y, hY⟩ : ∃ Y, Y = d[c]! := ⟨_, rfl⟩
     rw [← hX] at hc1 hcall hag
     rw [← hY] at hc2 hcall hag
     have HX := Lib.hid hX
     have HY := Lib.hid hY
     obtain ⟨x, hx⟩ := hE X
     obtain ⟨y, hy⟩ := hE Y
     rw [hx] at hc1 hcall
     rw [hy] at hc2 hcall
     have HCALL := Lib.hid hcall
     have HAG := Lib.hid hag
     clear hcall hx hy hX hY hag
     have hh1 : ((s : Int) + (r : Int)) / 2 = (c : Int) := by omega
     have hidx : ((mid : Int) + (m : Int) - 1 - (c : Int)).toNat = mid + m - 1 - c := by omega
     have hi0 : 0 ≤ (mid : Int) + (m : Int) - 1 - (c : Int) := by omega
     have hi1 : (mid : Int) + (m : Int) - 1 - (c : Int) < (n : Int) := by omega
     have hcn : (c : Int) < (n : Int) := by omega
     have hhi : s ≤ c := by omega
     have hhj : c < r := by omega
     clear hc
     by_cases hcf : cf X Y < 0
     · have hl : lt X Y = true := by rw [← HAG.out]; simpa [ltOf] using hcf
       have HL := Lib.hid hl
       have hcf2 : cf X Y < 0 := hcf
       have hcfB : decide (cf X Y < 0) = true := by rw [decide_eq_true_iff]; exact hcf
       clear hl hcf
       go_wp2_with fail
       go_quiet ((refine Calls.quiet_of (HCALL.out _)))
       go_wp2
       go_roundw
       case rel => exact ⟨s, c, rfl, rfl, h3, hhi, by omega, Lib.hid (HSk.out.drewN _), HLo, Lib.hid (fun _ => by rw [show mid + m - c - 1 = mid + m - 1 - c from by omega, ← HX.out, ← HY.out]; exact HL.out)⟩
       case measure => simp [intOf]; omega
     · have hl : lt X Y = false := by rw [← HAG.out]; simpa [ltOf] using hcf
       have HL := Lib.hid hl
       have hcf2 : 0 ≤ cf X Y := by omega
       have hcfB : decide (cf X Y < 0) = false := by rw [decide_eq_false_iff_not]; omega
       clear hl hcf
       go_wp2_with fail
       go_quiet ((refine Calls.quiet_of (HCALL.out _)))
       go_wp2
       go_roundw
       case rel => exact ⟨c + 1, r, by go_num, rfl, by omega, by omega, h5, Lib.hid (HSk.out.drewN _), Lib.hid (fun _ => by rw [show mid + m - (c + 1) = mid + m - 1 - c from by omega, Nat.add_sub_cancel, ← HX.out, ← HY.out]; exact HL.out), HHi⟩
       case measure => simp [intOf]; omega
   · obtain rfl : s = r := by omega
     obtain ⟨e, he, hme, heb, hde, hsum, FROT, FS1, FS2, FK1, FK2, FD⟩ := FIN.out s wr h3 h5 HSk.out HLo.out HHi.out
     have he1 : (mid : Int) + (m : Int) - (s : Int) = (e : Int) := by omega
     replace FROT := Lib.hid FROT
     replace FS1 := Lib.hid FS1
     replace FS2 := Lib.hid FS2
     replace FK1 := Lib.hid FK1
     replace FK2 := Lib.hid FK2
     replace FD := Lib.hid FD
     clear he
     by_cases hA1 : s < m
     · by_cases hB1 : m < e
       · by_cases hC1 : a < s
         · by_cases hE1 : e < b
           · have hq0 : (s : Int) < (mid : Int) := by omega
             have hq1 : (mid : Int) < (e : Int) := by omega
             have HROT := Lib.hid (FROT.out (by omega) (by omega))
             go_wp2_with fail
             (with_reducible refine HROT.out.mono ?_)
             rintro e1 w2 ⟨rfl, R, hRs, hRB, hRk, hRp⟩
             have HB2 := Lib.hid hRB
             have HRK := Lib.hid hRk
             have HRP := Lib.hid hRp
             clear hRB hRk hRp
             have hs1 := FS1.out R w2 hRs HB2.out HRK.out HRP.out (by omega) (by omega)
             have HS1C := Lib.hid hs1
             clear hs1
             go_wp2_with fail
             (with_reducible refine HS1C.out.mono ?_)
             rintro e2 w3 ⟨rfl, R1, hR1s', hR1B, hR1p, hR1o⟩
             have hR1s : R1.size = n := hR1s'.trans hRs
             have HB3 := Lib.hid hR1B
             have HP1 := Lib.hid hR1p
             have HO1 := Lib.hid hR1o
             clear hR1s' hR1B hR1p hR1o
             have hs2 := FS2.out R R1 w3 hRs hR1s HB3.out HRK.out HRP.out HP1.out (by omega) (by omega)
             have HS2C := Lib.hid hs2
             clear hs2
             go_wp2_with fail
             (with_reducible refine HS2C.out.mono ?_)
             rintro e3 w4 ⟨rfl, R2, hR2s', hR2B, hR2p, hR2o⟩
             have hR2s : R2.size = n := hR2s'.trans hR1s
             have HB4 := Lib.hid hR2B
             have HP2 := Lib.hid hR2p
             have HO2 := Lib.hid hR2o
             clear hR2s' hR2B hR2p hR2o
             go_wp2
             all_goals go_end0
             all_goals exact ⟨rfl, R2, hR2s.trans hdn.symm, HB4.out, FD.out R R1 R2 hRs HRK.out HRP.out HP1.out HO1.out HP2.out HO2.out⟩
           · have hq0 : (s : Int) < (mid : Int) := by omega
             have hq1 : (mid : Int) < (e : Int) := by omega
             have hq2 : (b : Int) ≤ (e : Int) := by omega
             have HROT := Lib.hid (FROT.out (by omega) (by omega))
             go_wp2_with fail
             (with_reducible refine HROT.out.mono ?_)
             rintro e1 w2 ⟨rfl, R, hRs, hRB, hRk, hRp⟩
             have HB2 := Lib.hid hRB
             have HRK := Lib.hid hRk
             have HRP := Lib.hid hRp
             clear hRB hRk hRp
             have hs1 := FS1.out R w2 hRs HB2.out HRK.out HRP.out (by omega) (by omega)
             have HS1C := Lib.hid hs1
             clear hs1
             go_wp2_with fail
             (with_reducible refine HS1C.out.mono ?_)
             rintro e2 w3 ⟨rfl, R1, hR1s', hR1B, hR1p, hR1o⟩
             have hR1s : R1.size = n := hR1s'.trans hRs
             have HB3 := Lib.hid hR1B
             have HP1 := Lib.hid hR1p
             have HO1 := Lib.hid hR1o
             clear hR1s' hR1B hR1p hR1o
             have hR2s : R1.size = n := hR1s
             have HB4 := Lib.hid HB3.out
             have HP2 := Lib.hid (permIn_refl R1 mid b)
             have HO2 := Lib.hid (FK2.out R R1 HRK.out HP1.out (by omega))
             go_wp2
             all_goals go_end0
             all_goals exact ⟨rfl, R1, hR2s.trans hdn.symm, HB4.out, FD.out R R1 R1 hRs HRK.out HRP.out HP1.out HO1.out HP2.out HO2.out⟩
         · by_cases hE1 : e < b
           · have hq0 : (s : Int) < (mid : Int) := by omega
             have hq1 : (mid : Int) < (e : Int) := by omega
             have hq2 : (s : Int) ≤ (a : Int) := by omega
             have HROT := Lib.hid (FROT.out (by omega) (by omega))
             go_wp2_with fail
             (with_reducible refine HROT.out.mono ?_)
             rintro e1 w2 ⟨rfl, R, hRs, hRB, hRk, hRp⟩
             have HB2 := Lib.hid hRB
             have HRK := Lib.hid hRk
             have HRP := Lib.hid hRp
             clear hRB hRk hRp
             have hR1s : R.size = n := hRs
             have HB3 := Lib.hid HB2.out
             have HP1 := Lib.hid (permIn_refl R a mid)
             have HO1 := Lib.hid (FK1.out R HRK.out (by omega))
             have hs2 := FS2.out R R w2 hRs hR1s HB3.out HRK.out HRP.out HP1.out (by omega) (by omega)
             have HS2C := Lib.hid hs2
             clear hs2
             go_wp2_with fail
             (with_reducible refine HS2C.out.mono ?_)
             rintro e3 w4 ⟨rfl, R2, hR2s', hR2B, hR2p, hR2o⟩
             have hR2s : R2.size = n := hR2s'.trans hR1s
             have HB4 := Lib.hid hR2B
             have HP2 := Lib.hid hR2p
             have HO2 := Lib.hid hR2o
             clear hR2s' hR2B hR2p hR2o
             go_wp2
             all_goals go_end0
             all_goals exact ⟨rfl, R2, hR2s.trans hdn.symm, HB4.out, FD.out R R R2 hRs HRK.out HRP.out HP1.out HO1.out HP2.out HO2.out⟩
           · have hq0 : (s : Int) < (mid : Int) := by omega
             have hq1 : (mid : Int) < (e : Int) := by omega
             have hq2 : (s : Int) ≤ (a : Int) := by omega
             have hq3 : (b : Int) ≤ (e : Int) := by omega
             have HROT := Lib.hid (FROT.out (by omega) (by omega))
             go_wp2_with fail
             (with_reducible refine HROT.out.mono ?_)
             rintro e1 w2 ⟨rfl, R, hRs, hRB, hRk, hRp⟩
             have HB2 := Lib.hid hRB
             have HRK := Lib.hid hRk
             have HRP := Lib.hid hRp
             clear hRB hRk hRp
             have hR1s : R.size = n := hRs
             have HB3 := Lib.hid HB2.out
             have HP1 := Lib.hid (permIn_refl R a mid)
             have HO1 := Lib.hid (FK1.out R HRK.out (by omega))
             have hR2s : R.size = n := hR1s
             have HB4 := Lib.hid HB3.out
             have HP2 := Lib.hid (permIn_refl R mid b)
             have HO2 := Lib.hid (FK2.out R R HRK.out HP1.out (by omega))
             go_wp2
             all_goals go_end0
             all_goals exact ⟨rfl, R, hR2s.trans hdn.symm, HB4.out, FD.out R R R hRs HRK.out HRP.out HP1.out HO1.out HP2.out HO2.out⟩
       · have hq0 : (e : Int) ≤ (m : Int) := by omega
         have hq1 : (mid : Int) ≤ (s : Int) := by omega
         have hq2 : (a : Int) < (s : Int) := by omega
         have hq3 : (e : Int) < (b : Int) := by omega
         have hq4 : (mid : Int) < (e : Int) := by omega
         have hRs : d.size = n := hdn
         have HB2 := Lib.hid HSk.out
         have HRK := Lib.hid (zbc d s m e (by omega) (by omega) (by omega))
         have HRP := Lib.hid (permIn_refl d a b)
         have hR1s : d.size = n := hRs
         have HB3 := Lib.hid HB2.out
         have HP1 := Lib.hid (permIn_refl d a mid)
         have HO1 := Lib.hid (FK1.out d HRK.out (by omega))
         have hs2 := FS2.out d d wr hRs hR1s HB3.out HRK.out HRP.out HP1.out (by omega) (by omega)
         have HS2C := Lib.hid hs2
         clear hs2
         go_wp2_with fail
         all_goals
           (with_reducible refine HS2C.out.mono ?_)
           rintro e3 w4 ⟨rfl, R2, hR2s', hR2B, hR2p, hR2o⟩
           have hR2s : R2.size = n := hR2s'.trans hR1s
           have HB4 := Lib.hid hR2B
           have HP2 := Lib.hid hR2p
           have HO2 := Lib.hid hR2o
           clear hR2s' hR2B hR2p hR2o
           go_wp2
           all_goals go_end0
           all_goals exact ⟨rfl, R2, hR2s.trans hdn.symm, HB4.out, FD.out d d R2 hRs HRK.out HRP.out HP1.out HO1.out HP2.out HO2.out⟩
     · by_cases hB1 : m < e
       · have hq0 : (m : Int) ≤ (s : Int) := by omega
         have hq1 : (s : Int) < (mid : Int) := by omega
         have hq2 : (a : Int) < (s : Int) := by omega
         have hq3 : (e : Int) < (b : Int) := by omega
         have hq4 : (e : Int) ≤ (mid : Int) := by omega
         have hRs : d.size = n := hdn
         have HB2 := Lib.hid HSk.out
         have HRK := Lib.hid (zbc d s m e (by omega) (by omega) (by omega))
         have HRP := Lib.hid (permIn_refl d a b)
         have hs1 := FS1.out d wr hRs HB2.out HRK.out HRP.out (by omega) (by omega)
         have HS1C := Lib.hid hs1
         clear hs1
         go_wp2_with fail
         all_goals
           (with_reducible refine HS1C.out.mono ?_)
           rintro e2 w3 ⟨rfl, R1, hR1s', hR1B, hR1p, hR1o⟩
           have hR1s : R1.size = n := hR1s'.trans hRs
           have HB3 := Lib.hid hR1B
           have HP1 := Lib.hid hR1p
           have HO1 := Lib.hid hR1o
           clear hR1s' hR1B hR1p hR1o
           have hR2s : R1.size = n := hR1s
           have HB4 := Lib.hid HB3.out
           have HP2 := Lib.hid (permIn_refl R1 mid b)
           have HO2 := Lib.hid (FK2.out d R1 HRK.out HP1.out (by omega))
           go_wp2
           all_goals go_end0
           all_goals exact ⟨rfl, R1, hR2s.trans hdn.symm, HB4.out, FD.out d R1 R1 hRs HRK.out HRP.out HP1.out HO1.out HP2.out HO2.out⟩
       · have hq0 : (m : Int) ≤ (s : Int) := by omega
         have hq1 : (e : Int) ≤ (m : Int) := by omega
         have hq2 : (mid : Int) ≤ (s : Int) := by omega
         have hq3 : (a : Int) < (s : Int) := by omega
         have hq4 : (e : Int) < (b : Int) := by omega
         have hq5 : (e : Int) ≤ (mid : Int) := by omega
         have hRs : d.size = n := hdn
         have HB2 := Lib.hid HSk.out
         have HRK := Lib.hid (zbc d s m e (by omega) (by omega) (by omega))
         have HRP := Lib.hid (permIn_refl d a b)
         have hR1s : d.size = n := hRs
         have HB3 := Lib.hid HB2.out
         have HP1 := Lib.hid (permIn_refl d a mid)
         have HO1 := Lib.hid (FK1.out d HRK.out (by omega))
         have hR2s : d.size = n := hR1s
         have HB4 := Lib.hid HB3.out
         have HP2 := Lib.hid (permIn_refl d mid b)
         have HO2 := Lib.hid (FK2.out d d HRK.out HP1.out (by omega))
         go_wp2
         all_goals
           all_goals go_end0
           all_goals exact ⟨rfl, d, hR2s.trans hdn.symm, HB4.out, FD.out d d d hRs HRK.out HRP.out HP1.out HO1.out HP2.out HO2.out⟩
theorem sym_loN {α : Type} [Inhabited α] (enc : α → Value) (hE : ∀ x, ∃ n, enc x = .pointer n) (cf : α → α → Int) (lt : α → α → Bool) (D : α → Prop) (f : FuncId) (cb : Array Value) (g cap : Nat) (rest pre : List Value) (o : Nat) (n : Nat) (w0 : World)
   (hC : CmpQ Tryz.prog f cb enc cf D w0 g) (hsz : n < 4611686018427387904) (a m b mid s0 r0 : Nat) (d : Array α) (w : World) (hdn : d.size = n) (hS : SBo enc w0 g 178 rest pre o d w) (hD : ∀ i, i < d.size → D d[i]!) (ham : a + 1 < m) (hmb : m + 1 < b) (hb : b ≤ n) (hA : zcb (ltOf cf) lt d a m b)
   (hmid : mid = (a + b) / 2) (hcase : m ≤ mid) (hs0 : s0 = a) (hr0 : r0 = m) (hfin : zfM enc lt f cb g cap rest pre o n w0 a m b mid s0 r0 d) :
   Calls Tryz.prog 152 #[.slice (some ⟨g, o, none⟩) n cap, .int .i64 a, .int .i64 m, .int .i64 b, .func (.func f) #[] cb] w fun e w' => zc4 enc lt g a b rest pre o d w0 e w' := by
 have hne1 : ((m : Int) - (a : Int) == 1) = false := by rw [beq_eq_false_iff_ne]; omega
 have hne2 : ((b : Int) - (m : Int) == 1) = false := by rw [beq_eq_false_iff_ne]; omega
 have hmid1 : ((a : Int) + (b : Int)) / 2 = (mid : Int) := by omega
 have hma : a < mid := by omega
 have hmB : mid < b := by omega
 have hsr : s0 ≤ r0 := by omega
 have hs0a : a ≤ s0 := by omega
 have hr0m : r0 ≤ m := by omega
 have hr0d : r0 ≤ mid := by omega
 have hs0b : mid + m - s0 ≤ b := by omega
 have hend0 : s0 = a ∨ mid + m - s0 = b := by omega
 have hend1 : r0 = m ∨ r0 = mid := by omega
 have eg := hC.enters
 have HC := Lib.hid hC
 have HS := Lib.hid hS
 have HD := Lib.hid hD
 have HA := Lib.hid hA
 have HS0 := Lib.hid hs0
 have HR0 := Lib.hid hr0
 have FIN := Lib.hid hfin
 clear hC hS hD hA hs0 hr0 hmid hfin
 go_enter Tryz.func152, Tryz.ntmps152
 go_wp2
 go_loopw [20, 21] (fun vs vr wr => ∃ (s r : Nat), vs = .int .i64 s ∧ vr = .int .i64 r ∧ s0 ≤ s ∧ s ≤ r ∧ r ≤ r0 ∧ Hid (SBo enc w0 g 178 rest pre o d wr) ∧ Hid (s0 < s → lt d[mid + m - s]! d[s - 1]! = false) ∧ Hid (r < r0 → lt d[mid + m - r - 1]! d[r]! = true)) (fun vs vr _ => (intOf vr).toNat - (intOf vs).toNat)
 case atStart => exact ⟨s0, r0, by have := HS0.out; go_num, by have := HR0.out; go_num, Nat.le_refl _, hsr, Nat.le_refl _, HS, Lib.hid (fun h => absurd h (Nat.lt_irrefl _)), Lib.hid (fun h => absurd h (Nat.lt_irrefl _))⟩
 case round =>
   obtain ⟨s, r, rfl, rfl, h3, h4, h5, HSk, HLo, HHi⟩ := hrel
   clear HS
   by_cases hlt : s < r
   · obtain ⟨c, hc⟩ : ∃ c, c = (s + r) / 2 := ⟨_, rfl⟩
     have hc1 := HSk.out.cell (mid + m - 1 - c) (by omega)
     have hc2 := HSk.out.cell c (by omega)
     have hcall := fun q => HC.out.calls (wr.drewN q) (HSk.out.drewN q).grown d[mid + m - 1 - c]! d[c]! (HD.out (mid + m - 1 - c) (by omega)) (HD.out c (by omega))
     have hag := HA.out c (mid + m - 1 - c) (by omega) (by omega) (by omega) (by omega)
     obtain ⟨X, hX⟩ : ∃ X, X = d[mid + m - 1 - c]! := ⟨_, rfl⟩
     obtain ⟨Y, hY⟩ : ∃ Y, Y = d[c]! := ⟨_, rfl⟩
     rw [← hX] at hc1 hcall hag
     rw [← hY] at hc2 hcall hag
     have HX := Lib.hid hX
     have HY := Lib.hid hY
     obtain ⟨x, hx⟩ := hE X
     obtain ⟨y, hy⟩ := hE Y
     rw [hx] at hc1 hcall
     rw [hy] at hc2 hcall
     have HCALL := Lib.hid hcall
     have HAG := Lib.hid hag
     clear hcall hx hy hX hY hag
     have hh1 : ((s : Int) + (r : Int)) / 2 = (c : Int) := by omega
     have hidx : ((mid : Int) + (m : Int) - 1 - (c : Int)).toNat = mid + m - 1 - c := by omega
     have hi0 : 0 ≤ (mid : Int) + (m : Int) - 1 - (c : Int) := by omega
     have hi1 : (mid : Int) + (m : Int) - 1 - (c : Int) < (n : Int) := by omega
     have hcn : (c : Int) < (n : Int) := by omega
     have hhi : s ≤ c := by omega
     have hhj : c < r := by omega
     clear hc
     by_cases hcf : cf X Y < 0
     · have hl : lt X Y = true := by rw [← HAG.out]; simpa [ltOf] using hcf
       have HL := Lib.hid hl
       have hcf2 : cf X Y < 0 := hcf
       have hcfB : decide (cf X Y < 0) = true := by rw [decide_eq_true_iff]; exact hcf
       clear hl hcf
       go_wp2_with fail
       go_quiet ((refine Calls.quiet_of (HCALL.out _)))
       go_wp2
       go_roundw
       case rel => exact ⟨s, c, rfl, rfl, h3, hhi, by omega, Lib.hid (HSk.out.drewN _), HLo, Lib.hid (fun _ => by rw [show mid + m - c - 1 = mid + m - 1 - c from by omega, ← HX.out, ← HY.out]; exact HL.out)⟩
       case measure => simp [intOf]; omega
     · have hl : lt X Y = false := by rw [← HAG.out]; simpa [ltOf] using hcf
       have HL := Lib.hid hl
       have hcf2 : 0 ≤ cf X Y := by omega
       have hcfB : decide (cf X Y < 0) = false := by rw [decide_eq_false_iff_not]; omega
       clear hl hcf
       go_wp2_with fail
       go_quiet ((refine Calls.quiet_of (HCALL.out _)))
       go_wp2
       go_roundw
       case rel => exact ⟨c + 1, r, by go_num, rfl, by omega, by omega, h5, Lib.hid (HSk.out.drewN _), Lib.hid (fun _ => by rw [show mid + m - (c + 1) = mid + m - 1 - c from by omega, Nat.add_sub_cancel, ← HX.out, ← HY.out]; exact HL.out), HHi⟩
       case measure => simp [intOf]; omega
   · obtain rfl : s = r := by omega
     obtain ⟨e, he, hme, heb, hde, hsum, FROT, FS1, FS2, FK1, FK2, FD⟩ := FIN.out s wr h3 h5 HSk.out HLo.out HHi.out
     have he1 : (mid : Int) + (m : Int) - (s : Int) = (e : Int) := by omega
     replace FROT := Lib.hid FROT
     replace FS1 := Lib.hid FS1
     replace FS2 := Lib.hid FS2
     replace FK1 := Lib.hid FK1
     replace FK2 := Lib.hid FK2
     replace FD := Lib.hid FD
     clear he
     by_cases hA1 : s < m
     · by_cases hB1 : m < e
       · by_cases hC1 : a < s
         · by_cases hE1 : e < b
           · have hq0 : (s : Int) < (mid : Int) := by omega
             have hq1 : (mid : Int) < (e : Int) := by omega
             have HROT := Lib.hid (FROT.out (by omega) (by omega))
             go_wp2_with fail
             (with_reducible refine HROT.out.mono ?_)
             rintro e1 w2 ⟨rfl, R, hRs, hRB, hRk, hRp⟩
             have HB2 := Lib.hid hRB
             have HRK := Lib.hid hRk
             have HRP := Lib.hid hRp
             clear hRB hRk hRp
             have hs1 := FS1.out R w2 hRs HB2.out HRK.out HRP.out (by omega) (by omega)
             have HS1C := Lib.hid hs1
             clear hs1
             go_wp2_with fail
             (with_reducible refine HS1C.out.mono ?_)
             rintro e2 w3 ⟨rfl, R1, hR1s', hR1B, hR1p, hR1o⟩
             have hR1s : R1.size = n := hR1s'.trans hRs
             have HB3 := Lib.hid hR1B
             have HP1 := Lib.hid hR1p
             have HO1 := Lib.hid hR1o
             clear hR1s' hR1B hR1p hR1o
             have hs2 := FS2.out R R1 w3 hRs hR1s HB3.out HRK.out HRP.out HP1.out (by omega) (by omega)
             have HS2C := Lib.hid hs2
             clear hs2
             go_wp2_with fail
             (with_reducible refine HS2C.out.mono ?_)
             rintro e3 w4 ⟨rfl, R2, hR2s', hR2B, hR2p, hR2o⟩
             have hR2s : R2.size = n := hR2s'.trans hR1s
             have HB4 := Lib.hid hR2B
             have HP2 := Lib.hid hR2p
             have HO2 := Lib.hid hR2o
             clear hR2s' hR2B hR2p hR2o
             go_wp2
             all_goals go_end0
             all_goals exact ⟨rfl, R2, hR2s.trans hdn.symm, HB4.out, FD.out R R1 R2 hRs HRK.out HRP.out HP1.out HO1.out HP2.out HO2.out⟩
           · have hq0 : (s : Int) < (mid : Int) := by omega
             have hq1 : (mid : Int) < (e : Int) := by omega
             have hq2 : (b : Int) ≤ (e : Int) := by omega
             have HROT := Lib.hid (FROT.out (by omega) (by omega))
             go_wp2_with fail
             (with_reducible refine HROT.out.mono ?_)
             rintro e1 w2 ⟨rfl, R, hRs, hRB, hRk, hRp⟩
             have HB2 := Lib.hid hRB
             have HRK := Lib.hid hRk
             have HRP := Lib.hid hRp
             clear hRB hRk hRp
             have hs1 := FS1.out R w2 hRs HB2.out HRK.out HRP.out (by omega) (by omega)
             have HS1C := Lib.hid hs1
             clear hs1
             go_wp2_with fail
             (with_reducible refine HS1C.out.mono ?_)
             rintro e2 w3 ⟨rfl, R1, hR1s', hR1B, hR1p, hR1o⟩
             have hR1s : R1.size = n := hR1s'.trans hRs
             have HB3 := Lib.hid hR1B
             have HP1 := Lib.hid hR1p
             have HO1 := Lib.hid hR1o
             clear hR1s' hR1B hR1p hR1o
             have hR2s : R1.size = n := hR1s
             have HB4 := Lib.hid HB3.out
             have HP2 := Lib.hid (permIn_refl R1 mid b)
             have HO2 := Lib.hid (FK2.out R R1 HRK.out HP1.out (by omega))
             go_wp2
             all_goals go_end0
             all_goals exact ⟨rfl, R1, hR2s.trans hdn.symm, HB4.out, FD.out R R1 R1 hRs HRK.out HRP.out HP1.out HO1.out HP2.out HO2.out⟩
         · by_cases hE1 : e < b
           · have hq0 : (s : Int) < (mid : Int) := by omega
             have hq1 : (mid : Int) < (e : Int) := by omega
             have hq2 : (s : Int) ≤ (a : Int) := by omega
             have HROT := Lib.hid (FROT.out (by omega) (by omega))
             go_wp2_with fail
             (with_reducible refine HROT.out.mono ?_)
             rintro e1 w2 ⟨rfl, R, hRs, hRB, hRk, hRp⟩
             have HB2 := Lib.hid hRB
             have HRK := Lib.hid hRk
             have HRP := Lib.hid hRp
             clear hRB hRk hRp
             have hR1s : R.size = n := hRs
             have HB3 := Lib.hid HB2.out
             have HP1 := Lib.hid (permIn_refl R a mid)
             have HO1 := Lib.hid (FK1.out R HRK.out (by omega))
             have hs2 := FS2.out R R w2 hRs hR1s HB3.out HRK.out HRP.out HP1.out (by omega) (by omega)
             have HS2C := Lib.hid hs2
             clear hs2
             go_wp2_with fail
             (with_reducible refine HS2C.out.mono ?_)
             rintro e3 w4 ⟨rfl, R2, hR2s', hR2B, hR2p, hR2o⟩
             have hR2s : R2.size = n := hR2s'.trans hR1s
             have HB4 := Lib.hid hR2B
             have HP2 := Lib.hid hR2p
             have HO2 := Lib.hid hR2o
             clear hR2s' hR2B hR2p hR2o
             go_wp2
             all_goals go_end0
             all_goals exact ⟨rfl, R2, hR2s.trans hdn.symm, HB4.out, FD.out R R R2 hRs HRK.out HRP.out HP1.out HO1.out HP2.out HO2.out⟩
           · have hq0 : (s : Int) < (mid : Int) := by omega
             have hq1 : (mid : Int) < (e : Int) := by omega
             have hq2 : (s : Int) ≤ (a : Int) := by omega
             have hq3 : (b : Int) ≤ (e : Int) := by omega
             have HROT := Lib.hid (FROT.out (by omega) (by omega))
             go_wp2_with fail
             (with_reducible refine HROT.out.mono ?_)
             rintro e1 w2 ⟨rfl, R, hRs, hRB, hRk, hRp⟩
             have HB2 := Lib.hid hRB
             have HRK := Lib.hid hRk
             have HRP := Lib.hid hRp
             clear hRB hRk hRp
             have hR1s : R.size = n := hRs
             have HB3 := Lib.hid HB2.out
             have HP1 := Lib.hid (permIn_refl R a mid)
             have HO1 := Lib.hid (FK1.out R HRK.out (by omega))
             have hR2s : R.size = n := hR1s
             have HB4 := Lib.hid HB3.out
             have HP2 := Lib.hid (permIn_refl R mid b)
             have HO2 := Lib.hid (FK2.out R R HRK.out HP1.out (by omega))
             go_wp2
             all_goals go_end0
             all_goals exact ⟨rfl, R, hR2s.trans hdn.symm, HB4.out, FD.out R R R hRs HRK.out HRP.out HP1.out HO1.out HP2.out HO2.out⟩
       · have hq0 : (e : Int) ≤ (m : Int) := by omega
         have hq1 : (mid : Int) ≤ (s : Int) := by omega
         have hq2 : (a : Int) < (s : Int) := by omega
         have hq3 : (e : Int) < (b : Int) := by omega
         have hq4 : (mid : Int) < (e : Int) := by omega
         have hRs : d.size = n := hdn
         have HB2 := Lib.hid HSk.out
         have HRK := Lib.hid (zbc d s m e (by omega) (by omega) (by omega))
         have HRP := Lib.hid (permIn_refl d a b)
         have hR1s : d.size = n := hRs
         have HB3 := Lib.hid HB2.out
         have HP1 := Lib.hid (permIn_refl d a mid)
         have HO1 := Lib.hid (FK1.out d HRK.out (by omega))
         have hs2 := FS2.out d d wr hRs hR1s HB3.out HRK.out HRP.out HP1.out (by omega) (by omega)
         have HS2C := Lib.hid hs2
         clear hs2
         go_wp2_with fail
         all_goals
           (with_reducible refine HS2C.out.mono ?_)
           rintro e3 w4 ⟨rfl, R2, hR2s', hR2B, hR2p, hR2o⟩
           have hR2s : R2.size = n := hR2s'.trans hR1s
           have HB4 := Lib.hid hR2B
           have HP2 := Lib.hid hR2p
           have HO2 := Lib.hid hR2o
           clear hR2s' hR2B hR2p hR2o
           go_wp2
           all_goals go_end0
           all_goals exact ⟨rfl, R2, hR2s.trans hdn.symm, HB4.out, FD.out d d R2 hRs HRK.out HRP.out HP1.out HO1.out HP2.out HO2.out⟩
     · by_cases hB1 : m < e
       · have hq0 : (m : Int) ≤ (s : Int) := by omega
         have hq1 : (s : Int) < (mid : Int) := by omega
         have hq2 : (a : Int) < (s : Int) := by omega
         have hq3 : (e : Int) < (b : Int) := by omega
         have hq4 : (e : Int) ≤ (mid : Int) := by omega
         have hRs : d.size = n := hdn
         have HB2 := Lib.hid HSk.out
         have HRK := Lib.hid (zbc d s m e (by omega) (by omega) (by omega))
         have HRP := Lib.hid (permIn_refl d a b)
         have hs1 := FS1.out d wr hRs HB2.out HRK.out HRP.out (by omega) (by omega)
         have HS1C := Lib.hid hs1
         clear hs1
         go_wp2_with fail
         all_goals
           (with_reducible refine HS1C.out.mono ?_)
           rintro e2 w3 ⟨rfl, R1, hR1s', hR1B, hR1p, hR1o⟩
           have hR1s : R1.size = n := hR1s'.trans hRs
           have HB3 := Lib.hid hR1B
           have HP1 := Lib.hid hR1p
           have HO1 := Lib.hid hR1o
           clear hR1s' hR1B hR1p hR1o
           have hR2s : R1.size = n := hR1s
           have HB4 := Lib.hid HB3.out
           have HP2 := Lib.hid (permIn_refl R1 mid b)
           have HO2 := Lib.hid (FK2.out d R1 HRK.out HP1.out (by omega))
           go_wp2
           all_goals go_end0
           all_goals exact ⟨rfl, R1, hR2s.trans hdn.symm, HB4.out, FD.out d R1 R1 hRs HRK.out HRP.out HP1.out HO1.out HP2.out HO2.out⟩
       · have hq0 : (m : Int) ≤ (s : Int) := by omega
         have hq1 : (e : Int) ≤ (m : Int) := by omega
         have hq2 : (mid : Int) ≤ (s : Int) := by omega
         have hq3 : (a : Int) < (s : Int) := by omega
         have hq4 : (e : Int) < (b : Int) := by omega
         have hq5 : (e : Int) ≤ (mid : Int) := by omega
         have hRs : d.size = n := hdn
         have HB2 := Lib.hid HSk.out
         have HRK := Lib.hid (zbc d s m e (by omega) (by omega) (by omega))
         have HRP := Lib.hid (permIn_refl d a b)
         have hR1s : d.size = n := hRs
         have HB3 := Lib.hid HB2.out
         have HP1 := Lib.hid (permIn_refl d a mid)
         have HO1 := Lib.hid (FK1.out d HRK.out (by omega))
         have hR2s : d.size = n := hR1s
         have HB4 := Lib.hid HB3.out
         have HP2 := Lib.hid (permIn_refl d mid b)
         have HO2 := Lib.hid (FK2.out d d HRK.out HP1.out (by omega))
         go_wp2
         all_goals
           all_goals go_end0
           all_goals exact ⟨rfl, d, hR2s.trans hdn.symm, HB4.out, FD.out d d d hRs HRK.out HRP.out HP1.out HO1.out HP2.out HO2.out⟩
theorem zeZ {α : Type} [Inhabited α] (enc : α → Value) (hE : ∀ x, ∃ n, enc x = .pointer n) (cf : α → α → Int) (lt : α → α → Bool) (hL : SWO lt) (D : α → Prop) (f : FuncId) (cb : Array Value) (g cap : Nat) (rest pre : List Value) (o : Nat) (n : Nat) (w0 : World)
   (hC : CmpQ Tryz.prog f cb enc cf D w0 g) (hsz : n < 4611686018427387904) : ∀ N, zfe enc cf lt D f cb g cap rest pre o n w0 N
 | 0 => fun a m b d w h1 h2 h3 h4 h5 h6 => by omega
 | N + 1 => by
   have ih := zeZ enc hE cf lt hL D f cb g cap rest pre o n w0 hC hsz N
   intro a m b d w hN hdn hS hD ham hmb hb h1 h2 hA
   by_cases c1 : m = a + 1
   · subst hdn
     exact sym_leftN enc hE cf lt hL D f cb g cap a m b rest pre o d w0 w hC hS hD c1 hmb hb hsz h2 hA
   by_cases c2 : b = m + 1
   · subst hdn
     exact sym_rightN enc hE cf lt hL D f cb g cap a m b rest pre o d w0 w hC hS hD (by omega) c2 hb hsz h1 hA
   obtain ⟨mid, hmid⟩ : ∃ mid, mid = (a + b) / 2 := ⟨_, rfl⟩
   by_cases c3 : mid < m
   · exact sym_hiN enc hE cf lt D f cb g cap rest pre o n w0 hC hsz a m b mid (mid + m - b) mid d w hdn hS hD (by omega) (by omega) hb hA hmid c3 rfl rfl
       (sym_finN enc hE cf lt hL D f cb g cap rest pre o n w0 N hsz ih a m b mid (mid + m - b) mid d hN hdn hD hb h1 h2 hA (by omega) (by omega) (by omega) (by omega) (by omega) (by omega) (by omega) (by omega))
   · exact sym_loN enc hE cf lt D f cb g cap rest pre o n w0 hC hsz a m b mid a m d w hdn hS hD (by omega) (by omega) hb hA hmid (by omega) rfl rfl
       (sym_finN enc hE cf lt hL D f cb g cap rest pre o n w0 N hsz ih a m b mid a m d hN hdn hD hb h1 h2 hA (by omega) (by omega) (by omega) (by omega) (by omega) (by omega) (by omega) (by omega))
theorem ins_anyN {α : Type} [Inhabited α] (enc : α → Value) (hE : ∀ x, ∃ n, enc x = .pointer n) (cf : α → α → Int) (D : α → Prop) (f : FuncId) (cb : Array Value) (g cap a b : Nat) (rest pre : List Value) (o : Nat) (d : Array α) (w0 w : World)
   (hC : CmpQ Tryz.prog f cb enc cf D w0 g) (hS : SBo enc w0 g 178 rest pre o d w) (hD : ∀ i, i < d.size → D d[i]!) (hab : a ≤ b) (hb : b ≤ d.size) (hsz : d.size < 4611686018427387904) :
   Calls Tryz.prog 151 #[.slice (some ⟨g, o, none⟩) d.size cap, .int .i64 a, .int .i64 b, .func (.func f) #[] cb] w fun e w' => e = .returned (.tuple #[]) ∧ SBo enc w0 g 178 rest pre o (Sort.insertionSort (ltOf cf) d a b) w' := by
 have eg := hC.enters
 have HC := Lib.hid hC
 have HS := Lib.hid hS
 have HD := Lib.hid hD
 clear hC hS hD
 go_enter Tryz.func151, Tryz.ntmps151
 go_wp2
 go_loopw [8] (fun vi wr => ∃ (i : Nat) (dk : Array α), vi = .int .i64 i ∧ a < i ∧ i ≤ b + 1 ∧ dk.size = d.size ∧ Hid (SBo enc w0 g 178 rest pre o dk wr) ∧ Hid (∀ i, i < dk.size → D dk[i]!) ∧
     Hid (insOuter (ltOf cf) a b i dk = insOuter (ltOf cf) a b (a + 1) d)) (fun vi _ => b + 1 - (intOf vi).toNat)
 case atStart => exact ⟨a + 1, d, by go_num, by omega, by omega, rfl, HS, HD, rfl⟩
 case round =>
   obtain ⟨i, dk, rfl, hai, hib, hsk, HSk, HDk, HO⟩ := hrel
   clear HS
   by_cases hlt : i < b
   · go_wp2
     go_loopw [9] (fun vj wr2 => ∃ (j : Nat) (dj : Array α), vj = .int .i64 j ∧ a ≤ j ∧ j ≤ i ∧ dj.size = d.size ∧ Hid (SBo enc w0 g 178 rest pre o dj wr2) ∧ Hid (∀ i, i < dj.size → D dj[i]!) ∧
         Hid (insInner (ltOf cf) a j dj = insInner (ltOf cf) a i dk)) (fun vj _ => (intOf vj).toNat)
     case atStart => exact ⟨i, dk, rfl, by omega, Nat.le_refl _, hsk, HSk, HDk, rfl⟩
     case round =>
       obtain ⟨j, dj, rfl, haj, hji, hsj, HSj, HDj, HI⟩ := hrel
       clear HSk HDk
       by_cases hja : a < j
       · have hc1 := HSj.out.cell j (by omega)
         have hc2 := HSj.out.cell (j - 1) (by omega)
         have hf1 := HSj.out.free j
         have hf2 := HSj.out.free (j - 1)
         have hcall := fun q => HC.out.calls (wr.drewN q) (HSj.out.drewN q).grown dj[j]! dj[j-1]! (HDj.out j (by omega)) (HDj.out (j - 1) (by omega))
         obtain ⟨X, hX⟩ : ∃ X, X = dj[j]! := ⟨_, rfl⟩
         obtain ⟨Y, hY⟩ : ∃ Y, Y = dj[j-1]! := ⟨_, rfl⟩
         rw [← hX] at hc1 hcall
         rw [← hY] at hc2 hcall
         have HX := Lib.hid hX
         have HY := Lib.hid hY
         obtain ⟨x, hx⟩ := hE X
         obtain ⟨y, hy⟩ := hE Y
         rw [hx] at hc1 hcall
         rw [hy] at hc2 hcall
         have HCALL := Lib.hid hcall
         have HEx := Lib.hid hx
         have HEy := Lib.hid hy
         clear hcall hx hy hX hY
         have hj1 : (0 : Int) ≤ (j : Int) - 1 := by omega
         have hj2 : ((j : Int) - 1).toNat = j - 1 := by omega
         have hjd : j < d.size := by omega
         have hjd1 : (j : Int) < (d.size : Int) := by omega
         have out : ltOf cf X Y = false → ∀ q, ∃ i' dk', Value.int .i64 ((i : Int) + 1) = .int .i64 (i' : Nat) ∧ a < i' ∧ i' ≤ b + 1 ∧ dk'.size = d.size ∧ Hid (SBo enc w0 g 178 rest pre o dk' (wr.drewN q)) ∧ Hid (∀ i, i < dk'.size → D dk'[i]!) ∧ Hid (insOuter (ltOf cf) a b i' dk' = insOuter (ltOf cf) a b (a + 1) d) :=
           fun hl q => ⟨i + 1, dj, by go_num, by omega, by omega, hsj, HSj.out.drewN q, HDj, by rw [← HO.out, zcH _ _ _ _ _ hlt, ← HI.out, zcP _ _ _ _ (.inr (by rw [← HX.out, ← HY.out]; exact hl))]; exact Lib.hid rfl⟩
         have OUT := Lib.hid out
         clear out
         by_cases hcf : cf X Y < 0
         · have hl : ltOf cf X Y = true := by simpa [ltOf] using hcf
           have HL := Lib.hid hl
           clear hl
           go_wp2_with fail
           go_quiet ((refine Calls.quiet_of (HCALL.out _)))
           go_wp2
           go_region
           all_goals go_wp2
           go_roundw
           case rel =>
             refine ⟨j - 1, swp dj j (j - 1), by congr 1; omega, by omega, by omega, by rw [size_swp]; exact hsj, ?_, ?_, ?_⟩
             · have hw := HSj.out.swp j (j - 1) (by omega) (by omega) (nq + 1)
               rw [← HX.out, ← HY.out, HEx.out, HEy.out] at hw
               exact Lib.hid hw
             · exact Lib.hid (fun q hq => by
                 rw [size_swp] at hq
                 by_cases h1 : q = j
                 · subst h1; rw [swp_left _ _ _ hq (by omega)]; exact HDj.out _ (by omega)
                 · by_cases h2 : q = j - 1
                   · subst h2; rw [swp_right _ _ _ hq]; exact HDj.out _ (by omega)
                   · rw [swp_other _ _ _ _ h1 h2]; exact HDj.out _ hq)
             · exact Lib.hid (by rw [← HI.out, inner_go (ltOf cf) a j dj hja (by rw [← HX.out, ← HY.out]; exact HL.out)])
           case measure => simp [intOf]; omega
         · have hl : ltOf cf X Y = false := by simpa [ltOf] using hcf
           have HL := Lib.hid hl
           clear hl
           go_wp2_with fail
           go_quiet ((refine Calls.quiet_of (HCALL.out _)))
           go_wp2
           go_roundw
           case rel => exact OUT.out HL.out nq
           case measure => simp [intOf]; omega
       · have out : ∀ q, ∃ i' dk', Value.int .i64 ((i : Int) + 1) = .int .i64 (i' : Nat) ∧ a < i' ∧ i' ≤ b + 1 ∧ dk'.size = d.size ∧ Hid (SBo enc w0 g 178 rest pre o dk' (wr.drewN q)) ∧ Hid (∀ i, i < dk'.size → D dk'[i]!) ∧ Hid (insOuter (ltOf cf) a b i' dk' = insOuter (ltOf cf) a b (a + 1) d) :=
           fun q => ⟨i + 1, dj, by go_num, by omega, by omega, hsj, HSj.out.drewN q, HDj, by rw [← HO.out, zcH _ _ _ _ _ hlt, ← HI.out, zcP _ _ _ _ (.inl (by omega))]; exact Lib.hid rfl⟩
         have OUT := Lib.hid out
         clear out
         have hja2 : decide ((a : Int) < (j : Int)) = false := by simp; omega
         go_wp2
         go_quiet (fail)
         go_wp2
         go_roundw
         case rel => exact OUT.out nq
         case measure => simp [intOf]; omega
   · go_wp2
     go_end0
     refine ⟨rfl, ?_⟩
     have e : Sort.insertionSort (ltOf cf) d a b = dk := by
       unfold Sort.insertionSort; rw [← HO.out, zbJ _ _ _ _ _ hlt]
     rw [e]
     exact HSk.out
theorem stable_coreN {α : Type} [Inhabited α] (enc : α → Value) (hE : ∀ x, ∃ n, enc x = .pointer n) (cf : α → α → Int) (lt2 : α → α → Bool) (hO : SWO lt2) (D : α → Prop) (f : FuncId) (cb : Array Value) (g cap n : Nat) (rest pre : List Value) (o : Nat) (d : Array α) (w0 w : World)
   (hC : CmpQ Tryz.prog f cb enc cf D w0 g) (hS : SBo enc w0 g 178 rest pre o d w) (hD : ∀ i, i < d.size → D d[i]!) (hag : ∀ p q, p < q → q < d.size → ltOf cf d[q]! d[p]! = lt2 d[q]! d[p]!) (hdn : d.size = n) (hsz : n < 1152921504606846976) :
   Calls Tryz.prog 146 #[.slice (some ⟨g, o, none⟩) n cap, .int .i64 n, .func (.func f) #[] cb] w fun e w' => e = .returned (.tuple #[]) ∧ ∃ R, SBo enc w0 g 178 rest pre o R w' ∧ PermIn 0 d.size d R ∧ SortedIn lt2 0 d.size R := by
 have eg := hC.enters
 have insert : ∀ (A B : Nat) (R : Array α) (wr : World), R.size = n → SBo enc w0 g 178 rest pre o R wr → PermIn 0 d.size d R → A ≤ B → B ≤ n →
     Calls Tryz.prog 151 #[.slice (some ⟨g, o, none⟩) n cap, .int .i64 A, .int .i64 B, .func (.func f) #[] cb] wr fun e w' => e = .returned (.tuple #[]) ∧ SBo enc w0 g 178 rest pre o (Sort.insertionSort (ltOf cf) R A B) w' := by
   intro A B R wr h1 h2 h3 h4 h5
   have := ins_anyN enc hE cf D f cb g cap A B rest pre o R w0 wr hC h2 (zbs D (Nat.le_refl _) h3 hD) h4 (by omega) (by omega)
   rwa [h1] at this
 have merge : ∀ (A s m b i : Nat) (R : Array α) (wr : World), SBo enc w0 g 178 rest pre o R wr → za4 lt2 d s i R → A = 2 * s * i → m = A + s → 0 < s → b = min (A + 2 * s) n → m < b →
     Calls Tryz.prog 152 #[.slice (some ⟨g, o, none⟩) n cap, .int .i64 A, .int .i64 ((A : Int) + (s : Int)), .int .i64 b, .func (.func f) #[] cb] wr fun e w' => e = .returned (.tuple #[]) ∧ ∃ R', SBo enc w0 g 178 rest pre o R' w' ∧ za4 lt2 d s (i + 1) R' := by
   intro A s m b i R wr h1 h2 h3 h4 h5 h6 h7
   obtain ⟨q1, q2, q3⟩ := mrg_facts (b := b) h2 h3 hag (by rw [hdn]; exact h6) (by omega)
   rw [← h4] at q1 q2 q3
   have hc := zeZ enc hE cf lt2 hO D f cb g cap rest pre o n w0 hC (by omega) (b - A) A m b R wr (Nat.le_refl _) (h2.sz.trans hdn) h1 (zbs D (Nat.le_refl _) h2.perm hD) (by omega) h7 (by omega) q1 q2 q3
   rw [show (m : Int) = (A : Int) + (s : Int) from by omega] at hc
   exact hc.mono fun e w' ⟨e1, R', _, e3, e4, e5⟩ => ⟨e1, R', e3, mrg_step h2 h3 (by rw [hdn]; exact h6) (by omega) e4 e5⟩
 have HINS := Lib.hid insert
 have HMRG := Lib.hid merge
 have HAG := Lib.hid hag
 have HO := Lib.hid hO
 have HS := Lib.hid hS
 have HDN := Lib.hid hdn
 clear insert merge hag hO hS hC hD hdn
 go_enter Tryz.func146, Tryz.ntmps146
 go_wp2
 go_loopw [7, 8] (fun va vb wr => ∃ (i A B : Nat) (R : Array α), va = .int .i64 A ∧ vb = .int .i64 B ∧ A ≤ n ∧ A + 20 ≤ B ∧ B ≤ A + 20 ∧ Hid (A = 20 * i) ∧ Hid (SBo enc w0 g 178 rest pre o R wr) ∧ Hid (zb1 lt2 d 20 i R)) (fun va _ _ => n - (intOf va).toNat)
 case atStart => exact ⟨0, 0, 20, d, rfl, rfl, Nat.zero_le _, by omega, by omega, Lib.hid rfl, HS, Lib.hid zb1.start⟩
 case round =>
   obtain ⟨i, A, B, R, rfl, rfl, hAn, hB1, hB2, HA, HR, HI⟩ := hrel
   clear HS
   have hRn : R.size = n := HI.out.sz.trans HDN.out
   have HRN := Lib.hid hRn
   clear hRn
   by_cases hlt : B ≤ n
   · have hins := HINS.out A B R wr HRN.out HR.out HI.out.perm (by omega) hlt
     have hst := zcN (ltOf cf) lt2 HO.out A B R (by omega) (by rw [HRN.out]; exact hlt) (zdt HI.out HA.out HAG.out (by rw [HDN.out]; exact hlt))
     have HC1 := Lib.hid hins
     have HST := Lib.hid hst
     clear hins hst
     go_wp2_with (go_at_call 151; refine HC1.out.mono ?_; rintro e w2 ⟨rfl, hS2⟩; have HS2 := Lib.hid hS2; clear hS2)
     go_roundw
     case rel => exact ⟨i + 1, B, B + 20, _, rfl, by go_num, hlt, by omega, by omega, Lib.hid (by have := HA.out; omega), HS2, Lib.hid (zd0 HI.out HA.out (by rw [HDN.out]; omega) (by omega) HST.out.1 HST.out.2)⟩
     case measure => simp [intOf]; omega
   · have hins := HINS.out A n R wr HRN.out HR.out HI.out.perm hAn (Nat.le_refl _)
     have hst := zcN (ltOf cf) lt2 HO.out A n R hAn (by rw [HRN.out]; exact Nat.le_refl _) (zdt HI.out HA.out HAG.out (by rw [HDN.out]; exact Nat.le_refl _))
     have hall := fun (R' : Array α) (h1 : PermIn A n R R') (h2 : SortedIn lt2 A n R') => zd0 HI.out HA.out (by rw [HDN.out]; omega) hAn h1 h2
     have hnn : d.size ≤ 20 * (i + 1) := by have := HA.out; have := HDN.out; omega
     have HALL := Lib.hid (hall _ hst.1 hst.2)
     have HC1 := Lib.hid hins
     have HNN := Lib.hid hnn
     clear hins hst hall hnn
     go_wp2_with (go_at_call 151; refine HC1.out.mono ?_; rintro e w2 ⟨rfl, hS2⟩; have HS2 := Lib.hid hS2; clear hS2)
     go_loopw [6] (fun vs wr => ∃ (s : Nat) (R : Array α), vs = .int .i64 s ∧ 20 ≤ s ∧ s ≤ 2305843009213693952 ∧ Hid (SBo enc w0 g 178 rest pre o R wr) ∧ Hid (R.size = d.size) ∧ Hid (PermIn 0 d.size d R) ∧ Hid (∀ j, Good lt2 d (s * j) (s * (j + 1)) R)) (fun vs _ => n - (intOf vs).toNat)
     case atStart => exact ⟨20, _, rfl, by omega, by omega, HS2, Lib.hid HALL.out.sz, Lib.hid HALL.out.perm, Lib.hid (HALL.out.all HNN.out)⟩
     case round =>
       obtain ⟨s, R2, rfl, hs20, hsb, HR2, HZ2, HP2, HG2⟩ := hrel
       clear HS2 HALL HC1 HNN HR HI HA hAn hB1 hB2 hlt HRN
       by_cases hsn : s < n
       · go_wp2
         go_loopw [7, 8] (fun va vb wr => ∃ (i A B : Nat) (R : Array α), va = .int .i64 A ∧ vb = .int .i64 B ∧ A ≤ n ∧ A + 2 * s ≤ B ∧ B ≤ A + 2 * s ∧ Hid (A = 2 * s * i) ∧ Hid (SBo enc w0 g 178 rest pre o R wr) ∧ Hid (za4 lt2 d s i R)) (fun va _ _ => n - (intOf va).toNat)
         case atStart => exact ⟨0, 0, 2 * s, R2, rfl, by go_num, Nat.zero_le _, by omega, by omega, Lib.hid (by simp), HR2, Lib.hid (za4.start HZ2.out HP2.out HG2.out)⟩
         case round =>
           obtain ⟨j, A2, B2, R3, rfl, rfl, hAn2, hB3, hB4, HA2, HR3, HM⟩ := hrel
           clear HR2 HZ2 HP2 HG2
           by_cases hlt2 : B2 ≤ n
           · have HC2 := Lib.hid (HMRG.out A2 s (A2 + s) B2 j R3 _ HR3.out HM.out HA2.out rfl (by omega) (by omega) (by omega))
             go_wp2_with (go_at_call 152; refine HC2.out.mono ?_; rintro e w3 ⟨rfl, R4, hS3, hM3⟩; have HS3 := Lib.hid hS3; have HM3 := Lib.hid hM3; clear hS3 hM3)
             go_roundw
             case rel => exact ⟨j + 1, B2, B2 + 2 * s, R4, rfl, by go_num, hlt2, by omega, by omega, Lib.hid (by rw [Nat.mul_succ, ← HA2.out]; omega), HS3, HM3⟩
             case measure => simp [intOf]; omega
           · by_cases hm : A2 + s < n
             · have hmI : (A2 : Int) + (s : Int) < (n : Int) := by omega
               have HC2 := Lib.hid (HMRG.out A2 s (A2 + s) n j R3 _ HR3.out HM.out HA2.out rfl (by omega) (by omega) hm)
               go_wp2_with (go_at_call 152; refine HC2.out.mono ?_; rintro e w3 ⟨rfl, R4, hS3, hM3⟩; have HS3 := Lib.hid hS3; have HM3 := Lib.hid hM3; clear hS3 hM3)
               go_roundw
               case rel => exact ⟨2 * s, R4, by go_num, by omega, by omega, HS3, Lib.hid HM3.out.sz, Lib.hid HM3.out.perm, Lib.hid (HM3.out.done (by rw [Nat.mul_succ, ← HA2.out, HDN.out]; omega))⟩
               case measure => simp [intOf]; omega
             · have hmI : (n : Int) ≤ (A2 : Int) + (s : Int) := by omega
               go_wp2
               go_roundw
               case rel => exact ⟨2 * s, R3, by go_num, by omega, by omega, HR3, Lib.hid HM.out.sz, Lib.hid HM.out.perm, Lib.hid (HM.out.done (by rw [← HA2.out, HDN.out]; omega))⟩
               case measure => simp [intOf]; omega
       · go_wp2
         go_end0
         exact ⟨rfl, R2, HR2.out, HP2.out, good_end HG2.out (by rw [HDN.out]; omega)⟩
theorem stable_anyN {α : Type} [Inhabited α] (enc : α → Value) (hE : ∀ x, ∃ n, enc x = .pointer n) (cf : α → α → Int) (lt2 : α → α → Bool) (hO : SWO lt2) (D : α → Prop) (f : FuncId) (cb : Array Value) (g cap : Nat) (rest pre : List Value) (o : Nat) (d : Array α) (w0 w : World)
   (hC : CmpQ Tryz.prog f cb enc cf D w0 g) (hS : SBo enc w0 g 178 rest pre o d w) (hD : ∀ i, i < d.size → D d[i]!) (hag : ∀ p q, p < q → q < d.size → ltOf cf d[q]! d[p]! = lt2 d[q]! d[p]!) (hsz : d.size < 1152921504606846976) :
   Calls Tryz.prog 139 #[.slice (some ⟨g, o, none⟩) d.size cap, .func (.func f) #[] cb] w fun e w' => e = .returned (.tuple #[]) ∧ ∃ R, SBo enc w0 g 178 rest pre o R w' ∧ PermIn 0 d.size d R ∧ SortedIn lt2 0 d.size R := by
 obtain ⟨n, hn⟩ : ∃ n, n = d.size := ⟨_, rfl⟩
 have hcore := stable_coreN enc hE cf lt2 hO D f cb g cap n rest pre o d w0 w hC hS hD hag hn.symm (by omega)
 rw [← hn] at hsz ⊢
 rw [← hn] at hcore
 have HC := Lib.hid hcore
 clear hcore hC hS hD hag hn
 go_enter Tryz.func139, Tryz.ntmps139
 go_wp2_with (go_at_call 146; refine HC.out.mono ?_; rintro e w2 ⟨rfl, R, h1, h2, h3⟩)
 go_end0
 exact ⟨rfl, R, h1, h2, h3⟩
structure TN where
 p : Nat
 t : HT
 c : Nat
instance : Inhabited TN := ⟨⟨0, .leaf 0, 0⟩⟩
def TN.v (x : TN) : Value := .pointer (some ⟨x.p, 0, none⟩)
def ptrs (ns : List TN) : List Value := ns.map TN.v
theorem cmpT_any (p q c d : Nat) (w : World) (h1 : w.cell? ⟨p, 0, none⟩ = some (.int .i64 c)) (h2 : w.cell? ⟨q, 0, none⟩ = some (.int .i64 d)) :
   Calls Tryz.prog 140 #[.pointer (some ⟨p, 0, none⟩), .pointer (some ⟨q, 0, none⟩)] w fun e w' => e = .returned (.int .i64 (cmpI c d)) ∧ ∃ n, w' = w.drewN n := by
 obtain ⟨R, hR⟩ : ∃ R, R = cmpI c d := ⟨_, rfl⟩
 have HC := Lib.hid (fun W => zdZ (c : Int) (d : Int) W)
 rw [← hR] at HC ⊢
 go_enter Tryz.func140, Tryz.ntmps140
 go_wp2
 go_quiet ((go_at_call 113; exact zdo (HC.out _)))
 go_wp2
 go_ret
 exact ⟨rfl, _, rfl⟩
theorem agree_lt (l : List Int) {x y : Int} (h : x < y) : ltOf (cfL l) y x = zbD l y x := by
 unfold ltOf cfL zbD cmpI
 have hyx : decide (y < x) = false := by simp; omega
 rw [hyx, Bool.and_false, Bool.or_false]
 by_cases h1 : l.getD y.toNat 0 < l.getD x.toNat 0
 · rw [if_pos h1]; simp only [List.getD] at h1; simp [h1]
 · rw [if_neg h1]
   by_cases h2 : l.getD x.toNat 0 < l.getD y.toNat 0
   · rw [if_pos h2]; simp only [List.getD] at h1; simp [h1]
   · rw [if_neg h2]; simp only [List.getD] at h1; simp [h1]
def idx (m : Nat) : List Int := (List.range m).map fun n : Nat => (n : Int)
theorem idx_get {m i : Nat} (h : i < m) : (idx m).toArray[i]! = (i : Int) := by
 rw [zet (by unfold idx; simpa using h)]
 unfold idx; simp
structure zfj (w : World) (base : Nat) (S : Nat → Prop) (v : Value) (ns : List TN) : Prop where
 own : OwnO w base 178 v (ptrs ns)
 tree : ∀ x ∈ ns, IsHT w S x.t x.p x.c
 apart : ∀ b, v.ownBlock = some b → ¬ S b
 lt : ∀ b, S b → base ≤ b ∧ b < w.heap.size
theorem sort_nodes {w : World} {base : Nat} {S : Nat → Prop} {v : Value} {ns : List TN} (h : zfj w base S v ns) (hl : ns.length ≤ 1000) :
   Calls Tryz.prog 139 #[v, .func (.func 140) #[] #[]] w fun e w' => e = .returned (.tuple #[]) ∧ ∃ ns', ns'.Perm ns ∧ zfj w' base S v ns' ∧ w.grownBy w' v.ownBlock := by
 have hown := h.own
 obtain ⟨g, o, cap, cur, rfl, hb, hg, hc, hm, hs, ht⟩ := h.own
 have hpl : (ptrs ns).length = ns.length := by simp [ptrs]
 rw [hpl] at hc ht ⊢
 let enc : Int → Value := fun i => (ns.getD i.toNat default).v
 have henc : (idx ns.length).map enc = ptrs ns := by
   apply List.ext_getElem (by simp [idx, ptrs])
   intro i h1 h2
   simp [idx, ptrs, enc, List.getD, show i < ns.length from by simpa [idx] using h1]
 have hsz : (idx ns.length).toArray.size = ns.length := by simp [idx]
 have hS : SBo enc w g 178 (cur.toList.drop (o + ns.length)) (cur.toList.take o) o (idx ns.length).toArray w := by
   refine ⟨grownBy_refl w _, ?_, by simp; omega⟩
   rw [hg]
   congr 2
   rw [List.toList_toArray, henc, ← ht, ← List.drop_drop, List.take_append_drop, List.take_append_drop]
 have hC : CmpQ Tryz.prog 140 #[] enc (cfL (ns.map fun x => (x.c : Int))) (fun x => ∃ q : Nat, q < ns.length ∧ x = (q : Int)) w g := by
   refine ⟨fun _ _ => by kernel_rfl, fun W hgr x y hx hy => ?_⟩
   obtain ⟨i, hi, rfl⟩ := hx
   obtain ⟨j, hj, rfl⟩ := hy
   have key : ∀ k, k < ns.length → ∃ y, ns[k]? = some y ∧ enc (k : Int) = .pointer (some ⟨y.p, 0, none⟩) ∧ W.cell? ⟨y.p, 0, none⟩ = some (.int .i64 y.c) ∧ (ns.map fun x => (x.c : Int)).getD k 0 = y.c := fun k hk => by
     have hy := List.getElem?_eq_getElem hk
     refine ⟨_, hy, by simp [enc, List.getD, hy, TN.v], ?_, by simp [List.getD, hy]⟩
     obtain ⟨q1, q2, q3⟩ := (h.tree _ (List.getElem_mem hk)).top
     rw [World.cell?_of_block (w := w) (a := ⟨ns[k].p, 0, none⟩) (hgr.block _ q2 (fun e => h.apart g rfl (by cases e; exact q1)))]
     exact q3
   obtain ⟨x, -, x1, x2, x3⟩ := key i hi
   obtain ⟨y, -, y1, y2, y3⟩ := key j hj
   rw [x1, y1]
   have hv : cfL (ns.map fun x => (x.c : Int)) i j = cmpI x.c y.c := by
     show cmpI ((ns.map fun x => (x.c : Int)).getD i 0) ((ns.map fun x => (x.c : Int)).getD j 0) = _
     rw [x3, y3]
   rw [hv]
   exact cmpT_any _ _ _ _ W x2 y2
 have hst := stable_anyN enc (fun x => ⟨_, rfl⟩) (cfL (ns.map fun x => (x.c : Int))) (zbD (ns.map fun x => (x.c : Int))) (zcc _) _ 140 #[] g cap _ _ o (idx ns.length).toArray w w hC hS
   (fun i hi => by rw [hsz] at hi; rw [idx_get hi]; exact ⟨i, hi, rfl⟩) (fun p q hpq hq => by
     rw [hsz] at hq
     rw [idx_get hq, idx_get (by omega : p < ns.length)]
     exact agree_lt _ (by omega)) (by rw [hsz]; omega)
 rw [hsz] at hst
 refine hst.mono fun e w' ⟨he, R, h1, h2, _⟩ => ⟨he, (R.toList.map fun i => ns.getD i.toNat default), ?_, ?_, h1.grown⟩
 · have hp := h2.2.2
   have hRs : R.size = ns.length := by have := h2.1; rw [hsz] at this; exact this
   have ex : ∀ A : Array Int, A.size = ns.length → (A.extract 0 ns.length).toList = A.toList := fun A hA => by rw [← hA]; simp
   have e1 := ex R hRs
   have e2 := ex _ hsz
   rw [e1, e2] at hp
   have := hp.map fun i : Int => ns.getD i.toNat default
   have e3 : (idx ns.length).map (fun i : Int => ns.getD i.toNat default) = ns := by
     apply List.ext_getElem (by simp [idx])
     intro i g1 g2
     simp [idx, List.getD, g2]
   rw [e3] at this
   exact this
 · have hp := h2.2.2
   have hRs : R.size = ns.length := by have := h2.1; rw [hsz] at this; exact this
   have ex : ∀ A : Array Int, A.size = ns.length → (A.extract 0 ns.length).toList = A.toList := fun A hA => by rw [← hA]; simp
   have e1 := ex R hRs
   have e2 := ex _ hsz
   rw [e1, e2] at hp
   have hmem : ∀ i ∈ R.toList, ∃ q : Nat, q < ns.length ∧ i = (q : Int) := fun i hi => by
     have := hp.mem_iff.1 hi
     unfold idx at this
     obtain ⟨q, hq, rfl⟩ := List.mem_map.1 this
     exact ⟨q, by simpa using hq, rfl⟩
   have hk : zaa (fun b => b = g) w w' := zaa.of_grown h1.grown (fun k hk => by simpa using hk.symm)
   have hll : (R.toList.map fun i => ns.getD i.toNat default).length = ns.length := by rw [List.length_map]; simpa using hRs
   refine ⟨⟨g, o, cap, _, by unfold ptrs; rw [List.length_map, hll], hb, h1.blk, by unfold ptrs; rw [List.length_map, hll]; exact hc, hm, ?_, ?_⟩, fun x hx => ?_, h.apart, fun b hb2 => ⟨(h.lt b hb2).1, Nat.lt_of_lt_of_le (h.lt b hb2).2 h1.grown.size⟩⟩
   · simp [hRs]; omega
   · rw [List.toList_toArray, List.drop_left' (by simp; omega)]
     unfold ptrs
     rw [List.map_map, List.take_left' (by simp)]; rfl
   · obtain ⟨i, hi, rfl⟩ := List.mem_map.1 hx
     obtain ⟨q, hq, rfl⟩ := hmem i hi
     have hin : ns.getD (q : Int).toNat default ∈ ns := by
       simp only [Int.toNat_natCast, List.getD, List.getElem?_eq_getElem hq, Option.getD_some]
       exact List.getElem_mem hq
     exact (h.tree _ hin).keep hk (fun b hb2 e => h.apart g rfl (by rw [← e]; exact hb2))
theorem ENod : zcZ Tryz.prog 177 178 (.pointer none) 1 8 := ⟨Tryz.underlying177, by kernel_rfl, rfl, by omega⟩
def zcf (ns : List TN) : List Nat := ns.flatMap fun x => x.t.leaves
def sumN : List TN → Nat
 | [] => 0
 | x :: l => x.c + sumN l
theorem sumN_app : ∀ a b : List TN, sumN (a ++ b) = sumN a + sumN b
 | [], b => by simp [sumN]
 | x :: a, b => by rw [List.cons_append, sumN, sumN, sumN_app a b]; omega
theorem sumN_perm {a b : List TN} (h : a.Perm b) : sumN a = sumN b := by
 induction h with
 | nil => rfl
 | cons x _ ih => simp only [sumN, ih]
 | swap x y l => simp only [sumN]; omega
 | trans _ _ i1 i2 => rw [i1, i2]
theorem leavesN_perm {a b : List TN} (h : a.Perm b) : (zcf a).Perm (zcf b) := h.flatMap_right _
def slN : Value → Nat
 | .slice _ n _ => n
 | _ => 0
structure ze1 (w wr : World) (base : Nat) (S S' : Nat → Prop) (v0 v : Value) (ns0 ns : List TN) : Prop where
 q : zfj wr base S' v ns
 keeps : zaa (fun b => v0.ownBlock = some b) w wr
 new : ∀ b, S' b → S b ∨ w.heap.size ≤ b
 own : ∀ b, v.ownBlock = some b → v0.ownBlock = some b ∨ w.heap.size ≤ b
 perm : (zcf ns).Perm (zcf ns0)
 sum : sumN ns = sumN ns0
theorem ze1.step {w wr w2 w7 : World} {base : Nat} {S S' : Nat → Prop} {v0 v v' : Value} {ns0 ns rest : List TN} {x y : TN} {H : Nat} (h : ze1 w wr base S S' v0 v ns0 ns) (hp : (x :: y :: rest).Perm ns)
   (hq : zfj w2 base S' v (x :: y :: rest)) (hg : wr.grownBy w2 v.ownBlock) (hH : w2.heap.size = H) (hO : OwnO w7 base 178 v' (ptrs (rest ++ [⟨H, .node x.t y.t, x.c + y.c⟩])))
   {o8 : Obj} (hg2 : ((w2.alloc (.cells #[.int .i64 (x.c + y.c : Nat), .int .i64 0, .pointer (some ⟨x.p, 0, none⟩), .pointer (some ⟨y.p, 0, none⟩)] 180)).alloc o8).drew.grownBy w7 v.ownBlock)
   (hv : ∀ b, v'.ownBlock = some b → v.ownBlock = some b ∨ H < b) (hbase : base ≤ w.heap.size) (hvs : ∀ b, v.ownBlock = some b → b < wr.heap.size) :
   ze1 w w7 base S (fun b => S' b ∨ b = H) v0 v' ns0 (rest ++ [⟨H, .node x.t y.t, x.c + y.c⟩]) := by
 subst hH
 have k1 : zaa (fun b => v.ownBlock = some b) wr w2 := zaa.of_grown hg fun _ h => h
 have k2 : zaa (fun b => v.ownBlock = some b) w2 w7 := ((((zaa.refl _ w2).alloc _).alloc _).drewN 1).grown hg2 (fun k hk => .inl hk)
 have hw := h.keeps.size
 have hs2 := k1.size
 have hs7 := k2.size
 have hap : ∀ b, S' b → ¬ v.ownBlock = some b := fun b hb e => h.q.apart b e hb
 have hnew : w7.heap[w2.heap.size]? = some (.cells #[.int .i64 (x.c + y.c : Nat), .int .i64 0, .pointer (some ⟨x.p, 0, none⟩), .pointer (some ⟨y.p, 0, none⟩)] 180 (0, 0)) := by
   rw [hg2.block _ (by show _ < ((w2.alloc _).alloc _).heap.size; rw [zad, zad]; omega) (fun e => by have := hvs _ e.symm; omega)]
   show ((w2.alloc _).alloc _).heap[w2.heap.size]? = _
   rw [Below.heap_alloc (w2.alloc _) _ _ (by rw [zad]; omega)]
   exact heap_alloc_new w2 _
 have hlt7 : w2.heap.size < w7.heap.size := (Array.getElem?_eq_some_iff.1 hnew).1
 refine ⟨⟨hO, fun z hz => ?_, fun b hb hc => ?_, fun b hb => ?_⟩, ?_, fun b hb => ?_, fun b hb => ?_, ?_, ?_⟩
 · rcases List.mem_append.1 hz with h1 | h1
   · exact ((hq.tree z (List.mem_cons_of_mem _ (List.mem_cons_of_mem _ h1))).keep k2 hap).weaken fun b hb => .inl hb
   · rw [List.mem_singleton] at h1
     subst h1
     exact ⟨.inr rfl, x.p, y.p, x.c, y.c, hnew, ((hq.tree x (List.mem_cons_self ..)).keep k2 hap).weaken fun b hb => .inl hb, ((hq.tree y (List.mem_cons_of_mem _ (List.mem_cons_self ..))).keep k2 hap).weaken fun b hb => .inl hb⟩
 · rcases hc with hc | hc
   · rcases hv b hb with h1 | h1
     · exact h.q.apart b h1 hc
     · have := (hq.lt b hc).2; omega
   · rcases hv b hb with h1 | h1
     · have := hvs b h1; omega
     · omega
 · rcases hb with hb | hb
   · have := hq.lt b hb; exact ⟨this.1, by omega⟩
   · subst hb; exact ⟨by omega, hlt7⟩
 · exact (h.keeps.trans k1 (fun b hb => (h.own b hb).imp id id)).trans k2 (fun b hb => (h.own b hb).imp id id)
 · rcases hb with hb | hb
   · exact h.new b hb
   · exact .inr (by omega)
 · rcases hv b hb with h1 | h1
   · exact h.own b h1
   · exact .inr (by omega)
 · refine List.Perm.trans ?_ ((leavesN_perm hp).trans h.perm)
   unfold zcf
   rw [List.flatMap_append]
   simp only [List.flatMap_cons, List.flatMap_nil, List.append_nil, HT.leaves]
   refine List.perm_append_comm.trans ?_
   rw [List.append_assoc]
 · have := sumN_perm hp
   have hs := h.sum
   rw [sumN_app]
   simp only [sumN] at this ⊢
   omega
set_option maxRecDepth 20000 in
theorem tree_any {w : World} {base : Nat} {S : Nat → Prop} {v : Value} {ns : List TN} (h : zfj w base S v ns) (h0 : 0 < ns.length) (hl : ns.length ≤ 400) (hsum : sumN ns ≤ 1000000000000) (hbase : base ≤ w.heap.size) :
   Calls Tryz.prog 131 #[v] w fun e w' => ∃ (x : TN) (S' : Nat → Prop), e = .returned x.v ∧ IsHT w' S' x.t x.p x.c ∧ (x.t.leaves).Perm (zcf ns) ∧ (∀ b, S' b → S b ∨ w.heap.size ≤ b) ∧ zaa (fun b => v.ownBlock = some b) w w' := by
 obtain ⟨g0, o0, cap0, rfl, -, -, -⟩ := h.own.row
 have hpl : (ptrs ns).length = ns.length := by simp [ptrs]
 rw [hpl] at h ⊢
 have HT0 := Lib.hid (show ze1 w w base S S (.slice (some ⟨g0, o0, none⟩) ns.length cap0) (.slice (some ⟨g0, o0, none⟩) ns.length cap0) ns ns from ⟨h, zaa.refl _ _, fun b h => .inl h, fun b h => .inl h, List.Perm.refl _, rfl⟩)
 clear h hpl
 go_enter Tryz.func131, Tryz.ntmps131
 go_wp2_with fail
 go_loopw [0] (fun vl wr => ∃ (m g o cap : Nat) (ns' : List TN) (S' : Nat → Prop), vl = .slice (some ⟨g, o, none⟩) m cap ∧ 0 < m ∧ m ≤ ns.length ∧ Hid (ns'.length = m) ∧ Hid (ze1 w wr base S S' (.slice (some ⟨g0, o0, none⟩) ns.length cap0) vl ns ns')) (fun vl _ => slN vl)
 case atStart => exact ⟨_, _, _, _, ns, S, rfl, h0, Nat.le_refl _, Lib.hid rfl, HT0⟩
 case round =>
   obtain ⟨m, g, o, cap, ns', S', rfl, hm0, hml, HM, HT⟩ := hrel
   by_cases hlt : 1 < m
   · have hcd : decide ((m : Int) > 1) = true := decide_eq_true (by omega)
     have hcd2 : decide ((1 : Int) < m) = true := decide_eq_true (by omega)
     have HS := Lib.hid (sort_nodes HT.out.q (by rw [HM.out]; omega))
     clear HT0
     go_wp2_with (go_at_call 139; refine HS.out.mono ?_; rintro e w2 ⟨rfl, ns2, hp2, hq2, hg2⟩)
     have hl2 : ns2.length = m := by rw [hp2.length_eq, HM.out]
     obtain ⟨x, y, rest, rfl⟩ : ∃ x y rest, ns2 = x :: y :: rest := by
       match ns2, hl2 with
       | [], h => simp at h; omega
       | [_], h => simp at h; omega
       | x :: y :: rest, _ => exact ⟨x, y, rest, rfl⟩
     have hpl2 : (ptrs (x :: y :: rest)).length = m := by rw [← hl2]; simp [ptrs]
     obtain ⟨g', o', cap', ev, hrow, -, -⟩ := hq2.own.row
     rw [hpl2] at ev hrow
     simp only [Value.slice.injEq, Option.some.injEq, Addr.mk.injEq, and_true, true_and] at ev
     obtain ⟨⟨rfl, rfl⟩, rfl⟩ := ev
     obtain ⟨b, off, eb, hblt, hcell⟩ := hrow.2.2.2.2 (by omega)
     simp only [Option.some.injEq, Addr.mk.injEq, and_true] at eb
     obtain ⟨rfl, rfl⟩ := eb
     have r0 : w2.cell? ⟨g, o, none⟩ = some (.pointer (some ⟨x.p, 0, none⟩)) := hcell 0 _ rfl
     have r1 : w2.cell? ⟨g, o + 1, none⟩ = some (.pointer (some ⟨y.p, 0, none⟩)) := hcell 1 _ rfl
     obtain ⟨-, xl, x0⟩ := (hq2.tree x (List.mem_cons_self ..)).top
     obtain ⟨-, yl, y0⟩ := (hq2.tree y (List.mem_cons_of_mem _ (List.mem_cons_self ..))).top
     have hcap : m ≤ cap := hrow.2.1
     have hmi : (1 : Int) < m := by omega
     have hm2 : (2 : Int) ≤ m := by omega
     have hrl : (ptrs rest).length + 2 = m := by rw [← hpl2]; simp [ptrs]
     have hxy : x.c + y.c ≤ 1000000000000 := by
       have e1 := sumN_perm hp2
       have e2 := HT.out.sum
       simp only [sumN] at e1; omega
     obtain ⟨C, hC⟩ : ∃ C, C = x.c + y.c := ⟨_, rfl⟩
     have hw1 : IntKind.i64.wrap ((x.c : Int) + y.c) = (C : Int) := by rw [IntWalk.i64_in _ (by omega)]; omega
     have hxg : ¬ x.p = g := fun e => hq2.apart g rfl (e ▸ (hq2.tree x (List.mem_cons_self ..)).top.1)
     have hyg : ¬ y.p = g := fun e => hq2.apart g rfl (e ▸ (hq2.tree y (List.mem_cons_of_mem _ (List.mem_cons_self ..))).top.1)
     have hOd : ∀ o1 o2, OwnO ((w2.alloc o1).alloc o2).drew base 178 (.slice (if cap = 2 then some ⟨g, o, none⟩ else some ⟨g, o + 2, none⟩) (m - 2) (cap - 2)) (ptrs rest) := fun o1 o2 =>
       (OwnO.drop2i (by exact hq2.own)).keep (S := fun _ => False) ((((zaa.refl (fun _ => False) w2).alloc o1).alloc o2).drewN 1) (fun _ _ h => h)
     have hnc : ∀ (o1 : Obj) (u : Value), ((w2.alloc o1).alloc (.cells #[u] 178)).drew.cell? ⟨w2.heap.size + 1, 0, none⟩ = some u := fun o1 u => by
       have e := zad w2 o1
       have h := cell_of_row _ _ 0 _ _ _ (heap_alloc_new (w2.alloc o1) (.cells #[u] 178))
       rw [e] at h
       exact h
     have hszb : ∀ o1 o2, base ≤ ((w2.alloc o1).alloc o2).drew.heap.size := fun o1 o2 => by
       show base ≤ ((w2.alloc o1).alloc o2).heap.size
       rw [zad, zad]; have := HT.out.keeps.size; have := hg2.size; omega
     obtain ⟨o2, hif⟩ : ∃ o2, (if cap = 2 then some (⟨g, o, none⟩ : Addr) else some ⟨g, o + 2, none⟩) = some ⟨g, o2, none⟩ := by split <;> exact ⟨_, rfl⟩
     have hkc : ∀ k, k < o + 2 → ∀ g' o' n c, Value.slice (some ⟨g, o2, none⟩) (m - 2) (cap - 2) = .slice (some ⟨g', o', none⟩) n c → g ≠ g' ∨ k < o' + n ∨ c ≤ n := fun k hk g' o' n c e => by
       simp only [Value.slice.injEq, Option.some.injEq, Addr.mk.injEq, and_true] at e
       obtain ⟨⟨rfl, rfl⟩, rfl, rfl⟩ := e
       by_cases h2 : cap = 2
       · exact .inr (.inr (by omega))
       · rw [if_neg h2] at hif
         simp only [Option.some.injEq, Addr.mk.injEq, and_true, true_and] at hif
         exact .inr (.inl (by omega))
     have hkx : ∀ p, ¬ p = g → ∀ k : Nat, ∀ g' o' n c, Value.slice (some ⟨g, o2, none⟩) (m - 2) (cap - 2) = .slice (some ⟨g', o', none⟩) n c → p ≠ g' ∨ k < o' + n ∨ c ≤ n := fun p hp k g' o' n c e => by
       simp only [Value.slice.injEq, Option.some.injEq, Addr.mk.injEq, and_true] at e
       obtain ⟨⟨rfl, rfl⟩, rfl, rfl⟩ := e
       exact .inl hp
     have HKC := Lib.hid hkc
     have HKX := Lib.hid hkx
     have HXG := Lib.hid hxg
     have HYG := Lib.hid hyg
     rw [hif] at hOd
     have HOD := Lib.hid hOd
     have HSZ := Lib.hid hszb
     have HRL := Lib.hid hrl
     have hr4 : (ptrs rest).length ≤ 400 := by omega
     have HNC := Lib.hid hnc
     have HQ2 := Lib.hid hq2
     have HP2 := Lib.hid hp2
     have HG2 := Lib.hid hg2
     have HC := Lib.hid hC
     have hbw : base ≤ w2.heap.size := by have := HT.out.keeps.size; have := hg2.size; omega
     have hgl : g < wr.heap.size := (HT.out.q.own.lt g rfl).2
     clear hOd hnc hszb hq2 hp2 hg2 hC HS hcell hrow hl2 hpl2 hrl hxy hcd hcd2 xl yl hblt hkc hkx hxg hyg
     have HML := Lib.hid hml
     have HBW := Lib.hid hbw
     have HGL := Lib.hid hgl
     have HBS := Lib.hid hbase
     have HR4 := Lib.hid hr4
     clear hml hbw hgl hr4 h0 hl hsum hbase
     go_wp2_with fail
     go_region_held_law (fun w' => w'.cell? ⟨g, o, none⟩ = some (.pointer (some ⟨x.p, 0, none⟩)) ∧ w'.cell? ⟨g, o + 1, none⟩ = some (.pointer (some ⟨y.p, 0, none⟩)) ∧ w'.cell? ⟨x.p, 0, none⟩ = some (.int .i64 x.c) ∧ w'.cell? ⟨y.p, 0, none⟩ = some (.int .i64 y.c))
       (first
         | go_keep
         | (go_split_ands; exact ⟨HA7.out _ _ _ (by assumption) (HKC.out _ (by omega)), HA7.out _ _ _ (by assumption) (HKC.out _ (by omega)), HA7.out _ _ _ (by assumption) (HKX.out _ HXG.out _), HA7.out _ _ _ (by assumption) (HKX.out _ HYG.out _)⟩))
       (first
         | (refine zeg ENod (by rfl) _ _ (by rfl) base (.slice (some ⟨g, o2, none⟩) (m - 2) (cap - 2)) (ptrs rest) (by rfl) (HOD.out _ _) ⟨w2.heap.size + 1, 0, none⟩ 1 (.pointer (some ⟨w2.heap.size, 0, none⟩)) (by rfl) (HNC.out _ _) (by rfl) (by have := HR4.out; unfold maxLen; omega) (by have := HR4.out; omega) (HSZ.out _ _) ?_; intro g7 o7 cap7 w7 hO7 hg7 hat7 hA7; have HO7 := Lib.hid hO7; have HG7 := Lib.hid hg7; have HB7 := Lib.hid hat7; have HA7 := Lib.hid hA7; clear hO7 hg7 hat7 hA7))
     simp only [List.getElem_toArray, List.getElem_cons_succ, List.getElem_cons_zero, List.setIfInBounds_toArray, List.set_cons_zero, List.set_cons_succ]
     go_wp2_with fail
     go_roundw
     case rel =>
       have hst := ze1.step HT.out HP2.out HQ2.out HG2.out (H := w2.heap.size) rfl (o8 := .cells #[.pointer (some ⟨w2.heap.size, 0, none⟩)] 178) (w7 := w7) (v' := .slice (some ⟨g7, o7, none⟩) ((ptrs rest).length + 1) cap7) (by
         unfold ptrs at HO7 ⊢
         rw [List.map_append]
         exact HO7.out) (by rw [← HC.out]; exact HG7.out) (fun b hb => by
         have h7 := HB7.out
         have e : g7 = b := by simpa [Value.ownBlock] using hb
         subst e
         rcases h7 with h7 | h7
         · exact .inl h7
         · refine .inr ?_
           have h8 : ((w2.alloc (.cells #[.int .i64 C, .int .i64 0, .pointer (some ⟨x.p, 0, none⟩), .pointer (some ⟨y.p, 0, none⟩)] 180)).alloc (.cells #[.pointer (some ⟨w2.heap.size, 0, none⟩)] 178)).heap.size ≤ g7 := h7
           rw [zad, zad] at h8; omega) HBS.out (fun b hb => by
         have e : g = b := by simpa [Value.ownBlock] using hb
         subst e
         exact HGL.out)
       have hr := HRL.out
       have hm := HML.out
       exact ⟨(ptrs rest).length + 1, g7, o7, cap7, _, _, rfl, by omega, by omega, Lib.hid (by simp [ptrs]), Lib.hid hst⟩
     case measure =>
       have hr := HRL.out
       show (ptrs rest).length + 1 < m
       omega
   · have hcd : decide ((m : Int) > 1) = false := decide_eq_false (by omega)
     have hm1 : m = 1 := by omega
     subst hm1
     obtain ⟨x, rfl⟩ : ∃ x, ns' = [x] := by
       have h := HM.out
       match ns', h with
       | [x], _ => exact ⟨x, rfl⟩
     have hq := HT.out.q
     obtain ⟨g', o', cap', ev, hrow, -, -⟩ := hq.own.row
     simp only [Value.slice.injEq, Option.some.injEq, Addr.mk.injEq, and_true] at ev
     obtain ⟨⟨rfl, rfl⟩, -, rfl⟩ := ev
     obtain ⟨b, off, eb, hblt, hcell⟩ := hrow.2.2.2.2 (by simp [ptrs])
     simp only [Option.some.injEq, Addr.mk.injEq, and_true] at eb
     obtain ⟨rfl, rfl⟩ := eb
     have r0 : wr.cell? ⟨g, o, none⟩ = some (.pointer (some ⟨x.p, 0, none⟩)) := hcell 0 _ rfl
     clear hrow hcell hq
     go_wp2_with fail
     go_ret
     refine ⟨x, S', rfl, HT.out.q.tree x (List.mem_singleton_self _), ?_, HT.out.new, HT.out.keeps⟩
     have hp := HT.out.perm
     simpa [zcf] using hp
end Go.Proofs.YtkikhmdpcanidaaGreat
namespace Go.Proofs.YtkikhmdpcanidaaGreat
open Go.RowKit
theorem rowR_get {n : Nat} {R D : List Nat} (hn : R.Nodup) (hr : ∀ r ∈ R, r < n) (hD : D.length = R.length) {i : Nat} (hi : i < R.length) : (rowR n R D).getD (R.getD i 0) 0 = D.getD i 0 := zfG hn hD hr hi
structure CutM (W : World) (bo B1 Br og n : Nat) (R D : List Nat) (room : Int) : Prop where
 out : OutR W bo (rowR n R D)
 box : W.heap[B1]? = some (.cells #[.slice (some ⟨bo, 0, none⟩) n n] 34 (0, 0))
 rm : W.heap[Br]? = some (.cells #[.int .i64 room] 3 (0, 0))
 ord : ∀ i, i < R.length → W.cell? ⟨og, i, none⟩ = some (.int .i64 (R.getD i 0 : Nat))
 len : D.length = R.length
 nd : R.Nodup
 lt : ∀ r ∈ R, r < n
 ne1 : bo ≠ B1
 ne2 : bo ≠ Br
 ne3 : B1 ≠ Br
 ne4 : og ≠ bo
 ne5 : og ≠ B1
 ne6 : og ≠ Br
section
variable {W : World} {bo B1 Br og n : Nat} {R D : List Nat} {room : Int}
theorem zdd {R : List Nat} {i : Nat} (hi : i < R.length) : R.getD i 0 ∈ R := by
 rw [List.getD_eq_getElem?_getD, List.getElem?_eq_getElem hi]; exact List.getElem_mem hi
theorem CutM.at (h : CutM W bo B1 Br og n R D room) {i : Nat} (hi : i < R.length) : R.getD i 0 < n ∧ W.cell? ⟨og, i, none⟩ = some (.int .i64 (R.getD i 0 : Nat)) ∧ W.cell? ⟨bo, R.getD i 0, none⟩ = some (.int .i64 (D.getD i 0 : Nat)) := by
 have hl := h.lt _ (zdd hi)
 refine ⟨hl, h.ord i hi, ?_⟩
 have := h.out.cell (k := R.getD i 0) (by rw [zcm]; exact hl)
 rw [rowR_get h.nd h.lt h.len hi] at this
 exact this
theorem CutM.cbox (h : CutM W bo B1 Br og n R D room) : W.cell? ⟨B1, 0, none⟩ = some (.slice (some ⟨bo, 0, none⟩) n n) := by rw [cell_of_row W _ 0 _ _ _ h.box]; rfl
theorem CutM.crm (h : CutM W bo B1 Br og n R D room) : W.cell? ⟨Br, 0, none⟩ = some (.int .i64 room) := by rw [cell_of_row W _ 0 _ _ _ h.rm]; rfl
theorem CutM.frm (h : CutM W bo B1 Br og n R D room) : W.frozen? ⟨Br, 0, none⟩ = false := frozen_of_row W Br 0 _ _ h.rm
theorem CutM.fout (h : CutM W bo B1 Br og n R D room) (k : Nat) : W.frozen? ⟨bo, k, none⟩ = false := h.out.free k
theorem CutM.drewN (h : CutM W bo B1 Br og n R D room) (q : Nat) : CutM (W.drewN q) bo B1 Br og n R D room := ⟨h.out, h.box, h.rm, h.ord, h.len, h.nd, h.lt, h.ne1, h.ne2, h.ne3, h.ne4, h.ne5, h.ne6⟩
theorem CutM.keep {W' : World} {T : Nat → Prop} (h : CutM W bo B1 Br og n R D room) (hk : zaa T W W') (h1 : ¬ T bo) (h2 : ¬ T B1) (h3 : ¬ T Br) (h4 : ¬ T og) : CutM W' bo B1 Br og n R D room :=
 ⟨h.out.keep hk h1, hk.obj h.box h2, hk.obj h.rm h3, fun i hi => hk.cell (h.ord i hi) h4, h.len, h.nd, h.lt, h.ne1, h.ne2, h.ne3, h.ne4, h.ne5, h.ne6⟩
theorem CutM.alloc (h : CutM W bo B1 Br og n R D room) (o : Obj) : CutM (W.alloc o) bo B1 Br og n R D room := h.keep (T := fun _ => False) ((zaa.refl _ W).alloc o) id id id id
theorem CutM.setR (h : CutM W bo B1 Br og n R D room) (r : Int) : CutM (W.setCell ⟨Br, 0, none⟩ (.int .i64 r)) bo B1 Br og n R D r := by
 have hk : zaa (fun x => x = Br) W (W.setCell ⟨Br, 0, none⟩ (.int .i64 r)) := (zaa.refl (fun x => x = Br) W).setCell (a := ⟨Br, 0, none⟩) (.inl rfl) _
 refine ⟨h.out.keep hk h.ne2, hk.obj h.box h.ne3, ?_, fun i hi => hk.cell (h.ord i hi) h.ne6, h.len, h.nd, h.lt, h.ne1, h.ne2, h.ne3, h.ne4, h.ne5, h.ne6⟩
 rw [heap_setCell_same W Br 0 _ _ _ h.rm]; rfl
theorem CutM.setO (h : CutM W bo B1 Br og n R D room) {i : Nat} (hi : i < R.length) (v : Nat) : CutM (W.setCell ⟨bo, R.getD i 0, none⟩ (.int .i64 v)) bo B1 Br og n R (D.set i v) room := by
 have hk : zaa (fun x => x = bo) W (W.setCell ⟨bo, R.getD i 0, none⟩ (.int .i64 v)) := (zaa.refl (fun x => x = bo) W).setCell (a := ⟨bo, R.getD i 0, none⟩) (.inl rfl) _
 refine ⟨?_, hk.obj h.box (fun e => h.ne1 e.symm), hk.obj h.rm (fun e => h.ne2 e.symm), fun i hi => hk.cell (h.ord i hi) h.ne4, by rw [List.length_set]; exact h.len, h.nd, h.lt, h.ne1, h.ne2, h.ne3, h.ne4, h.ne5, h.ne6⟩
 have := h.out.set (R.getD i 0) v
 rwa [rowR_set h.nd h.lt h.len hi] at this
end
theorem ze8 {n : Nat} : ∀ {D : List Nat} {i : Nat}, i < D.length → D.getD i 0 = n → (∀ j, j < i → D.getD j 0 ≠ n) → inc1 n D = some (D.set i (n + 1))
 | [], i, h, _, _ => by simp at h
 | x :: l, 0, _, h, _ => by
   have h : x = n := by simpa using h
   unfold inc1; rw [if_pos h]; rfl
 | x :: l, i + 1, hi, h, hj => by
   have h0 : x ≠ n := by simpa using hj 0 (by omega)
   unfold inc1
   rw [if_neg h0, ze8 (i := i) (by simpa using hi) (by simpa using h) (fun j hj' => by simpa using hj (j + 1) (by omega))]
   rfl
theorem inc1_off {n : Nat} : ∀ {D : List Nat}, (∀ j, j < D.length → D.getD j 0 ≠ n) → inc1 n D = none
 | [], _ => rfl
 | x :: l, h => by
   have h0 : x ≠ n := by simpa using h 0 (by simp)
   unfold inc1
   rw [if_neg h0, inc1_off (fun j hj => by simpa using h (j + 1) (by simpa using hj))]
   rfl
theorem cut1_any {W : World} {bo B1 Bn n k x m : Nat} (c1 : W.cell? ⟨B1, 0, none⟩ = some (.slice (some ⟨bo, 0, none⟩) n n)) (c2 : W.cell? ⟨bo, k, none⟩ = some (.int .i64 x)) (c3 : W.cell? ⟨Bn, 0, none⟩ = some (.int .i64 m)) (hk : k < n) :
   Calls Tryz.prog 141 #[.int .i64 k, .pointer (some ⟨B1, 0, none⟩), .pointer (some ⟨Bn, 0, none⟩)] W fun e w' => e = .returned (.bool (decide (x = m))) ∧ ∃ q, w' = W.drewN q := by
 have hd : ((x : Int) == (m : Int)) = decide (x = m) := by
   rw [show ((x : Int) == (m : Int)) = decide ((x : Int) = m) from rfl]; exact decide_eq_decide.2 (by omega)
 have hk0 : (k : Int) < (n : Int) := by omega
 obtain ⟨r, hr⟩ : ∃ r, r = decide (x = m) := ⟨_, rfl⟩
 rw [← hr] at hd ⊢
 have HD := Lib.hid hd
 clear hr hd
 go_enter Tryz.func141, Tryz.ntmps141
 go_wp2
 go_quiet (fail)
 go_wp2
 go_ret
 refine ⟨?_, _, rfl⟩
 rw [← HD.out]; simp
theorem idx_cut {W : World} {bo B1 Br og n Bn m cap : Nat} {R D : List Nat} {room : Int} (h : CutM W bo B1 Br og n R D room) (hb : W.cell? ⟨Bn, 0, none⟩ = some (.int .i64 m)) (hl : R.length ≤ 400) :
   Calls Tryz.prog 75 #[.slice (some ⟨og, 0, none⟩) R.length cap, .func (.func 141) #[] #[.pointer (some ⟨B1, 0, none⟩), .pointer (some ⟨Bn, 0, none⟩)]] W fun e w' => (∃ q, w' = W.drewN q) ∧
     ((∃ i, i < R.length ∧ e = .returned (.int .i64 i) ∧ inc1 m D = some (D.set i (m + 1)) ∧ D.getD i 0 = m) ∨ (e = .returned (.int .i64 (-1)) ∧ inc1 m D = none)) := by
 have H := Lib.hid h
 have HB := Lib.hid hb
 clear h hb
 go_enter Tryz.func75, Tryz.ntmps75
 go_wp2_with fail
 go_loopw [8] (fun v wr => ∃ j : Nat, v = .int .i64 j ∧ j ≤ R.length ∧ Hid (∃ q, wr = W.drewN q) ∧ Hid (∀ i, i < j → D.getD i 0 ≠ m)) (fun v _ => R.length - (intOf v).toNat)
 case atStart => exact ⟨0, rfl, Nat.zero_le _, Lib.hid ⟨0, rfl⟩, Lib.hid (fun i hi => by omega)⟩
 case round =>
   obtain ⟨j, rfl, hj, HW, HA⟩ := hrel
   by_cases hlt : j < R.length
   case neg =>
     have hje : j = R.length := by omega
     subst hje
     have hcd : decide ((R.length : Int) < (R.length : Int)) = false := decide_eq_false (by omega)
     have hcd2 : decide (R.length < R.length) = false := decide_eq_false (by omega)
     have HN := Lib.hid (inc1_off (D := D) (n := m) (by rw [H.out.len]; exact HA.out))
     go_wp2
     go_ret
     exact ⟨HW.out, .inr ⟨rfl, HN.out⟩⟩
   have hcd : decide ((j : Int) < (R.length : Int)) = true := decide_eq_true (by omega)
   have hcd2 : decide (j < R.length) = true := decide_eq_true hlt
   have hjl : (j : Int) < (R.length : Int) := by omega
   obtain ⟨q, hq⟩ := HW.out
   obtain ⟨z1, z2, z3⟩ := (H.out.drewN q).at hlt
   rw [← hq] at z2 z3
   have HC := Lib.hid (cut1_any (W := wr) (by rw [hq]; exact (H.out.drewN q).cbox) z3 (by rw [hq]; exact HB.out) z1)
   have HX := Lib.hid (show D.getD j 0 = m → inc1 m D = some (D.set j (m + 1)) from fun e => ze8 (by rw [H.out.len]; exact hlt) e HA.out)
   have HY := Lib.hid (show D.getD j 0 ≠ m → ∀ i, i < j + 1 → D.getD i 0 ≠ m from fun e i hi => by
     rcases Nat.lt_or_eq_of_le (Nat.le_of_lt_succ hi) with h1 | h1
     · exact HA.out i h1
     · rw [h1]; exact e)
   have HQ := Lib.hid hq
   clear hq z3 HA
   generalize R.getD j 0 = k at *
   generalize hx : D.getD j 0 = x at HC HX HY
   have HE := Lib.hid hx
   clear hx
   by_cases he : x = m
   · have hd : decide (x = m) = true := decide_eq_true he
     rw [hd] at HC
     have HX2 := Lib.hid (HX.out he)
     have HE2 := Lib.hid (HE.out.trans he)
     clear HX HY HE hd he
     go_wp2_with (refine HC.out.mono ?_; rintro e w2 ⟨rfl, q2, hq2⟩; have HQ2 := Lib.hid hq2; clear hq2)
     go_ret
     refine ⟨?_, .inl ⟨j, hlt, rfl, HX2.out, HE2.out⟩⟩
     rw [HQ2.out, HQ.out]; exact ⟨q + q2, by simp [World.drewN, Nat.add_assoc]⟩
   · have hd : decide (x = m) = false := decide_eq_false he
     rw [hd] at HC
     have HY2 := Lib.hid (HY.out he)
     clear HX HY hd he
     go_wp2_with (refine HC.out.mono ?_; rintro e w2 ⟨rfl, q2, hq2⟩; have HQ2 := Lib.hid hq2; clear hq2)
     go_roundw
     case rel => exact ⟨j + 1, by go_num, by omega, Lib.hid (by rw [HQ2.out, HQ.out]; exact ⟨q + q2, by simp [World.drewN, Nat.add_assoc]⟩), HY2⟩
     case measure => simp [intOf]; omega
end Go.Proofs.YtkikhmdpcanidaaGreat
