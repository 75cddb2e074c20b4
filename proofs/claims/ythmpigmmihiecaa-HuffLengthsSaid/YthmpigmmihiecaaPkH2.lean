/-
  Our texts NSym2 to Huff1, in one.
-/
import Derived.Test.YthmpigmmihiecaaPkH1
import Derived.Test.YthmpigmmihiecaaProg
import Derived.BigQuiet
import Derived.Deep.QuietTactic
set_option maxRecDepth 8000
set_option maxHeartbeats 8000000
namespace Go.Proofs.Ythmpigmmihiecaa
open Go.RowKit Go.Sort
def MergePN {α : Type} [Inhabited α] (enc : α → Value) (lt : α → α → Bool) (g a b : Nat) (rest pre : List Value) (o : Nat) (d : Array α) (w0 : World) (e : Ending) (w' : World) : Prop :=
 e = .returned (.tuple #[]) ∧ ∃ R : Array α, R.size = d.size ∧ SBo enc w0 g 42 rest pre o R w' ∧ PermIn a b d R ∧ SortedIn lt a b R
theorem sym_leftN {α : Type} [Inhabited α] (enc : α → Value) (hE : ∀ x, ∃ n, enc x = .pointer n) (cf : α → α → Int) (lt : α → α → Bool) (hL : SWO lt) (D : α → Prop) (f : FuncId) (cb : Array Value) (g cap a m b : Nat) (rest pre : List Value) (o : Nat) (d : Array α) (w0 w : World)
   (hC : CmpQ Try.prog f cb enc cf D w0 g) (hS : SBo enc w0 g 42 rest pre o d w) (hD : ∀ i, i < d.size → D d[i]!) (hm : m = a + 1) (hmb : m < b) (hb : b ≤ d.size) (hsz : d.size < 4611686018427387904)
   (h2 : SortedIn lt m b d) (hA : Agree (ltOf cf) lt d a m b) :
   Calls Try.prog 48 #[.slice (some ⟨g, o, none⟩) d.size cap, .int .i64 a, .int .i64 m, .int .i64 b, .func (.func f) #[] cb] w fun e w' => MergePN enc lt g a b rest pre o d w0 e w' := by
 have eg := hC.enters
 have HC := Lib.hid hC
 have HS := Lib.hid hS
 have HD := Lib.hid hD
 have H2 := Lib.hid h2
 have HA := Lib.hid hA
 clear hC hS hD h2 hA
 have heq : ((m : Int) - (a : Int) == 1) = true := by rw [beq_iff_eq]; omega
 go_enter Try.func48, Try.ntmps48
 go_wp2
 go_loopw [10, 11] (fun vi vj wr => ∃ (i j : Nat), vi = .int .i64 i ∧ vj = .int .i64 j ∧ m ≤ i ∧ i ≤ j ∧ j ≤ b ∧ Hid (SBo enc w0 g 42 rest pre o d wr) ∧ Hid (∀ q, m ≤ q → q < i → lt d[q]! d[a]! = true) ∧ Hid (∀ q, j ≤ q → q < b → lt d[q]! d[a]! = false)) (fun vi vj _ => (intOf vj).toNat - (intOf vi).toNat)
 case atStart => exact ⟨m, b, rfl, rfl, Nat.le_refl _, by omega, Nat.le_refl _, HS, Lib.hid (fun q h1 h2 => by omega), Lib.hid (fun q h1 h2 => by omega)⟩
 case round =>
   obtain ⟨i, j, rfl, rfl, hai, hij, hjb, HSk, HLo, HHi⟩ := hrel
   clear HS
   by_cases hlt : i < j
   · obtain ⟨h, hh⟩ : ∃ h, h = (i + j) / 2 := ⟨_, rfl⟩
     have hc1 := HSk.out.cell h (by omega)
     have hc2 := HSk.out.cell a (by omega)
     have hcall := fun q => HC.out.calls (wr.drewN q) (HSk.out.drewN q).grown d[h]! d[a]! (HD.out h (by omega)) (HD.out a (by omega))
     have hag := HA.out a h (Nat.le_refl _) (by omega) (by omega) (by omega)
     obtain ⟨X, hX⟩ : ∃ X, X = d[h]! := ⟨_, rfl⟩
     obtain ⟨Y, hY⟩ : ∃ Y, Y = d[a]! := ⟨_, rfl⟩
     rw [← hX] at hc1 hcall hag
     rw [← hY] at hc2 hcall hag
     have HX := Lib.hid hX
     have HY := Lib.hid hY
     obtain ⟨x, hx⟩ := hE X
     obtain ⟨y, hy⟩ := hE Y
     rw [hx] at hc1 hcall
     rw [hy] at hc2 hcall
     have HCALL := Lib.hid hcall
     have HAG := Lib.hid hag
     clear hcall hx hy hX hY hag
     have hh1 : ((i : Int) + (j : Int)) / 2 = (h : Int) := by omega
     have hhb : (h : Int) < (d.size : Int) := by omega
     have hab : (a : Int) < (d.size : Int) := by omega
     have hhi : i ≤ h := by omega
     have hhj : h < j := by omega
     clear hh
     by_cases hcf : cf X Y < 0
     · have hl : lt X Y = true := by rw [← HAG.out]; simpa [ltOf] using hcf
       have HL := Lib.hid hl
       have hcf2 : cf X Y < 0 := hcf
       clear hl hcf
       go_wp2_with fail
       go_quiet ((refine Calls.quiet_of (HCALL.out _)))
       go_wp2
       go_roundw
       case rel => exact ⟨h + 1, j, by go_num, rfl, by omega, by omega, hjb, Lib.hid (HSk.out.drewN _), Lib.hid (fun q h3 h4 => low_all hL H2.out (by omega : h < b) (by rw [← HX.out, ← HY.out]; exact HL.out) q h3 (by omega)), HHi⟩
       case measure => simp [intOf]; omega
     · have hl : lt X Y = false := by rw [← HAG.out]; simpa [ltOf] using hcf
       have HL := Lib.hid hl
       have hcf2 : 0 ≤ cf X Y := by omega
       clear hl hcf
       go_wp2_with fail
       go_quiet ((refine Calls.quiet_of (HCALL.out _)))
       go_wp2
       go_roundw
       case rel => exact ⟨i, h, rfl, rfl, hai, hhi, by omega, Lib.hid (HSk.out.drewN _), HLo, Lib.hid (fun q h3 h4 => high_all hL H2.out (by omega) (by rw [← HX.out, ← HY.out]; exact HL.out) q h3 h4)⟩
       case measure => simp [intOf]; omega
   · obtain rfl : i = j := by omega
     go_wp2
     go_loopw [13] (fun vk wr2 => ∃ (k : Nat) (dk : Array α), vk = .int .i64 k ∧ a ≤ k ∧ k ≤ i - 1 ∧ dk.size = d.size ∧ Hid (SBo enc w0 g 42 rest pre o dk wr2) ∧ Hid (∀ q, dk[q]! = shlF d a k q) ∧ Hid (PermIn a b d dk)) (fun vk _ => i - (intOf vk).toNat)
     case atStart => exact ⟨a, d, rfl, Nat.le_refl _, by omega, rfl, HSk, Lib.hid (fun q => (shlF_zero d a q).symm), Lib.hid (permIn_refl _ _ _)⟩
     case round =>
       obtain ⟨k, dk, rfl, hak, hki, hsk, HSk2, HR, HP⟩ := hrel
       clear HSk
       by_cases hk : k < i - 1
       · have hc1 := HSk2.out.cell k (by omega)
         have hc2 := HSk2.out.cell (k + 1) (by omega)
         have hf1 := HSk2.out.free k
         have hf2 := HSk2.out.free (k + 1)
         obtain ⟨X, hX⟩ : ∃ X, X = dk[k]! := ⟨_, rfl⟩
         obtain ⟨Y, hY⟩ : ∃ Y, Y = dk[k + 1]! := ⟨_, rfl⟩
         rw [← hX] at hc1
         rw [← hY] at hc2
         have HX := Lib.hid hX
         have HY := Lib.hid hY
         obtain ⟨x, hx⟩ := hE X
         obtain ⟨y, hy⟩ := hE Y
         rw [hx] at hc1
         rw [hy] at hc2
         have HEx := Lib.hid hx
         have HEy := Lib.hid hy
         clear hx hy hX hY
         have hj1 : ((k : Int) + 1).toNat = k + 1 := by omega
         have hb1 : (k : Int) < (d.size : Int) := by omega
         have hb2 : (k : Int) + 1 < (d.size : Int) := by omega
         go_wp2
         go_region
         all_goals go_wp2
         go_roundw
         case rel =>
           refine ⟨k + 1, swp dk k (k + 1), by go_num, by omega, by omega, by rw [size_swp]; exact hsk, ?_, Lib.hid (shlF_step d dk a k hak (by omega) HR.out), Lib.hid (permIn_trans _ _ _ _ _ HP.out (swp_permIn dk a b k (k + 1) (by omega) (by omega) (by omega) (by omega) (by omega)))⟩
           have hw := HSk2.out.swp k (k + 1) (by omega) (by omega) 1
           rw [← HX.out, ← HY.out, HEx.out, HEy.out] at hw
           exact Lib.hid hw
         case measure => simp [intOf]; omega
       · obtain rfl : k = i - 1 := by omega
         go_wp2
         go_end0
         exact ⟨rfl, dk, hsk, HSk2.out, HP.out, left_done hL d dk a b i (by omega) hjb (by rw [← hm]; exact H2.out) (by rw [← hm]; exact HLo.out) HHi.out HR.out⟩
theorem sym_rightN {α : Type} [Inhabited α] (enc : α → Value) (hE : ∀ x, ∃ n, enc x = .pointer n) (cf : α → α → Int) (lt : α → α → Bool) (hL : SWO lt) (D : α → Prop) (f : FuncId) (cb : Array Value) (g cap a m b : Nat) (rest pre : List Value) (o : Nat) (d : Array α) (w0 w : World)
   (hC : CmpQ Try.prog f cb enc cf D w0 g) (hS : SBo enc w0 g 42 rest pre o d w) (hD : ∀ i, i < d.size → D d[i]!) (ham : a + 1 < m) (hbm : b = m + 1) (hb : b ≤ d.size) (hsz : d.size < 4611686018427387904)
   (h1 : SortedIn lt a m d) (hA : Agree (ltOf cf) lt d a m b) :
   Calls Try.prog 48 #[.slice (some ⟨g, o, none⟩) d.size cap, .int .i64 a, .int .i64 m, .int .i64 b, .func (.func f) #[] cb] w fun e w' => MergePN enc lt g a b rest pre o d w0 e w' := by
 have eg := hC.enters
 have HC := Lib.hid hC
 have HS := Lib.hid hS
 have HD := Lib.hid hD
 have H1 := Lib.hid h1
 have HA := Lib.hid hA
 clear hC hS hD h1 hA
 have hne : ((m : Int) - (a : Int) == 1) = false := by rw [beq_eq_false_iff_ne]; omega
 have heq : ((b : Int) - (m : Int) == 1) = true := by rw [beq_iff_eq]; omega
 go_enter Try.func48, Try.ntmps48
 go_wp2
 go_loopw [14, 15] (fun vi vj wr => ∃ (i j : Nat), vi = .int .i64 i ∧ vj = .int .i64 j ∧ a ≤ i ∧ i ≤ j ∧ j ≤ m ∧ Hid (SBo enc w0 g 42 rest pre o d wr) ∧ Hid (∀ q, a ≤ q → q < i → lt d[m]! d[q]! = false) ∧ Hid (∀ q, j ≤ q → q < m → lt d[m]! d[q]! = true)) (fun vi vj _ => (intOf vj).toNat - (intOf vi).toNat)
 case atStart => exact ⟨a, m, rfl, rfl, Nat.le_refl _, by omega, Nat.le_refl _, HS, Lib.hid (fun q h1 h2 => by omega), Lib.hid (fun q h1 h2 => by omega)⟩
 case round =>
   obtain ⟨i, j, rfl, rfl, hai, hij, hjb, HSk, HLo, HHi⟩ := hrel
   clear HS
   by_cases hlt : i < j
   · obtain ⟨h, hh⟩ : ∃ h, h = (i + j) / 2 := ⟨_, rfl⟩
     have hc1 := HSk.out.cell m (by omega)
     have hc2 := HSk.out.cell h (by omega)
     have hcall := fun q => HC.out.calls (wr.drewN q) (HSk.out.drewN q).grown d[m]! d[h]! (HD.out m (by omega)) (HD.out h (by omega))
     have hag := HA.out h m (by omega) (by omega) (by omega) (by omega)
     obtain ⟨X, hX⟩ : ∃ X, X = d[m]! := ⟨_, rfl⟩
     obtain ⟨Y, hY⟩ : ∃ Y, Y = d[h]! := ⟨_, rfl⟩
     rw [← hX] at hc1 hcall hag
     rw [← hY] at hc2 hcall hag
     have HX := Lib.hid hX
     have HY := Lib.hid hY
     obtain ⟨x, hx⟩ := hE X
     obtain ⟨y, hy⟩ := hE Y
     rw [hx] at hc1 hcall
     rw [hy] at hc2 hcall
     have HCALL := Lib.hid hcall
     have HAG := Lib.hid hag
     clear hcall hx hy hX hY hag
     have hh1 : ((i : Int) + (j : Int)) / 2 = (h : Int) := by omega
     have hhb : (h : Int) < (d.size : Int) := by omega
     have hmd : (m : Int) < (d.size : Int) := by omega
     have hhi : i ≤ h := by omega
     have hhj : h < j := by omega
     clear hh
     by_cases hcf : cf X Y < 0
     · have hl : lt X Y = true := by rw [← HAG.out]; simpa [ltOf] using hcf
       have HL := Lib.hid hl
       have hcf2 : cf X Y < 0 := hcf
       have hcfB : decide (cf X Y < 0) = true := by rw [decide_eq_true_iff]; exact hcf
       clear hl hcf
       go_wp2_with fail
       go_quiet ((refine Calls.quiet_of (HCALL.out _)))
       go_wp2
       go_roundw
       case rel => exact ⟨i, h, rfl, rfl, hai, hhi, by omega, Lib.hid (HSk.out.drewN _), HLo, Lib.hid (fun q h3 h4 => high_all' hL H1.out (by omega) (by rw [← HX.out, ← HY.out]; exact HL.out) q h3 h4)⟩
       case measure => simp [intOf]; omega
     · have hl : lt X Y = false := by rw [← HAG.out]; simpa [ltOf] using hcf
       have HL := Lib.hid hl
       have hcf2 : 0 ≤ cf X Y := by omega
       have hcfB : decide (cf X Y < 0) = false := by rw [decide_eq_false_iff_not]; omega
       clear hl hcf
       go_wp2_with fail
       go_quiet ((refine Calls.quiet_of (HCALL.out _)))
       go_wp2
       go_roundw
       case rel => exact ⟨h + 1, j, by go_num, rfl, by omega, by omega, hjb, Lib.hid (HSk.out.drewN _), Lib.hid (fun q h3 h4 => low_all' hL H1.out (by omega : h < m) (by rw [← HX.out, ← HY.out]; exact HL.out) q h3 (by omega)), HHi⟩
       case measure => simp [intOf]; omega
   · obtain rfl : i = j := by omega
     go_wp2
     go_loopw [17] (fun vk wr2 => ∃ (k : Nat) (dk : Array α), vk = .int .i64 k ∧ i ≤ k ∧ k ≤ m ∧ dk.size = d.size ∧ Hid (SBo enc w0 g 42 rest pre o dk wr2) ∧ Hid (∀ q, dk[q]! = shrF d m k q) ∧ Hid (PermIn a b d dk)) (fun vk _ => (intOf vk).toNat)
     case atStart => exact ⟨m, d, rfl, hjb, Nat.le_refl _, rfl, HSk, Lib.hid (fun q => (shrF_zero d m q).symm), Lib.hid (permIn_refl _ _ _)⟩
     case round =>
       obtain ⟨k, dk, rfl, hik, hkm, hsk, HSk2, HR, HP⟩ := hrel
       clear HSk
       by_cases hk : i < k
       · obtain ⟨u, rfl⟩ : ∃ u, k = u + 1 := ⟨k - 1, by omega⟩
         have hc1 := HSk2.out.cell (u + 1) (by omega)
         have hc2 := HSk2.out.cell u (by omega)
         have hf1 := HSk2.out.free (u + 1)
         have hf2 := HSk2.out.free u
         obtain ⟨X, hX⟩ : ∃ X, X = dk[u + 1]! := ⟨_, rfl⟩
         obtain ⟨Y, hY⟩ : ∃ Y, Y = dk[u]! := ⟨_, rfl⟩
         rw [← hX] at hc1
         rw [← hY] at hc2
         have HX := Lib.hid hX
         have HY := Lib.hid hY
         obtain ⟨x, hx⟩ := hE X
         obtain ⟨y, hy⟩ := hE Y
         rw [hx] at hc1
         rw [hy] at hc2
         have HEx := Lib.hid hx
         have HEy := Lib.hid hy
         clear hx hy hX hY
         have hj1 : ((u : Int) + 1).toNat = u + 1 := by omega
         have hj2 : ((u : Int) + 1 - 1) = u := by omega
         have hb1 : (u : Int) < (d.size : Int) := by omega
         have hb2 : (u : Int) + 1 < (d.size : Int) := by omega
         go_wp2
         go_region
         all_goals go_wp2
         go_roundw
         case rel =>
           refine ⟨u, swp dk (u + 1) u, by go_num, by omega, by omega, by rw [size_swp]; exact hsk, ?_, Lib.hid (shrF_step d dk m u (by omega) (by omega) HR.out), Lib.hid (permIn_trans _ _ _ _ _ HP.out (swp_permIn dk a b (u + 1) u (by omega) (by omega) (by omega) (by omega) (by omega)))⟩
           have hw := HSk2.out.swp (u + 1) u (by omega) (by omega) 1
           rw [← HX.out, ← HY.out, HEx.out, HEy.out] at hw
           exact Lib.hid hw
         case measure => simp [intOf]
       · obtain rfl : i = k := by omega
         go_wp2
         go_end0
         refine ⟨rfl, dk, hsk, HSk2.out, HP.out, ?_⟩
         rw [hbm]
         exact right_done hL d dk a m i hai hjb H1.out HLo.out HHi.out HR.out
def MergeSaidN {α : Type} [Inhabited α] (enc : α → Value) (cf : α → α → Int) (lt : α → α → Bool) (D : α → Prop) (f : FuncId) (cb : Array Value) (g cap : Nat) (rest pre : List Value) (o : Nat) (n : Nat) (w0 : World) (N : Nat) : Prop :=
 ∀ (a m b : Nat) (d : Array α) (w : World), b - a ≤ N → d.size = n → SBo enc w0 g 42 rest pre o d w → (∀ i, i < d.size → D d[i]!) → a < m → m < b → b ≤ n → SortedIn lt a m d → SortedIn lt m b d → Agree (ltOf cf) lt d a m b →
   Calls Try.prog 48 #[.slice (some ⟨g, o, none⟩) n cap, .int .i64 a, .int .i64 m, .int .i64 b, .func (.func f) #[] cb] w fun e w' => MergePN enc lt g a b rest pre o d w0 e w'
def FinSaidN {α : Type} [Inhabited α] (enc : α → Value) (lt : α → α → Bool) (f : FuncId) (cb : Array Value) (g cap : Nat) (rest pre : List Value) (o : Nat) (n : Nat) (w0 : World) (a m b mid s0 r0 : Nat) (d : Array α) : Prop :=
 ∀ (s : Nat) (wr : World), s0 ≤ s → s ≤ r0 → SBo enc w0 g 42 rest pre o d wr → (s0 < s → lt d[mid + m - s]! d[s - 1]! = false) → (s < r0 → lt d[mid + m - s - 1]! d[s]! = true) →
     ∃ e, e = mid + m - s ∧ m ≤ e ∧ e ≤ b ∧ mid ≤ e ∧ s + (e - m) = mid ∧
     (s < m → m < e → Calls Try.prog 59 #[.slice (some ⟨g, o, none⟩) n cap, .int .i64 s, .int .i64 m, .int .i64 e, .func (.func f) #[] cb] wr fun e1 w' => e1 = .returned (.tuple #[]) ∧ ∃ R : Array α, R.size = n ∧ SBo enc w0 g 42 rest pre o R w' ∧ (∀ k, R[k]! = rotF d s m e k) ∧ PermIn a b d R) ∧
     (∀ (R : Array α) (W : World), R.size = n → SBo enc w0 g 42 rest pre o R W → (∀ k, R[k]! = rotF d s m e k) → PermIn a b d R → a < s → s < mid → Calls Try.prog 48 #[.slice (some ⟨g, o, none⟩) n cap, .int .i64 a, .int .i64 s, .int .i64 mid, .func (.func f) #[] cb] W fun e1 w' => MergePN enc lt g a mid rest pre o R w0 e1 w') ∧
     (∀ (R R1 : Array α) (W : World), R.size = n → R1.size = n → SBo enc w0 g 42 rest pre o R1 W → (∀ k, R[k]! = rotF d s m e k) → PermIn a b d R → PermIn a mid R R1 → mid < e → e < b → Calls Try.prog 48 #[.slice (some ⟨g, o, none⟩) n cap, .int .i64 mid, .int .i64 e, .int .i64 b, .func (.func f) #[] cb] W fun e1 w' => MergePN enc lt g mid b rest pre o R1 w0 e1 w') ∧
     (∀ R : Array α, (∀ k, R[k]! = rotF d s m e k) → (s = a ∨ s = mid) → SortedIn lt a mid R) ∧
     (∀ R R1 : Array α, (∀ k, R[k]! = rotF d s m e k) → PermIn a mid R R1 → (e = mid ∨ e = b) → SortedIn lt mid b R1) ∧
     (∀ R R1 R2 : Array α, R.size = n → (∀ k, R[k]! = rotF d s m e k) → PermIn a b d R → PermIn a mid R R1 → SortedIn lt a mid R1 → PermIn mid b R1 R2 → SortedIn lt mid b R2 → PermIn a b d R2 ∧ SortedIn lt a b R2)
theorem sym_finN {α : Type} [Inhabited α] (enc : α → Value) (hE : ∀ x, ∃ n, enc x = .pointer n) (cf : α → α → Int) (lt : α → α → Bool) (hL : SWO lt) (D : α → Prop) (f : FuncId) (cb : Array Value) (g cap : Nat) (rest pre : List Value) (o : Nat) (n : Nat) (w0 : World) (N : Nat)
   (hsz : n < 4611686018427387904) (ih : MergeSaidN enc cf lt D f cb g cap rest pre o n w0 N)
   (a m b mid s0 r0 : Nat) (d : Array α) (hN : b - a ≤ N + 1) (hdn : d.size = n) (hD : ∀ i, i < d.size → D d[i]!) (hb : b ≤ n) (h1 : SortedIn lt a m d) (h2 : SortedIn lt m b d) (hA : Agree (ltOf cf) lt d a m b)
   (hma : a < mid) (hmB : mid < b) (hs0a : a ≤ s0) (hr0m : r0 ≤ m) (hr0d : r0 ≤ mid) (hs0b : mid + m - s0 ≤ b) (hend0 : s0 = a ∨ mid + m - s0 = b) (hend1 : r0 = m ∨ r0 = mid) : FinSaidN enc lt f cb g cap rest pre o n w0 a m b mid s0 r0 d := by
 have HD := Lib.hid hD
 have H1 := Lib.hid h1
 have H2 := Lib.hid h2
 have HA := Lib.hid hA
 have HI := Lib.hid ih
 clear hD h1 h2 hA ih
 intro s wr h3 h4 hSB h5 h6
 refine ⟨mid + m - s, rfl, by omega, by omega, by omega, by omega, ?_, ?_, ?_, ?_, ?_, ?_⟩
 · intro h7 h8
   have h9 := rot_anyN enc hE (.func (.func f) #[] cb) g cap s m (mid + m - s) rest pre o d w0 wr hSB h7 h8 (by omega) (by omega)
   rw [hdn] at h9
   exact h9.mono fun e1 w' ⟨q1, R, q2, q3, q4, q5⟩ => ⟨q1, R, q2, q3, q4, permIn_mono d R s (mid + m - s) a b (by omega) (by omega) (by omega) q5⟩
 · intro R W hR1 hR2 hR3 hR4 h7 h8
   refine HI.out a s mid R W (by omega) hR1 hR2 (all_perm D (by omega) hR4 HD.out) h7 h8 (by omega) (sp1 hR3 (by omega) (by omega) H1.out) ?_ ?_
   · have := sp2 hR3 (by omega) (by omega) (by omega) H2.out
     rwa [show s + (mid + m - s - m) = mid from by omega] at this
   · have := agree_lo hR3 (a := a) (by omega) (by omega) (by omega : mid + m - s ≤ b) HA.out
     rwa [show s + (mid + m - s - m) = mid from by omega] at this
 · intro R R1 W hR1 hR2 hR3 hR4 hR5 hR6 h7 h8
   have hc : ∀ k, mid ≤ k → R1[k]! = R[k]! := fun k hk => hR6.2.1 k (by omega)
   refine HI.out mid (mid + m - s) b R1 W (by omega) hR2 hR3 (all_perm D (by omega) hR6 (all_perm D (by omega) hR5 HD.out)) h7 h8 hb ?_ ?_ ?_
   · have := sp3 hR4 (a := a) (by omega) (by omega) (by omega) H1.out
     rw [show s + (mid + m - s - m) = mid from by omega] at this
     exact sorted_congr this (fun k h9 _ => hc k h9)
   · exact sorted_congr (sp4 hR4 (by omega) (by omega) (by omega) H2.out) (fun k h9 _ => hc k (by omega))
   · have := agree_hi hR4 (b := b) (by omega : a ≤ s) (by omega) (by omega) HA.out
     rw [show s + (mid + m - s - m) = mid from by omega] at this
     exact agree_congr this (fun k h9 _ => hc k h9)
 · intro R hR h7
   have := skip_lo hR (by omega : a ≤ s) (by omega) (by omega) (by omega : mid + m - s ≤ b) H1.out H2.out (by omega)
   rwa [show s + (mid + m - s - m) = mid from by omega] at this
 · intro R R1 hR hP h7
   have := skip_hi hR (by omega : a ≤ s) (by omega) (by omega) (by omega : mid + m - s ≤ b) H1.out H2.out (by omega)
   rw [show s + (mid + m - s - m) = mid from by omega] at this
   exact sorted_congr this (fun k h9 _ => hP.2.1 k (by omega))
 · intro R R1 R2 hR1 hR hP p1 s1 p2 s2
   have hm2 : s + (mid + m - s - m) = mid := by omega
   refine ⟨permIn_trans _ _ _ _ _ (permIn_trans _ _ _ _ _ hP (permIn_mono R R1 a mid a b (by omega) (by omega) (by omega) p1)) (permIn_mono R1 R2 mid b a b (by omega) (by omega) (by have := p1.1; omega) p2), ?_⟩
   refine merge_done hL d R R1 R2 a m b s (mid + m - s) (by omega) (by omega) (by omega) (by omega) (by omega) (by omega) H1.out H2.out hR (fun q1 q2 => h5 (by omega)) (fun q1 q2 => ?_) (by rw [hm2]; exact p1) (by rw [hm2]; exact s1) (by rw [hm2]; exact p2) (by rw [hm2]; exact s2)
   have h8 := h6 (by omega)
   cases h9 : lt d[s]! d[mid + m - s - 1]! with
   | false => rfl
   | true => have := hL.trans _ _ _ h8 h9; rw [hL.irrefl] at this; cases this
theorem sym_hiN {α : Type} [Inhabited α] (enc : α → Value) (hE : ∀ x, ∃ n, enc x = .pointer n) (cf : α → α → Int) (lt : α → α → Bool) (D : α → Prop) (f : FuncId) (cb : Array Value) (g cap : Nat) (rest pre : List Value) (o : Nat) (n : Nat) (w0 : World)
   (hC : CmpQ Try.prog f cb enc cf D w0 g) (hsz : n < 4611686018427387904) (a m b mid s0 r0 : Nat) (d : Array α) (w : World) (hdn : d.size = n) (hS : SBo enc w0 g 42 rest pre o d w) (hD : ∀ i, i < d.size → D d[i]!) (ham : a + 1 < m) (hmb : m + 1 < b) (hb : b ≤ n) (hA : Agree (ltOf cf) lt d a m b)
   (hmid : mid = (a + b) / 2) (hcase : mid < m) (hs0 : s0 = mid + m - b) (hr0 : r0 = mid) (hfin : FinSaidN enc lt f cb g cap rest pre o n w0 a m b mid s0 r0 d) :
   Calls Try.prog 48 #[.slice (some ⟨g, o, none⟩) n cap, .int .i64 a, .int .i64 m, .int .i64 b, .func (.func f) #[] cb] w fun e w' => MergePN enc lt g a b rest pre o d w0 e w' := by
 have hne1 : ((m : Int) - (a : Int) == 1) = false := by rw [beq_eq_false_iff_ne]; omega
 have hne2 : ((b : Int) - (m : Int) == 1) = false := by rw [beq_eq_false_iff_ne]; omega
 have hmid1 : ((a : Int) + (b : Int)) / 2 = (mid : Int) := by omega
 have hma : a < mid := by omega
 have hmB : mid < b := by omega
 have hsr : s0 ≤ r0 := by omega
 have hs0a : a ≤ s0 := by omega
 have hr0m : r0 ≤ m := by omega
 have hr0d : r0 ≤ mid := by omega
 have hs0b : mid + m - s0 ≤ b := by omega
 have hend0 : s0 = a ∨ mid + m - s0 = b := by omega
 have hend1 : r0 = m ∨ r0 = mid := by omega
 have eg := hC.enters
 have HC := Lib.hid hC
 have HS := Lib.hid hS
 have HD := Lib.hid hD
 have HA := Lib.hid hA
 have HS0 := Lib.hid hs0
 have HR0 := Lib.hid hr0
 have FIN := Lib.hid hfin
 clear hC hS hD hA hs0 hr0 hmid hfin
 go_enter Try.func48, Try.ntmps48
 go_wp2
 go_loopw [20, 21] (fun vs vr wr => ∃ (s r : Nat), vs = .int .i64 s ∧ vr = .int .i64 r ∧ s0 ≤ s ∧ s ≤ r ∧ r ≤ r0 ∧ Hid (SBo enc w0 g 42 rest pre o d wr) ∧ Hid (s0 < s → lt d[mid + m - s]! d[s - 1]! = false) ∧ Hid (r < r0 → lt d[mid + m - r - 1]! d[r]! = true)) (fun vs vr _ => (intOf vr).toNat - (intOf vs).toNat)
 case atStart => exact ⟨s0, r0, by have := HS0.out; go_num, by have := HR0.out; go_num, Nat.le_refl _, hsr, Nat.le_refl _, HS, Lib.hid (fun h => absurd h (Nat.lt_irrefl _)), Lib.hid (fun h => absurd h (Nat.lt_irrefl _))⟩
 case round =>
   obtain ⟨s, r, rfl, rfl, h3, h4, h5, HSk, HLo, HHi⟩ := hrel
   clear HS
   by_cases hlt : s < r
   · obtain ⟨c, hc⟩ : ∃ c, c = (s + r) / 2 := ⟨_, rfl⟩
     have hc1 := HSk.out.cell (mid + m - 1 - c) (by omega)
     have hc2 := HSk.out.cell c (by omega)
     have hcall := fun q => HC.out.calls (wr.drewN q) (HSk.out.drewN q).grown d[mid + m - 1 - c]! d[c]! (HD.out (mid + m - 1 - c) (by omega)) (HD.out c (by omega))
     have hag := HA.out c (mid + m - 1 - c) (by omega) (by omega) (by omega) (by omega)
     obtain ⟨X, hX⟩ : ∃ X, X = d[mid + m - 1 - c]! := ⟨_, rfl⟩
     obtain ⟨Y, hY⟩ : ∃ Y, Y = d[c]! := ⟨_, rfl⟩
     rw [← hX] at hc1 hcall hag
     rw [← hY] at hc2 hcall hag
     have HX := Lib.hid hX
     have HY := Lib.hid hY
     obtain ⟨x, hx⟩ := hE X
     obtain ⟨y, hy⟩ := hE Y
     rw [hx] at hc1 hcall
     rw [hy] at hc2 hcall
     have HCALL := Lib.hid hcall
     have HAG := Lib.hid hag
     clear hcall hx hy hX hY hag
     have hh1 : ((s : Int) + (r : Int)) / 2 = (c : Int) := by omega
     have hidx : ((mid : Int) + (m : Int) - 1 - (c : Int)).toNat = mid + m - 1 - c := by omega
     have hi0 : 0 ≤ (mid : Int) + (m : Int) - 1 - (c : Int) := by omega
     have hi1 : (mid : Int) + (m : Int) - 1 - (c : Int) < (n : Int) := by omega
     have hcn : (c : Int) < (n : Int) := by omega
     have hhi : s ≤ c := by omega
     have hhj : c < r := by omega
     clear hc
     by_cases hcf : cf X Y < 0
     · have hl : lt X Y = true := by rw [← HAG.out]; simpa [ltOf] using hcf
       have HL := Lib.hid hl
       have hcf2 : cf X Y < 0 := hcf
       have hcfB : decide (cf X Y < 0) = true := by rw [decide_eq_true_iff]; exact hcf
       clear hl hcf
       go_wp2_with fail
       go_quiet ((refine Calls.quiet_of (HCALL.out _)))
       go_wp2
       go_roundw
       case rel => exact ⟨s, c, rfl, rfl, h3, hhi, by omega, Lib.hid (HSk.out.drewN _), HLo, Lib.hid (fun _ => by rw [show mid + m - c - 1 = mid + m - 1 - c from by omega, ← HX.out, ← HY.out]; exact HL.out)⟩
       case measure => simp [intOf]; omega
     · have hl : lt X Y = false := by rw [← HAG.out]; simpa [ltOf] using hcf
       have HL := Lib.hid hl
       have hcf2 : 0 ≤ cf X Y := by omega
       have hcfB : decide (cf X Y < 0) = false := by rw [decide_eq_false_iff_not]; omega
       clear hl hcf
       go_wp2_with fail
       go_quiet ((refine Calls.quiet_of (HCALL.out _)))
       go_wp2
       go_roundw
       case rel => exact ⟨c + 1, r, by go_num, rfl, by omega, by omega, h5, Lib.hid (HSk.out.drewN _), Lib.hid (fun _ => by rw [show mid + m - (c + 1) = mid + m - 1 - c from by omega, Nat.add_sub_cancel, ← HX.out, ← HY.out]; exact HL.out), HHi⟩
       case measure => simp [intOf]; omega
   · obtain rfl : s = r := by omega
     obtain ⟨e, he, hme, heb, hde, hsum, FROT, FS1, FS2, FK1, FK2, FD⟩ := FIN.out s wr h3 h5 HSk.out HLo.out HHi.out
     have he1 : (mid : Int) + (m : Int) - (s : Int) = (e : Int) := by omega
     replace FROT := Lib.hid FROT
     replace FS1 := Lib.hid FS1
     replace FS2 := Lib.hid FS2
     replace FK1 := Lib.hid FK1
     replace FK2 := Lib.hid FK2
     replace FD := Lib.hid FD
     clear he
     by_cases hA1 : s < m
     · by_cases hB1 : m < e
       · by_cases hC1 : a < s
         · by_cases hE1 : e < b
           · have hq0 : (s : Int) < (mid : Int) := by omega
             have hq1 : (mid : Int) < (e : Int) := by omega
             have HROT := Lib.hid (FROT.out (by omega) (by omega))
             go_wp2_with fail
             (with_reducible refine HROT.out.mono ?_)
             rintro e1 w2 ⟨rfl, R, hRs, hRB, hRk, hRp⟩
             have HB2 := Lib.hid hRB
             have HRK := Lib.hid hRk
             have HRP := Lib.hid hRp
             clear hRB hRk hRp
             have hs1 := FS1.out R w2 hRs HB2.out HRK.out HRP.out (by omega) (by omega)
             have HS1C := Lib.hid hs1
             clear hs1
             go_wp2_with fail
             (with_reducible refine HS1C.out.mono ?_)
             rintro e2 w3 ⟨rfl, R1, hR1s', hR1B, hR1p, hR1o⟩
             have hR1s : R1.size = n := hR1s'.trans hRs
             have HB3 := Lib.hid hR1B
             have HP1 := Lib.hid hR1p
             have HO1 := Lib.hid hR1o
             clear hR1s' hR1B hR1p hR1o
             have hs2 := FS2.out R R1 w3 hRs hR1s HB3.out HRK.out HRP.out HP1.out (by omega) (by omega)
             have HS2C := Lib.hid hs2
             clear hs2
             go_wp2_with fail
             (with_reducible refine HS2C.out.mono ?_)
             rintro e3 w4 ⟨rfl, R2, hR2s', hR2B, hR2p, hR2o⟩
             have hR2s : R2.size = n := hR2s'.trans hR1s
             have HB4 := Lib.hid hR2B
             have HP2 := Lib.hid hR2p
             have HO2 := Lib.hid hR2o
             clear hR2s' hR2B hR2p hR2o
             go_wp2
             all_goals go_end0
             all_goals exact ⟨rfl, R2, hR2s.trans hdn.symm, HB4.out, FD.out R R1 R2 hRs HRK.out HRP.out HP1.out HO1.out HP2.out HO2.out⟩
           · have hq0 : (s : Int) < (mid : Int) := by omega
             have hq1 : (mid : Int) < (e : Int) := by omega
             have hq2 : (b : Int) ≤ (e : Int) := by omega
             have HROT := Lib.hid (FROT.out (by omega) (by omega))
             go_wp2_with fail
             (with_reducible refine HROT.out.mono ?_)
             rintro e1 w2 ⟨rfl, R, hRs, hRB, hRk, hRp⟩
             have HB2 := Lib.hid hRB
             have HRK := Lib.hid hRk
             have HRP := Lib.hid hRp
             clear hRB hRk hRp
             have hs1 := FS1.out R w2 hRs HB2.out HRK.out HRP.out (by omega) (by omega)
             have HS1C := Lib.hid hs1
             clear hs1
             go_wp2_with fail
             (with_reducible refine HS1C.out.mono ?_)
             rintro e2 w3 ⟨rfl, R1, hR1s', hR1B, hR1p, hR1o⟩
             have hR1s : R1.size = n := hR1s'.trans hRs
             have HB3 := Lib.hid hR1B
             have HP1 := Lib.hid hR1p
             have HO1 := Lib.hid hR1o
             clear hR1s' hR1B hR1p hR1o
             have hR2s : R1.size = n := hR1s
             have HB4 := Lib.hid HB3.out
             have HP2 := Lib.hid (permIn_refl R1 mid b)
             have HO2 := Lib.hid (FK2.out R R1 HRK.out HP1.out (by omega))
             go_wp2
             all_goals go_end0
             all_goals exact ⟨rfl, R1, hR2s.trans hdn.symm, HB4.out, FD.out R R1 R1 hRs HRK.out HRP.out HP1.out HO1.out HP2.out HO2.out⟩
         · by_cases hE1 : e < b
           · have hq0 : (s : Int) < (mid : Int) := by omega
             have hq1 : (mid : Int) < (e : Int) := by omega
             have hq2 : (s : Int) ≤ (a : Int) := by omega
             have HROT := Lib.hid (FROT.out (by omega) (by omega))
             go_wp2_with fail
             (with_reducible refine HROT.out.mono ?_)
             rintro e1 w2 ⟨rfl, R, hRs, hRB, hRk, hRp⟩
             have HB2 := Lib.hid hRB
             have HRK := Lib.hid hRk
             have HRP := Lib.hid hRp
             clear hRB hRk hRp
             have hR1s : R.size = n := hRs
             have HB3 := Lib.hid HB2.out
             have HP1 := Lib.hid (permIn_refl R a mid)
             have HO1 := Lib.hid (FK1.out R HRK.out (by omega))
             have hs2 := FS2.out R R w2 hRs hR1s HB3.out HRK.out HRP.out HP1.out (by omega) (by omega)
             have HS2C := Lib.hid hs2
             clear hs2
             go_wp2_with fail
             (with_reducible refine HS2C.out.mono ?_)
             rintro e3 w4 ⟨rfl, R2, hR2s', hR2B, hR2p, hR2o⟩
             have hR2s : R2.size = n := hR2s'.trans hR1s
             have HB4 := Lib.hid hR2B
             have HP2 := Lib.hid hR2p
             have HO2 := Lib.hid hR2o
             clear hR2s' hR2B hR2p hR2o
             go_wp2
             all_goals go_end0
             all_goals exact ⟨rfl, R2, hR2s.trans hdn.symm, HB4.out, FD.out R R R2 hRs HRK.out HRP.out HP1.out HO1.out HP2.out HO2.out⟩
           · have hq0 : (s : Int) < (mid : Int) := by omega
             have hq1 : (mid : Int) < (e : Int) := by omega
             have hq2 : (s : Int) ≤ (a : Int) := by omega
             have hq3 : (b : Int) ≤ (e : Int) := by omega
             have HROT := Lib.hid (FROT.out (by omega) (by omega))
             go_wp2_with fail
             (with_reducible refine HROT.out.mono ?_)
             rintro e1 w2 ⟨rfl, R, hRs, hRB, hRk, hRp⟩
             have HB2 := Lib.hid hRB
             have HRK := Lib.hid hRk
             have HRP := Lib.hid hRp
             clear hRB hRk hRp
             have hR1s : R.size = n := hRs
             have HB3 := Lib.hid HB2.out
             have HP1 := Lib.hid (permIn_refl R a mid)
             have HO1 := Lib.hid (FK1.out R HRK.out (by omega))
             have hR2s : R.size = n := hR1s
             have HB4 := Lib.hid HB3.out
             have HP2 := Lib.hid (permIn_refl R mid b)
             have HO2 := Lib.hid (FK2.out R R HRK.out HP1.out (by omega))
             go_wp2
             all_goals go_end0
             all_goals exact ⟨rfl, R, hR2s.trans hdn.symm, HB4.out, FD.out R R R hRs HRK.out HRP.out HP1.out HO1.out HP2.out HO2.out⟩
       · have hq0 : (e : Int) ≤ (m : Int) := by omega
         have hq1 : (mid : Int) ≤ (s : Int) := by omega
         have hq2 : (a : Int) < (s : Int) := by omega
         have hq3 : (e : Int) < (b : Int) := by omega
         have hq4 : (mid : Int) < (e : Int) := by omega
         have hRs : d.size = n := hdn
         have HB2 := Lib.hid HSk.out
         have HRK := Lib.hid (rot_none d s m e (by omega) (by omega) (by omega))
         have HRP := Lib.hid (permIn_refl d a b)
         have hR1s : d.size = n := hRs
         have HB3 := Lib.hid HB2.out
         have HP1 := Lib.hid (permIn_refl d a mid)
         have HO1 := Lib.hid (FK1.out d HRK.out (by omega))
         have hs2 := FS2.out d d wr hRs hR1s HB3.out HRK.out HRP.out HP1.out (by omega) (by omega)
         have HS2C := Lib.hid hs2
         clear hs2
         go_wp2_with fail
         all_goals
           (with_reducible refine HS2C.out.mono ?_)
           rintro e3 w4 ⟨rfl, R2, hR2s', hR2B, hR2p, hR2o⟩
           have hR2s : R2.size = n := hR2s'.trans hR1s
           have HB4 := Lib.hid hR2B
           have HP2 := Lib.hid hR2p
           have HO2 := Lib.hid hR2o
           clear hR2s' hR2B hR2p hR2o
           go_wp2
           all_goals go_end0
           all_goals exact ⟨rfl, R2, hR2s.trans hdn.symm, HB4.out, FD.out d d R2 hRs HRK.out HRP.out HP1.out HO1.out HP2.out HO2.out⟩
     · by_cases hB1 : m < e
       · have hq0 : (m : Int) ≤ (s : Int) := by omega
         have hq1 : (s : Int) < (mid : Int) := by omega
         have hq2 : (a : Int) < (s : Int) := by omega
         have hq3 : (e : Int) < (b : Int) := by omega
         have hq4 : (e : Int) ≤ (mid : Int) := by omega
         have hRs : d.size = n := hdn
         have HB2 := Lib.hid HSk.out
         have HRK := Lib.hid (rot_none d s m e (by omega) (by omega) (by omega))
         have HRP := Lib.hid (permIn_refl d a b)
         have hs1 := FS1.out d wr hRs HB2.out HRK.out HRP.out (by omega) (by omega)
         have HS1C := Lib.hid hs1
         clear hs1
         go_wp2_with fail
         all_goals
           (with_reducible refine HS1C.out.mono ?_)
           rintro e2 w3 ⟨rfl, R1, hR1s', hR1B, hR1p, hR1o⟩
           have hR1s : R1.size = n := hR1s'.trans hRs
           have HB3 := Lib.hid hR1B
           have HP1 := Lib.hid hR1p
           have HO1 := Lib.hid hR1o
           clear hR1s' hR1B hR1p hR1o
           have hR2s : R1.size = n := hR1s
           have HB4 := Lib.hid HB3.out
           have HP2 := Lib.hid (permIn_refl R1 mid b)
           have HO2 := Lib.hid (FK2.out d R1 HRK.out HP1.out (by omega))
           go_wp2
           all_goals go_end0
           all_goals exact ⟨rfl, R1, hR2s.trans hdn.symm, HB4.out, FD.out d R1 R1 hRs HRK.out HRP.out HP1.out HO1.out HP2.out HO2.out⟩
       · have hq0 : (m : Int) ≤ (s : Int) := by omega
         have hq1 : (e : Int) ≤ (m : Int) := by omega
         have hq2 : (mid : Int) ≤ (s : Int) := by omega
         have hq3 : (a : Int) < (s : Int) := by omega
         have hq4 : (e : Int) < (b : Int) := by omega
         have hq5 : (e : Int) ≤ (mid : Int) := by omega
         have hRs : d.size = n := hdn
         have HB2 := Lib.hid HSk.out
         have HRK := Lib.hid (rot_none d s m e (by omega) (by omega) (by omega))
         have HRP := Lib.hid (permIn_refl d a b)
         have hR1s : d.size = n := hRs
         have HB3 := Lib.hid HB2.out
         have HP1 := Lib.hid (permIn_refl d a mid)
         have HO1 := Lib.hid (FK1.out d HRK.out (by omega))
         have hR2s : d.size = n := hR1s
         have HB4 := Lib.hid HB3.out
         have HP2 := Lib.hid (permIn_refl d mid b)
         have HO2 := Lib.hid (FK2.out d d HRK.out HP1.out (by omega))
         go_wp2
         all_goals
           all_goals go_end0
           all_goals exact ⟨rfl, d, hR2s.trans hdn.symm, HB4.out, FD.out d d d hRs HRK.out HRP.out HP1.out HO1.out HP2.out HO2.out⟩
theorem sym_loN {α : Type} [Inhabited α] (enc : α → Value) (hE : ∀ x, ∃ n, enc x = .pointer n) (cf : α → α → Int) (lt : α → α → Bool) (D : α → Prop) (f : FuncId) (cb : Array Value) (g cap : Nat) (rest pre : List Value) (o : Nat) (n : Nat) (w0 : World)
   (hC : CmpQ Try.prog f cb enc cf D w0 g) (hsz : n < 4611686018427387904) (a m b mid s0 r0 : Nat) (d : Array α) (w : World) (hdn : d.size = n) (hS : SBo enc w0 g 42 rest pre o d w) (hD : ∀ i, i < d.size → D d[i]!) (ham : a + 1 < m) (hmb : m + 1 < b) (hb : b ≤ n) (hA : Agree (ltOf cf) lt d a m b)
   (hmid : mid = (a + b) / 2) (hcase : m ≤ mid) (hs0 : s0 = a) (hr0 : r0 = m) (hfin : FinSaidN enc lt f cb g cap rest pre o n w0 a m b mid s0 r0 d) :
   Calls Try.prog 48 #[.slice (some ⟨g, o, none⟩) n cap, .int .i64 a, .int .i64 m, .int .i64 b, .func (.func f) #[] cb] w fun e w' => MergePN enc lt g a b rest pre o d w0 e w' := by
 have hne1 : ((m : Int) - (a : Int) == 1) = false := by rw [beq_eq_false_iff_ne]; omega
 have hne2 : ((b : Int) - (m : Int) == 1) = false := by rw [beq_eq_false_iff_ne]; omega
 have hmid1 : ((a : Int) + (b : Int)) / 2 = (mid : Int) := by omega
 have hma : a < mid := by omega
 have hmB : mid < b := by omega
 have hsr : s0 ≤ r0 := by omega
 have hs0a : a ≤ s0 := by omega
 have hr0m : r0 ≤ m := by omega
 have hr0d : r0 ≤ mid := by omega
 have hs0b : mid + m - s0 ≤ b := by omega
 have hend0 : s0 = a ∨ mid + m - s0 = b := by omega
 have hend1 : r0 = m ∨ r0 = mid := by omega
 have eg := hC.enters
 have HC := Lib.hid hC
 have HS := Lib.hid hS
 have HD := Lib.hid hD
 have HA := Lib.hid hA
 have HS0 := Lib.hid hs0
 have HR0 := Lib.hid hr0
 have FIN := Lib.hid hfin
 clear hC hS hD hA hs0 hr0 hmid hfin
 go_enter Try.func48, Try.ntmps48
 go_wp2
 go_loopw [20, 21] (fun vs vr wr => ∃ (s r : Nat), vs = .int .i64 s ∧ vr = .int .i64 r ∧ s0 ≤ s ∧ s ≤ r ∧ r ≤ r0 ∧ Hid (SBo enc w0 g 42 rest pre o d wr) ∧ Hid (s0 < s → lt d[mid + m - s]! d[s - 1]! = false) ∧ Hid (r < r0 → lt d[mid + m - r - 1]! d[r]! = true)) (fun vs vr _ => (intOf vr).toNat - (intOf vs).toNat)
 case atStart => exact ⟨s0, r0, by have := HS0.out; go_num, by have := HR0.out; go_num, Nat.le_refl _, hsr, Nat.le_refl _, HS, Lib.hid (fun h => absurd h (Nat.lt_irrefl _)), Lib.hid (fun h => absurd h (Nat.lt_irrefl _))⟩
 case round =>
   obtain ⟨s, r, rfl, rfl, h3, h4, h5, HSk, HLo, HHi⟩ := hrel
   clear HS
   by_cases hlt : s < r
   · obtain ⟨c, hc⟩ : ∃ c, c = (s + r) / 2 := ⟨_, rfl⟩
     have hc1 := HSk.out.cell (mid + m - 1 - c) (by omega)
     have hc2 := HSk.out.cell c (by omega)
     have hcall := fun q => HC.out.calls (wr.drewN q) (HSk.out.drewN q).grown d[mid + m - 1 - c]! d[c]! (HD.out (mid + m - 1 - c) (by omega)) (HD.out c (by omega))
     have hag := HA.out c (mid + m - 1 - c) (by omega) (by omega) (by omega) (by omega)
     obtain ⟨X, hX⟩ : ∃ X, X = d[mid + m - 1 - c]! := ⟨_, rfl⟩
     obtain ⟨Y, hY⟩ : ∃ Y, Y = d[c]! := ⟨_, rfl⟩
     rw [← hX] at hc1 hcall hag
     rw [← hY] at hc2 hcall hag
     have HX := Lib.hid hX
     have HY := Lib.hid hY
     obtain ⟨x, hx⟩ := hE X
     obtain ⟨y, hy⟩ := hE Y
     rw [hx] at hc1 hcall
     rw [hy] at hc2 hcall
     have HCALL := Lib.hid hcall
     have HAG := Lib.hid hag
     clear hcall hx hy hX hY hag
     have hh1 : ((s : Int) + (r : Int)) / 2 = (c : Int) := by omega
     have hidx : ((mid : Int) + (m : Int) - 1 - (c : Int)).toNat = mid + m - 1 - c := by omega
     have hi0 : 0 ≤ (mid : Int) + (m : Int) - 1 - (c : Int) := by omega
     have hi1 : (mid : Int) + (m : Int) - 1 - (c : Int) < (n : Int) := by omega
     have hcn : (c : Int) < (n : Int) := by omega
     have hhi : s ≤ c := by omega
     have hhj : c < r := by omega
     clear hc
     by_cases hcf : cf X Y < 0
     · have hl : lt X Y = true := by rw [← HAG.out]; simpa [ltOf] using hcf
       have HL := Lib.hid hl
       have hcf2 : cf X Y < 0 := hcf
       have hcfB : decide (cf X Y < 0) = true := by rw [decide_eq_true_iff]; exact hcf
       clear hl hcf
       go_wp2_with fail
       go_quiet ((refine Calls.quiet_of (HCALL.out _)))
       go_wp2
       go_roundw
       case rel => exact ⟨s, c, rfl, rfl, h3, hhi, by omega, Lib.hid (HSk.out.drewN _), HLo, Lib.hid (fun _ => by rw [show mid + m - c - 1 = mid + m - 1 - c from by omega, ← HX.out, ← HY.out]; exact HL.out)⟩
       case measure => simp [intOf]; omega
     · have hl : lt X Y = false := by rw [← HAG.out]; simpa [ltOf] using hcf
       have HL := Lib.hid hl
       have hcf2 : 0 ≤ cf X Y := by omega
       have hcfB : decide (cf X Y < 0) = false := by rw [decide_eq_false_iff_not]; omega
       clear hl hcf
       go_wp2_with fail
       go_quiet ((refine Calls.quiet_of (HCALL.out _)))
       go_wp2
       go_roundw
       case rel => exact ⟨c + 1, r, by go_num, rfl, by omega, by omega, h5, Lib.hid (HSk.out.drewN _), Lib.hid (fun _ => by rw [show mid + m - (c + 1) = mid + m - 1 - c from by omega, Nat.add_sub_cancel, ← HX.out, ← HY.out]; exact HL.out), HHi⟩
       case measure => simp [intOf]; omega
   · obtain rfl : s = r := by omega
     obtain ⟨e, he, hme, heb, hde, hsum, FROT, FS1, FS2, FK1, FK2, FD⟩ := FIN.out s wr h3 h5 HSk.out HLo.out HHi.out
     have he1 : (mid : Int) + (m : Int) - (s : Int) = (e : Int) := by omega
     replace FROT := Lib.hid FROT
     replace FS1 := Lib.hid FS1
     replace FS2 := Lib.hid FS2
     replace FK1 := Lib.hid FK1
     replace FK2 := Lib.hid FK2
     replace FD := Lib.hid FD
     clear he
     by_cases hA1 : s < m
     · by_cases hB1 : m < e
       · by_cases hC1 : a < s
         · by_cases hE1 : e < b
           · have hq0 : (s : Int) < (mid : Int) := by omega
             have hq1 : (mid : Int) < (e : Int) := by omega
             have HROT := Lib.hid (FROT.out (by omega) (by omega))
             go_wp2_with fail
             (with_reducible refine HROT.out.mono ?_)
             rintro e1 w2 ⟨rfl, R, hRs, hRB, hRk, hRp⟩
             have HB2 := Lib.hid hRB
             have HRK := Lib.hid hRk
             have HRP := Lib.hid hRp
             clear hRB hRk hRp
             have hs1 := FS1.out R w2 hRs HB2.out HRK.out HRP.out (by omega) (by omega)
             have HS1C := Lib.hid hs1
             clear hs1
             go_wp2_with fail
             (with_reducible refine HS1C.out.mono ?_)
             rintro e2 w3 ⟨rfl, R1, hR1s', hR1B, hR1p, hR1o⟩
             have hR1s : R1.size = n := hR1s'.trans hRs
             have HB3 := Lib.hid hR1B
             have HP1 := Lib.hid hR1p
             have HO1 := Lib.hid hR1o
             clear hR1s' hR1B hR1p hR1o
             have hs2 := FS2.out R R1 w3 hRs hR1s HB3.out HRK.out HRP.out HP1.out (by omega) (by omega)
             have HS2C := Lib.hid hs2
             clear hs2
             go_wp2_with fail
             (with_reducible refine HS2C.out.mono ?_)
             rintro e3 w4 ⟨rfl, R2, hR2s', hR2B, hR2p, hR2o⟩
             have hR2s : R2.size = n := hR2s'.trans hR1s
             have HB4 := Lib.hid hR2B
             have HP2 := Lib.hid hR2p
             have HO2 := Lib.hid hR2o
             clear hR2s' hR2B hR2p hR2o
             go_wp2
             all_goals go_end0
             all_goals exact ⟨rfl, R2, hR2s.trans hdn.symm, HB4.out, FD.out R R1 R2 hRs HRK.out HRP.out HP1.out HO1.out HP2.out HO2.out⟩
           · have hq0 : (s : Int) < (mid : Int) := by omega
             have hq1 : (mid : Int) < (e : Int) := by omega
             have hq2 : (b : Int) ≤ (e : Int) := by omega
             have HROT := Lib.hid (FROT.out (by omega) (by omega))
             go_wp2_with fail
             (with_reducible refine HROT.out.mono ?_)
             rintro e1 w2 ⟨rfl, R, hRs, hRB, hRk, hRp⟩
             have HB2 := Lib.hid hRB
             have HRK := Lib.hid hRk
             have HRP := Lib.hid hRp
             clear hRB hRk hRp
             have hs1 := FS1.out R w2 hRs HB2.out HRK.out HRP.out (by omega) (by omega)
             have HS1C := Lib.hid hs1
             clear hs1
             go_wp2_with fail
             (with_reducible refine HS1C.out.mono ?_)
             rintro e2 w3 ⟨rfl, R1, hR1s', hR1B, hR1p, hR1o⟩
             have hR1s : R1.size = n := hR1s'.trans hRs
             have HB3 := Lib.hid hR1B
             have HP1 := Lib.hid hR1p
             have HO1 := Lib.hid hR1o
             clear hR1s' hR1B hR1p hR1o
             have hR2s : R1.size = n := hR1s
             have HB4 := Lib.hid HB3.out
             have HP2 := Lib.hid (permIn_refl R1 mid b)
             have HO2 := Lib.hid (FK2.out R R1 HRK.out HP1.out (by omega))
             go_wp2
             all_goals go_end0
             all_goals exact ⟨rfl, R1, hR2s.trans hdn.symm, HB4.out, FD.out R R1 R1 hRs HRK.out HRP.out HP1.out HO1.out HP2.out HO2.out⟩
         · by_cases hE1 : e < b
           · have hq0 : (s : Int) < (mid : Int) := by omega
             have hq1 : (mid : Int) < (e : Int) := by omega
             have hq2 : (s : Int) ≤ (a : Int) := by omega
             have HROT := Lib.hid (FROT.out (by omega) (by omega))
             go_wp2_with fail
             (with_reducible refine HROT.out.mono ?_)
             rintro e1 w2 ⟨rfl, R, hRs, hRB, hRk, hRp⟩
             have HB2 := Lib.hid hRB
             have HRK := Lib.hid hRk
             have HRP := Lib.hid hRp
             clear hRB hRk hRp
             have hR1s : R.size = n := hRs
             have HB3 := Lib.hid HB2.out
             have HP1 := Lib.hid (permIn_refl R a mid)
             have HO1 := Lib.hid (FK1.out R HRK.out (by omega))
             have hs2 := FS2.out R R w2 hRs hR1s HB3.out HRK.out HRP.out HP1.out (by omega) (by omega)
             have HS2C := Lib.hid hs2
             clear hs2
             go_wp2_with fail
             (with_reducible refine HS2C.out.mono ?_)
             rintro e3 w4 ⟨rfl, R2, hR2s', hR2B, hR2p, hR2o⟩
             have hR2s : R2.size = n := hR2s'.trans hR1s
             have HB4 := Lib.hid hR2B
             have HP2 := Lib.hid hR2p
             have HO2 := Lib.hid hR2o
             clear hR2s' hR2B hR2p hR2o
             go_wp2
             all_goals go_end0
             all_goals exact ⟨rfl, R2, hR2s.trans hdn.symm, HB4.out, FD.out R R R2 hRs HRK.out HRP.out HP1.out HO1.out HP2.out HO2.out⟩
           · have hq0 : (s : Int) < (mid : Int) := by omega
             have hq1 : (mid : Int) < (e : Int) := by omega
             have hq2 : (s : Int) ≤ (a : Int) := by omega
             have hq3 : (b : Int) ≤ (e : Int) := by omega
             have HROT := Lib.hid (FROT.out (by omega) (by omega))
             go_wp2_with fail
             (with_reducible refine HROT.out.mono ?_)
             rintro e1 w2 ⟨rfl, R, hRs, hRB, hRk, hRp⟩
             have HB2 := Lib.hid hRB
             have HRK := Lib.hid hRk
             have HRP := Lib.hid hRp
             clear hRB hRk hRp
             have hR1s : R.size = n := hRs
             have HB3 := Lib.hid HB2.out
             have HP1 := Lib.hid (permIn_refl R a mid)
             have HO1 := Lib.hid (FK1.out R HRK.out (by omega))
             have hR2s : R.size = n := hR1s
             have HB4 := Lib.hid HB3.out
             have HP2 := Lib.hid (permIn_refl R mid b)
             have HO2 := Lib.hid (FK2.out R R HRK.out HP1.out (by omega))
             go_wp2
             all_goals go_end0
             all_goals exact ⟨rfl, R, hR2s.trans hdn.symm, HB4.out, FD.out R R R hRs HRK.out HRP.out HP1.out HO1.out HP2.out HO2.out⟩
       · have hq0 : (e : Int) ≤ (m : Int) := by omega
         have hq1 : (mid : Int) ≤ (s : Int) := by omega
         have hq2 : (a : Int) < (s : Int) := by omega
         have hq3 : (e : Int) < (b : Int) := by omega
         have hq4 : (mid : Int) < (e : Int) := by omega
         have hRs : d.size = n := hdn
         have HB2 := Lib.hid HSk.out
         have HRK := Lib.hid (rot_none d s m e (by omega) (by omega) (by omega))
         have HRP := Lib.hid (permIn_refl d a b)
         have hR1s : d.size = n := hRs
         have HB3 := Lib.hid HB2.out
         have HP1 := Lib.hid (permIn_refl d a mid)
         have HO1 := Lib.hid (FK1.out d HRK.out (by omega))
         have hs2 := FS2.out d d wr hRs hR1s HB3.out HRK.out HRP.out HP1.out (by omega) (by omega)
         have HS2C := Lib.hid hs2
         clear hs2
         go_wp2_with fail
         all_goals
           (with_reducible refine HS2C.out.mono ?_)
           rintro e3 w4 ⟨rfl, R2, hR2s', hR2B, hR2p, hR2o⟩
           have hR2s : R2.size = n := hR2s'.trans hR1s
           have HB4 := Lib.hid hR2B
           have HP2 := Lib.hid hR2p
           have HO2 := Lib.hid hR2o
           clear hR2s' hR2B hR2p hR2o
           go_wp2
           all_goals go_end0
           all_goals exact ⟨rfl, R2, hR2s.trans hdn.symm, HB4.out, FD.out d d R2 hRs HRK.out HRP.out HP1.out HO1.out HP2.out HO2.out⟩
     · by_cases hB1 : m < e
       · have hq0 : (m : Int) ≤ (s : Int) := by omega
         have hq1 : (s : Int) < (mid : Int) := by omega
         have hq2 : (a : Int) < (s : Int) := by omega
         have hq3 : (e : Int) < (b : Int) := by omega
         have hq4 : (e : Int) ≤ (mid : Int) := by omega
         have hRs : d.size = n := hdn
         have HB2 := Lib.hid HSk.out
         have HRK := Lib.hid (rot_none d s m e (by omega) (by omega) (by omega))
         have HRP := Lib.hid (permIn_refl d a b)
         have hs1 := FS1.out d wr hRs HB2.out HRK.out HRP.out (by omega) (by omega)
         have HS1C := Lib.hid hs1
         clear hs1
         go_wp2_with fail
         all_goals
           (with_reducible refine HS1C.out.mono ?_)
           rintro e2 w3 ⟨rfl, R1, hR1s', hR1B, hR1p, hR1o⟩
           have hR1s : R1.size = n := hR1s'.trans hRs
           have HB3 := Lib.hid hR1B
           have HP1 := Lib.hid hR1p
           have HO1 := Lib.hid hR1o
           clear hR1s' hR1B hR1p hR1o
           have hR2s : R1.size = n := hR1s
           have HB4 := Lib.hid HB3.out
           have HP2 := Lib.hid (permIn_refl R1 mid b)
           have HO2 := Lib.hid (FK2.out d R1 HRK.out HP1.out (by omega))
           go_wp2
           all_goals go_end0
           all_goals exact ⟨rfl, R1, hR2s.trans hdn.symm, HB4.out, FD.out d R1 R1 hRs HRK.out HRP.out HP1.out HO1.out HP2.out HO2.out⟩
       · have hq0 : (m : Int) ≤ (s : Int) := by omega
         have hq1 : (e : Int) ≤ (m : Int) := by omega
         have hq2 : (mid : Int) ≤ (s : Int) := by omega
         have hq3 : (a : Int) < (s : Int) := by omega
         have hq4 : (e : Int) < (b : Int) := by omega
         have hq5 : (e : Int) ≤ (mid : Int) := by omega
         have hRs : d.size = n := hdn
         have HB2 := Lib.hid HSk.out
         have HRK := Lib.hid (rot_none d s m e (by omega) (by omega) (by omega))
         have HRP := Lib.hid (permIn_refl d a b)
         have hR1s : d.size = n := hRs
         have HB3 := Lib.hid HB2.out
         have HP1 := Lib.hid (permIn_refl d a mid)
         have HO1 := Lib.hid (FK1.out d HRK.out (by omega))
         have hR2s : d.size = n := hR1s
         have HB4 := Lib.hid HB3.out
         have HP2 := Lib.hid (permIn_refl d mid b)
         have HO2 := Lib.hid (FK2.out d d HRK.out HP1.out (by omega))
         go_wp2
         all_goals
           all_goals go_end0
           all_goals exact ⟨rfl, d, hR2s.trans hdn.symm, HB4.out, FD.out d d d hRs HRK.out HRP.out HP1.out HO1.out HP2.out HO2.out⟩
theorem merge_allN {α : Type} [Inhabited α] (enc : α → Value) (hE : ∀ x, ∃ n, enc x = .pointer n) (cf : α → α → Int) (lt : α → α → Bool) (hL : SWO lt) (D : α → Prop) (f : FuncId) (cb : Array Value) (g cap : Nat) (rest pre : List Value) (o : Nat) (n : Nat) (w0 : World)
   (hC : CmpQ Try.prog f cb enc cf D w0 g) (hsz : n < 4611686018427387904) : ∀ N, MergeSaidN enc cf lt D f cb g cap rest pre o n w0 N
 | 0 => fun a m b d w h1 h2 h3 h4 h5 h6 => by omega
 | N + 1 => by
   have ih := merge_allN enc hE cf lt hL D f cb g cap rest pre o n w0 hC hsz N
   intro a m b d w hN hdn hS hD ham hmb hb h1 h2 hA
   by_cases c1 : m = a + 1
   · subst hdn
     exact sym_leftN enc hE cf lt hL D f cb g cap a m b rest pre o d w0 w hC hS hD c1 hmb hb hsz h2 hA
   by_cases c2 : b = m + 1
   · subst hdn
     exact sym_rightN enc hE cf lt hL D f cb g cap a m b rest pre o d w0 w hC hS hD (by omega) c2 hb hsz h1 hA
   obtain ⟨mid, hmid⟩ : ∃ mid, mid = (a + b) / 2 := ⟨_, rfl⟩
   by_cases c3 : mid < m
   · exact sym_hiN enc hE cf lt D f cb g cap rest pre o n w0 hC hsz a m b mid (mid + m - b) mid d w hdn hS hD (by omega) (by omega) hb hA hmid c3 rfl rfl
       (sym_finN enc hE cf lt hL D f cb g cap rest pre o n w0 N hsz ih a m b mid (mid + m - b) mid d hN hdn hD hb h1 h2 hA (by omega) (by omega) (by omega) (by omega) (by omega) (by omega) (by omega) (by omega))
   · exact sym_loN enc hE cf lt D f cb g cap rest pre o n w0 hC hsz a m b mid a m d w hdn hS hD (by omega) (by omega) hb hA hmid (by omega) rfl rfl
       (sym_finN enc hE cf lt hL D f cb g cap rest pre o n w0 N hsz ih a m b mid a m d hN hdn hD hb h1 h2 hA (by omega) (by omega) (by omega) (by omega) (by omega) (by omega) (by omega) (by omega))
variable {α : Type} [Inhabited α] {lt lt1 : α → α → Bool} {d R R' : Array α} {lo m hi s i : Nat}
structure Good (lt : α → α → Bool) (d : Array α) (lo hi : Nat) (R : Array α) : Prop where
 srt : SortedIn lt lo (min hi d.size) R
 loc : ∀ k, lo ≤ k → k < hi → k < d.size → ∃ j, lo ≤ j ∧ j < hi ∧ j < d.size ∧ R[k]! = d[j]!
theorem Good.same (h : Good lt d lo hi R) (hR : ∀ k, lo ≤ k → k < hi → k < d.size → R'[k]! = R[k]!) : Good lt d lo hi R' :=
 ⟨sorted_congr h.srt (fun k h1 h2 => hR k h1 (by omega) (by omega)), fun k h1 h2 h3 => by rw [hR k h1 h2 h3]; exact h.loc k h1 h2 h3⟩
theorem Good.agree (hag : ∀ p q, p < q → q < d.size → lt1 d[q]! d[p]! = lt d[q]! d[p]!) (h1 : Good lt d lo m R) (h2 : Good lt d m hi R) : Agree lt1 lt R lo m (min hi d.size) := fun p q a b c e => by
 obtain ⟨p', _, p2, p3, hp⟩ := h1.loc p a b (by omega)
 obtain ⟨q', q1, q2, q3, hq⟩ := h2.loc q c (by omega) (by omega)
 rw [hp, hq]; exact hag _ _ (by omega) q3
theorem Good.join (h1 : Good lt d lo m R) (h2 : Good lt d m hi R) (hlm : lo ≤ m) (hmh : m ≤ hi) (hsz : R.size = d.size) (hP : PermIn lo (min hi d.size) R R') (hS : SortedIn lt lo (min hi d.size) R') : Good lt d lo hi R' :=
 ⟨hS, fun k a b c => permIn_all R R' lo (min hi d.size) (fun x => ∃ j, lo ≤ j ∧ j < hi ∧ j < d.size ∧ x = d[j]!) (by omega) hP (fun i i1 i2 => by
   by_cases h : i < m
   · obtain ⟨j, a1, a2, a3, a4⟩ := h1.loc i i1 h (by omega); exact ⟨j, a1, by omega, a3, a4⟩
   · obtain ⟨j, a1, a2, a3, a4⟩ := h2.loc i (by omega) (by omega) (by omega); exact ⟨j, by omega, a2, a3, a4⟩) k a (by omega)⟩
theorem Good.wide (h : Good lt d lo m R) (hm : d.size ≤ m) (hmh : m ≤ hi) : Good lt d lo hi R :=
 ⟨by have := h.srt; rwa [show min m d.size = min hi d.size from by omega] at this, fun k a b c => by obtain ⟨j, a1, a2, a3, a4⟩ := h.loc k a (by omega) c; exact ⟨j, a1, by omega, a3, a4⟩⟩
theorem Good.void (h : d.size ≤ lo) : Good lt d lo hi R := ⟨fun p q h1 h2 h3 => by omega, fun k h1 h2 h3 => by omega⟩
structure InsInv (lt : α → α → Bool) (d : Array α) (s i : Nat) (R : Array α) : Prop where
 sz : R.size = d.size
 perm : PermIn 0 d.size d R
 old : ∀ k, s * i ≤ k → R[k]! = d[k]!
 good : ∀ j, j < i → Good lt d (s * j) (s * (j + 1)) R
theorem InsInv.start : InsInv lt d s 0 d := ⟨rfl, permIn_refl _ _ _, fun _ _ => rfl, fun _ h => by omega⟩
theorem InsInv.step (h : InsInv lt d s i R) (hle : s * i ≤ d.size) (hP : PermIn (s * i) (min (s * i + s) d.size) R R') (hS : SortedIn lt (s * i) (min (s * i + s) d.size) R') : InsInv lt d s (i + 1) R' := by
 have hm : s * (i + 1) = s * i + s := Nat.mul_succ s i
 refine ⟨hP.1.trans h.sz, permIn_trans _ _ _ _ _ h.perm (permIn_mono R R' _ _ 0 d.size (by omega) (by omega) (by rw [h.sz]; omega) hP), fun k hk => ?_, fun j hj => ?_⟩
 · rw [hP.2.1 k (by omega)]; exact h.old k (by omega)
 · by_cases hji : j < i
   · have h2 := Nat.mul_le_mul_left s (show j + 1 ≤ i by omega)
     exact (h.good j hji).same fun k h3 h4 h5 => hP.2.1 k (by omega)
   · obtain rfl : j = i := by omega
     rw [hm]
     exact ⟨hS, fun k a b c => permIn_all R R' _ _ (fun x => ∃ q, s * j ≤ q ∧ q < s * j + s ∧ q < d.size ∧ x = d[q]!) (by rw [h.sz]; omega) hP (fun q h1 h2 => ⟨q, h1, by omega, by omega, h.old q h1⟩) k a (by omega)⟩
theorem InsInv.all (h : InsInv lt d s i R) (hn : d.size ≤ s * i) (j : Nat) : Good lt d (s * j) (s * (j + 1)) R := by
 by_cases hj : j < i
 · exact h.good j hj
 · have h2 := Nat.mul_le_mul_left s (show i ≤ j by omega)
   exact Good.void (by omega)
structure MrgInv (lt : α → α → Bool) (d : Array α) (s i : Nat) (R : Array α) : Prop where
 sz : R.size = d.size
 perm : PermIn 0 d.size d R
 lo : ∀ j, j < i → Good lt d (2 * s * j) (2 * s * (j + 1)) R
 hi : ∀ j, 2 * i ≤ j → Good lt d (s * j) (s * (j + 1)) R
theorem dbl0 (s i : Nat) : s * (2 * i) = 2 * s * i := by rw [← Nat.mul_assoc, Nat.mul_comm s 2]
theorem dbl1 (s i : Nat) : s * (2 * i + 1) = 2 * s * i + s := by rw [Nat.mul_succ, dbl0]
theorem dbl2 (s i : Nat) : s * (2 * i + 1 + 1) = 2 * s * i + 2 * s := by rw [Nat.mul_succ, dbl1]; omega
theorem MrgInv.start (h1 : R.size = d.size) (h2 : PermIn 0 d.size d R) (h3 : ∀ j, Good lt d (s * j) (s * (j + 1)) R) : MrgInv lt d s 0 R := ⟨h1, h2, fun _ h => by omega, fun j _ => h3 j⟩
theorem MrgInv.left (h : MrgInv lt d s i R) : Good lt d (2 * s * i) (2 * s * i + s) R := by
 have := h.hi (2 * i) (Nat.le_refl _); rwa [dbl0, dbl1] at this
theorem MrgInv.right (h : MrgInv lt d s i R) : Good lt d (2 * s * i + s) (2 * s * i + 2 * s) R := by
 have := h.hi (2 * i + 1) (by omega); rwa [dbl1, dbl2] at this
theorem MrgInv.step (h : MrgInv lt d s i R) (hle : 2 * s * i + s ≤ d.size) (hP : PermIn (2 * s * i) (min (2 * s * i + 2 * s) d.size) R R') (hS : SortedIn lt (2 * s * i) (min (2 * s * i + 2 * s) d.size) R') : MrgInv lt d s (i + 1) R' := by
 have hm : 2 * s * (i + 1) = 2 * s * i + 2 * s := Nat.mul_succ (2 * s) i
 refine ⟨hP.1.trans h.sz, permIn_trans _ _ _ _ _ h.perm (permIn_mono R R' _ _ 0 d.size (by omega) (by omega) (by rw [h.sz]; omega) hP), fun j hj => ?_, fun j hj => ?_⟩
 · by_cases hji : j < i
   · have h2 := Nat.mul_le_mul_left (2 * s) (show j + 1 ≤ i by omega)
     exact (h.lo j hji).same fun k h3 h4 h5 => hP.2.1 k (by omega)
   · obtain rfl : j = i := by omega
     rw [hm]
     exact h.left.join h.right (by omega) (by omega) h.sz hP hS
 · have h2 := Nat.mul_le_mul_left s (show 2 * i + 1 + 1 ≤ j by omega)
   rw [dbl2] at h2
   exact (h.hi j (by omega)).same fun k h3 h4 h5 => hP.2.1 k (by omega)
theorem MrgInv.done (h : MrgInv lt d s i R) (hn : d.size ≤ 2 * s * i + s) (j : Nat) : Good lt d (2 * s * j) (2 * s * (j + 1)) R := by
 by_cases hj : j < i
 · exact h.lo j hj
 · by_cases hji : j = i
   · subst hji
     rw [Nat.mul_succ (2 * s) j]
     exact h.left.wide hn (by omega)
   · have h2 := Nat.mul_le_mul_left (2 * s) (show i + 1 ≤ j by omega)
     rw [Nat.mul_succ] at h2
     exact Good.void (by omega)
theorem good_end (h : ∀ j, Good lt d (s * j) (s * (j + 1)) R) (hs : d.size ≤ s) : SortedIn lt 0 d.size R := by
 have := (h 0).srt
 rwa [Nat.mul_zero, Nat.zero_add, Nat.mul_one, show min s d.size = d.size from by omega] at this
theorem mrg_facts {A b : Nat} (h : MrgInv lt d s i R) (hA : A = 2 * s * i) (hag : ∀ p q, p < q → q < d.size → lt1 d[q]! d[p]! = lt d[q]! d[p]!) (hb : b = min (A + 2 * s) d.size) (hm : A + s < b) :
   SortedIn lt A (A + s) R ∧ SortedIn lt (A + s) b R ∧ Agree lt1 lt R A (A + s) b := by
 have hl := h.left
 have hr := h.right
 rw [← hA] at hl hr
 have h1 := hl.srt
 have h2 := hr.srt
 have h3 := hl.agree hag hr
 rw [show min (A + s) d.size = A + s from by omega] at h1
 rw [← hb] at h2 h3
 exact ⟨h1, h2, h3⟩
theorem mrg_step {A b : Nat} (h : MrgInv lt d s i R) (hA : A = 2 * s * i) (hb : b = min (A + 2 * s) d.size) (hm : A + s < b) (hP : PermIn A b R R') (hS : SortedIn lt A b R') : MrgInv lt d s (i + 1) R' := by
 subst hA hb
 exact h.step (by omega) hP hS
theorem ins_step {A b : Nat} (h : InsInv lt d s i R) (hA : A = s * i) (hb : b = min (A + s) d.size) (hm : A ≤ b) (hP : PermIn A b R R') (hS : SortedIn lt A b R') : InsInv lt d s (i + 1) R' := by
 subst hA hb
 exact h.step (by omega) hP hS
theorem ins_agree {A b : Nat} (h : InsInv lt d s i R) (hA : A = s * i) (hag : ∀ p q, p < q → q < d.size → lt1 d[q]! d[p]! = lt d[q]! d[p]!) (hb : b ≤ d.size) (p q : Nat) (h1 : A ≤ p) (h2 : p < q) (h3 : q < b) : lt1 R[q]! R[p]! = lt R[q]! R[p]! := by
 rw [h.old p (by omega), h.old q (by omega)]
 exact hag p q h2 (by omega)
theorem ins_anyN {α : Type} [Inhabited α] (enc : α → Value) (hE : ∀ x, ∃ n, enc x = .pointer n) (cf : α → α → Int) (D : α → Prop) (f : FuncId) (cb : Array Value) (g cap a b : Nat) (rest pre : List Value) (o : Nat) (d : Array α) (w0 w : World)
   (hC : CmpQ Try.prog f cb enc cf D w0 g) (hS : SBo enc w0 g 42 rest pre o d w) (hD : ∀ i, i < d.size → D d[i]!) (hab : a ≤ b) (hb : b ≤ d.size) (hsz : d.size < 4611686018427387904) :
   Calls Try.prog 47 #[.slice (some ⟨g, o, none⟩) d.size cap, .int .i64 a, .int .i64 b, .func (.func f) #[] cb] w fun e w' => e = .returned (.tuple #[]) ∧ SBo enc w0 g 42 rest pre o (Sort.insertionSort (ltOf cf) d a b) w' := by
 have eg := hC.enters
 have HC := Lib.hid hC
 have HS := Lib.hid hS
 have HD := Lib.hid hD
 clear hC hS hD
 go_enter Try.func47, Try.ntmps47
 go_wp2
 go_loopw [8] (fun vi wr => ∃ (i : Nat) (dk : Array α), vi = .int .i64 i ∧ a < i ∧ i ≤ b + 1 ∧ dk.size = d.size ∧ Hid (SBo enc w0 g 42 rest pre o dk wr) ∧ Hid (∀ i, i < dk.size → D dk[i]!) ∧
     Hid (insOuter (ltOf cf) a b i dk = insOuter (ltOf cf) a b (a + 1) d)) (fun vi _ => b + 1 - (intOf vi).toNat)
 case atStart => exact ⟨a + 1, d, by go_num, by omega, by omega, rfl, HS, HD, rfl⟩
 case round =>
   obtain ⟨i, dk, rfl, hai, hib, hsk, HSk, HDk, HO⟩ := hrel
   clear HS
   by_cases hlt : i < b
   · go_wp2
     go_loopw [9] (fun vj wr2 => ∃ (j : Nat) (dj : Array α), vj = .int .i64 j ∧ a ≤ j ∧ j ≤ i ∧ dj.size = d.size ∧ Hid (SBo enc w0 g 42 rest pre o dj wr2) ∧ Hid (∀ i, i < dj.size → D dj[i]!) ∧
         Hid (insInner (ltOf cf) a j dj = insInner (ltOf cf) a i dk)) (fun vj _ => (intOf vj).toNat)
     case atStart => exact ⟨i, dk, rfl, by omega, Nat.le_refl _, hsk, HSk, HDk, rfl⟩
     case round =>
       obtain ⟨j, dj, rfl, haj, hji, hsj, HSj, HDj, HI⟩ := hrel
       clear HSk HDk
       by_cases hja : a < j
       · have hc1 := HSj.out.cell j (by omega)
         have hc2 := HSj.out.cell (j - 1) (by omega)
         have hf1 := HSj.out.free j
         have hf2 := HSj.out.free (j - 1)
         have hcall := fun q => HC.out.calls (wr.drewN q) (HSj.out.drewN q).grown dj[j]! dj[j-1]! (HDj.out j (by omega)) (HDj.out (j - 1) (by omega))
         obtain ⟨X, hX⟩ : ∃ X, X = dj[j]! := ⟨_, rfl⟩
         obtain ⟨Y, hY⟩ : ∃ Y, Y = dj[j-1]! := ⟨_, rfl⟩
         rw [← hX] at hc1 hcall
         rw [← hY] at hc2 hcall
         have HX := Lib.hid hX
         have HY := Lib.hid hY
         obtain ⟨x, hx⟩ := hE X
         obtain ⟨y, hy⟩ := hE Y
         rw [hx] at hc1 hcall
         rw [hy] at hc2 hcall
         have HCALL := Lib.hid hcall
         have HEx := Lib.hid hx
         have HEy := Lib.hid hy
         clear hcall hx hy hX hY
         have hj1 : (0 : Int) ≤ (j : Int) - 1 := by omega
         have hj2 : ((j : Int) - 1).toNat = j - 1 := by omega
         have hjd : j < d.size := by omega
         have hjd1 : (j : Int) < (d.size : Int) := by omega
         have out : ltOf cf X Y = false → ∀ q, ∃ i' dk', Value.int .i64 ((i : Int) + 1) = .int .i64 (i' : Nat) ∧ a < i' ∧ i' ≤ b + 1 ∧ dk'.size = d.size ∧ Hid (SBo enc w0 g 42 rest pre o dk' (wr.drewN q)) ∧ Hid (∀ i, i < dk'.size → D dk'[i]!) ∧ Hid (insOuter (ltOf cf) a b i' dk' = insOuter (ltOf cf) a b (a + 1) d) :=
           fun hl q => ⟨i + 1, dj, by go_num, by omega, by omega, hsj, HSj.out.drewN q, HDj, by rw [← HO.out, outer_go _ _ _ _ _ hlt, ← HI.out, inner_stop _ _ _ _ (.inr (by rw [← HX.out, ← HY.out]; exact hl))]; exact Lib.hid rfl⟩
         have OUT := Lib.hid out
         clear out
         by_cases hcf : cf X Y < 0
         · have hl : ltOf cf X Y = true := by simpa [ltOf] using hcf
           have HL := Lib.hid hl
           clear hl
           go_wp2_with fail
           go_quiet ((refine Calls.quiet_of (HCALL.out _)))
           go_wp2
           go_region
           all_goals go_wp2
           go_roundw
           case rel =>
             refine ⟨j - 1, swp dj j (j - 1), by congr 1; omega, by omega, by omega, by rw [size_swp]; exact hsj, ?_, ?_, ?_⟩
             · have hw := HSj.out.swp j (j - 1) (by omega) (by omega) (nq + 1)
               rw [← HX.out, ← HY.out, HEx.out, HEy.out] at hw
               exact Lib.hid hw
             · exact Lib.hid (fun q hq => by
                 rw [size_swp] at hq
                 by_cases h1 : q = j
                 · subst h1; rw [swp_left _ _ _ hq (by omega)]; exact HDj.out _ (by omega)
                 · by_cases h2 : q = j - 1
                   · subst h2; rw [swp_right _ _ _ hq]; exact HDj.out _ (by omega)
                   · rw [swp_other _ _ _ _ h1 h2]; exact HDj.out _ hq)
             · exact Lib.hid (by rw [← HI.out, inner_go (ltOf cf) a j dj hja (by rw [← HX.out, ← HY.out]; exact HL.out)])
           case measure => simp [intOf]; omega
         · have hl : ltOf cf X Y = false := by simpa [ltOf] using hcf
           have HL := Lib.hid hl
           clear hl
           go_wp2_with fail
           go_quiet ((refine Calls.quiet_of (HCALL.out _)))
           go_wp2
           go_roundw
           case rel => exact OUT.out HL.out nq
           case measure => simp [intOf]; omega
       · have out : ∀ q, ∃ i' dk', Value.int .i64 ((i : Int) + 1) = .int .i64 (i' : Nat) ∧ a < i' ∧ i' ≤ b + 1 ∧ dk'.size = d.size ∧ Hid (SBo enc w0 g 42 rest pre o dk' (wr.drewN q)) ∧ Hid (∀ i, i < dk'.size → D dk'[i]!) ∧ Hid (insOuter (ltOf cf) a b i' dk' = insOuter (ltOf cf) a b (a + 1) d) :=
           fun q => ⟨i + 1, dj, by go_num, by omega, by omega, hsj, HSj.out.drewN q, HDj, by rw [← HO.out, outer_go _ _ _ _ _ hlt, ← HI.out, inner_stop _ _ _ _ (.inl (by omega))]; exact Lib.hid rfl⟩
         have OUT := Lib.hid out
         clear out
         have hja2 : decide ((a : Int) < (j : Int)) = false := by simp; omega
         go_wp2
         go_quiet (fail)
         go_wp2
         go_roundw
         case rel => exact OUT.out nq
         case measure => simp [intOf]; omega
   · go_wp2
     go_end0
     refine ⟨rfl, ?_⟩
     have e : Sort.insertionSort (ltOf cf) d a b = dk := by
       unfold Sort.insertionSort; rw [← HO.out, outer_stop _ _ _ _ _ hlt]
     rw [e]
     exact HSk.out
theorem stable_coreN {α : Type} [Inhabited α] (enc : α → Value) (hE : ∀ x, ∃ n, enc x = .pointer n) (cf : α → α → Int) (lt2 : α → α → Bool) (hO : SWO lt2) (D : α → Prop) (f : FuncId) (cb : Array Value) (g cap n : Nat) (rest pre : List Value) (o : Nat) (d : Array α) (w0 w : World)
   (hC : CmpQ Try.prog f cb enc cf D w0 g) (hS : SBo enc w0 g 42 rest pre o d w) (hD : ∀ i, i < d.size → D d[i]!) (hag : ∀ p q, p < q → q < d.size → ltOf cf d[q]! d[p]! = lt2 d[q]! d[p]!) (hdn : d.size = n) (hsz : n < 1152921504606846976) :
   Calls Try.prog 41 #[.slice (some ⟨g, o, none⟩) n cap, .int .i64 n, .func (.func f) #[] cb] w fun e w' => e = .returned (.tuple #[]) ∧ ∃ R, SBo enc w0 g 42 rest pre o R w' ∧ PermIn 0 d.size d R ∧ SortedIn lt2 0 d.size R := by
 have eg := hC.enters
 have insert : ∀ (A B : Nat) (R : Array α) (wr : World), R.size = n → SBo enc w0 g 42 rest pre o R wr → PermIn 0 d.size d R → A ≤ B → B ≤ n →
     Calls Try.prog 47 #[.slice (some ⟨g, o, none⟩) n cap, .int .i64 A, .int .i64 B, .func (.func f) #[] cb] wr fun e w' => e = .returned (.tuple #[]) ∧ SBo enc w0 g 42 rest pre o (Sort.insertionSort (ltOf cf) R A B) w' := by
   intro A B R wr h1 h2 h3 h4 h5
   have := ins_anyN enc hE cf D f cb g cap A B rest pre o R w0 wr hC h2 (all_perm D (Nat.le_refl _) h3 hD) h4 (by omega) (by omega)
   rwa [h1] at this
 have merge : ∀ (A s m b i : Nat) (R : Array α) (wr : World), SBo enc w0 g 42 rest pre o R wr → MrgInv lt2 d s i R → A = 2 * s * i → m = A + s → 0 < s → b = min (A + 2 * s) n → m < b →
     Calls Try.prog 48 #[.slice (some ⟨g, o, none⟩) n cap, .int .i64 A, .int .i64 ((A : Int) + (s : Int)), .int .i64 b, .func (.func f) #[] cb] wr fun e w' => e = .returned (.tuple #[]) ∧ ∃ R', SBo enc w0 g 42 rest pre o R' w' ∧ MrgInv lt2 d s (i + 1) R' := by
   intro A s m b i R wr h1 h2 h3 h4 h5 h6 h7
   obtain ⟨q1, q2, q3⟩ := mrg_facts (b := b) h2 h3 hag (by rw [hdn]; exact h6) (by omega)
   rw [← h4] at q1 q2 q3
   have hc := merge_allN enc hE cf lt2 hO D f cb g cap rest pre o n w0 hC (by omega) (b - A) A m b R wr (Nat.le_refl _) (h2.sz.trans hdn) h1 (all_perm D (Nat.le_refl _) h2.perm hD) (by omega) h7 (by omega) q1 q2 q3
   rw [show (m : Int) = (A : Int) + (s : Int) from by omega] at hc
   exact hc.mono fun e w' ⟨e1, R', _, e3, e4, e5⟩ => ⟨e1, R', e3, mrg_step h2 h3 (by rw [hdn]; exact h6) (by omega) e4 e5⟩
 have HINS := Lib.hid insert
 have HMRG := Lib.hid merge
 have HAG := Lib.hid hag
 have HO := Lib.hid hO
 have HS := Lib.hid hS
 have HDN := Lib.hid hdn
 clear insert merge hag hO hS hC hD hdn
 go_enter Try.func41, Try.ntmps41
 go_wp2
 go_loopw [7, 8] (fun va vb wr => ∃ (i A B : Nat) (R : Array α), va = .int .i64 A ∧ vb = .int .i64 B ∧ A ≤ n ∧ A + 20 ≤ B ∧ B ≤ A + 20 ∧ Hid (A = 20 * i) ∧ Hid (SBo enc w0 g 42 rest pre o R wr) ∧ Hid (InsInv lt2 d 20 i R)) (fun va _ _ => n - (intOf va).toNat)
 case atStart => exact ⟨0, 0, 20, d, rfl, rfl, Nat.zero_le _, by omega, by omega, Lib.hid rfl, HS, Lib.hid InsInv.start⟩
 case round =>
   obtain ⟨i, A, B, R, rfl, rfl, hAn, hB1, hB2, HA, HR, HI⟩ := hrel
   clear HS
   have hRn : R.size = n := HI.out.sz.trans HDN.out
   have HRN := Lib.hid hRn
   clear hRn
   by_cases hlt : B ≤ n
   · have hins := HINS.out A B R wr HRN.out HR.out HI.out.perm (by omega) hlt
     have hst := ins_stable (ltOf cf) lt2 HO.out A B R (by omega) (by rw [HRN.out]; exact hlt) (ins_agree HI.out HA.out HAG.out (by rw [HDN.out]; exact hlt))
     have HC1 := Lib.hid hins
     have HST := Lib.hid hst
     clear hins hst
     go_wp2_with (go_at_call 47; refine HC1.out.mono ?_; rintro e w2 ⟨rfl, hS2⟩; have HS2 := Lib.hid hS2; clear hS2)
     go_roundw
     case rel => exact ⟨i + 1, B, B + 20, _, rfl, by go_num, hlt, by omega, by omega, Lib.hid (by have := HA.out; omega), HS2, Lib.hid (ins_step HI.out HA.out (by rw [HDN.out]; omega) (by omega) HST.out.1 HST.out.2)⟩
     case measure => simp [intOf]; omega
   · have hins := HINS.out A n R wr HRN.out HR.out HI.out.perm hAn (Nat.le_refl _)
     have hst := ins_stable (ltOf cf) lt2 HO.out A n R hAn (by rw [HRN.out]; exact Nat.le_refl _) (ins_agree HI.out HA.out HAG.out (by rw [HDN.out]; exact Nat.le_refl _))
     have hall := fun (R' : Array α) (h1 : PermIn A n R R') (h2 : SortedIn lt2 A n R') => ins_step HI.out HA.out (by rw [HDN.out]; omega) hAn h1 h2
     have hnn : d.size ≤ 20 * (i + 1) := by have := HA.out; have := HDN.out; omega
     have HALL := Lib.hid (hall _ hst.1 hst.2)
     have HC1 := Lib.hid hins
     have HNN := Lib.hid hnn
     clear hins hst hall hnn
     go_wp2_with (go_at_call 47; refine HC1.out.mono ?_; rintro e w2 ⟨rfl, hS2⟩; have HS2 := Lib.hid hS2; clear hS2)
     go_loopw [6] (fun vs wr => ∃ (s : Nat) (R : Array α), vs = .int .i64 s ∧ 20 ≤ s ∧ s ≤ 2305843009213693952 ∧ Hid (SBo enc w0 g 42 rest pre o R wr) ∧ Hid (R.size = d.size) ∧ Hid (PermIn 0 d.size d R) ∧ Hid (∀ j, Good lt2 d (s * j) (s * (j + 1)) R)) (fun vs _ => n - (intOf vs).toNat)
     case atStart => exact ⟨20, _, rfl, by omega, by omega, HS2, Lib.hid HALL.out.sz, Lib.hid HALL.out.perm, Lib.hid (HALL.out.all HNN.out)⟩
     case round =>
       obtain ⟨s, R2, rfl, hs20, hsb, HR2, HZ2, HP2, HG2⟩ := hrel
       clear HS2 HALL HC1 HNN HR HI HA hAn hB1 hB2 hlt HRN
       by_cases hsn : s < n
       · go_wp2
         go_loopw [7, 8] (fun va vb wr => ∃ (i A B : Nat) (R : Array α), va = .int .i64 A ∧ vb = .int .i64 B ∧ A ≤ n ∧ A + 2 * s ≤ B ∧ B ≤ A + 2 * s ∧ Hid (A = 2 * s * i) ∧ Hid (SBo enc w0 g 42 rest pre o R wr) ∧ Hid (MrgInv lt2 d s i R)) (fun va _ _ => n - (intOf va).toNat)
         case atStart => exact ⟨0, 0, 2 * s, R2, rfl, by go_num, Nat.zero_le _, by omega, by omega, Lib.hid (by simp), HR2, Lib.hid (MrgInv.start HZ2.out HP2.out HG2.out)⟩
         case round =>
           obtain ⟨j, A2, B2, R3, rfl, rfl, hAn2, hB3, hB4, HA2, HR3, HM⟩ := hrel
           clear HR2 HZ2 HP2 HG2
           by_cases hlt2 : B2 ≤ n
           · have HC2 := Lib.hid (HMRG.out A2 s (A2 + s) B2 j R3 _ HR3.out HM.out HA2.out rfl (by omega) (by omega) (by omega))
             go_wp2_with (go_at_call 48; refine HC2.out.mono ?_; rintro e w3 ⟨rfl, R4, hS3, hM3⟩; have HS3 := Lib.hid hS3; have HM3 := Lib.hid hM3; clear hS3 hM3)
             go_roundw
             case rel => exact ⟨j + 1, B2, B2 + 2 * s, R4, rfl, by go_num, hlt2, by omega, by omega, Lib.hid (by rw [Nat.mul_succ, ← HA2.out]; omega), HS3, HM3⟩
             case measure => simp [intOf]; omega
           · by_cases hm : A2 + s < n
             · have hmI : (A2 : Int) + (s : Int) < (n : Int) := by omega
               have HC2 := Lib.hid (HMRG.out A2 s (A2 + s) n j R3 _ HR3.out HM.out HA2.out rfl (by omega) (by omega) hm)
               go_wp2_with (go_at_call 48; refine HC2.out.mono ?_; rintro e w3 ⟨rfl, R4, hS3, hM3⟩; have HS3 := Lib.hid hS3; have HM3 := Lib.hid hM3; clear hS3 hM3)
               go_roundw
               case rel => exact ⟨2 * s, R4, by go_num, by omega, by omega, HS3, Lib.hid HM3.out.sz, Lib.hid HM3.out.perm, Lib.hid (HM3.out.done (by rw [Nat.mul_succ, ← HA2.out, HDN.out]; omega))⟩
               case measure => simp [intOf]; omega
             · have hmI : (n : Int) ≤ (A2 : Int) + (s : Int) := by omega
               go_wp2
               go_roundw
               case rel => exact ⟨2 * s, R3, by go_num, by omega, by omega, HR3, Lib.hid HM.out.sz, Lib.hid HM.out.perm, Lib.hid (HM.out.done (by rw [← HA2.out, HDN.out]; omega))⟩
               case measure => simp [intOf]; omega
       · go_wp2
         go_end0
         exact ⟨rfl, R2, HR2.out, HP2.out, good_end HG2.out (by rw [HDN.out]; omega)⟩
theorem stable_anyN {α : Type} [Inhabited α] (enc : α → Value) (hE : ∀ x, ∃ n, enc x = .pointer n) (cf : α → α → Int) (lt2 : α → α → Bool) (hO : SWO lt2) (D : α → Prop) (f : FuncId) (cb : Array Value) (g cap : Nat) (rest pre : List Value) (o : Nat) (d : Array α) (w0 w : World)
   (hC : CmpQ Try.prog f cb enc cf D w0 g) (hS : SBo enc w0 g 42 rest pre o d w) (hD : ∀ i, i < d.size → D d[i]!) (hag : ∀ p q, p < q → q < d.size → ltOf cf d[q]! d[p]! = lt2 d[q]! d[p]!) (hsz : d.size < 1152921504606846976) :
   Calls Try.prog 28 #[.slice (some ⟨g, o, none⟩) d.size cap, .func (.func f) #[] cb] w fun e w' => e = .returned (.tuple #[]) ∧ ∃ R, SBo enc w0 g 42 rest pre o R w' ∧ PermIn 0 d.size d R ∧ SortedIn lt2 0 d.size R := by
 obtain ⟨n, hn⟩ : ∃ n, n = d.size := ⟨_, rfl⟩
 have hcore := stable_coreN enc hE cf lt2 hO D f cb g cap n rest pre o d w0 w hC hS hD hag hn.symm (by omega)
 rw [← hn] at hsz ⊢
 rw [← hn] at hcore
 have HC := Lib.hid hcore
 clear hcore hC hS hD hag hn
 go_enter Try.func28, Try.ntmps28
 go_wp2_with (go_at_call 41; refine HC.out.mono ?_; rintro e w2 ⟨rfl, R, h1, h2, h3⟩)
 go_end0
 exact ⟨rfl, R, h1, h2, h3⟩
theorem ins_any {α : Type} [Inhabited α] (enc : α → Value) (hE : ∀ x, ∃ n, enc x = .int .i64 n) (cf : α → α → Int) (D : α → Prop) (f : FuncId) (cb : Array Value) (g cap a b : Nat) (rest : List Value) (d : Array α) (w0 w : World)
   (hC : CmpQ Try.prog f cb enc cf D w0 g) (hS : SB enc w0 g 3 rest d w) (hD : ∀ i, i < d.size → D d[i]!) (hab : a ≤ b) (hb : b ≤ d.size) (hsz : d.size < 4611686018427387904) :
   Calls Try.prog 42 #[.slice (some ⟨g, 0, none⟩) d.size cap, .int .i64 a, .int .i64 b, .func (.func f) #[] cb] w fun e w' => e = .returned (.tuple #[]) ∧ SB enc w0 g 3 rest (Sort.insertionSort (ltOf cf) d a b) w' := by
 have eg := hC.enters
 have HC := Lib.hid hC
 have HS := Lib.hid hS
 have HD := Lib.hid hD
 clear hC hS hD
 go_enter Try.func42, Try.ntmps42
 go_wp2
 go_loopw [8] (fun vi wr => ∃ (i : Nat) (dk : Array α), vi = .int .i64 i ∧ a < i ∧ i ≤ b + 1 ∧ dk.size = d.size ∧ Hid (SB enc w0 g 3 rest dk wr) ∧ Hid (∀ i, i < dk.size → D dk[i]!) ∧
     Hid (insOuter (ltOf cf) a b i dk = insOuter (ltOf cf) a b (a + 1) d)) (fun vi _ => b + 1 - (intOf vi).toNat)
 case atStart => exact ⟨a + 1, d, by go_num, by omega, by omega, rfl, HS, HD, rfl⟩
 case round =>
   obtain ⟨i, dk, rfl, hai, hib, hsk, HSk, HDk, HO⟩ := hrel
   clear HS
   by_cases hlt : i < b
   · go_wp2
     go_loopw [9] (fun vj wr2 => ∃ (j : Nat) (dj : Array α), vj = .int .i64 j ∧ a ≤ j ∧ j ≤ i ∧ dj.size = d.size ∧ Hid (SB enc w0 g 3 rest dj wr2) ∧ Hid (∀ i, i < dj.size → D dj[i]!) ∧
         Hid (insInner (ltOf cf) a j dj = insInner (ltOf cf) a i dk)) (fun vj _ => (intOf vj).toNat)
     case atStart => exact ⟨i, dk, rfl, by omega, Nat.le_refl _, hsk, HSk, HDk, rfl⟩
     case round =>
       obtain ⟨j, dj, rfl, haj, hji, hsj, HSj, HDj, HI⟩ := hrel
       clear HSk HDk
       by_cases hja : a < j
       · have hc1 := HSj.out.cell j (by omega)
         have hc2 := HSj.out.cell (j - 1) (by omega)
         have hf1 := HSj.out.free j
         have hf2 := HSj.out.free (j - 1)
         have hcall := fun q => HC.out.calls (wr.drewN q) (HSj.out.drewN q).grown dj[j]! dj[j-1]! (HDj.out j (by omega)) (HDj.out (j - 1) (by omega))
         obtain ⟨X, hX⟩ : ∃ X, X = dj[j]! := ⟨_, rfl⟩
         obtain ⟨Y, hY⟩ : ∃ Y, Y = dj[j-1]! := ⟨_, rfl⟩
         rw [← hX] at hc1 hcall
         rw [← hY] at hc2 hcall
         have HX := Lib.hid hX
         have HY := Lib.hid hY
         obtain ⟨x, hx⟩ := hE X
         obtain ⟨y, hy⟩ := hE Y
         rw [hx] at hc1 hcall
         rw [hy] at hc2 hcall
         have HCALL := Lib.hid hcall
         have HEx := Lib.hid hx
         have HEy := Lib.hid hy
         clear hcall hx hy hX hY
         have hj1 : (0 : Int) ≤ (j : Int) - 1 := by omega
         have hj2 : ((j : Int) - 1).toNat = j - 1 := by omega
         have hjd : j < d.size := by omega
         have hjd1 : (j : Int) < (d.size : Int) := by omega
         have out : ltOf cf X Y = false → ∀ q, ∃ i' dk', Value.int .i64 ((i : Int) + 1) = .int .i64 (i' : Nat) ∧ a < i' ∧ i' ≤ b + 1 ∧ dk'.size = d.size ∧ Hid (SB enc w0 g 3 rest dk' (wr.drewN q)) ∧ Hid (∀ i, i < dk'.size → D dk'[i]!) ∧ Hid (insOuter (ltOf cf) a b i' dk' = insOuter (ltOf cf) a b (a + 1) d) :=
           fun hl q => ⟨i + 1, dj, by go_num, by omega, by omega, hsj, HSj.out.drewN q, HDj, by rw [← HO.out, outer_go _ _ _ _ _ hlt, ← HI.out, inner_stop _ _ _ _ (.inr (by rw [← HX.out, ← HY.out]; exact hl))]; exact Lib.hid rfl⟩
         have OUT := Lib.hid out
         clear out
         by_cases hcf : cf X Y < 0
         · have hl : ltOf cf X Y = true := by simpa [ltOf] using hcf
           have HL := Lib.hid hl
           clear hl
           go_wp2_with fail
           go_quiet ((refine Calls.quiet_of (HCALL.out _)))
           go_wp2
           go_region
           all_goals go_wp2
           go_roundw
           case rel =>
             refine ⟨j - 1, swp dj j (j - 1), by congr 1; omega, by omega, by omega, by rw [size_swp]; exact hsj, ?_, ?_, ?_⟩
             · have hw := HSj.out.swp j (j - 1) (by omega) (by omega) (nq + 1)
               rw [← HX.out, ← HY.out, HEx.out, HEy.out] at hw
               exact Lib.hid hw
             · exact Lib.hid (fun q hq => by
                 rw [size_swp] at hq
                 by_cases h1 : q = j
                 · subst h1; rw [swp_left _ _ _ hq (by omega)]; exact HDj.out _ (by omega)
                 · by_cases h2 : q = j - 1
                   · subst h2; rw [swp_right _ _ _ hq]; exact HDj.out _ (by omega)
                   · rw [swp_other _ _ _ _ h1 h2]; exact HDj.out _ hq)
             · exact Lib.hid (by rw [← HI.out, inner_go (ltOf cf) a j dj hja (by rw [← HX.out, ← HY.out]; exact HL.out)])
           case measure => simp [intOf]; omega
         · have hl : ltOf cf X Y = false := by simpa [ltOf] using hcf
           have HL := Lib.hid hl
           clear hl
           go_wp2_with fail
           go_quiet ((refine Calls.quiet_of (HCALL.out _)))
           go_wp2
           go_roundw
           case rel => exact OUT.out HL.out nq
           case measure => simp [intOf]; omega
       · have out : ∀ q, ∃ i' dk', Value.int .i64 ((i : Int) + 1) = .int .i64 (i' : Nat) ∧ a < i' ∧ i' ≤ b + 1 ∧ dk'.size = d.size ∧ Hid (SB enc w0 g 3 rest dk' (wr.drewN q)) ∧ Hid (∀ i, i < dk'.size → D dk'[i]!) ∧ Hid (insOuter (ltOf cf) a b i' dk' = insOuter (ltOf cf) a b (a + 1) d) :=
           fun q => ⟨i + 1, dj, by go_num, by omega, by omega, hsj, HSj.out.drewN q, HDj, by rw [← HO.out, outer_go _ _ _ _ _ hlt, ← HI.out, inner_stop _ _ _ _ (.inl (by omega))]; exact Lib.hid rfl⟩
         have OUT := Lib.hid out
         clear out
         have hja2 : decide ((a : Int) < (j : Int)) = false := by simp; omega
         go_wp2
         go_quiet (fail)
         go_wp2
         go_roundw
         case rel => exact OUT.out nq
         case measure => simp [intOf]; omega
   · go_wp2
     go_end0
     refine ⟨rfl, ?_⟩
     have e : Sort.insertionSort (ltOf cf) d a b = dk := by
       unfold Sort.insertionSort; rw [← HO.out, outer_stop _ _ _ _ _ hlt]
     rw [e]
     exact HSk.out
theorem stable_small {α : Type} [Inhabited α] (enc : α → Value) (hE : ∀ x, ∃ n, enc x = .int .i64 n) (cf : α → α → Int) (lt2 : α → α → Bool) (hO : SWO lt2) (D : α → Prop) (f : FuncId) (cb : Array Value) (g cap : Nat) (rest : List Value) (d : Array α) (w0 w : World)
   (hC : CmpQ Try.prog f cb enc cf D w0 g) (hS : SB enc w0 g 3 rest d w) (hD : ∀ i, i < d.size → D d[i]!) (hag : ∀ p q, p < q → q < d.size → ltOf cf d[q]! d[p]! = lt2 d[q]! d[p]!) (hsz : d.size < 20) :
   Calls Try.prog 14 #[.slice (some ⟨g, 0, none⟩) d.size cap, .func (.func f) #[] cb] w fun e w' => e = .returned (.tuple #[]) ∧ ∃ R, SB enc w0 g 3 rest R w' ∧ PermIn 0 d.size d R ∧ SortedIn lt2 0 d.size R := by
 have hins := ins_any enc hE cf D f cb g cap 0 d.size rest d w0 w hC hS hD (Nat.zero_le _) (Nat.le_refl _) (by omega)
 have hst := ins_stable (ltOf cf) lt2 hO 0 d.size d (Nat.zero_le _) (Nat.le_refl _) (fun p q _ h1 h2 => hag p q h1 h2)
 have HI := Lib.hid hins
 clear hins hC hS hD hag hO
 have hz : (d.size : Int) < 20 := by omega
 have hi := HI.out
 generalize d.size = n at *
 clear hi
 go_enter Try.func14, Try.ntmps14
 go_wp2_with (first | (go_at_call 42; refine HI.out.mono ?_; rintro e w' ⟨rfl, hS'⟩; have HS := Lib.hid hS'; clear hS') | go_in)
 refine wp_loop_once ?_
 go_wp2_with (first | (go_at_call 42; refine HI.out.mono ?_; rintro e w' ⟨rfl, hS'⟩; have HS := Lib.hid hS'; clear hS') | go_in)
 refine wp_loop_once ?_
 go_wp2
 go_end0
 go_wp2
 go_end0
 exact ⟨rfl, _, HS.out, hst⟩
theorem stable_nil (fv : Value) (w : World) : Calls Try.prog 14 #[.slice none 0 0, fv] w fun e w' => e = .returned (.tuple #[]) ∧ w = w' := by
 go_enter Try.func14, Try.ntmps14
 go_wp2
 refine wp_loop_once ?_
 go_wp2
 refine wp_loop_once ?_
 go_wp2
 go_end0
 go_wp2
 refine wp_loop_once ?_
 go_wp2
 go_end0
 go_wp2
 go_end0
 exact ⟨rfl, rfl⟩
end Go.Proofs.Ythmpigmmihiecaa
namespace Go.Proofs.Ythmpigmmihiecaa
open Go.Sort
def ats (l : List Int) : Nat → Int
 | 0 => 0
 | n + 1 => ats l n + cn l n
theorem ats_mono (l : List Int) (n : Nat) : ∀ m, n ≤ m → ats l n ≤ ats l m
 | 0, h => by obtain rfl : n = 0 := by omega
              exact Int.le_refl _
 | m + 1, h => by
   by_cases e : n = m + 1
   · subst e; exact Int.le_refl _
   · have := ats_mono l n m (by omega)
     have := (cn_bd l m).1
     simp only [ats]; omega
theorem ats_nonneg (l : List Int) (n : Nat) : 0 ≤ ats l n := ats_mono l 0 n (Nat.zero_le _)
def hasLong (l : List Int) (n : Nat) : Bool := l.any fun x => decide ((n : Int) ≤ x)
theorem cn_pos {l : List Int} {m : Nat} (hm : 0 < m) (h : (m : Int) ∈ l) : 1 ≤ cn l m := by
 obtain ⟨k, hk, he⟩ := List.mem_iff_getElem.1 h
 have := cn_lt (l := l) (k := k) (m := m) hk hm (by simp [List.getD, hk, he])
 have := (cn_bd (l.take k) m).1
 omega
theorem cn_zero {l : List Int} {m : Nat} (h : ¬ (m : Int) ∈ l) : cn l m = 0 := by
 unfold cn
 split
 · rfl
 · have : l.filter (fun x => x == (m : Int)) = [] := by
     rw [List.filter_eq_nil_iff]
     intro x hx
     simp
     intro e; subst e; exact h hx
   simp [this]
theorem ats_long {l : List Int} (hok1 : hok l = true) {n : Nat} (hn : 1 ≤ n) (hn2 : n ≤ 16) : (ats l n = ats l 16) ↔ hasLong l n = false := by
 constructor
 · intro h
   rw [hasLong, List.any_eq_false]
   intro x hx
   have hx15 := hok_mem hok1 x hx
   simp
   refine Int.not_le.1 fun hnx => ?_
   have hp := cn_pos (l := l) (m := x.toNat) (by omega) (by rw [Int.toNat_of_nonneg hx15.1]; exact hx)
   have h1 := ats_mono l n x.toNat (by omega)
   have h2 := ats_mono l (x.toNat + 1) 16 (by omega)
   rw [show ats l (x.toNat + 1) = ats l x.toNat + cn l x.toNat from rfl] at h2
   omega
 · intro h
   rw [hasLong, List.any_eq_false] at h
   have key : ∀ m, n ≤ m → m ≤ 16 → ats l m = ats l n := by
     intro m
     induction m with
     | zero => intro h1 _; obtain rfl : n = 0 := by omega
               rfl
     | succ m ih =>
       intro h1 h2
       by_cases e : n = m + 1
       · subst e; rfl
       · simp only [ats]
         rw [ih (by omega) (by omega), cn_zero (fun hm => by have := h _ hm; simp at this; omega)]
         omega
   exact (key 16 hn2 (Nat.le_refl _)).symm
def findSym (l : List Int) (n : Nat) (x : Int) : Option Nat := (List.range l.length).find? fun k => l.getD k 0 == (n : Int) && codeAt l k == x
theorem rank_exists {l : List Int} {n : Nat} (hn : 0 < n) : ∀ (N : Nat), N ≤ l.length → ∀ r : Int, 0 ≤ r → r < cn (l.take N) n → ∃ k, k < N ∧ l.getD k 0 = (n : Int) ∧ cn (l.take k) n = r
 | 0, _, r, h0, h => by simp [cn] at h; omega
 | N + 1, hN, r, h0, h => by
   rw [take_snoc 0 l N (by omega)] at h
   by_cases he : l.getD N 0 = (n : Int)
   · rw [cn_snoc _ _ _ (by omega), if_pos (by omega)] at h
     by_cases hr : r < cn (l.take N) n
     · obtain ⟨k, hk, h1, h2⟩ := rank_exists hn N (by omega) r h0 hr
       exact ⟨k, by omega, h1, h2⟩
     · exact ⟨N, by omega, he, by omega⟩
   · have hr : r < cn (l.take N) n := by
       have e : cn (l.take N ++ [l.getD N 0]) n = cn (l.take N) n := by
         unfold cn
         rw [if_neg (by omega), if_neg (by omega), List.filter_append]
         have : ¬ (l.getD N 0 == (n : Int)) = true := by simpa using he
         simp only [List.getD] at this
         simp [this]
       omega
     obtain ⟨k, hk, h1, h2⟩ := rank_exists hn N (by omega) r h0 hr
     exact ⟨k, by omega, h1, h2⟩
theorem findSym_some {l : List Int} {n : Nat} {x : Int} (hn : 0 < n) (h0 : fcode (cn l) n ≤ x) (h1 : x - fcode (cn l) n < cn l n) :
   ∃ k, findSym l n x = some k ∧ k < l.length ∧ l.getD k 0 = (n : Int) ∧ cn (l.take k) n = x - fcode (cn l) n := by
 obtain ⟨k, hk, hl, hc⟩ := rank_exists (l := l) hn l.length (Nat.le_refl _) (x - fcode (cn l) n) (by omega) (by rw [List.take_length]; exact h1)
 have hkx : codeAt l k = x := by unfold codeAt; rw [if_pos (by omega), hl]; simp only [Int.toNat_natCast]; omega
 have hs : (findSym l n x).isSome := by
   rw [findSym, List.find?_isSome]
   exact ⟨k, by simpa using hk, by simp only [hl, hkx]; simp⟩
 obtain ⟨k', hk'⟩ := Option.isSome_iff_exists.1 hs
 have hp := List.find?_some hk'
 have hm := List.mem_of_find?_eq_some hk'
 simp only [Bool.and_eq_true, beq_iff_eq] at hp
 have hc' : cn (l.take k') n = x - fcode (cn l) n := by
   have := hp.2
   unfold codeAt at this
   rw [if_pos (by omega), hp.1] at this
   simp only [Int.toNat_natCast] at this
   omega
 exact ⟨k', hk', by simpa using hm, hp.1, hc'⟩
theorem findSym_none {l : List Int} {n : Nat} {x : Int} (hn : 0 < n) (h : ¬ (fcode (cn l) n ≤ x ∧ x - fcode (cn l) n < cn l n)) : findSym l n x = none := by
 rw [findSym, List.find?_eq_none]
 intro k hk
 simp only [Bool.and_eq_true, beq_iff_eq, not_and]
 intro hl hc
 apply h
 have hkl : k < l.length := by simpa using hk
 have h1 := cn_lt hkl hn hl
 have h2 := (cn_bd (l.take k) n).1
 unfold codeAt at hc
 rw [if_pos (by omega), hl] at hc
 simp only [Int.toNat_natCast] at hc
 omega
def valN (f : Nat → Bool) : Nat → Nat
 | 0 => 0
 | n + 1 => 2 * valN f n + if f n then 1 else 0
theorem valN_lt (f : Nat → Bool) : ∀ n, valN f n < 2 ^ n
 | 0 => by simp [valN]
 | n + 1 => by have := valN_lt f n; simp only [valN, Nat.pow_succ]; split <;> omega
def takeGo (l : List Int) (f : Nat → Bool) (left : Nat) : Nat → Nat → Nat × Nat × Int
 | 0, n => (0, n - 1, 13)
 | fuel + 1, n =>
   if hasLong l n = false then (0, n - 1, 13) else
   if left < n then (0, n - 1, 10) else
   match findSym l n (valN f n) with
   | some k => (k, n, 0)
   | none => takeGo l f left fuel (n + 1)
def takeV (l : List Int) (f : Nat → Bool) (left : Nat) : Nat × Nat × Int := takeGo l f left 15 1
structure SrtOf (l srt : List Int) : Prop where
 len : (srt.length : Int) = ats l 16
 at_ : ∀ k, k < l.length → 0 < l.getD k 0 → srt.getD (ats l (l.getD k 0).toNat + cn (l.take k) (l.getD k 0).toNat).toNat 0 = (k : Int)
def symsTo (l : List Int) (N : Nat) : List Int := ((List.range N).filter fun k => decide (0 < l.getD k 0)).map fun (k : Nat) => (k : Int)
theorem symsTo_succ (l : List Int) (N : Nat) : symsTo l (N + 1) = symsTo l N ++ if 0 < l.getD N 0 then [(N : Int)] else [] := by
 unfold symsTo
 rw [List.range_succ, List.filter_append, List.map_append]
 by_cases h : 0 < l.getD N 0
 · simp only [if_pos h]; simp only [List.getD] at h; simp [h]
 · simp only [if_neg h]; simp only [List.getD] at h; simp [h]
def symLt (l : List Int) (x y : Int) : Bool := decide (l.getD x.toNat 0 < l.getD y.toNat 0) || (decide (l.getD x.toNat 0 = l.getD y.toNat 0) && decide (x < y))
theorem symLt_swo (l : List Int) : SWO (symLt l) := by
 refine ⟨fun x => ?_, fun x y z h1 h2 => ?_, fun x y z h1 h2 => ?_⟩
 · simp [symLt]
 · simp only [symLt, Bool.or_eq_true, Bool.and_eq_true, decide_eq_true_eq] at *; omega
 · simp only [symLt, Bool.or_eq_false_iff, Bool.and_eq_false_iff, decide_eq_false_iff_not] at *; omega
theorem mem_symsTo {l : List Int} {N : Nat} {x : Int} : x ∈ symsTo l N ↔ ∃ k : Nat, k < N ∧ 0 < l.getD k 0 ∧ x = (k : Int) := by
 simp only [symsTo, List.mem_map, List.mem_filter, List.mem_range, decide_eq_true_eq]
 constructor
 · rintro ⟨k, ⟨h1, h2⟩, rfl⟩; exact ⟨k, h1, h2, rfl⟩
 · rintro ⟨k, h1, h2, rfl⟩; exact ⟨k, ⟨h1, h2⟩, rfl⟩
theorem ats_snoc (l : List Int) (x : Int) (hx : 0 ≤ x) : ∀ L : Nat, ats (l ++ [x]) L = ats l L + if 0 < x ∧ x < (L : Int) then 1 else 0
 | 0 => by simp [ats]; omega
 | L + 1 => by
   simp only [ats]
   rw [ats_snoc l x hx L, cn_snoc l x L hx]
   by_cases h1 : 0 < x ∧ x < (L : Int)
   · rw [if_pos h1, if_neg (by omega), if_pos (by omega)]; omega
   · by_cases h2 : 0 < x ∧ L = x.toNat
     · rw [if_neg h1, if_pos h2, if_pos (by omega)]; omega
     · rw [if_neg h1, if_neg h2, if_neg (by omega)]; omega
theorem cnt1 (X Y : Int) (b : Bool) : (((if (decide (X < Y) || decide (X = Y) && b) = true then 1 else 0 : Nat)) : Int) = if X < Y ∨ (X = Y ∧ b = true) then 1 else 0 := by
 by_cases h : X < Y
 · simp [h]
 · by_cases h' : X = Y <;> cases b <;> simp [h, h']
theorem count_one (l : List Int) (N k : Nat) : [(N : Int)].countP (fun y => symLt l y (k : Int)) = if (decide (l.getD N 0 < l.getD k 0) || decide (l.getD N 0 = l.getD k 0) && decide ((N : Int) < (k : Int))) = true then 1 else 0 := by
 rw [List.countP_cons, List.countP_nil, Nat.zero_add]; rfl
theorem count_symLt {l : List Int} (hok1 : hok l = true) (k : Nat) (hk : k < l.length) (hp : 0 < l.getD k 0) : ∀ N, N ≤ l.length →
   (((symsTo l N).countP fun y => symLt l y (k : Int) : Nat) : Int) = ats (l.take N) (l.getD k 0).toNat + cn (l.take (min N k)) (l.getD k 0).toNat
 | 0, _ => by
   have e : ats (l.take 0) (l.getD k 0).toNat = 0 := by
     have : ∀ L, ats ([] : List Int) L = 0 := by intro L; induction L with
       | zero => rfl
       | succ L ih => simp [ats, ih, cn]
     simpa using this _
   rw [e]; simp [symsTo, cn]
 | N + 1, hN => by
   have ih := count_symLt hok1 k hk hp N (by omega)
   have hx := hok_mem hok1 (l.getD N 0) (by simp [List.getD, show N < l.length by omega])
   rw [symsTo_succ, List.countP_append, take_snoc 0 l N (by omega), ats_snoc _ _ hx.1]
   push_cast
   rw [ih]
   by_cases hNk : N < k
   · have e1 : min (N + 1) k = N + 1 := by omega
     have e2 : min N k = N := by omega
     rw [e1, e2, take_snoc 0 l N (by omega), cn_snoc _ _ _ hx.1]
     by_cases hpos : 0 < l.getD N 0
     · rw [if_pos hpos]
       have e3 : (([(N : Int)].countP fun y => symLt l y (k : Int) : Nat) : Int) = if l.getD N 0 < l.getD k 0 ∨ l.getD N 0 = l.getD k 0 then 1 else 0 := by
         rw [count_one, cnt1]; simp [hNk]
       rw [e3]
       by_cases h : l.getD N 0 < l.getD k 0
       · rw [if_pos (.inl h), if_pos (by omega), if_neg (by omega)]; omega
       · by_cases h' : l.getD N 0 = l.getD k 0
         · rw [if_pos (.inr h'), if_neg (by omega), if_pos (by omega)]; omega
         · rw [if_neg (by omega), if_neg (by omega), if_neg (by omega)]; omega
     · rw [if_neg hpos, if_neg (by omega), if_neg (by omega)]; simp
   · have e1 : min (N + 1) k = k := by omega
     have e2 : min N k = k := by omega
     rw [e1, e2]
     by_cases hpos : 0 < l.getD N 0
     · rw [if_pos hpos]
       have e3 : (([(N : Int)].countP fun y => symLt l y (k : Int) : Nat) : Int) = if l.getD N 0 < l.getD k 0 then 1 else 0 := by
         rw [count_one, cnt1]; simp [hNk]
       rw [e3]
       by_cases h : l.getD N 0 < l.getD k 0
       · rw [if_pos h, if_pos (by omega)]; omega
       · rw [if_neg h, if_neg (by omega)]; omega
     · rw [if_neg hpos, if_neg (by omega)]; simp
theorem length_symsTo {l : List Int} (hok1 : hok l = true) : ∀ N, N ≤ l.length → ((symsTo l N).length : Int) = ats (l.take N) 16
 | 0, _ => by simp [symsTo, ats, cn]
 | N + 1, hN => by
   have hx := hok_mem hok1 (l.getD N 0) (by simp [List.getD, show N < l.length by omega])
   rw [symsTo_succ, List.length_append, take_snoc 0 l N (by omega), ats_snoc _ _ hx.1]
   push_cast
   rw [length_symsTo hok1 N (by omega)]
   by_cases hpos : 0 < l.getD N 0
   · rw [if_pos hpos, if_pos (by omega)]; simp
   · rw [if_neg hpos, if_neg (by omega)]; simp
theorem countP_sorted {α : Type} (p : α → Bool) : ∀ (R : List α) (i : Nat), i ≤ R.length → (∀ j (h : j < R.length), p R[j] = decide (j < i)) → R.countP p = i
 | [], i, h, _ => by simp at h; simp [h]
 | x :: R, 0, _, hp => by
   rw [List.countP_eq_zero]
   intro y hy
   obtain ⟨j, hj, rfl⟩ := List.mem_iff_getElem.1 hy
   rw [hp j hj]; simp
 | x :: R, i + 1, h, hp => by
   have h0 := hp 0 (by simp)
   simp only [List.getElem_cons_zero] at h0
   rw [List.countP_cons_of_pos (by rw [h0]; simp), countP_sorted p R i (by simpa using h) (fun j hj => by
     have := hp (j + 1) (by simpa using hj)
     simpa using this)]
theorem srt_of {l : List Int} (hok1 : hok l = true) (R : Array Int) (hP : PermIn 0 (symsTo l l.length).length (symsTo l l.length).toArray R) (hS : SortedIn (symLt l) 0 (symsTo l l.length).length R) : SrtOf l R.toList := by
 obtain ⟨hsz, _, hperm⟩ := hP
 have hsz' : R.size = (symsTo l l.length).length := by simpa using hsz
 have hperm' : R.toList.Perm (symsTo l l.length) := by
   have e1 : R.extract 0 (symsTo l l.length).length = R := by rw [← hsz']; simp
   have e2 : (symsTo l l.length).toArray.extract 0 (symsTo l l.length).length = (symsTo l l.length).toArray := by simp
   rw [e1, e2] at hperm
   simpa using hperm
 have hnd : (symsTo l l.length).Nodup := by
   unfold symsTo
   refine List.Pairwise.map _ (R := fun a b : Nat => a ≠ b) (fun a b h e => h (by omega)) ?_
   exact List.Pairwise.filter _ List.nodup_range
 have hnd' : R.toList.Nodup := hperm'.symm.nodup hnd
 have hstrict : ∀ i j (hi : i < R.toList.length) (hj : j < R.toList.length), i < j → symLt l R.toList[i] R.toList[j] = true := by
   intro i j hi hj hij
   have h1 := hS i j (Nat.zero_le _) hij (by rw [← hsz']; simpa using hj)
   have hi' : i < R.size := by simpa using hi
   have hj' : j < R.size := by simpa using hj
   simp only [getElem!_pos, hi', hj'] at h1
   have hne : R.toList[i] ≠ R.toList[j] := fun e => by
     have := (List.getElem_inj hnd').1 e
     omega
   simp only [Array.getElem_toList] at hne ⊢
   simp only [symLt, Bool.or_eq_false_iff, Bool.and_eq_false_iff, decide_eq_false_iff_not] at h1
   simp only [symLt, Bool.or_eq_true, Bool.and_eq_true, decide_eq_true_eq]
   omega
 refine ⟨?_, fun k hk hp => ?_⟩
 · rw [hperm'.length_eq, length_symsTo hok1 _ (Nat.le_refl _), List.take_length]
 · have hmem : (k : Int) ∈ R.toList := hperm'.mem_iff.2 (mem_symsTo.2 ⟨k, hk, hp, rfl⟩)
   obtain ⟨i, hi, he⟩ := List.mem_iff_getElem.1 hmem
   have hc := countP_sorted (fun y => symLt l y (k : Int)) R.toList i (by omega) (fun j hj => by
     by_cases hji : j < i
     · have := hstrict j i hj hi hji
       rw [he] at this
       simpa [hji] using this
     · by_cases e : j = i
       · subst e; rw [he]; simp [(symLt_swo l).irrefl]
       · have h1 := hstrict i j hi hj (by omega)
         rw [he] at h1
         have h2 : symLt l R.toList[j] (k : Int) = false := by
           cases h3 : symLt l R.toList[j] (k : Int) with
           | false => rfl
           | true => have := (symLt_swo l).trans _ _ _ h1 h3; rw [(symLt_swo l).irrefl] at this; cases this
         rw [h2]; simp [hji])
   rw [hperm'.countP_eq] at hc
   have hcount := count_symLt hok1 k hk hp l.length (Nat.le_refl _)
   rw [hc, List.take_length, Nat.min_eq_right (by omega)] at hcount
   have e : (ats l (l.getD k 0).toNat + cn (l.take k) (l.getD k 0).toNat).toNat = i := by omega
   rw [e, ← List.getElem_eq_getD (h := hi), he]
end Go.Proofs.Ythmpigmmihiecaa
namespace Go.Proofs.Ythmpigmmihiecaa
open Go.RowKit
theorem kraft_end {l : List Int} {n : Nat} (hl : l.length = n) (h1 : ¬ (n : Int) < 1) (h2 : ¬ 320 < (n : Int)) (hok1 : hok (l.take n) = true) :
   roomV l = if 32768 < hsum (l.take n) then -1 else hsum (l.take n) := by
 subst hl
 rw [List.take_length] at hok1 ⊢
 unfold roomV
 rw [if_neg (by rintro (h | h | h) <;> first | omega | simp_all)]
theorem kraft_any (a : Option Addr) (n cap : Nat) (l : List Int) (w : World) (hr : Row w 1 a n cap (l.map (Value.int .i64))) :
   Calls Try.prog 20 #[.slice a n cap] w fun e w' => e = .returned (.int .i64 (roomV l)) ∧ w = w' := by
 have hm := hr.i64
 have hl := hr.len1
 by_cases h1 : (n : Int) < 1
 · have hv : roomV l = -1 := by unfold roomV; rw [if_pos (by omega)]
   have HV := Lib.hid hv; clear hv
   go_enter Try.func20, Try.ntmps20
   go_wp2
   go_ret
   exact ⟨ret_int HV.out.symm, rfl⟩
 by_cases h2 : 320 < (n : Int)
 · have hv : roomV l = -1 := by unfold roomV; rw [if_pos (by omega)]
   have HV := Lib.hid hv; clear hv
   go_enter Try.func20, Try.ntmps20
   go_wp2
   go_ret
   exact ⟨ret_int HV.out.symm, rfl⟩
 have HL := Lib.hid hl; clear hl
 go_enter Try.func20, Try.ntmps20
 go_wp2
 go_loop [3, 16] (fun s i => ∃ k : Nat, k ≤ n ∧ i = .int .i64 k ∧ s = .int .i64 (hsum (l.take k)) ∧ Hid (hok (l.take k) = true)) (fun s i => n - (intOf i).toNat)
 case atStart => exact ⟨0, by omega, rfl, rfl, Lib.hid rfl⟩
 case round =>
   obtain ⟨k, hk, rfl, rfl, hok1⟩ := hrel
   by_cases hlt : k < n
   · obtain ⟨b, off, rfl, hb, hc⟩ := hr.at 0 k hlt
     have hck := hc k hlt
     have hs := hsum_bd (l.take k)
     have hs2 : (l.take k).length ≤ k := List.length_take_le _ _
     have ht := take_snoc 0 l k (by rw [HL.out]; exact hlt)
     obtain ⟨x, hx⟩ : ∃ x, x = l.getD k 0 := ⟨_, rfl⟩
     rw [← hx] at hck ht
     have HX := Lib.hid hx
     have HT := Lib.hid ht
     clear hc hx ht
     by_cases hneg : x < 0
     · have hv : roomV l = -1 := by unfold roomV; rw [if_pos (.inr (.inr (hok_not (k := k) (by rw [HL.out]; exact hlt) (by rw [← HX.out]; omega))))]
       have HV := Lib.hid hv; clear hv
       go_wp2
       go_ret
       exact ⟨ret_int HV.out.symm, rfl⟩
     by_cases h15 : 15 < x
     · have hv : roomV l = -1 := by unfold roomV; rw [if_pos (.inr (.inr (hok_not (k := k) (by rw [HL.out]; exact hlt) (by rw [← HX.out]; omega))))]
       have HV := Lib.hid hv; clear hv
       go_wp2
       go_ret
       exact ⟨ret_int HV.out.symm, rfl⟩
     have hbd := hby_bd x
     unfold hby at hbd
     by_cases hp : 0 < x
     · go_wp2
       go_round
       case rel => exact ⟨k + 1, by omega, by go_num, by rw [HT.out, hsum_snoc]; unfold hadd hby; rw [if_pos hp], Lib.hid (by rw [HT.out, hok_snoc, hok1.out]; simp; omega)⟩
       case measure => simp [intOf]; omega
     · go_wp2
       go_round
       case rel => exact ⟨k + 1, by omega, by go_num, by rw [HT.out, hsum_snoc]; unfold hadd; rw [if_neg hp], Lib.hid (by rw [HT.out, hok_snoc, hok1.out]; simp; omega)⟩
       case measure => simp [intOf]; omega
   · obtain rfl : k = n := by omega
     have hv := kraft_end HL.out (by omega) (by omega) hok1.out
     by_cases hw : 32768 < hsum (l.take k)
     · rw [if_pos hw] at hv
       have HV := Lib.hid hv; clear hv
       go_wp2
       go_ret
       exact ⟨ret_int HV.out.symm, rfl⟩
     · rw [if_neg hw] at hv
       have HV := Lib.hid hv; clear hv
       go_wp2
       go_ret
       exact ⟨ret_int HV.out.symm, rfl⟩
end Go.Proofs.Ythmpigmmihiecaa
