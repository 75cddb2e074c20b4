/-
  Our texts QSym2 to QSym6, in one.
-/
import Derived.Test.YtnkodejgiabamaaGreatPkW19
/-
  Go's stable merge in place, at elements of one cell ([]int): one element against a run.
-/
namespace Go.Proofs.YtnkodejgiabamaaGreat
open Go.RowKit Go.Sort

/-- What the merge leaves. -/
def MergePQ {α : Type} [Inhabited α] (enc : α → Value) (lt : α → α → Bool) (g a b : Nat) (rest : List Value) (d : Array α) (w0 : World) (e : Ending) (w' : World) : Prop :=
  e = .returned (.tuple #[]) ∧ ∃ R : Array α, R.size = d.size ∧ SB enc w0 g 24 rest R w' ∧ PermIn a b d R ∧ SortedIn lt a b R

set_option maxRecDepth 8000 in
set_option maxHeartbeats 4000000 in
theorem sym_leftQ {α : Type} [Inhabited α] (enc : α → Value) (hE : ∀ x, ∃ a n c, enc x = .slice a n c) (cf : α → α → Int) (lt : α → α → Bool) (hL : SWO lt) (D : α → Prop) (f : FuncId) (cb : Array Value) (g cap a m b : Nat) (rest : List Value) (d : Array α) (w0 w : World)
    (hC : CmpQ Tryz.prog f cb enc cf D w0 g) (hS : SB enc w0 g 24 rest d w) (hD : ∀ i, i < d.size → D d[i]!) (hm : m = a + 1) (hmb : m < b) (hb : b ≤ d.size) (hsz : d.size < 4611686018427387904)
    (h2 : SortedIn lt m b d) (hA : Agree (ltOf cf) lt d a m b) :
    Calls Tryz.prog 95 #[.slice (some ⟨g, 0, none⟩) d.size cap, .int .i64 a, .int .i64 m, .int .i64 b, .func (.func f) #[] cb] w fun e w' => MergePQ enc lt g a b rest d w0 e w' := by
  have eg := hC.enters
  have HC := Lib.hid hC
  have HS := Lib.hid hS
  have HD := Lib.hid hD
  have H2 := Lib.hid h2
  have HA := Lib.hid hA
  clear hC hS hD h2 hA
  have heq : ((m : Int) - (a : Int) == 1) = true := by rw [beq_iff_eq]; omega
  go_enter Tryz.func95, Tryz.ntmps95
  go_wp2
  go_loopw [10, 11] (fun vi vj wr => ∃ (i j : Nat), vi = .int .i64 i ∧ vj = .int .i64 j ∧ m ≤ i ∧ i ≤ j ∧ j ≤ b ∧ Hid (SB enc w0 g 24 rest d wr) ∧ Hid (∀ q, m ≤ q → q < i → lt d[q]! d[a]! = true) ∧ Hid (∀ q, j ≤ q → q < b → lt d[q]! d[a]! = false)) (fun vi vj _ => (intOf vj).toNat - (intOf vi).toNat)
  case atStart => exact ⟨m, b, rfl, rfl, Nat.le_refl _, by omega, Nat.le_refl _, HS, Lib.hid (fun q h1 h2 => by omega), Lib.hid (fun q h1 h2 => by omega)⟩
  case round =>
    obtain ⟨i, j, rfl, rfl, hai, hij, hjb, HSk, HLo, HHi⟩ := hrel
    clear HS
    by_cases hlt : i < j
    · obtain ⟨h, hh⟩ : ∃ h, h = (i + j) / 2 := ⟨_, rfl⟩
      have hc1 := HSk.out.cell h (by omega)
      have hc2 := HSk.out.cell a (by omega)
      have hcall := fun q => HC.out.calls (wr.drewN q) (HSk.out.drewN q).grown d[h]! d[a]! (HD.out h (by omega)) (HD.out a (by omega))
      have hag := HA.out a h (Nat.le_refl _) (by omega) (by omega) (by omega)
      obtain ⟨X, hX⟩ : ∃ X, X = d[h]! := ⟨_, rfl⟩
      obtain ⟨Y, hY⟩ : ∃ Y, Y = d[a]! := ⟨_, rfl⟩
      rw [← hX] at hc1 hcall hag
      rw [← hY] at hc2 hcall hag
      have HX := Lib.hid hX
      have HY := Lib.hid hY
      obtain ⟨x, xn, xc, hx⟩ := hE X
      obtain ⟨y, yn, yc, hy⟩ := hE Y
      rw [hx] at hc1 hcall
      rw [hy] at hc2 hcall
      have HCALL := Lib.hid hcall
      have HAG := Lib.hid hag
      clear hcall hx hy hX hY hag
      have hh1 : ((i : Int) + (j : Int)) / 2 = (h : Int) := by omega
      have hhb : (h : Int) < (d.size : Int) := by omega
      have hab : (a : Int) < (d.size : Int) := by omega
      have hhi : i ≤ h := by omega
      have hhj : h < j := by omega
      clear hh
      by_cases hcf : cf X Y < 0
      · have hl : lt X Y = true := by rw [← HAG.out]; simpa [ltOf] using hcf
        have HL := Lib.hid hl
        have hcf2 : cf X Y < 0 := hcf
        clear hl hcf
        go_wp2_with fail
        go_quiet ((refine Calls.quiet_of (HCALL.out _)))
        go_wp2
        go_roundw
        case rel => exact ⟨h + 1, j, by go_num, rfl, by omega, by omega, hjb, Lib.hid (HSk.out.drewN _), Lib.hid (fun q h3 h4 => low_all hL H2.out (by omega : h < b) (by rw [← HX.out, ← HY.out]; exact HL.out) q h3 (by omega)), HHi⟩
        case measure => simp [intOf]; omega
      · have hl : lt X Y = false := by rw [← HAG.out]; simpa [ltOf] using hcf
        have HL := Lib.hid hl
        have hcf2 : 0 ≤ cf X Y := by omega
        clear hl hcf
        go_wp2_with fail
        go_quiet ((refine Calls.quiet_of (HCALL.out _)))
        go_wp2
        go_roundw
        case rel => exact ⟨i, h, rfl, rfl, hai, hhi, by omega, Lib.hid (HSk.out.drewN _), HLo, Lib.hid (fun q h3 h4 => high_all hL H2.out (by omega) (by rw [← HX.out, ← HY.out]; exact HL.out) q h3 h4)⟩
        case measure => simp [intOf]; omega
    · obtain rfl : i = j := by omega
      go_wp2
      go_loopw [13] (fun vk wr2 => ∃ (k : Nat) (dk : Array α), vk = .int .i64 k ∧ a ≤ k ∧ k ≤ i - 1 ∧ dk.size = d.size ∧ Hid (SB enc w0 g 24 rest dk wr2) ∧ Hid (∀ q, dk[q]! = shlF d a k q) ∧ Hid (PermIn a b d dk)) (fun vk _ => i - (intOf vk).toNat)
      case atStart => exact ⟨a, d, rfl, Nat.le_refl _, by omega, rfl, HSk, Lib.hid (fun q => (shlF_zero d a q).symm), Lib.hid (permIn_refl _ _ _)⟩
      case round =>
        obtain ⟨k, dk, rfl, hak, hki, hsk, HSk2, HR, HP⟩ := hrel
        clear HSk
        by_cases hk : k < i - 1
        · have hc1 := HSk2.out.cell k (by omega)
          have hc2 := HSk2.out.cell (k + 1) (by omega)
          have hf1 := HSk2.out.free k
          have hf2 := HSk2.out.free (k + 1)
          obtain ⟨X, hX⟩ : ∃ X, X = dk[k]! := ⟨_, rfl⟩
          obtain ⟨Y, hY⟩ : ∃ Y, Y = dk[k + 1]! := ⟨_, rfl⟩
          rw [← hX] at hc1
          rw [← hY] at hc2
          have HX := Lib.hid hX
          have HY := Lib.hid hY
          obtain ⟨x, xn, xc, hx⟩ := hE X
          obtain ⟨y, yn, yc, hy⟩ := hE Y
          rw [hx] at hc1
          rw [hy] at hc2
          have HEx := Lib.hid hx
          have HEy := Lib.hid hy
          clear hx hy hX hY
          have hj1 : ((k : Int) + 1).toNat = k + 1 := by omega
          have hb1 : (k : Int) < (d.size : Int) := by omega
          have hb2 : (k : Int) + 1 < (d.size : Int) := by omega
          go_wp2
          go_region
          all_goals go_wp2
          go_roundw
          case rel =>
            refine ⟨k + 1, swp dk k (k + 1), by go_num, by omega, by omega, by rw [size_swp]; exact hsk, ?_, Lib.hid (shlF_step d dk a k hak (by omega) HR.out), Lib.hid (permIn_trans _ _ _ _ _ HP.out (swp_permIn dk a b k (k + 1) (by omega) (by omega) (by omega) (by omega) (by omega)))⟩
            have hw := HSk2.out.swp k (k + 1) (by omega) (by omega) 1
            rw [← HX.out, ← HY.out, HEx.out, HEy.out] at hw
            exact Lib.hid hw
          case measure => simp [intOf]; omega
        · obtain rfl : k = i - 1 := by omega
          go_wp2
          go_end0
          exact ⟨rfl, dk, hsk, HSk2.out, HP.out, left_done hL d dk a b i (by omega) hjb (by rw [← hm]; exact H2.out) (by rw [← hm]; exact HLo.out) HHi.out HR.out⟩

set_option maxRecDepth 8000 in
set_option maxHeartbeats 4000000 in
theorem sym_rightQ {α : Type} [Inhabited α] (enc : α → Value) (hE : ∀ x, ∃ a n c, enc x = .slice a n c) (cf : α → α → Int) (lt : α → α → Bool) (hL : SWO lt) (D : α → Prop) (f : FuncId) (cb : Array Value) (g cap a m b : Nat) (rest : List Value) (d : Array α) (w0 w : World)
    (hC : CmpQ Tryz.prog f cb enc cf D w0 g) (hS : SB enc w0 g 24 rest d w) (hD : ∀ i, i < d.size → D d[i]!) (ham : a + 1 < m) (hbm : b = m + 1) (hb : b ≤ d.size) (hsz : d.size < 4611686018427387904)
    (h1 : SortedIn lt a m d) (hA : Agree (ltOf cf) lt d a m b) :
    Calls Tryz.prog 95 #[.slice (some ⟨g, 0, none⟩) d.size cap, .int .i64 a, .int .i64 m, .int .i64 b, .func (.func f) #[] cb] w fun e w' => MergePQ enc lt g a b rest d w0 e w' := by
  have eg := hC.enters
  have HC := Lib.hid hC
  have HS := Lib.hid hS
  have HD := Lib.hid hD
  have H1 := Lib.hid h1
  have HA := Lib.hid hA
  clear hC hS hD h1 hA
  have hne : ((m : Int) - (a : Int) == 1) = false := by rw [beq_eq_false_iff_ne]; omega
  have heq : ((b : Int) - (m : Int) == 1) = true := by rw [beq_iff_eq]; omega
  go_enter Tryz.func95, Tryz.ntmps95
  go_wp2
  go_loopw [14, 15] (fun vi vj wr => ∃ (i j : Nat), vi = .int .i64 i ∧ vj = .int .i64 j ∧ a ≤ i ∧ i ≤ j ∧ j ≤ m ∧ Hid (SB enc w0 g 24 rest d wr) ∧ Hid (∀ q, a ≤ q → q < i → lt d[m]! d[q]! = false) ∧ Hid (∀ q, j ≤ q → q < m → lt d[m]! d[q]! = true)) (fun vi vj _ => (intOf vj).toNat - (intOf vi).toNat)
  case atStart => exact ⟨a, m, rfl, rfl, Nat.le_refl _, by omega, Nat.le_refl _, HS, Lib.hid (fun q h1 h2 => by omega), Lib.hid (fun q h1 h2 => by omega)⟩
  case round =>
    obtain ⟨i, j, rfl, rfl, hai, hij, hjb, HSk, HLo, HHi⟩ := hrel
    clear HS
    by_cases hlt : i < j
    · obtain ⟨h, hh⟩ : ∃ h, h = (i + j) / 2 := ⟨_, rfl⟩
      have hc1 := HSk.out.cell m (by omega)
      have hc2 := HSk.out.cell h (by omega)
      have hcall := fun q => HC.out.calls (wr.drewN q) (HSk.out.drewN q).grown d[m]! d[h]! (HD.out m (by omega)) (HD.out h (by omega))
      have hag := HA.out h m (by omega) (by omega) (by omega) (by omega)
      obtain ⟨X, hX⟩ : ∃ X, X = d[m]! := ⟨_, rfl⟩
      obtain ⟨Y, hY⟩ : ∃ Y, Y = d[h]! := ⟨_, rfl⟩
      rw [← hX] at hc1 hcall hag
      rw [← hY] at hc2 hcall hag
      have HX := Lib.hid hX
      have HY := Lib.hid hY
      obtain ⟨x, xn, xc, hx⟩ := hE X
      obtain ⟨y, yn, yc, hy⟩ := hE Y
      rw [hx] at hc1 hcall
      rw [hy] at hc2 hcall
      have HCALL := Lib.hid hcall
      have HAG := Lib.hid hag
      clear hcall hx hy hX hY hag
      have hh1 : ((i : Int) + (j : Int)) / 2 = (h : Int) := by omega
      have hhb : (h : Int) < (d.size : Int) := by omega
      have hmd : (m : Int) < (d.size : Int) := by omega
      have hhi : i ≤ h := by omega
      have hhj : h < j := by omega
      clear hh
      by_cases hcf : cf X Y < 0
      · have hl : lt X Y = true := by rw [← HAG.out]; simpa [ltOf] using hcf
        have HL := Lib.hid hl
        have hcf2 : cf X Y < 0 := hcf
        have hcfB : decide (cf X Y < 0) = true := by rw [decide_eq_true_iff]; exact hcf
        clear hl hcf
        go_wp2_with fail
        go_quiet ((refine Calls.quiet_of (HCALL.out _)))
        go_wp2
        go_roundw
        case rel => exact ⟨i, h, rfl, rfl, hai, hhi, by omega, Lib.hid (HSk.out.drewN _), HLo, Lib.hid (fun q h3 h4 => high_all' hL H1.out (by omega) (by rw [← HX.out, ← HY.out]; exact HL.out) q h3 h4)⟩
        case measure => simp [intOf]; omega
      · have hl : lt X Y = false := by rw [← HAG.out]; simpa [ltOf] using hcf
        have HL := Lib.hid hl
        have hcf2 : 0 ≤ cf X Y := by omega
        have hcfB : decide (cf X Y < 0) = false := by rw [decide_eq_false_iff_not]; omega
        clear hl hcf
        go_wp2_with fail
        go_quiet ((refine Calls.quiet_of (HCALL.out _)))
        go_wp2
        go_roundw
        case rel => exact ⟨h + 1, j, by go_num, rfl, by omega, by omega, hjb, Lib.hid (HSk.out.drewN _), Lib.hid (fun q h3 h4 => low_all' hL H1.out (by omega : h < m) (by rw [← HX.out, ← HY.out]; exact HL.out) q h3 (by omega)), HHi⟩
        case measure => simp [intOf]; omega
    · obtain rfl : i = j := by omega
      go_wp2
      go_loopw [17] (fun vk wr2 => ∃ (k : Nat) (dk : Array α), vk = .int .i64 k ∧ i ≤ k ∧ k ≤ m ∧ dk.size = d.size ∧ Hid (SB enc w0 g 24 rest dk wr2) ∧ Hid (∀ q, dk[q]! = shrF d m k q) ∧ Hid (PermIn a b d dk)) (fun vk _ => (intOf vk).toNat)
      case atStart => exact ⟨m, d, rfl, hjb, Nat.le_refl _, rfl, HSk, Lib.hid (fun q => (shrF_zero d m q).symm), Lib.hid (permIn_refl _ _ _)⟩
      case round =>
        obtain ⟨k, dk, rfl, hik, hkm, hsk, HSk2, HR, HP⟩ := hrel
        clear HSk
        by_cases hk : i < k
        · obtain ⟨u, rfl⟩ : ∃ u, k = u + 1 := ⟨k - 1, by omega⟩
          have hc1 := HSk2.out.cell (u + 1) (by omega)
          have hc2 := HSk2.out.cell u (by omega)
          have hf1 := HSk2.out.free (u + 1)
          have hf2 := HSk2.out.free u
          obtain ⟨X, hX⟩ : ∃ X, X = dk[u + 1]! := ⟨_, rfl⟩
          obtain ⟨Y, hY⟩ : ∃ Y, Y = dk[u]! := ⟨_, rfl⟩
          rw [← hX] at hc1
          rw [← hY] at hc2
          have HX := Lib.hid hX
          have HY := Lib.hid hY
          obtain ⟨x, xn, xc, hx⟩ := hE X
          obtain ⟨y, yn, yc, hy⟩ := hE Y
          rw [hx] at hc1
          rw [hy] at hc2
          have HEx := Lib.hid hx
          have HEy := Lib.hid hy
          clear hx hy hX hY
          have hj1 : ((u : Int) + 1).toNat = u + 1 := by omega
          have hj2 : ((u : Int) + 1 - 1) = u := by omega
          have hb1 : (u : Int) < (d.size : Int) := by omega
          have hb2 : (u : Int) + 1 < (d.size : Int) := by omega
          go_wp2
          go_region
          all_goals go_wp2
          go_roundw
          case rel =>
            refine ⟨u, swp dk (u + 1) u, by go_num, by omega, by omega, by rw [size_swp]; exact hsk, ?_, Lib.hid (shrF_step d dk m u (by omega) (by omega) HR.out), Lib.hid (permIn_trans _ _ _ _ _ HP.out (swp_permIn dk a b (u + 1) u (by omega) (by omega) (by omega) (by omega) (by omega)))⟩
            have hw := HSk2.out.swp (u + 1) u (by omega) (by omega) 1
            rw [← HX.out, ← HY.out, HEx.out, HEy.out] at hw
            exact Lib.hid hw
          case measure => simp [intOf]
        · obtain rfl : i = k := by omega
          go_wp2
          go_end0
          refine ⟨rfl, dk, hsk, HSk2.out, HP.out, ?_⟩
          rw [hbm]
          exact right_done hL d dk a m i hai hjb H1.out HLo.out HHi.out HR.out
end Go.Proofs.YtnkodejgiabamaaGreat
/-
  Go's stable merge in place, at elements of one cell ([]int): two runs.
-/
namespace Go.Proofs.YtnkodejgiabamaaGreat
open Go.RowKit Go.Sort

/-- The contract of the merge: two runs, each sorted by an order with which the comparing function agrees across them. -/
def MergeSaidQ {α : Type} [Inhabited α] (enc : α → Value) (cf : α → α → Int) (lt : α → α → Bool) (D : α → Prop) (f : FuncId) (cb : Array Value) (g cap : Nat) (rest : List Value) (n : Nat) (w0 : World) (N : Nat) : Prop :=
  ∀ (a m b : Nat) (d : Array α) (w : World), b - a ≤ N → d.size = n → SB enc w0 g 24 rest d w → (∀ i, i < d.size → D d[i]!) → a < m → m < b → b ≤ n → SortedIn lt a m d → SortedIn lt m b d → Agree (ltOf cf) lt d a m b →
    Calls Tryz.prog 95 #[.slice (some ⟨g, 0, none⟩) n cap, .int .i64 a, .int .i64 m, .int .i64 b, .func (.func f) #[] cb] w fun e w' => MergePQ enc lt g a b rest d w0 e w'

/-- What the search's end makes of the rest. -/
def FinSaidQ {α : Type} [Inhabited α] (enc : α → Value) (lt : α → α → Bool) (f : FuncId) (cb : Array Value) (g cap : Nat) (rest : List Value) (n : Nat) (w0 : World) (a m b mid s0 r0 : Nat) (d : Array α) : Prop :=
  ∀ (s : Nat) (wr : World), s0 ≤ s → s ≤ r0 → SB enc w0 g 24 rest d wr → (s0 < s → lt d[mid + m - s]! d[s - 1]! = false) → (s < r0 → lt d[mid + m - s - 1]! d[s]! = true) →
      ∃ e, e = mid + m - s ∧ m ≤ e ∧ e ≤ b ∧ mid ≤ e ∧ s + (e - m) = mid ∧
      (s < m → m < e → Calls Tryz.prog 98 #[.slice (some ⟨g, 0, none⟩) n cap, .int .i64 s, .int .i64 m, .int .i64 e, .func (.func f) #[] cb] wr fun e1 w' => e1 = .returned (.tuple #[]) ∧ ∃ R : Array α, R.size = n ∧ SB enc w0 g 24 rest R w' ∧ (∀ k, R[k]! = rotF d s m e k) ∧ PermIn a b d R) ∧
      (∀ (R : Array α) (W : World), R.size = n → SB enc w0 g 24 rest R W → (∀ k, R[k]! = rotF d s m e k) → PermIn a b d R → a < s → s < mid → Calls Tryz.prog 95 #[.slice (some ⟨g, 0, none⟩) n cap, .int .i64 a, .int .i64 s, .int .i64 mid, .func (.func f) #[] cb] W fun e1 w' => MergePQ enc lt g a mid rest R w0 e1 w') ∧
      (∀ (R R1 : Array α) (W : World), R.size = n → R1.size = n → SB enc w0 g 24 rest R1 W → (∀ k, R[k]! = rotF d s m e k) → PermIn a b d R → PermIn a mid R R1 → mid < e → e < b → Calls Tryz.prog 95 #[.slice (some ⟨g, 0, none⟩) n cap, .int .i64 mid, .int .i64 e, .int .i64 b, .func (.func f) #[] cb] W fun e1 w' => MergePQ enc lt g mid b rest R1 w0 e1 w') ∧
      (∀ R : Array α, (∀ k, R[k]! = rotF d s m e k) → (s = a ∨ s = mid) → SortedIn lt a mid R) ∧
      (∀ R R1 : Array α, (∀ k, R[k]! = rotF d s m e k) → PermIn a mid R R1 → (e = mid ∨ e = b) → SortedIn lt mid b R1) ∧
      (∀ R R1 R2 : Array α, R.size = n → (∀ k, R[k]! = rotF d s m e k) → PermIn a b d R → PermIn a mid R R1 → SortedIn lt a mid R1 → PermIn mid b R1 R2 → SortedIn lt mid b R2 → PermIn a b d R2 ∧ SortedIn lt a b R2)

theorem sym_finQ {α : Type} [Inhabited α] (enc : α → Value) (hE : ∀ x, ∃ a n c, enc x = .slice a n c) (cf : α → α → Int) (lt : α → α → Bool) (hL : SWO lt) (D : α → Prop) (f : FuncId) (cb : Array Value) (g cap : Nat) (rest : List Value) (n : Nat) (w0 : World) (N : Nat)
    (hsz : n < 4611686018427387904) (ih : MergeSaidQ enc cf lt D f cb g cap rest n w0 N)
    (a m b mid s0 r0 : Nat) (d : Array α) (hN : b - a ≤ N + 1) (hdn : d.size = n) (hD : ∀ i, i < d.size → D d[i]!) (hb : b ≤ n) (h1 : SortedIn lt a m d) (h2 : SortedIn lt m b d) (hA : Agree (ltOf cf) lt d a m b)
    (hma : a < mid) (hmB : mid < b) (hs0a : a ≤ s0) (hr0m : r0 ≤ m) (hr0d : r0 ≤ mid) (hs0b : mid + m - s0 ≤ b) (hend0 : s0 = a ∨ mid + m - s0 = b) (hend1 : r0 = m ∨ r0 = mid) : FinSaidQ enc lt f cb g cap rest n w0 a m b mid s0 r0 d := by
  have HD := Lib.hid hD
  have H1 := Lib.hid h1
  have H2 := Lib.hid h2
  have HA := Lib.hid hA
  have HI := Lib.hid ih
  clear hD h1 h2 hA ih
  intro s wr h3 h4 hSB h5 h6
  refine ⟨mid + m - s, rfl, by omega, by omega, by omega, by omega, ?_, ?_, ?_, ?_, ?_, ?_⟩
  · intro h7 h8
    have h9 := rot_anyQ enc hE (.func (.func f) #[] cb) g cap s m (mid + m - s) rest d w0 wr hSB h7 h8 (by omega) (by omega)
    rw [hdn] at h9
    exact h9.mono fun e1 w' ⟨q1, R, q2, q3, q4, q5⟩ => ⟨q1, R, q2, q3, q4, permIn_mono d R s (mid + m - s) a b (by omega) (by omega) (by omega) q5⟩
  · intro R W hR1 hR2 hR3 hR4 h7 h8
    refine HI.out a s mid R W (by omega) hR1 hR2 (all_perm D (by omega) hR4 HD.out) h7 h8 (by omega) (sp1 hR3 (by omega) (by omega) H1.out) ?_ ?_
    · have := sp2 hR3 (by omega) (by omega) (by omega) H2.out
      rwa [show s + (mid + m - s - m) = mid from by omega] at this
    · have := agree_lo hR3 (a := a) (by omega) (by omega) (by omega : mid + m - s ≤ b) HA.out
      rwa [show s + (mid + m - s - m) = mid from by omega] at this
  · intro R R1 W hR1 hR2 hR3 hR4 hR5 hR6 h7 h8
    have hc : ∀ k, mid ≤ k → R1[k]! = R[k]! := fun k hk => hR6.2.1 k (by omega)
    refine HI.out mid (mid + m - s) b R1 W (by omega) hR2 hR3 (all_perm D (by omega) hR6 (all_perm D (by omega) hR5 HD.out)) h7 h8 hb ?_ ?_ ?_
    · have := sp3 hR4 (a := a) (by omega) (by omega) (by omega) H1.out
      rw [show s + (mid + m - s - m) = mid from by omega] at this
      exact sorted_congr this (fun k h9 _ => hc k h9)
    · exact sorted_congr (sp4 hR4 (by omega) (by omega) (by omega) H2.out) (fun k h9 _ => hc k (by omega))
    · have := agree_hi hR4 (b := b) (by omega : a ≤ s) (by omega) (by omega) HA.out
      rw [show s + (mid + m - s - m) = mid from by omega] at this
      exact agree_congr this (fun k h9 _ => hc k h9)
  · intro R hR h7
    have := skip_lo hR (by omega : a ≤ s) (by omega) (by omega) (by omega : mid + m - s ≤ b) H1.out H2.out (by omega)
    rwa [show s + (mid + m - s - m) = mid from by omega] at this
  · intro R R1 hR hP h7
    have := skip_hi hR (by omega : a ≤ s) (by omega) (by omega) (by omega : mid + m - s ≤ b) H1.out H2.out (by omega)
    rw [show s + (mid + m - s - m) = mid from by omega] at this
    exact sorted_congr this (fun k h9 _ => hP.2.1 k (by omega))
  · intro R R1 R2 hR1 hR hP p1 s1 p2 s2
    have hm2 : s + (mid + m - s - m) = mid := by omega
    refine ⟨permIn_trans _ _ _ _ _ (permIn_trans _ _ _ _ _ hP (permIn_mono R R1 a mid a b (by omega) (by omega) (by omega) p1)) (permIn_mono R1 R2 mid b a b (by omega) (by omega) (by have := p1.1; omega) p2), ?_⟩
    refine merge_done hL d R R1 R2 a m b s (mid + m - s) (by omega) (by omega) (by omega) (by omega) (by omega) (by omega) H1.out H2.out hR (fun q1 q2 => h5 (by omega)) (fun q1 q2 => ?_) (by rw [hm2]; exact p1) (by rw [hm2]; exact s1) (by rw [hm2]; exact p2) (by rw [hm2]; exact s2)
    have h8 := h6 (by omega)
    cases h9 : lt d[s]! d[mid + m - s - 1]! with
    | false => rfl
    | true => have := hL.trans _ _ _ h8 h9; rw [hL.irrefl] at this; cases this
end Go.Proofs.YtnkodejgiabamaaGreat
/-
  Go's stable merge in place, at elements of one cell ([]int): two runs, the walk (mid < m).
-/
namespace Go.Proofs.YtnkodejgiabamaaGreat
open Go.RowKit Go.Sort

set_option maxRecDepth 8000 in
set_option maxHeartbeats 8000000 in
theorem sym_hiQ {α : Type} [Inhabited α] (enc : α → Value) (hE : ∀ x, ∃ a n c, enc x = .slice a n c) (cf : α → α → Int) (lt : α → α → Bool) (D : α → Prop) (f : FuncId) (cb : Array Value) (g cap : Nat) (rest : List Value) (n : Nat) (w0 : World)
    (hC : CmpQ Tryz.prog f cb enc cf D w0 g) (hsz : n < 4611686018427387904) (a m b mid s0 r0 : Nat) (d : Array α) (w : World) (hdn : d.size = n) (hS : SB enc w0 g 24 rest d w) (hD : ∀ i, i < d.size → D d[i]!) (ham : a + 1 < m) (hmb : m + 1 < b) (hb : b ≤ n) (hA : Agree (ltOf cf) lt d a m b)
    (hmid : mid = (a + b) / 2) (hcase : mid < m) (hs0 : s0 = mid + m - b) (hr0 : r0 = mid) (hfin : FinSaidQ enc lt f cb g cap rest n w0 a m b mid s0 r0 d) :
    Calls Tryz.prog 95 #[.slice (some ⟨g, 0, none⟩) n cap, .int .i64 a, .int .i64 m, .int .i64 b, .func (.func f) #[] cb] w fun e w' => MergePQ enc lt g a b rest d w0 e w' := by
  have hne1 : ((m : Int) - (a : Int) == 1) = false := by rw [beq_eq_false_iff_ne]; omega
  have hne2 : ((b : Int) - (m : Int) == 1) = false := by rw [beq_eq_false_iff_ne]; omega
  have hmid1 : ((a : Int) + (b : Int)) / 2 = (mid : Int) := by omega
  have hma : a < mid := by omega
  have hmB : mid < b := by omega
  have hsr : s0 ≤ r0 := by omega
  have hs0a : a ≤ s0 := by omega
  have hr0m : r0 ≤ m := by omega
  have hr0d : r0 ≤ mid := by omega
  have hs0b : mid + m - s0 ≤ b := by omega
  have hend0 : s0 = a ∨ mid + m - s0 = b := by omega
  have hend1 : r0 = m ∨ r0 = mid := by omega
  have eg := hC.enters
  have HC := Lib.hid hC
  have HS := Lib.hid hS
  have HD := Lib.hid hD
  have HA := Lib.hid hA
  have HS0 := Lib.hid hs0
  have HR0 := Lib.hid hr0
  have FIN := Lib.hid hfin
  clear hC hS hD hA hs0 hr0 hmid hfin
  go_enter Tryz.func95, Tryz.ntmps95
  go_wp2
  go_loopw [20, 21] (fun vs vr wr => ∃ (s r : Nat), vs = .int .i64 s ∧ vr = .int .i64 r ∧ s0 ≤ s ∧ s ≤ r ∧ r ≤ r0 ∧ Hid (SB enc w0 g 24 rest d wr) ∧ Hid (s0 < s → lt d[mid + m - s]! d[s - 1]! = false) ∧ Hid (r < r0 → lt d[mid + m - r - 1]! d[r]! = true)) (fun vs vr _ => (intOf vr).toNat - (intOf vs).toNat)
  case atStart => exact ⟨s0, r0, by have := HS0.out; go_num, by have := HR0.out; go_num, Nat.le_refl _, hsr, Nat.le_refl _, HS, Lib.hid (fun h => absurd h (Nat.lt_irrefl _)), Lib.hid (fun h => absurd h (Nat.lt_irrefl _))⟩
  case round =>
    obtain ⟨s, r, rfl, rfl, h3, h4, h5, HSk, HLo, HHi⟩ := hrel
    clear HS
    by_cases hlt : s < r
    · obtain ⟨c, hc⟩ : ∃ c, c = (s + r) / 2 := ⟨_, rfl⟩
      have hc1 := HSk.out.cell (mid + m - 1 - c) (by omega)
      have hc2 := HSk.out.cell c (by omega)
      have hcall := fun q => HC.out.calls (wr.drewN q) (HSk.out.drewN q).grown d[mid + m - 1 - c]! d[c]! (HD.out (mid + m - 1 - c) (by omega)) (HD.out c (by omega))
      have hag := HA.out c (mid + m - 1 - c) (by omega) (by omega) (by omega) (by omega)
      obtain ⟨X, hX⟩ : ∃ X, X = d[mid + m - 1 - c]! := ⟨_, rfl⟩
      obtain ⟨Y, hY⟩ : ∃ Y, Y = d[c]! := ⟨_, rfl⟩
      rw [← hX] at hc1 hcall hag
      rw [← hY] at hc2 hcall hag
      have HX := Lib.hid hX
      have HY := Lib.hid hY
      obtain ⟨x, xn, xc, hx⟩ := hE X
      obtain ⟨y, yn, yc, hy⟩ := hE Y
      rw [hx] at hc1 hcall
      rw [hy] at hc2 hcall
      have HCALL := Lib.hid hcall
      have HAG := Lib.hid hag
      clear hcall hx hy hX hY hag
      have hh1 : ((s : Int) + (r : Int)) / 2 = (c : Int) := by omega
      have hidx : ((mid : Int) + (m : Int) - 1 - (c : Int)).toNat = mid + m - 1 - c := by omega
      have hi0 : 0 ≤ (mid : Int) + (m : Int) - 1 - (c : Int) := by omega
      have hi1 : (mid : Int) + (m : Int) - 1 - (c : Int) < (n : Int) := by omega
      have hcn : (c : Int) < (n : Int) := by omega
      have hhi : s ≤ c := by omega
      have hhj : c < r := by omega
      clear hc
      by_cases hcf : cf X Y < 0
      · have hl : lt X Y = true := by rw [← HAG.out]; simpa [ltOf] using hcf
        have HL := Lib.hid hl
        have hcf2 : cf X Y < 0 := hcf
        have hcfB : decide (cf X Y < 0) = true := by rw [decide_eq_true_iff]; exact hcf
        clear hl hcf
        go_wp2_with fail
        go_quiet ((refine Calls.quiet_of (HCALL.out _)))
        go_wp2
        go_roundw
        case rel => exact ⟨s, c, rfl, rfl, h3, hhi, by omega, Lib.hid (HSk.out.drewN _), HLo, Lib.hid (fun _ => by rw [show mid + m - c - 1 = mid + m - 1 - c from by omega, ← HX.out, ← HY.out]; exact HL.out)⟩
        case measure => simp [intOf]; omega
      · have hl : lt X Y = false := by rw [← HAG.out]; simpa [ltOf] using hcf
        have HL := Lib.hid hl
        have hcf2 : 0 ≤ cf X Y := by omega
        have hcfB : decide (cf X Y < 0) = false := by rw [decide_eq_false_iff_not]; omega
        clear hl hcf
        go_wp2_with fail
        go_quiet ((refine Calls.quiet_of (HCALL.out _)))
        go_wp2
        go_roundw
        case rel => exact ⟨c + 1, r, by go_num, rfl, by omega, by omega, h5, Lib.hid (HSk.out.drewN _), Lib.hid (fun _ => by rw [show mid + m - (c + 1) = mid + m - 1 - c from by omega, Nat.add_sub_cancel, ← HX.out, ← HY.out]; exact HL.out), HHi⟩
        case measure => simp [intOf]; omega
    · obtain rfl : s = r := by omega
      obtain ⟨e, he, hme, heb, hde, hsum, FROT, FS1, FS2, FK1, FK2, FD⟩ := FIN.out s wr h3 h5 HSk.out HLo.out HHi.out
      have he1 : (mid : Int) + (m : Int) - (s : Int) = (e : Int) := by omega
      replace FROT := Lib.hid FROT
      replace FS1 := Lib.hid FS1
      replace FS2 := Lib.hid FS2
      replace FK1 := Lib.hid FK1
      replace FK2 := Lib.hid FK2
      replace FD := Lib.hid FD
      clear he
      by_cases hA1 : s < m
      · by_cases hB1 : m < e
        · by_cases hC1 : a < s
          · by_cases hE1 : e < b
            · have hq0 : (s : Int) < (mid : Int) := by omega
              have hq1 : (mid : Int) < (e : Int) := by omega
              have HROT := Lib.hid (FROT.out (by omega) (by omega))
              go_wp2_with fail
              (with_reducible refine HROT.out.mono ?_)
              rintro e1 w2 ⟨rfl, R, hRs, hRB, hRk, hRp⟩
              have HB2 := Lib.hid hRB
              have HRK := Lib.hid hRk
              have HRP := Lib.hid hRp
              clear hRB hRk hRp
              have hs1 := FS1.out R w2 hRs HB2.out HRK.out HRP.out (by omega) (by omega)
              have HS1C := Lib.hid hs1
              clear hs1
              go_wp2_with fail
              (with_reducible refine HS1C.out.mono ?_)
              rintro e2 w3 ⟨rfl, R1, hR1s', hR1B, hR1p, hR1o⟩
              have hR1s : R1.size = n := hR1s'.trans hRs
              have HB3 := Lib.hid hR1B
              have HP1 := Lib.hid hR1p
              have HO1 := Lib.hid hR1o
              clear hR1s' hR1B hR1p hR1o
              have hs2 := FS2.out R R1 w3 hRs hR1s HB3.out HRK.out HRP.out HP1.out (by omega) (by omega)
              have HS2C := Lib.hid hs2
              clear hs2
              go_wp2_with fail
              (with_reducible refine HS2C.out.mono ?_)
              rintro e3 w4 ⟨rfl, R2, hR2s', hR2B, hR2p, hR2o⟩
              have hR2s : R2.size = n := hR2s'.trans hR1s
              have HB4 := Lib.hid hR2B
              have HP2 := Lib.hid hR2p
              have HO2 := Lib.hid hR2o
              clear hR2s' hR2B hR2p hR2o
              go_wp2
              all_goals go_end0
              all_goals exact ⟨rfl, R2, hR2s.trans hdn.symm, HB4.out, FD.out R R1 R2 hRs HRK.out HRP.out HP1.out HO1.out HP2.out HO2.out⟩
            · have hq0 : (s : Int) < (mid : Int) := by omega
              have hq1 : (mid : Int) < (e : Int) := by omega
              have hq2 : (b : Int) ≤ (e : Int) := by omega
              have HROT := Lib.hid (FROT.out (by omega) (by omega))
              go_wp2_with fail
              (with_reducible refine HROT.out.mono ?_)
              rintro e1 w2 ⟨rfl, R, hRs, hRB, hRk, hRp⟩
              have HB2 := Lib.hid hRB
              have HRK := Lib.hid hRk
              have HRP := Lib.hid hRp
              clear hRB hRk hRp
              have hs1 := FS1.out R w2 hRs HB2.out HRK.out HRP.out (by omega) (by omega)
              have HS1C := Lib.hid hs1
              clear hs1
              go_wp2_with fail
              (with_reducible refine HS1C.out.mono ?_)
              rintro e2 w3 ⟨rfl, R1, hR1s', hR1B, hR1p, hR1o⟩
              have hR1s : R1.size = n := hR1s'.trans hRs
              have HB3 := Lib.hid hR1B
              have HP1 := Lib.hid hR1p
              have HO1 := Lib.hid hR1o
              clear hR1s' hR1B hR1p hR1o
              have hR2s : R1.size = n := hR1s
              have HB4 := Lib.hid HB3.out
              have HP2 := Lib.hid (permIn_refl R1 mid b)
              have HO2 := Lib.hid (FK2.out R R1 HRK.out HP1.out (by omega))
              go_wp2
              all_goals go_end0
              all_goals exact ⟨rfl, R1, hR2s.trans hdn.symm, HB4.out, FD.out R R1 R1 hRs HRK.out HRP.out HP1.out HO1.out HP2.out HO2.out⟩
          · by_cases hE1 : e < b
            · have hq0 : (s : Int) < (mid : Int) := by omega
              have hq1 : (mid : Int) < (e : Int) := by omega
              have hq2 : (s : Int) ≤ (a : Int) := by omega
              have HROT := Lib.hid (FROT.out (by omega) (by omega))
              go_wp2_with fail
              (with_reducible refine HROT.out.mono ?_)
              rintro e1 w2 ⟨rfl, R, hRs, hRB, hRk, hRp⟩
              have HB2 := Lib.hid hRB
              have HRK := Lib.hid hRk
              have HRP := Lib.hid hRp
              clear hRB hRk hRp
              have hR1s : R.size = n := hRs
              have HB3 := Lib.hid HB2.out
              have HP1 := Lib.hid (permIn_refl R a mid)
              have HO1 := Lib.hid (FK1.out R HRK.out (by omega))
              have hs2 := FS2.out R R w2 hRs hR1s HB3.out HRK.out HRP.out HP1.out (by omega) (by omega)
              have HS2C := Lib.hid hs2
              clear hs2
              go_wp2_with fail
              (with_reducible refine HS2C.out.mono ?_)
              rintro e3 w4 ⟨rfl, R2, hR2s', hR2B, hR2p, hR2o⟩
              have hR2s : R2.size = n := hR2s'.trans hR1s
              have HB4 := Lib.hid hR2B
              have HP2 := Lib.hid hR2p
              have HO2 := Lib.hid hR2o
              clear hR2s' hR2B hR2p hR2o
              go_wp2
              all_goals go_end0
              all_goals exact ⟨rfl, R2, hR2s.trans hdn.symm, HB4.out, FD.out R R R2 hRs HRK.out HRP.out HP1.out HO1.out HP2.out HO2.out⟩
            · have hq0 : (s : Int) < (mid : Int) := by omega
              have hq1 : (mid : Int) < (e : Int) := by omega
              have hq2 : (s : Int) ≤ (a : Int) := by omega
              have hq3 : (b : Int) ≤ (e : Int) := by omega
              have HROT := Lib.hid (FROT.out (by omega) (by omega))
              go_wp2_with fail
              (with_reducible refine HROT.out.mono ?_)
              rintro e1 w2 ⟨rfl, R, hRs, hRB, hRk, hRp⟩
              have HB2 := Lib.hid hRB
              have HRK := Lib.hid hRk
              have HRP := Lib.hid hRp
              clear hRB hRk hRp
              have hR1s : R.size = n := hRs
              have HB3 := Lib.hid HB2.out
              have HP1 := Lib.hid (permIn_refl R a mid)
              have HO1 := Lib.hid (FK1.out R HRK.out (by omega))
              have hR2s : R.size = n := hR1s
              have HB4 := Lib.hid HB3.out
              have HP2 := Lib.hid (permIn_refl R mid b)
              have HO2 := Lib.hid (FK2.out R R HRK.out HP1.out (by omega))
              go_wp2
              all_goals go_end0
              all_goals exact ⟨rfl, R, hR2s.trans hdn.symm, HB4.out, FD.out R R R hRs HRK.out HRP.out HP1.out HO1.out HP2.out HO2.out⟩
        · have hq0 : (e : Int) ≤ (m : Int) := by omega
          have hq1 : (mid : Int) ≤ (s : Int) := by omega
          have hq2 : (a : Int) < (s : Int) := by omega
          have hq3 : (e : Int) < (b : Int) := by omega
          have hq4 : (mid : Int) < (e : Int) := by omega
          have hRs : d.size = n := hdn
          have HB2 := Lib.hid HSk.out
          have HRK := Lib.hid (rot_none d s m e (by omega) (by omega) (by omega))
          have HRP := Lib.hid (permIn_refl d a b)
          have hR1s : d.size = n := hRs
          have HB3 := Lib.hid HB2.out
          have HP1 := Lib.hid (permIn_refl d a mid)
          have HO1 := Lib.hid (FK1.out d HRK.out (by omega))
          have hs2 := FS2.out d d wr hRs hR1s HB3.out HRK.out HRP.out HP1.out (by omega) (by omega)
          have HS2C := Lib.hid hs2
          clear hs2
          go_wp2_with fail
          all_goals
            (with_reducible refine HS2C.out.mono ?_)
            rintro e3 w4 ⟨rfl, R2, hR2s', hR2B, hR2p, hR2o⟩
            have hR2s : R2.size = n := hR2s'.trans hR1s
            have HB4 := Lib.hid hR2B
            have HP2 := Lib.hid hR2p
            have HO2 := Lib.hid hR2o
            clear hR2s' hR2B hR2p hR2o
            go_wp2
            all_goals go_end0
            all_goals exact ⟨rfl, R2, hR2s.trans hdn.symm, HB4.out, FD.out d d R2 hRs HRK.out HRP.out HP1.out HO1.out HP2.out HO2.out⟩
      · by_cases hB1 : m < e
        · have hq0 : (m : Int) ≤ (s : Int) := by omega
          have hq1 : (s : Int) < (mid : Int) := by omega
          have hq2 : (a : Int) < (s : Int) := by omega
          have hq3 : (e : Int) < (b : Int) := by omega
          have hq4 : (e : Int) ≤ (mid : Int) := by omega
          have hRs : d.size = n := hdn
          have HB2 := Lib.hid HSk.out
          have HRK := Lib.hid (rot_none d s m e (by omega) (by omega) (by omega))
          have HRP := Lib.hid (permIn_refl d a b)
          have hs1 := FS1.out d wr hRs HB2.out HRK.out HRP.out (by omega) (by omega)
          have HS1C := Lib.hid hs1
          clear hs1
          go_wp2_with fail
          all_goals
            (with_reducible refine HS1C.out.mono ?_)
            rintro e2 w3 ⟨rfl, R1, hR1s', hR1B, hR1p, hR1o⟩
            have hR1s : R1.size = n := hR1s'.trans hRs
            have HB3 := Lib.hid hR1B
            have HP1 := Lib.hid hR1p
            have HO1 := Lib.hid hR1o
            clear hR1s' hR1B hR1p hR1o
            have hR2s : R1.size = n := hR1s
            have HB4 := Lib.hid HB3.out
            have HP2 := Lib.hid (permIn_refl R1 mid b)
            have HO2 := Lib.hid (FK2.out d R1 HRK.out HP1.out (by omega))
            go_wp2
            all_goals go_end0
            all_goals exact ⟨rfl, R1, hR2s.trans hdn.symm, HB4.out, FD.out d R1 R1 hRs HRK.out HRP.out HP1.out HO1.out HP2.out HO2.out⟩
        · have hq0 : (m : Int) ≤ (s : Int) := by omega
          have hq1 : (e : Int) ≤ (m : Int) := by omega
          have hq2 : (mid : Int) ≤ (s : Int) := by omega
          have hq3 : (a : Int) < (s : Int) := by omega
          have hq4 : (e : Int) < (b : Int) := by omega
          have hq5 : (e : Int) ≤ (mid : Int) := by omega
          have hRs : d.size = n := hdn
          have HB2 := Lib.hid HSk.out
          have HRK := Lib.hid (rot_none d s m e (by omega) (by omega) (by omega))
          have HRP := Lib.hid (permIn_refl d a b)
          have hR1s : d.size = n := hRs
          have HB3 := Lib.hid HB2.out
          have HP1 := Lib.hid (permIn_refl d a mid)
          have HO1 := Lib.hid (FK1.out d HRK.out (by omega))
          have hR2s : d.size = n := hR1s
          have HB4 := Lib.hid HB3.out
          have HP2 := Lib.hid (permIn_refl d mid b)
          have HO2 := Lib.hid (FK2.out d d HRK.out HP1.out (by omega))
          go_wp2
          all_goals
            all_goals go_end0
            all_goals exact ⟨rfl, d, hR2s.trans hdn.symm, HB4.out, FD.out d d d hRs HRK.out HRP.out HP1.out HO1.out HP2.out HO2.out⟩
end Go.Proofs.YtnkodejgiabamaaGreat
/-
  Go's stable merge in place, at elements of one cell ([]int): two runs, the walk (m ≤ mid).
-/
namespace Go.Proofs.YtnkodejgiabamaaGreat
open Go.RowKit Go.Sort

set_option maxRecDepth 8000 in
set_option maxHeartbeats 8000000 in
theorem sym_loQ {α : Type} [Inhabited α] (enc : α → Value) (hE : ∀ x, ∃ a n c, enc x = .slice a n c) (cf : α → α → Int) (lt : α → α → Bool) (D : α → Prop) (f : FuncId) (cb : Array Value) (g cap : Nat) (rest : List Value) (n : Nat) (w0 : World)
    (hC : CmpQ Tryz.prog f cb enc cf D w0 g) (hsz : n < 4611686018427387904) (a m b mid s0 r0 : Nat) (d : Array α) (w : World) (hdn : d.size = n) (hS : SB enc w0 g 24 rest d w) (hD : ∀ i, i < d.size → D d[i]!) (ham : a + 1 < m) (hmb : m + 1 < b) (hb : b ≤ n) (hA : Agree (ltOf cf) lt d a m b)
    (hmid : mid = (a + b) / 2) (hcase : m ≤ mid) (hs0 : s0 = a) (hr0 : r0 = m) (hfin : FinSaidQ enc lt f cb g cap rest n w0 a m b mid s0 r0 d) :
    Calls Tryz.prog 95 #[.slice (some ⟨g, 0, none⟩) n cap, .int .i64 a, .int .i64 m, .int .i64 b, .func (.func f) #[] cb] w fun e w' => MergePQ enc lt g a b rest d w0 e w' := by
  have hne1 : ((m : Int) - (a : Int) == 1) = false := by rw [beq_eq_false_iff_ne]; omega
  have hne2 : ((b : Int) - (m : Int) == 1) = false := by rw [beq_eq_false_iff_ne]; omega
  have hmid1 : ((a : Int) + (b : Int)) / 2 = (mid : Int) := by omega
  have hma : a < mid := by omega
  have hmB : mid < b := by omega
  have hsr : s0 ≤ r0 := by omega
  have hs0a : a ≤ s0 := by omega
  have hr0m : r0 ≤ m := by omega
  have hr0d : r0 ≤ mid := by omega
  have hs0b : mid + m - s0 ≤ b := by omega
  have hend0 : s0 = a ∨ mid + m - s0 = b := by omega
  have hend1 : r0 = m ∨ r0 = mid := by omega
  have eg := hC.enters
  have HC := Lib.hid hC
  have HS := Lib.hid hS
  have HD := Lib.hid hD
  have HA := Lib.hid hA
  have HS0 := Lib.hid hs0
  have HR0 := Lib.hid hr0
  have FIN := Lib.hid hfin
  clear hC hS hD hA hs0 hr0 hmid hfin
  go_enter Tryz.func95, Tryz.ntmps95
  go_wp2
  go_loopw [20, 21] (fun vs vr wr => ∃ (s r : Nat), vs = .int .i64 s ∧ vr = .int .i64 r ∧ s0 ≤ s ∧ s ≤ r ∧ r ≤ r0 ∧ Hid (SB enc w0 g 24 rest d wr) ∧ Hid (s0 < s → lt d[mid + m - s]! d[s - 1]! = false) ∧ Hid (r < r0 → lt d[mid + m - r - 1]! d[r]! = true)) (fun vs vr _ => (intOf vr).toNat - (intOf vs).toNat)
  case atStart => exact ⟨s0, r0, by have := HS0.out; go_num, by have := HR0.out; go_num, Nat.le_refl _, hsr, Nat.le_refl _, HS, Lib.hid (fun h => absurd h (Nat.lt_irrefl _)), Lib.hid (fun h => absurd h (Nat.lt_irrefl _))⟩
  case round =>
    obtain ⟨s, r, rfl, rfl, h3, h4, h5, HSk, HLo, HHi⟩ := hrel
    clear HS
    by_cases hlt : s < r
    · obtain ⟨c, hc⟩ : ∃ c, c = (s + r) / 2 := ⟨_, rfl⟩
      have hc1 := HSk.out.cell (mid + m - 1 - c) (by omega)
      have hc2 := HSk.out.cell c (by omega)
      have hcall := fun q => HC.out.calls (wr.drewN q) (HSk.out.drewN q).grown d[mid + m - 1 - c]! d[c]! (HD.out (mid + m - 1 - c) (by omega)) (HD.out c (by omega))
      have hag := HA.out c (mid + m - 1 - c) (by omega) (by omega) (by omega) (by omega)
      obtain ⟨X, hX⟩ : ∃ X, X = d[mid + m - 1 - c]! := ⟨_, rfl⟩
      obtain ⟨Y, hY⟩ : ∃ Y, Y = d[c]! := ⟨_, rfl⟩
      rw [← hX] at hc1 hcall hag
      rw [← hY] at hc2 hcall hag
      have HX := Lib.hid hX
      have HY := Lib.hid hY
      obtain ⟨x, xn, xc, hx⟩ := hE X
      obtain ⟨y, yn, yc, hy⟩ := hE Y
      rw [hx] at hc1 hcall
      rw [hy] at hc2 hcall
      have HCALL := Lib.hid hcall
      have HAG := Lib.hid hag
      clear hcall hx hy hX hY hag
      have hh1 : ((s : Int) + (r : Int)) / 2 = (c : Int) := by omega
      have hidx : ((mid : Int) + (m : Int) - 1 - (c : Int)).toNat = mid + m - 1 - c := by omega
      have hi0 : 0 ≤ (mid : Int) + (m : Int) - 1 - (c : Int) := by omega
      have hi1 : (mid : Int) + (m : Int) - 1 - (c : Int) < (n : Int) := by omega
      have hcn : (c : Int) < (n : Int) := by omega
      have hhi : s ≤ c := by omega
      have hhj : c < r := by omega
      clear hc
      by_cases hcf : cf X Y < 0
      · have hl : lt X Y = true := by rw [← HAG.out]; simpa [ltOf] using hcf
        have HL := Lib.hid hl
        have hcf2 : cf X Y < 0 := hcf
        have hcfB : decide (cf X Y < 0) = true := by rw [decide_eq_true_iff]; exact hcf
        clear hl hcf
        go_wp2_with fail
        go_quiet ((refine Calls.quiet_of (HCALL.out _)))
        go_wp2
        go_roundw
        case rel => exact ⟨s, c, rfl, rfl, h3, hhi, by omega, Lib.hid (HSk.out.drewN _), HLo, Lib.hid (fun _ => by rw [show mid + m - c - 1 = mid + m - 1 - c from by omega, ← HX.out, ← HY.out]; exact HL.out)⟩
        case measure => simp [intOf]; omega
      · have hl : lt X Y = false := by rw [← HAG.out]; simpa [ltOf] using hcf
        have HL := Lib.hid hl
        have hcf2 : 0 ≤ cf X Y := by omega
        have hcfB : decide (cf X Y < 0) = false := by rw [decide_eq_false_iff_not]; omega
        clear hl hcf
        go_wp2_with fail
        go_quiet ((refine Calls.quiet_of (HCALL.out _)))
        go_wp2
        go_roundw
        case rel => exact ⟨c + 1, r, by go_num, rfl, by omega, by omega, h5, Lib.hid (HSk.out.drewN _), Lib.hid (fun _ => by rw [show mid + m - (c + 1) = mid + m - 1 - c from by omega, Nat.add_sub_cancel, ← HX.out, ← HY.out]; exact HL.out), HHi⟩
        case measure => simp [intOf]; omega
    · obtain rfl : s = r := by omega
      obtain ⟨e, he, hme, heb, hde, hsum, FROT, FS1, FS2, FK1, FK2, FD⟩ := FIN.out s wr h3 h5 HSk.out HLo.out HHi.out
      have he1 : (mid : Int) + (m : Int) - (s : Int) = (e : Int) := by omega
      replace FROT := Lib.hid FROT
      replace FS1 := Lib.hid FS1
      replace FS2 := Lib.hid FS2
      replace FK1 := Lib.hid FK1
      replace FK2 := Lib.hid FK2
      replace FD := Lib.hid FD
      clear he
      by_cases hA1 : s < m
      · by_cases hB1 : m < e
        · by_cases hC1 : a < s
          · by_cases hE1 : e < b
            · have hq0 : (s : Int) < (mid : Int) := by omega
              have hq1 : (mid : Int) < (e : Int) := by omega
              have HROT := Lib.hid (FROT.out (by omega) (by omega))
              go_wp2_with fail
              (with_reducible refine HROT.out.mono ?_)
              rintro e1 w2 ⟨rfl, R, hRs, hRB, hRk, hRp⟩
              have HB2 := Lib.hid hRB
              have HRK := Lib.hid hRk
              have HRP := Lib.hid hRp
              clear hRB hRk hRp
              have hs1 := FS1.out R w2 hRs HB2.out HRK.out HRP.out (by omega) (by omega)
              have HS1C := Lib.hid hs1
              clear hs1
              go_wp2_with fail
              (with_reducible refine HS1C.out.mono ?_)
              rintro e2 w3 ⟨rfl, R1, hR1s', hR1B, hR1p, hR1o⟩
              have hR1s : R1.size = n := hR1s'.trans hRs
              have HB3 := Lib.hid hR1B
              have HP1 := Lib.hid hR1p
              have HO1 := Lib.hid hR1o
              clear hR1s' hR1B hR1p hR1o
              have hs2 := FS2.out R R1 w3 hRs hR1s HB3.out HRK.out HRP.out HP1.out (by omega) (by omega)
              have HS2C := Lib.hid hs2
              clear hs2
              go_wp2_with fail
              (with_reducible refine HS2C.out.mono ?_)
              rintro e3 w4 ⟨rfl, R2, hR2s', hR2B, hR2p, hR2o⟩
              have hR2s : R2.size = n := hR2s'.trans hR1s
              have HB4 := Lib.hid hR2B
              have HP2 := Lib.hid hR2p
              have HO2 := Lib.hid hR2o
              clear hR2s' hR2B hR2p hR2o
              go_wp2
              all_goals go_end0
              all_goals exact ⟨rfl, R2, hR2s.trans hdn.symm, HB4.out, FD.out R R1 R2 hRs HRK.out HRP.out HP1.out HO1.out HP2.out HO2.out⟩
            · have hq0 : (s : Int) < (mid : Int) := by omega
              have hq1 : (mid : Int) < (e : Int) := by omega
              have hq2 : (b : Int) ≤ (e : Int) := by omega
              have HROT := Lib.hid (FROT.out (by omega) (by omega))
              go_wp2_with fail
              (with_reducible refine HROT.out.mono ?_)
              rintro e1 w2 ⟨rfl, R, hRs, hRB, hRk, hRp⟩
              have HB2 := Lib.hid hRB
              have HRK := Lib.hid hRk
              have HRP := Lib.hid hRp
              clear hRB hRk hRp
              have hs1 := FS1.out R w2 hRs HB2.out HRK.out HRP.out (by omega) (by omega)
              have HS1C := Lib.hid hs1
              clear hs1
              go_wp2_with fail
              (with_reducible refine HS1C.out.mono ?_)
              rintro e2 w3 ⟨rfl, R1, hR1s', hR1B, hR1p, hR1o⟩
              have hR1s : R1.size = n := hR1s'.trans hRs
              have HB3 := Lib.hid hR1B
              have HP1 := Lib.hid hR1p
              have HO1 := Lib.hid hR1o
              clear hR1s' hR1B hR1p hR1o
              have hR2s : R1.size = n := hR1s
              have HB4 := Lib.hid HB3.out
              have HP2 := Lib.hid (permIn_refl R1 mid b)
              have HO2 := Lib.hid (FK2.out R R1 HRK.out HP1.out (by omega))
              go_wp2
              all_goals go_end0
              all_goals exact ⟨rfl, R1, hR2s.trans hdn.symm, HB4.out, FD.out R R1 R1 hRs HRK.out HRP.out HP1.out HO1.out HP2.out HO2.out⟩
          · by_cases hE1 : e < b
            · have hq0 : (s : Int) < (mid : Int) := by omega
              have hq1 : (mid : Int) < (e : Int) := by omega
              have hq2 : (s : Int) ≤ (a : Int) := by omega
              have HROT := Lib.hid (FROT.out (by omega) (by omega))
              go_wp2_with fail
              (with_reducible refine HROT.out.mono ?_)
              rintro e1 w2 ⟨rfl, R, hRs, hRB, hRk, hRp⟩
              have HB2 := Lib.hid hRB
              have HRK := Lib.hid hRk
              have HRP := Lib.hid hRp
              clear hRB hRk hRp
              have hR1s : R.size = n := hRs
              have HB3 := Lib.hid HB2.out
              have HP1 := Lib.hid (permIn_refl R a mid)
              have HO1 := Lib.hid (FK1.out R HRK.out (by omega))
              have hs2 := FS2.out R R w2 hRs hR1s HB3.out HRK.out HRP.out HP1.out (by omega) (by omega)
              have HS2C := Lib.hid hs2
              clear hs2
              go_wp2_with fail
              (with_reducible refine HS2C.out.mono ?_)
              rintro e3 w4 ⟨rfl, R2, hR2s', hR2B, hR2p, hR2o⟩
              have hR2s : R2.size = n := hR2s'.trans hR1s
              have HB4 := Lib.hid hR2B
              have HP2 := Lib.hid hR2p
              have HO2 := Lib.hid hR2o
              clear hR2s' hR2B hR2p hR2o
              go_wp2
              all_goals go_end0
              all_goals exact ⟨rfl, R2, hR2s.trans hdn.symm, HB4.out, FD.out R R R2 hRs HRK.out HRP.out HP1.out HO1.out HP2.out HO2.out⟩
            · have hq0 : (s : Int) < (mid : Int) := by omega
              have hq1 : (mid : Int) < (e : Int) := by omega
              have hq2 : (s : Int) ≤ (a : Int) := by omega
              have hq3 : (b : Int) ≤ (e : Int) := by omega
              have HROT := Lib.hid (FROT.out (by omega) (by omega))
              go_wp2_with fail
              (with_reducible refine HROT.out.mono ?_)
              rintro e1 w2 ⟨rfl, R, hRs, hRB, hRk, hRp⟩
              have HB2 := Lib.hid hRB
              have HRK := Lib.hid hRk
              have HRP := Lib.hid hRp
              clear hRB hRk hRp
              have hR1s : R.size = n := hRs
              have HB3 := Lib.hid HB2.out
              have HP1 := Lib.hid (permIn_refl R a mid)
              have HO1 := Lib.hid (FK1.out R HRK.out (by omega))
              have hR2s : R.size = n := hR1s
              have HB4 := Lib.hid HB3.out
              have HP2 := Lib.hid (permIn_refl R mid b)
              have HO2 := Lib.hid (FK2.out R R HRK.out HP1.out (by omega))
              go_wp2
              all_goals go_end0
              all_goals exact ⟨rfl, R, hR2s.trans hdn.symm, HB4.out, FD.out R R R hRs HRK.out HRP.out HP1.out HO1.out HP2.out HO2.out⟩
        · have hq0 : (e : Int) ≤ (m : Int) := by omega
          have hq1 : (mid : Int) ≤ (s : Int) := by omega
          have hq2 : (a : Int) < (s : Int) := by omega
          have hq3 : (e : Int) < (b : Int) := by omega
          have hq4 : (mid : Int) < (e : Int) := by omega
          have hRs : d.size = n := hdn
          have HB2 := Lib.hid HSk.out
          have HRK := Lib.hid (rot_none d s m e (by omega) (by omega) (by omega))
          have HRP := Lib.hid (permIn_refl d a b)
          have hR1s : d.size = n := hRs
          have HB3 := Lib.hid HB2.out
          have HP1 := Lib.hid (permIn_refl d a mid)
          have HO1 := Lib.hid (FK1.out d HRK.out (by omega))
          have hs2 := FS2.out d d wr hRs hR1s HB3.out HRK.out HRP.out HP1.out (by omega) (by omega)
          have HS2C := Lib.hid hs2
          clear hs2
          go_wp2_with fail
          all_goals
            (with_reducible refine HS2C.out.mono ?_)
            rintro e3 w4 ⟨rfl, R2, hR2s', hR2B, hR2p, hR2o⟩
            have hR2s : R2.size = n := hR2s'.trans hR1s
            have HB4 := Lib.hid hR2B
            have HP2 := Lib.hid hR2p
            have HO2 := Lib.hid hR2o
            clear hR2s' hR2B hR2p hR2o
            go_wp2
            all_goals go_end0
            all_goals exact ⟨rfl, R2, hR2s.trans hdn.symm, HB4.out, FD.out d d R2 hRs HRK.out HRP.out HP1.out HO1.out HP2.out HO2.out⟩
      · by_cases hB1 : m < e
        · have hq0 : (m : Int) ≤ (s : Int) := by omega
          have hq1 : (s : Int) < (mid : Int) := by omega
          have hq2 : (a : Int) < (s : Int) := by omega
          have hq3 : (e : Int) < (b : Int) := by omega
          have hq4 : (e : Int) ≤ (mid : Int) := by omega
          have hRs : d.size = n := hdn
          have HB2 := Lib.hid HSk.out
          have HRK := Lib.hid (rot_none d s m e (by omega) (by omega) (by omega))
          have HRP := Lib.hid (permIn_refl d a b)
          have hs1 := FS1.out d wr hRs HB2.out HRK.out HRP.out (by omega) (by omega)
          have HS1C := Lib.hid hs1
          clear hs1
          go_wp2_with fail
          all_goals
            (with_reducible refine HS1C.out.mono ?_)
            rintro e2 w3 ⟨rfl, R1, hR1s', hR1B, hR1p, hR1o⟩
            have hR1s : R1.size = n := hR1s'.trans hRs
            have HB3 := Lib.hid hR1B
            have HP1 := Lib.hid hR1p
            have HO1 := Lib.hid hR1o
            clear hR1s' hR1B hR1p hR1o
            have hR2s : R1.size = n := hR1s
            have HB4 := Lib.hid HB3.out
            have HP2 := Lib.hid (permIn_refl R1 mid b)
            have HO2 := Lib.hid (FK2.out d R1 HRK.out HP1.out (by omega))
            go_wp2
            all_goals go_end0
            all_goals exact ⟨rfl, R1, hR2s.trans hdn.symm, HB4.out, FD.out d R1 R1 hRs HRK.out HRP.out HP1.out HO1.out HP2.out HO2.out⟩
        · have hq0 : (m : Int) ≤ (s : Int) := by omega
          have hq1 : (e : Int) ≤ (m : Int) := by omega
          have hq2 : (mid : Int) ≤ (s : Int) := by omega
          have hq3 : (a : Int) < (s : Int) := by omega
          have hq4 : (e : Int) < (b : Int) := by omega
          have hq5 : (e : Int) ≤ (mid : Int) := by omega
          have hRs : d.size = n := hdn
          have HB2 := Lib.hid HSk.out
          have HRK := Lib.hid (rot_none d s m e (by omega) (by omega) (by omega))
          have HRP := Lib.hid (permIn_refl d a b)
          have hR1s : d.size = n := hRs
          have HB3 := Lib.hid HB2.out
          have HP1 := Lib.hid (permIn_refl d a mid)
          have HO1 := Lib.hid (FK1.out d HRK.out (by omega))
          have hR2s : d.size = n := hR1s
          have HB4 := Lib.hid HB3.out
          have HP2 := Lib.hid (permIn_refl d mid b)
          have HO2 := Lib.hid (FK2.out d d HRK.out HP1.out (by omega))
          go_wp2
          all_goals
            all_goals go_end0
            all_goals exact ⟨rfl, d, hR2s.trans hdn.symm, HB4.out, FD.out d d d hRs HRK.out HRP.out HP1.out HO1.out HP2.out HO2.out⟩
end Go.Proofs.YtnkodejgiabamaaGreat
/-
  Go's stable merge in place, at elements of one cell ([]int): the contract.
-/
namespace Go.Proofs.YtnkodejgiabamaaGreat
open Go.RowKit Go.Sort

theorem merge_allQ {α : Type} [Inhabited α] (enc : α → Value) (hE : ∀ x, ∃ a n c, enc x = .slice a n c) (cf : α → α → Int) (lt : α → α → Bool) (hL : SWO lt) (D : α → Prop) (f : FuncId) (cb : Array Value) (g cap : Nat) (rest : List Value) (n : Nat) (w0 : World)
    (hC : CmpQ Tryz.prog f cb enc cf D w0 g) (hsz : n < 4611686018427387904) : ∀ N, MergeSaidQ enc cf lt D f cb g cap rest n w0 N
  | 0 => fun a m b d w h1 h2 h3 h4 h5 h6 => by omega
  | N + 1 => by
    have ih := merge_allQ enc hE cf lt hL D f cb g cap rest n w0 hC hsz N
    intro a m b d w hN hdn hS hD ham hmb hb h1 h2 hA
    by_cases c1 : m = a + 1
    · subst hdn
      exact sym_leftQ enc hE cf lt hL D f cb g cap a m b rest d w0 w hC hS hD c1 hmb hb hsz h2 hA
    by_cases c2 : b = m + 1
    · subst hdn
      exact sym_rightQ enc hE cf lt hL D f cb g cap a m b rest d w0 w hC hS hD (by omega) c2 hb hsz h1 hA
    obtain ⟨mid, hmid⟩ : ∃ mid, mid = (a + b) / 2 := ⟨_, rfl⟩
    by_cases c3 : mid < m
    · exact sym_hiQ enc hE cf lt D f cb g cap rest n w0 hC hsz a m b mid (mid + m - b) mid d w hdn hS hD (by omega) (by omega) hb hA hmid c3 rfl rfl
        (sym_finQ enc hE cf lt hL D f cb g cap rest n w0 N hsz ih a m b mid (mid + m - b) mid d hN hdn hD hb h1 h2 hA (by omega) (by omega) (by omega) (by omega) (by omega) (by omega) (by omega) (by omega))
    · exact sym_loQ enc hE cf lt D f cb g cap rest n w0 hC hsz a m b mid a m d w hdn hS hD (by omega) (by omega) hb hA hmid (by omega) rfl rfl
        (sym_finQ enc hE cf lt hL D f cb g cap rest n w0 N hsz ih a m b mid a m d hN hdn hD hb h1 h2 hA (by omega) (by omega) (by omega) (by omega) (by omega) (by omega) (by omega) (by omega))
end Go.Proofs.YtnkodejgiabamaaGreat
