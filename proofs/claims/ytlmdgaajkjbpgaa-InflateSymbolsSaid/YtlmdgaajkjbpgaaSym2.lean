/-
  Go's stable merge in place, at elements of one cell ([]int): one element against a run.
-/
import Derived.Test.YtlmdgaajkjbpgaaSym1
import Derived.Test.YtlmdgaajkjbpgaaSymQ
namespace Go.Proofs.Ytlmdgaajkjbpgaa
open Go.RowKit Go.Sort

/-- What the merge leaves. -/
def MergeP {α : Type} [Inhabited α] (enc : α → Value) (lt : α → α → Bool) (g a b : Nat) (rest : List Value) (d : Array α) (w0 : World) (e : Ending) (w' : World) : Prop :=
  e = .returned (.tuple #[]) ∧ ∃ R : Array α, R.size = d.size ∧ SB enc w0 g 3 rest R w' ∧ PermIn a b d R ∧ SortedIn lt a b R

set_option maxRecDepth 8000 in
set_option maxHeartbeats 4000000 in
theorem sym_left {α : Type} [Inhabited α] (enc : α → Value) (hE : ∀ x, ∃ n, enc x = .int .i64 n) (cf : α → α → Int) (lt : α → α → Bool) (hL : SWO lt) (D : α → Prop) (f : FuncId) (cb : Array Value) (g cap a m b : Nat) (rest : List Value) (d : Array α) (w0 w : World)
    (hC : CmpQ Try.prog f cb enc cf D w0 g) (hS : SB enc w0 g 3 rest d w) (hD : ∀ i, i < d.size → D d[i]!) (hm : m = a + 1) (hmb : m < b) (hb : b ≤ d.size) (hsz : d.size < 4611686018427387904)
    (h2 : SortedIn lt m b d) (hA : Agree (ltOf cf) lt d a m b) :
    Calls Try.prog 70 #[.slice (some ⟨g, 0, none⟩) d.size cap, .int .i64 a, .int .i64 m, .int .i64 b, .func (.func f) #[] cb] w fun e w' => MergeP enc lt g a b rest d w0 e w' := by
  have eg := hC.enters
  have HC := Lib.hid hC
  have HS := Lib.hid hS
  have HD := Lib.hid hD
  have H2 := Lib.hid h2
  have HA := Lib.hid hA
  clear hC hS hD h2 hA
  have heq : ((m : Int) - (a : Int) == 1) = true := by rw [beq_iff_eq]; omega
  go_enter Try.func70, Try.ntmps70
  go_wp2
  go_loopw [10, 11] (fun vi vj wr => ∃ (i j : Nat), vi = .int .i64 i ∧ vj = .int .i64 j ∧ m ≤ i ∧ i ≤ j ∧ j ≤ b ∧ Hid (SB enc w0 g 3 rest d wr) ∧ Hid (∀ q, m ≤ q → q < i → lt d[q]! d[a]! = true) ∧ Hid (∀ q, j ≤ q → q < b → lt d[q]! d[a]! = false)) (fun vi vj _ => (intOf vj).toNat - (intOf vi).toNat)
  case atStart => exact ⟨m, b, rfl, rfl, Nat.le_refl _, by omega, Nat.le_refl _, HS, Lib.hid (fun q h1 h2 => by omega), Lib.hid (fun q h1 h2 => by omega)⟩
  case round =>
    obtain ⟨i, j, rfl, rfl, hai, hij, hjb, HSk, HLo, HHi⟩ := hrel
    clear HS
    by_cases hlt : i < j
    · obtain ⟨h, hh⟩ : ∃ h, h = (i + j) / 2 := ⟨_, rfl⟩
      have hc1 := HSk.out.cell h (by omega)
      have hc2 := HSk.out.cell a (by omega)
      have hcall := fun q => HC.out.calls (wr.drewN q) (HSk.out.drewN q).grown d[h]! d[a]! (HD.out h (by omega)) (HD.out a (by omega))
      have hag := HA.out a h (Nat.le_refl _) (by omega) (by omega) (by omega)
      obtain ⟨X, hX⟩ : ∃ X, X = d[h]! := ⟨_, rfl⟩
      obtain ⟨Y, hY⟩ : ∃ Y, Y = d[a]! := ⟨_, rfl⟩
      rw [← hX] at hc1 hcall hag
      rw [← hY] at hc2 hcall hag
      have HX := Lib.hid hX
      have HY := Lib.hid hY
      obtain ⟨x, hx⟩ := hE X
      obtain ⟨y, hy⟩ := hE Y
      rw [hx] at hc1 hcall
      rw [hy] at hc2 hcall
      have HCALL := Lib.hid hcall
      have HAG := Lib.hid hag
      clear hcall hx hy hX hY hag
      have hh1 : ((i : Int) + (j : Int)) / 2 = (h : Int) := by omega
      have hhb : (h : Int) < (d.size : Int) := by omega
      have hab : (a : Int) < (d.size : Int) := by omega
      have hhi : i ≤ h := by omega
      have hhj : h < j := by omega
      clear hh
      by_cases hcf : cf X Y < 0
      · have hl : lt X Y = true := by rw [← HAG.out]; simpa [ltOf] using hcf
        have HL := Lib.hid hl
        have hcf2 : cf X Y < 0 := hcf
        clear hl hcf
        go_wp2_with fail
        go_quiet ((refine Calls.quiet_of (HCALL.out _)))
        go_wp2
        go_roundw
        case rel => exact ⟨h + 1, j, by go_num, rfl, by omega, by omega, hjb, Lib.hid (HSk.out.drewN _), Lib.hid (fun q h3 h4 => low_all hL H2.out (by omega : h < b) (by rw [← HX.out, ← HY.out]; exact HL.out) q h3 (by omega)), HHi⟩
        case measure => simp [intOf]; omega
      · have hl : lt X Y = false := by rw [← HAG.out]; simpa [ltOf] using hcf
        have HL := Lib.hid hl
        have hcf2 : 0 ≤ cf X Y := by omega
        clear hl hcf
        go_wp2_with fail
        go_quiet ((refine Calls.quiet_of (HCALL.out _)))
        go_wp2
        go_roundw
        case rel => exact ⟨i, h, rfl, rfl, hai, hhi, by omega, Lib.hid (HSk.out.drewN _), HLo, Lib.hid (fun q h3 h4 => high_all hL H2.out (by omega) (by rw [← HX.out, ← HY.out]; exact HL.out) q h3 h4)⟩
        case measure => simp [intOf]; omega
    · obtain rfl : i = j := by omega
      go_wp2
      go_loopw [13] (fun vk wr2 => ∃ (k : Nat) (dk : Array α), vk = .int .i64 k ∧ a ≤ k ∧ k ≤ i - 1 ∧ dk.size = d.size ∧ Hid (SB enc w0 g 3 rest dk wr2) ∧ Hid (∀ q, dk[q]! = shlF d a k q) ∧ Hid (PermIn a b d dk)) (fun vk _ => i - (intOf vk).toNat)
      case atStart => exact ⟨a, d, rfl, Nat.le_refl _, by omega, rfl, HSk, Lib.hid (fun q => (shlF_zero d a q).symm), Lib.hid (permIn_refl _ _ _)⟩
      case round =>
        obtain ⟨k, dk, rfl, hak, hki, hsk, HSk2, HR, HP⟩ := hrel
        clear HSk
        by_cases hk : k < i - 1
        · have hc1 := HSk2.out.cell k (by omega)
          have hc2 := HSk2.out.cell (k + 1) (by omega)
          have hf1 := HSk2.out.free k
          have hf2 := HSk2.out.free (k + 1)
          obtain ⟨X, hX⟩ : ∃ X, X = dk[k]! := ⟨_, rfl⟩
          obtain ⟨Y, hY⟩ : ∃ Y, Y = dk[k + 1]! := ⟨_, rfl⟩
          rw [← hX] at hc1
          rw [← hY] at hc2
          have HX := Lib.hid hX
          have HY := Lib.hid hY
          obtain ⟨x, hx⟩ := hE X
          obtain ⟨y, hy⟩ := hE Y
          rw [hx] at hc1
          rw [hy] at hc2
          have HEx := Lib.hid hx
          have HEy := Lib.hid hy
          clear hx hy hX hY
          have hj1 : ((k : Int) + 1).toNat = k + 1 := by omega
          have hb1 : (k : Int) < (d.size : Int) := by omega
          have hb2 : (k : Int) + 1 < (d.size : Int) := by omega
          go_wp2
          go_region
          all_goals go_wp2
          go_roundw
          case rel =>
            refine ⟨k + 1, swp dk k (k + 1), by go_num, by omega, by omega, by rw [size_swp]; exact hsk, ?_, Lib.hid (shlF_step d dk a k hak (by omega) HR.out), Lib.hid (permIn_trans _ _ _ _ _ HP.out (swp_permIn dk a b k (k + 1) (by omega) (by omega) (by omega) (by omega) (by omega)))⟩
            have hw := HSk2.out.swp k (k + 1) (by omega) (by omega) 1
            rw [← HX.out, ← HY.out, HEx.out, HEy.out] at hw
            exact Lib.hid hw
          case measure => simp [intOf]; omega
        · obtain rfl : k = i - 1 := by omega
          go_wp2
          go_end0
          exact ⟨rfl, dk, hsk, HSk2.out, HP.out, left_done hL d dk a b i (by omega) hjb (by rw [← hm]; exact H2.out) (by rw [← hm]; exact HLo.out) HHi.out HR.out⟩

set_option maxRecDepth 8000 in
set_option maxHeartbeats 4000000 in
theorem sym_right {α : Type} [Inhabited α] (enc : α → Value) (hE : ∀ x, ∃ n, enc x = .int .i64 n) (cf : α → α → Int) (lt : α → α → Bool) (hL : SWO lt) (D : α → Prop) (f : FuncId) (cb : Array Value) (g cap a m b : Nat) (rest : List Value) (d : Array α) (w0 w : World)
    (hC : CmpQ Try.prog f cb enc cf D w0 g) (hS : SB enc w0 g 3 rest d w) (hD : ∀ i, i < d.size → D d[i]!) (ham : a + 1 < m) (hbm : b = m + 1) (hb : b ≤ d.size) (hsz : d.size < 4611686018427387904)
    (h1 : SortedIn lt a m d) (hA : Agree (ltOf cf) lt d a m b) :
    Calls Try.prog 70 #[.slice (some ⟨g, 0, none⟩) d.size cap, .int .i64 a, .int .i64 m, .int .i64 b, .func (.func f) #[] cb] w fun e w' => MergeP enc lt g a b rest d w0 e w' := by
  have eg := hC.enters
  have HC := Lib.hid hC
  have HS := Lib.hid hS
  have HD := Lib.hid hD
  have H1 := Lib.hid h1
  have HA := Lib.hid hA
  clear hC hS hD h1 hA
  have hne : ((m : Int) - (a : Int) == 1) = false := by rw [beq_eq_false_iff_ne]; omega
  have heq : ((b : Int) - (m : Int) == 1) = true := by rw [beq_iff_eq]; omega
  go_enter Try.func70, Try.ntmps70
  go_wp2
  go_loopw [14, 15] (fun vi vj wr => ∃ (i j : Nat), vi = .int .i64 i ∧ vj = .int .i64 j ∧ a ≤ i ∧ i ≤ j ∧ j ≤ m ∧ Hid (SB enc w0 g 3 rest d wr) ∧ Hid (∀ q, a ≤ q → q < i → lt d[m]! d[q]! = false) ∧ Hid (∀ q, j ≤ q → q < m → lt d[m]! d[q]! = true)) (fun vi vj _ => (intOf vj).toNat - (intOf vi).toNat)
  case atStart => exact ⟨a, m, rfl, rfl, Nat.le_refl _, by omega, Nat.le_refl _, HS, Lib.hid (fun q h1 h2 => by omega), Lib.hid (fun q h1 h2 => by omega)⟩
  case round =>
    obtain ⟨i, j, rfl, rfl, hai, hij, hjb, HSk, HLo, HHi⟩ := hrel
    clear HS
    by_cases hlt : i < j
    · obtain ⟨h, hh⟩ : ∃ h, h = (i + j) / 2 := ⟨_, rfl⟩
      have hc1 := HSk.out.cell m (by omega)
      have hc2 := HSk.out.cell h (by omega)
      have hcall := fun q => HC.out.calls (wr.drewN q) (HSk.out.drewN q).grown d[m]! d[h]! (HD.out m (by omega)) (HD.out h (by omega))
      have hag := HA.out h m (by omega) (by omega) (by omega) (by omega)
      obtain ⟨X, hX⟩ : ∃ X, X = d[m]! := ⟨_, rfl⟩
      obtain ⟨Y, hY⟩ : ∃ Y, Y = d[h]! := ⟨_, rfl⟩
      rw [← hX] at hc1 hcall hag
      rw [← hY] at hc2 hcall hag
      have HX := Lib.hid hX
      have HY := Lib.hid hY
      obtain ⟨x, hx⟩ := hE X
      obtain ⟨y, hy⟩ := hE Y
      rw [hx] at hc1 hcall
      rw [hy] at hc2 hcall
      have HCALL := Lib.hid hcall
      have HAG := Lib.hid hag
      clear hcall hx hy hX hY hag
      have hh1 : ((i : Int) + (j : Int)) / 2 = (h : Int) := by omega
      have hhb : (h : Int) < (d.size : Int) := by omega
      have hmd : (m : Int) < (d.size : Int) := by omega
      have hhi : i ≤ h := by omega
      have hhj : h < j := by omega
      clear hh
      by_cases hcf : cf X Y < 0
      · have hl : lt X Y = true := by rw [← HAG.out]; simpa [ltOf] using hcf
        have HL := Lib.hid hl
        have hcf2 : cf X Y < 0 := hcf
        have hcfB : decide (cf X Y < 0) = true := by rw [decide_eq_true_iff]; exact hcf
        clear hl hcf
        go_wp2_with fail
        go_quiet ((refine Calls.quiet_of (HCALL.out _)))
        go_wp2
        go_roundw
        case rel => exact ⟨i, h, rfl, rfl, hai, hhi, by omega, Lib.hid (HSk.out.drewN _), HLo, Lib.hid (fun q h3 h4 => high_all' hL H1.out (by omega) (by rw [← HX.out, ← HY.out]; exact HL.out) q h3 h4)⟩
        case measure => simp [intOf]; omega
      · have hl : lt X Y = false := by rw [← HAG.out]; simpa [ltOf] using hcf
        have HL := Lib.hid hl
        have hcf2 : 0 ≤ cf X Y := by omega
        have hcfB : decide (cf X Y < 0) = false := by rw [decide_eq_false_iff_not]; omega
        clear hl hcf
        go_wp2_with fail
        go_quiet ((refine Calls.quiet_of (HCALL.out _)))
        go_wp2
        go_roundw
        case rel => exact ⟨h + 1, j, by go_num, rfl, by omega, by omega, hjb, Lib.hid (HSk.out.drewN _), Lib.hid (fun q h3 h4 => low_all' hL H1.out (by omega : h < m) (by rw [← HX.out, ← HY.out]; exact HL.out) q h3 (by omega)), HHi⟩
        case measure => simp [intOf]; omega
    · obtain rfl : i = j := by omega
      go_wp2
      go_loopw [17] (fun vk wr2 => ∃ (k : Nat) (dk : Array α), vk = .int .i64 k ∧ i ≤ k ∧ k ≤ m ∧ dk.size = d.size ∧ Hid (SB enc w0 g 3 rest dk wr2) ∧ Hid (∀ q, dk[q]! = shrF d m k q) ∧ Hid (PermIn a b d dk)) (fun vk _ => (intOf vk).toNat)
      case atStart => exact ⟨m, d, rfl, hjb, Nat.le_refl _, rfl, HSk, Lib.hid (fun q => (shrF_zero d m q).symm), Lib.hid (permIn_refl _ _ _)⟩
      case round =>
        obtain ⟨k, dk, rfl, hik, hkm, hsk, HSk2, HR, HP⟩ := hrel
        clear HSk
        by_cases hk : i < k
        · obtain ⟨u, rfl⟩ : ∃ u, k = u + 1 := ⟨k - 1, by omega⟩
          have hc1 := HSk2.out.cell (u + 1) (by omega)
          have hc2 := HSk2.out.cell u (by omega)
          have hf1 := HSk2.out.free (u + 1)
          have hf2 := HSk2.out.free u
          obtain ⟨X, hX⟩ : ∃ X, X = dk[u + 1]! := ⟨_, rfl⟩
          obtain ⟨Y, hY⟩ : ∃ Y, Y = dk[u]! := ⟨_, rfl⟩
          rw [← hX] at hc1
          rw [← hY] at hc2
          have HX := Lib.hid hX
          have HY := Lib.hid hY
          obtain ⟨x, hx⟩ := hE X
          obtain ⟨y, hy⟩ := hE Y
          rw [hx] at hc1
          rw [hy] at hc2
          have HEx := Lib.hid hx
          have HEy := Lib.hid hy
          clear hx hy hX hY
          have hj1 : ((u : Int) + 1).toNat = u + 1 := by omega
          have hj2 : ((u : Int) + 1 - 1) = u := by omega
          have hb1 : (u : Int) < (d.size : Int) := by omega
          have hb2 : (u : Int) + 1 < (d.size : Int) := by omega
          go_wp2
          go_region
          all_goals go_wp2
          go_roundw
          case rel =>
            refine ⟨u, swp dk (u + 1) u, by go_num, by omega, by omega, by rw [size_swp]; exact hsk, ?_, Lib.hid (shrF_step d dk m u (by omega) (by omega) HR.out), Lib.hid (permIn_trans _ _ _ _ _ HP.out (swp_permIn dk a b (u + 1) u (by omega) (by omega) (by omega) (by omega) (by omega)))⟩
            have hw := HSk2.out.swp (u + 1) u (by omega) (by omega) 1
            rw [← HX.out, ← HY.out, HEx.out, HEy.out] at hw
            exact Lib.hid hw
          case measure => simp [intOf]
        · obtain rfl : i = k := by omega
          go_wp2
          go_end0
          refine ⟨rfl, dk, hsk, HSk2.out, HP.out, ?_⟩
          rw [hbm]
          exact right_done hL d dk a m i hai hjb H1.out HLo.out HHi.out HR.out
end Go.Proofs.Ytlmdgaajkjbpgaa
