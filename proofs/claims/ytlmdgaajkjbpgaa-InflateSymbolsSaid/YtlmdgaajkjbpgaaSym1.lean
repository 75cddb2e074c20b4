/-
  Go's exchange and turn of a row's parts, at elements of one cell ([]int).
-/
import Derived.Test.YtlmdgaajkjbpgaaProg
import Derived.Test.YtlmdgaajkjbpgaaSymP
import Derived.BigQuiet
import Derived.Deep.QuietTactic
namespace Go.Proofs.Ytlmdgaajkjbpgaa
open Go.RowKit Go.Sort

set_option maxHeartbeats 2000000 in
theorem swapR_any {α : Type} [Inhabited α] (enc : α → Value) (hE : ∀ x, ∃ n, enc x = .int .i64 n) (F : Value) (g cap a b n : Nat) (rest : List Value) (d : Array α) (w0 w : World)
    (hS : SB enc w0 g 3 rest d w) (hab : a + n ≤ b) (hb : b + n ≤ d.size) (hsz : d.size < 4611686018427387904) :
    Calls Try.prog 72 #[.slice (some ⟨g, 0, none⟩) d.size cap, .int .i64 a, .int .i64 b, .int .i64 n, F] w fun e w' => e = .returned (.tuple #[]) ∧ ∃ R : Array α, R.size = d.size ∧ SB enc w0 g 3 rest R w' ∧ (∀ k, R[k]! = swR d a b n k) ∧ PermIn a (b + n) d R := by
  have HS := Lib.hid hS
  clear hS
  go_enter Try.func72, Try.ntmps72
  go_wp2
  go_loopw [10] (fun vi wr => ∃ (i : Nat) (dk : Array α), vi = .int .i64 i ∧ i ≤ n ∧ dk.size = d.size ∧ Hid (SB enc w0 g 3 rest dk wr) ∧ Hid (∀ k, dk[k]! = swR d a b i k) ∧ Hid (PermIn a (b + n) d dk)) (fun vi _ => n - (intOf vi).toNat)
  case atStart => exact ⟨0, d, rfl, by omega, rfl, HS, Lib.hid (fun k => (swR_zero d a b k).symm), Lib.hid (permIn_refl _ _ _)⟩
  case round =>
    obtain ⟨i, dk, rfl, hin, hsk, HSk, HR, HP⟩ := hrel
    clear HS
    by_cases hlt : i < n
    · have hc1 := HSk.out.cell (a + i) (by omega)
      have hc2 := HSk.out.cell (b + i) (by omega)
      have hf1 := HSk.out.free (a + i)
      have hf2 := HSk.out.free (b + i)
      obtain ⟨X, hX⟩ : ∃ X, X = dk[a + i]! := ⟨_, rfl⟩
      obtain ⟨Y, hY⟩ : ∃ Y, Y = dk[b + i]! := ⟨_, rfl⟩
      rw [← hX] at hc1
      rw [← hY] at hc2
      have HX := Lib.hid hX
      have HY := Lib.hid hY
      obtain ⟨x, hx⟩ := hE X
      obtain ⟨y, hy⟩ := hE Y
      rw [hx] at hc1
      rw [hy] at hc2
      have HEx := Lib.hid hx
      have HEy := Lib.hid hy
      clear hx hy hX hY
      have hj1 : ((a : Int) + (i : Int)).toNat = a + i := by omega
      have hj2 : ((b : Int) + (i : Int)).toNat = b + i := by omega
      have hb1 : (a : Int) + (i : Int) < (d.size : Int) := by omega
      have hb2 : (b : Int) + (i : Int) < (d.size : Int) := by omega
      go_wp2
      go_region
      all_goals go_wp2
      go_roundw
      case rel =>
        refine ⟨i + 1, swp dk (a + i) (b + i), by go_num, by omega, by rw [size_swp]; exact hsk, ?_, Lib.hid (swR_step d dk a b n i hlt hab (by omega) HR.out), Lib.hid (permIn_trans _ _ _ _ _ HP.out (swp_permIn dk a (b + n) (a + i) (b + i) (by omega) (by omega) (by omega) (by omega) (by omega)))⟩
        have hw := HSk.out.swp (a + i) (b + i) (by omega) (by omega) 1
        rw [← HX.out, ← HY.out, HEx.out, HEy.out] at hw
        exact Lib.hid hw
      case measure => simp [intOf]; omega
    · obtain rfl : n = i := by omega
      go_wp2
      go_end0
      exact ⟨rfl, dk, hsk, HSk.out, HR.out, HP.out⟩

set_option maxHeartbeats 2000000 in
theorem rot_any {α : Type} [Inhabited α] (enc : α → Value) (hE : ∀ x, ∃ n, enc x = .int .i64 n) (F : Value) (g cap a m b : Nat) (rest : List Value) (d : Array α) (w0 w : World)
    (hS : SB enc w0 g 3 rest d w) (ham : a < m) (hmb : m < b) (hb : b ≤ d.size) (hsz : d.size < 4611686018427387904) :
    Calls Try.prog 71 #[.slice (some ⟨g, 0, none⟩) d.size cap, .int .i64 a, .int .i64 m, .int .i64 b, F] w fun e w' => e = .returned (.tuple #[]) ∧ ∃ R : Array α, R.size = d.size ∧ SB enc w0 g 3 rest R w' ∧ (∀ k, R[k]! = rotF d a m b k) ∧ PermIn a b d R := by
  have HS := Lib.hid hS
  clear hS
  go_enter Try.func71, Try.ntmps71
  go_wp2
  go_loopw [10, 11] (fun vi vj wr => ∃ (i j : Nat) (dk : Array α), vi = .int .i64 i ∧ vj = .int .i64 j ∧ 0 < i ∧ 0 < j ∧ i ≤ m - a ∧ j ≤ b - m ∧ dk.size = d.size ∧ Hid (SB enc w0 g 3 rest dk wr) ∧ Hid (∀ k, rotF dk (m - i) m (m + j) k = rotF d a m b k) ∧ Hid (PermIn a b d dk)) (fun vi vj _ => (intOf vi).toNat + (intOf vj).toNat)
  case atStart => exact ⟨m - a, b - m, d, by go_num, by go_num, by omega, by omega, by omega, by omega, rfl, HS, Lib.hid (fun k => by rw [show m - (m - a) = a from by omega, show m + (b - m) = b from by omega]), Lib.hid (permIn_refl _ _ _)⟩
  case round =>
    obtain ⟨i, j, dk, rfl, rfl, hi, hj, him, hjm, hsk, HSk, HR, HP⟩ := hrel
    clear HS
    have hmi : ((m - i : Nat) : Int) = (m : Int) - i := by omega
    by_cases hgt : j < i
    · have hsw := swapR_any enc hE F g cap (m - i) m j rest dk w0 wr HSk.out (by omega) (by omega) (by omega)
      rw [hmi, hsk] at hsw
      have HSW := Lib.hid hsw
      have hne : ((i : Int) == (j : Int)) = false := by rw [beq_eq_false_iff_ne]; omega
      clear hsw
      go_wp2_with (go_at_call 72; refine HSW.out.mono ?_; rintro e w2 ⟨rfl, R, hRs, hRB, hRk, hRP⟩; have HB2 := Lib.hid hRB; have HK2 := Lib.hid hRk; have HP2 := Lib.hid hRP; clear hRB hRk hRP)
      go_roundw
      case rel => exact ⟨i - j, j, R, by go_num, rfl, by omega, by omega, by omega, by omega, hRs, HB2, Lib.hid (fun k => by rw [rot_gt dk R m i j hgt (by omega) HK2.out k]; exact HR.out k), Lib.hid (permIn_trans _ _ _ _ _ HP.out (permIn_mono dk R (m - i) (m + j) a b (by omega) (by omega) (by omega) HP2.out))⟩
      case measure => simp [intOf]; omega
    · by_cases hlt : i < j
      · have hsw := swapR_any enc hE F g cap (m - i) (m + j - i) i rest dk w0 wr HSk.out (by omega) (by omega) (by omega)
        rw [hmi, hsk, show ((m + j - i : Nat) : Int) = (m : Int) + j - i from by omega] at hsw
        have HSW := Lib.hid hsw
        have hne : ((i : Int) == (j : Int)) = false := by rw [beq_eq_false_iff_ne]; omega
        clear hsw
        go_wp2_with (go_at_call 72; refine HSW.out.mono ?_; rintro e w2 ⟨rfl, R, hRs, hRB, hRk, hRP⟩; have HB2 := Lib.hid hRB; have HK2 := Lib.hid hRk; have HP2 := Lib.hid hRP; clear hRB hRk hRP)
        go_roundw
        case rel => exact ⟨i, j - i, R, rfl, by go_num, by omega, by omega, by omega, by omega, hRs, HB2, Lib.hid (fun k => by rw [rot_lt dk R m i j hlt (by omega) HK2.out k]; exact HR.out k), Lib.hid (permIn_trans _ _ _ _ _ HP.out (permIn_mono dk R (m - i) (m + j - i + i) a b (by omega) (by omega) (by omega) HP2.out))⟩
        case measure => simp [intOf]; omega
      · obtain rfl : i = j := by omega
        have hsw := swapR_any enc hE F g cap (m - i) m i rest dk w0 wr HSk.out (by omega) (by omega) (by omega)
        rw [hmi, hsk] at hsw
        have HSW := Lib.hid hsw
        clear hsw
        go_wp2_with (go_at_call 72; refine HSW.out.mono ?_; rintro e w2 ⟨rfl, R, hRs, hRB, hRk, hRP⟩; have HB2 := Lib.hid hRB; have HK2 := Lib.hid hRk; have HP2 := Lib.hid hRP; clear hRB hRk hRP)
        go_end0
        exact ⟨rfl, R, hRs, HB2.out, fun k => by rw [rot_eq dk R m i (by omega) HK2.out k]; exact HR.out k, permIn_trans _ _ _ _ _ HP.out (permIn_mono dk R (m - i) (m + i) a b (by omega) (by omega) (by omega) HP2.out)⟩
end Go.Proofs.Ytlmdgaajkjbpgaa
