/-
  Walks of layer 5's reference: a symbol's distance.
-/
import Derived.Test.YtlmdgaajkjbpgaaInf4
namespace Go.Proofs.Ytlmdgaajkjbpgaa
open Go.RowKit Go.Sort


def atD : Nat → Int
  | 0 => 1
  | j + 1 => atD j + 2 ^ (if 4 ≤ j then (j - 2) / 2 else 0)
set_option maxRecDepth 8000 in
set_option maxHeartbeats 8000000 in
theorem rdistance_any (x : Int) (w : World) (hx : -9223372036854775808 ≤ x ∧ x ≤ 9223372036854775807) : Calls Try.prog 13 #[.int .i64 x] w (LdEnd (disV x) w) := by
  by_cases h1 : x < 0
  · have HV : Hid (disV x = (0, 0, false)) := Lib.hid (by unfold disV; rw [if_pos (.inl h1)])
    go_enter Try.func13, Try.ntmps13
    go_wp2
    go_ret3
    exact ⟨by rw [HV.out]; rfl, rfl⟩
  · have d1 : decide (x < 0) = false := decide_eq_false h1
    by_cases h2 : 29 < x
    · have HV : Hid (disV x = (0, 0, false)) := Lib.hid (by unfold disV; rw [if_pos (.inr h2)])
      go_enter Try.func13, Try.ntmps13
      go_wp2
      go_ret3
      exact ⟨by rw [HV.out]; rfl, rfl⟩
    · have d2 : decide (29 < x) = false := decide_eq_false h2
      go_enter Try.func13, Try.ntmps13
      go_wp2
      go_loop [5, 6] (fun va vk => ∃ K : Int, vk = .int .i64 K ∧ 0 ≤ K ∧ K ≤ x ∧ va = .int .i64 (atD (K - 0).toNat)) (fun _ vk => (x - intOf vk).toNat)
      case atStart => exact ⟨0, rfl, by omega, by omega, rfl⟩
      case round =>
        obtain ⟨K, rfl, hk1, hk2, rfl⟩ := hrel
        by_cases hlt : K < x
        · have hk3 : K = 0 ∨ K = 1 ∨ K = 2 ∨ K = 3 ∨ K = 4 ∨ K = 5 ∨ K = 6 ∨ K = 7 ∨ K = 8 ∨ K = 9 ∨ K = 10 ∨ K = 11 ∨ K = 12 ∨ K = 13 ∨ K = 14 ∨ K = 15 ∨ K = 16 ∨ K = 17 ∨ K = 18 ∨ K = 19 ∨ K = 20 ∨ K = 21 ∨ K = 22 ∨ K = 23 ∨ K = 24 ∨ K = 25 ∨ K = 26 ∨ K = 27 ∨ K = 28 := by omega
          have HX := Lib.hid (show 0 ≤ x ∧ x ≤ 29 by omega)
          rcases hk3 with rfl | rfl | rfl | rfl | rfl | rfl | rfl | rfl | rfl | rfl | rfl | rfl | rfl | rfl | rfl | rfl | rfl | rfl | rfl | rfl | rfl | rfl | rfl | rfl | rfl | rfl | rfl | rfl | rfl
          all_goals
            go_wp2_with fail
            refine (rpower_int _ (by decide) _).mono ?_
            rintro e w1 ⟨rfl, rfl⟩
            go_wp2
            go_round
            case rel => exact ⟨_, rfl, by omega, by omega, by kernel_rfl⟩
            case measure => simp [intOf]; omega
        · obtain rfl : K = x := by omega
          have hk3 : K = 0 ∨ K = 1 ∨ K = 2 ∨ K = 3 ∨ K = 4 ∨ K = 5 ∨ K = 6 ∨ K = 7 ∨ K = 8 ∨ K = 9 ∨ K = 10 ∨ K = 11 ∨ K = 12 ∨ K = 13 ∨ K = 14 ∨ K = 15 ∨ K = 16 ∨ K = 17 ∨ K = 18 ∨ K = 19 ∨ K = 20 ∨ K = 21 ∨ K = 22 ∨ K = 23 ∨ K = 24 ∨ K = 25 ∨ K = 26 ∨ K = 27 ∨ K = 28 ∨ K = 29 := by omega
          clear hx h1 h2 d1 d2 hk1 hk2 hlt
          rcases hk3 with rfl | rfl | rfl | rfl | rfl | rfl | rfl | rfl | rfl | rfl | rfl | rfl | rfl | rfl | rfl | rfl | rfl | rfl | rfl | rfl | rfl | rfl | rfl | rfl | rfl | rfl | rfl | rfl | rfl | rfl
          all_goals
            go_wp2
            go_ret3
            exact ⟨rfl, rfl⟩
end Go.Proofs.Ytlmdgaajkjbpgaa
