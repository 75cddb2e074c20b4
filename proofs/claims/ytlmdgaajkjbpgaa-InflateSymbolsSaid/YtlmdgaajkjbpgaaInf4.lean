/-
  Walks of layer 5's reference: a symbol's length, and distance.
-/
import Derived.Test.YtlmdgaajkjbpgaaInf3
namespace Go.Proofs.Ytlmdgaajkjbpgaa
open Go.RowKit Go.Sort

theorem rpower_int (m : Int) (hm : 0 ≤ m ∧ m ≤ 20) (w : World) : Calls Try.prog 28 #[.int .i64 m] w fun e w' => e = .returned (.int .i64 ((2 : Int) ^ m.toNat)) ∧ w' = w := by
  obtain ⟨n, rfl⟩ := Int.eq_ofNat_of_zero_le hm.1
  exact rpower_any n (by omega) w

def atL : Nat → Int
  | 0 => 3
  | j + 1 => atL j + 2 ^ (if 265 ≤ 257 + j then (257 + j - 261) / 4 else 0)
set_option maxRecDepth 8000 in
set_option maxHeartbeats 8000000 in
theorem rlength_any (x : Int) (w : World) (hx : -9223372036854775808 ≤ x ∧ x ≤ 9223372036854775807) : Calls Try.prog 11 #[.int .i64 x] w (LdEnd (lenV5 x) w) := by
  by_cases h1 : x < 257
  · have HV : Hid (lenV5 x = (0, 0, false)) := Lib.hid (by unfold lenV5; rw [if_pos (.inl h1)])
    go_enter Try.func11, Try.ntmps11
    go_wp2
    go_ret3
    exact ⟨by rw [HV.out]; rfl, rfl⟩
  · have d1 : decide (x < 257) = false := decide_eq_false h1
    by_cases h2 : 285 < x
    · have HV : Hid (lenV5 x = (0, 0, false)) := Lib.hid (by unfold lenV5; rw [if_pos (.inr h2)])
      go_enter Try.func11, Try.ntmps11
      go_wp2
      go_ret3
      exact ⟨by rw [HV.out]; rfl, rfl⟩
    · have d2 : decide (285 < x) = false := decide_eq_false h2
      by_cases h3 : x = 285
      · subst h3
        go_enter Try.func11, Try.ntmps11
        go_wp2
        go_ret3
        exact ⟨rfl, rfl⟩
      go_enter Try.func11, Try.ntmps11
      go_wp2
      go_loop [5, 6] (fun va vk => ∃ K : Int, vk = .int .i64 K ∧ 257 ≤ K ∧ K ≤ x ∧ va = .int .i64 (atL (K - 257).toNat)) (fun _ vk => (x - intOf vk).toNat)
      case atStart => exact ⟨257, rfl, by omega, by omega, rfl⟩
      case round =>
        obtain ⟨K, rfl, hk1, hk2, rfl⟩ := hrel
        by_cases hlt : K < x
        · have hk3 : K = 257 ∨ K = 258 ∨ K = 259 ∨ K = 260 ∨ K = 261 ∨ K = 262 ∨ K = 263 ∨ K = 264 ∨ K = 265 ∨ K = 266 ∨ K = 267 ∨ K = 268 ∨ K = 269 ∨ K = 270 ∨ K = 271 ∨ K = 272 ∨ K = 273 ∨ K = 274 ∨ K = 275 ∨ K = 276 ∨ K = 277 ∨ K = 278 ∨ K = 279 ∨ K = 280 ∨ K = 281 ∨ K = 282 ∨ K = 283 := by omega
          have HX := Lib.hid (show 257 ≤ x ∧ x ≤ 285 by omega)
          rcases hk3 with rfl | rfl | rfl | rfl | rfl | rfl | rfl | rfl | rfl | rfl | rfl | rfl | rfl | rfl | rfl | rfl | rfl | rfl | rfl | rfl | rfl | rfl | rfl | rfl | rfl | rfl | rfl
          all_goals
            go_wp2_with fail
            refine (rpower_int _ (by decide) _).mono ?_
            rintro e w1 ⟨rfl, rfl⟩
            go_wp2
            go_round
            case rel => exact ⟨_, rfl, by omega, by omega, by kernel_rfl⟩
            case measure => simp [intOf]; omega
        · obtain rfl : K = x := by omega
          have hk3 : K = 257 ∨ K = 258 ∨ K = 259 ∨ K = 260 ∨ K = 261 ∨ K = 262 ∨ K = 263 ∨ K = 264 ∨ K = 265 ∨ K = 266 ∨ K = 267 ∨ K = 268 ∨ K = 269 ∨ K = 270 ∨ K = 271 ∨ K = 272 ∨ K = 273 ∨ K = 274 ∨ K = 275 ∨ K = 276 ∨ K = 277 ∨ K = 278 ∨ K = 279 ∨ K = 280 ∨ K = 281 ∨ K = 282 ∨ K = 283 ∨ K = 284 := by omega
          clear hx h1 h2 d1 d2 hk1 hk2 hlt
          rcases hk3 with rfl | rfl | rfl | rfl | rfl | rfl | rfl | rfl | rfl | rfl | rfl | rfl | rfl | rfl | rfl | rfl | rfl | rfl | rfl | rfl | rfl | rfl | rfl | rfl | rfl | rfl | rfl | rfl
          all_goals
            go_wp2
            go_ret3
            exact ⟨rfl, rfl⟩
end Go.Proofs.Ytlmdgaajkjbpgaa
