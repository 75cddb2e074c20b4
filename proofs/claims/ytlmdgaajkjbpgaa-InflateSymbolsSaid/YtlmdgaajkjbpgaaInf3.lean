/-
  Walks of layer 5: a symbol's length, and distance, by the program and by the document.
-/
import Derived.Test.YtlmdgaajkjbpgaaInfP
namespace Go.Proofs.Ytlmdgaajkjbpgaa
open Go.RowKit Go.Sort

def LdEnd (V : Int × Int × Bool) (w : World) (e : Ending) (w' : World) : Prop := e = .returned (.tuple #[.int .i64 V.1, .int .i64 V.2.1, .bool V.2.2]) ∧ w' = w

theorem i64_cases {x lo : Int} (n : Nat) (h1 : lo ≤ x) (h2 : x < lo + n) : ∃ k : Nat, k < n ∧ x = lo + k := ⟨(x - lo).toNat, by omega, by omega⟩

set_option maxHeartbeats 4000000 in
theorem length_any (x : Int) (w : World) (hx : -9223372036854775808 ≤ x ∧ x ≤ 9223372036854775807) : Calls Try.prog 10 #[.int .i64 x] w (LdEnd (lenV5 x) w) := by
  by_cases h1 : x < 257
  · have HV : Hid (lenV5 x = (0, 0, false)) := Lib.hid (by unfold lenV5; rw [if_pos (.inl h1)])
    go_enter Try.func10, Try.ntmps10
    go_wp2
    go_ret3
    exact ⟨by rw [HV.out]; rfl, rfl⟩
  · have d1 : decide (x < 257) = false := decide_eq_false h1
    by_cases h2 : 285 < x
    · have HV : Hid (lenV5 x = (0, 0, false)) := Lib.hid (by unfold lenV5; rw [if_pos (.inr h2)])
      go_enter Try.func10, Try.ntmps10
      go_wp2
      go_ret3
      exact ⟨by rw [HV.out]; rfl, rfl⟩
    · have hk2 : x = 257 ∨ x = 258 ∨ x = 259 ∨ x = 260 ∨ x = 261 ∨ x = 262 ∨ x = 263 ∨ x = 264 ∨ x = 265 ∨ x = 266 ∨ x = 267 ∨ x = 268 ∨ x = 269 ∨ x = 270 ∨ x = 271 ∨ x = 272 ∨ x = 273 ∨ x = 274 ∨ x = 275 ∨ x = 276 ∨ x = 277 ∨ x = 278 ∨ x = 279 ∨ x = 280 ∨ x = 281 ∨ x = 282 ∨ x = 283 ∨ x = 284 ∨ x = 285 := by omega
      clear hx h1 h2 d1
      rcases hk2 with rfl | rfl | rfl | rfl | rfl | rfl | rfl | rfl | rfl | rfl | rfl | rfl | rfl | rfl | rfl | rfl | rfl | rfl | rfl | rfl | rfl | rfl | rfl | rfl | rfl | rfl | rfl | rfl | rfl
      all_goals
        go_enter Try.func10, Try.ntmps10
        go_wp2
        go_ret3
        exact ⟨rfl, rfl⟩

set_option maxHeartbeats 4000000 in
theorem distance_any (x : Int) (w : World) (hx : -9223372036854775808 ≤ x ∧ x ≤ 9223372036854775807) : Calls Try.prog 12 #[.int .i64 x] w (LdEnd (disV x) w) := by
  by_cases h1 : x < 0
  · have HV : Hid (disV x = (0, 0, false)) := Lib.hid (by unfold disV; rw [if_pos (.inl h1)])
    go_enter Try.func12, Try.ntmps12
    go_wp2
    go_ret3
    exact ⟨by rw [HV.out]; rfl, rfl⟩
  · have d1 : decide (x < 0) = false := decide_eq_false h1
    by_cases h2 : 29 < x
    · have HV : Hid (disV x = (0, 0, false)) := Lib.hid (by unfold disV; rw [if_pos (.inr h2)])
      go_enter Try.func12, Try.ntmps12
      go_wp2
      go_ret3
      exact ⟨by rw [HV.out]; rfl, rfl⟩
    · have hk2 : x = 0 ∨ x = 1 ∨ x = 2 ∨ x = 3 ∨ x = 4 ∨ x = 5 ∨ x = 6 ∨ x = 7 ∨ x = 8 ∨ x = 9 ∨ x = 10 ∨ x = 11 ∨ x = 12 ∨ x = 13 ∨ x = 14 ∨ x = 15 ∨ x = 16 ∨ x = 17 ∨ x = 18 ∨ x = 19 ∨ x = 20 ∨ x = 21 ∨ x = 22 ∨ x = 23 ∨ x = 24 ∨ x = 25 ∨ x = 26 ∨ x = 27 ∨ x = 28 ∨ x = 29 := by omega
      clear hx h1 h2 d1
      rcases hk2 with rfl | rfl | rfl | rfl | rfl | rfl | rfl | rfl | rfl | rfl | rfl | rfl | rfl | rfl | rfl | rfl | rfl | rfl | rfl | rfl | rfl | rfl | rfl | rfl | rfl | rfl | rfl | rfl | rfl | rfl
      all_goals
        go_enter Try.func12, Try.ntmps12
        go_wp2
        go_ret3
        exact ⟨rfl, rfl⟩

theorem rpower_any (n : Nat) (hn : n ≤ 20) (w : World) : Calls Try.prog 28 #[.int .i64 n] w fun e w' => e = .returned (.int .i64 ((2 : Int) ^ n)) ∧ w' = w := by
  go_enter Try.func28, Try.ntmps28
  go_wp2
  go_loop [3, 4] (fun vx vk => ∃ k : Nat, vk = .int .i64 k ∧ k ≤ n ∧ vx = .int .i64 ((2 : Int) ^ k)) (fun _ vk => n - (intOf vk).toNat)
  case atStart => exact ⟨0, rfl, Nat.zero_le _, rfl⟩
  case round =>
    obtain ⟨k, rfl, hk, rfl⟩ := hrel
    by_cases hlt : k < n
    · have hb : (2 : Int) ^ k ≤ 2 ^ 20 := by exact_mod_cast Nat.pow_le_pow_right (by omega : 0 < 2) (by omega : k ≤ 20)
      have hb0 : (0 : Int) ≤ 2 ^ k := Int.le_of_lt (Int.pow_pos (by omega))
      obtain ⟨P, hP⟩ : ∃ P, P = (2 : Int) ^ k := ⟨_, rfl⟩
      have HP := Lib.hid hP
      rw [← hP] at hb hb0 ⊢
      have hb2 : P ≤ 1048576 := hb
      clear hP hb
      go_wp2
      go_round
      case rel => exact ⟨k + 1, by go_num, by omega, by rw [Int.pow_succ, ← HP.out, Int.mul_comm]⟩
      case measure => simp [intOf]; omega
    · obtain rfl : k = n := by omega
      go_wp2
      go_ret
      exact ⟨rfl, rfl⟩
end Go.Proofs.Ytlmdgaajkjbpgaa
