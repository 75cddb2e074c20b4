/-
  The walk of the law SpanSums: for all numbers it returns true and leaves all that was there as it was.
-/
import Derived.Test.YtbmhdacedicbjaaSums
namespace Go.Proofs.Ytbmhdacedicbjaa
open Go.RowKit Go.Sort

/-- What a product is, and an error. -/
def mulV (a b : Int) : Int × Int := if a < 0 ∨ b < 0 then (0, 2) else if 2147483647 < a * b then (0, 5) else (a * b, 0)

theorem mul_ge {a b : Int} (ha : 0 ≤ a) (hb : 1 ≤ b) : a ≤ a * b := by
  have := Int.mul_le_mul_of_nonneg_left hb ha
  omega

set_option maxHeartbeats 1000000 in
theorem mul_any (a b : Int) (w : World) (ha : -9223372036854775808 ≤ a ∧ a ≤ 9223372036854775807) (hb : -9223372036854775808 ≤ b ∧ b ≤ 9223372036854775807) :
    Calls Try.prog 45 #[.int .i64 a, .int .i64 b] w fun e w' => e = .returned (.tuple #[.int .i64 (mulV a b).1, .int .i64 (mulV a b).2]) ∧ w = w' := by
  obtain ⟨ha1, ha2⟩ := ha
  obtain ⟨hb1, hb2⟩ := hb
  obtain ⟨V, hV⟩ : ∃ V, V = mulV a b := ⟨_, rfl⟩
  rw [← hV]
  unfold mulV at hV
  by_cases h1 : a < 0
  · rw [if_pos (.inl h1)] at hV
    have HV := Lib.hid hV
    clear hV
    go_enter Try.func45, Try.ntmps45
    go_wp2
    go_ret2
    rw [HV.out]
    exact ⟨rfl, rfl⟩
  have h1d : decide (a < 0) = false := by simpa using h1
  by_cases h2 : b < 0
  · rw [if_pos (.inr h2)] at hV
    have HV := Lib.hid hV
    clear hV
    go_enter Try.func45, Try.ntmps45
    go_wp2
    go_ret2
    rw [HV.out]
    exact ⟨rfl, rfl⟩
  have h2d : decide (b < 0) = false := by simpa using h2
  have h1' : 0 ≤ a := by omega
  have h2' : 0 ≤ b := by omega
  rw [if_neg (by omega)] at hV
  by_cases h3 : b = 0
  · subst h3
    rw [Int.mul_zero, if_neg (by omega)] at hV
    have HV := Lib.hid hV
    clear hV
    go_enter Try.func45, Try.ntmps45
    go_wp2
    go_ret2
    rw [HV.out]
    exact ⟨by simp, rfl⟩
  have h3' : 0 < b := by omega
  have hq : 2147483647 / b < a ↔ 2147483647 < a * b := Int.ediv_lt_iff_lt_mul h3'
  have hd0 : 0 ≤ 2147483647 / b := Int.ediv_nonneg (by omega) h2'
  by_cases h4 : 2147483647 < a * b
  · rw [if_pos h4] at hV
    have HV := Lib.hid hV
    have h5 := hq.2 h4
    clear hV hq h4
    go_enter Try.func45, Try.ntmps45
    go_wp2
    go_ret2
    rw [HV.out]
    exact ⟨rfl, rfl⟩
  · rw [if_neg h4] at hV
    have HV := Lib.hid hV
    have h5 : a ≤ 2147483647 / b := by have := mt hq.1 h4; omega
    have h6 : 0 ≤ a * b := Int.mul_nonneg h1' h2'
    have h7 : a * b ≤ 2147483647 := by omega
    have hwr : IntKind.i64.wrap (a * b) = a * b := IntWalk.i64_in _ (by omega)
    clear hV hq h4
    go_enter Try.func45, Try.ntmps45
    go_wp2
    go_ret2
    rw [HV.out]
    exact ⟨rfl, rfl⟩

set_option maxHeartbeats 1000000 in
theorem rmul_any (a b : Int) (w : World) (ha : -9223372036854775808 ≤ a ∧ a ≤ 9223372036854775807) (hb : -9223372036854775808 ≤ b ∧ b ≤ 9223372036854775807) :
    Calls Try.prog 46 #[.int .i64 a, .int .i64 b] w fun e w' => e = .returned (.tuple #[.int .i64 (mulV a b).1, .int .i64 (mulV a b).2]) ∧ w = w' := by
  obtain ⟨ha1, ha2⟩ := ha
  obtain ⟨hb1, hb2⟩ := hb
  obtain ⟨V, hV⟩ : ∃ V, V = mulV a b := ⟨_, rfl⟩
  rw [← hV]
  unfold mulV at hV
  by_cases h1 : a < 0
  · rw [if_pos (.inl h1)] at hV
    have HV := Lib.hid hV
    clear hV
    go_enter Try.func46, Try.ntmps46
    go_wp2
    go_ret2
    rw [HV.out]
    exact ⟨rfl, rfl⟩
  have h1d : decide (a < 0) = false := by simpa using h1
  by_cases h2 : b < 0
  · rw [if_pos (.inr h2)] at hV
    have HV := Lib.hid hV
    clear hV
    go_enter Try.func46, Try.ntmps46
    go_wp2
    go_ret2
    rw [HV.out]
    exact ⟨rfl, rfl⟩
  have h2d : decide (b < 0) = false := by simpa using h2
  have h1' : 0 ≤ a := by omega
  have h2' : 0 ≤ b := by omega
  rw [if_neg (by omega)] at hV
  by_cases h3 : a = 0
  · subst h3
    rw [Int.zero_mul, if_neg (by omega)] at hV
    have HV := Lib.hid hV
    clear hV
    go_enter Try.func46, Try.ntmps46
    go_wp2
    go_ret2
    rw [HV.out]
    exact ⟨rfl, rfl⟩
  have h3d : (a == 0) = false := by rw [beq_eq_false_iff_ne]; exact h3
  by_cases h4 : b = 0
  · subst h4
    rw [Int.mul_zero, if_neg (by omega)] at hV
    have HV := Lib.hid hV
    clear hV
    go_enter Try.func46, Try.ntmps46
    go_wp2
    go_ret2
    rw [HV.out]
    exact ⟨rfl, rfl⟩
  have h4d : (b == 0) = false := by rw [beq_eq_false_iff_ne]; exact h4
  by_cases h5 : 2147483647 < a
  · rw [if_pos (by have := mul_ge h1' (by omega : 1 ≤ b); omega)] at hV
    have HV := Lib.hid hV
    clear hV
    go_enter Try.func46, Try.ntmps46
    go_wp2
    go_ret2
    rw [HV.out]
    exact ⟨rfl, rfl⟩
  have h5d : decide (2147483647 < a) = false := by simpa using h5
  by_cases h6 : 2147483647 < b
  · rw [if_pos (by have := mul_ge h2' (by omega : 1 ≤ a); rw [Int.mul_comm] at this; omega)] at hV
    have HV := Lib.hid hV
    clear hV
    go_enter Try.func46, Try.ntmps46
    go_wp2
    go_ret2
    rw [HV.out]
    exact ⟨rfl, rfl⟩
  have h6d : decide (2147483647 < b) = false := by simpa using h6
  have h7 : 0 ≤ a * b := Int.mul_nonneg h1' h2'
  have h8 : a * b ≤ 2147483647 * 2147483647 := Int.mul_le_mul (by omega) (by omega) h2' (by omega)
  have h8' : a * b ≤ 9223372036854775807 := by omega
  have hwr : IntKind.i64.wrap (a * b) = a * b := IntWalk.i64_in _ (by omega)
  by_cases h9 : 2147483647 < a * b
  · rw [if_pos h9] at hV
    have HV := Lib.hid hV
    have h9d : decide (2147483647 < a * b) = true := by simpa using h9
    clear hV h8
    go_enter Try.func46, Try.ntmps46
    go_wp2
    go_ret2
    rw [HV.out]
    exact ⟨rfl, rfl⟩
  · rw [if_neg h9] at hV
    have HV := Lib.hid hV
    have h9d : decide (2147483647 < a * b) = false := by simpa using h9
    have h9' : a * b ≤ 2147483647 := by omega
    clear hV h8 h9
    go_enter Try.func46, Try.ntmps46
    go_wp2
    go_ret2
    rw [HV.out]
    exact ⟨rfl, rfl⟩

def SumsEnd (w : World) (e : Ending) (w' : World) : Prop := e = .returned (.bool true) ∧ Below w.heap.size w w'

set_option maxRecDepth 8000 in
set_option maxHeartbeats 1000000 in
theorem law_sums (a0 : Option Addr) (n cap : Nat) (l : List Int) (a b : Int) (w : World) (hr : Row w 1 a0 n cap (l.map (Value.int .i64))) (hw : ∀ x ∈ l, -9223372036854775808 ≤ x ∧ x ≤ 9223372036854775807)
    (ha : -9223372036854775808 ≤ a ∧ a ≤ 9223372036854775807) (hb : -9223372036854775808 ≤ b ∧ b ≤ 9223372036854775807) :
    Calls Try.prog 11 #[.slice a0 n cap, .int .i64 a, .int .i64 b] w (SumsEnd w) := by
  have hm := hr.i64
  by_cases hbig : 1000 < (n : Int)
  · go_enter Try.func11, Try.ntmps11
    go_wp2_with (go_at_call 29; refine (works2 _).mono ?_; rintro e w' ⟨rfl, hb⟩)
    go_ret
    exact ⟨rfl, hb⟩
  have HA := Lib.hid (fun W (h : Row W 1 a0 n cap (l.map (Value.int .i64))) => add_any a0 n cap l W h hw)
  have HR := Lib.hid (fun W (h : Row W 1 a0 n cap (l.map (Value.int .i64))) => radd_any a0 n cap l W h hw)
  have HM := Lib.hid (fun W => mul_any a b W ha hb)
  have HN := Lib.hid (fun W => rmul_any a b W ha hb)
  have HROW := Lib.hid hr
  clear hr hw ha hb
  generalize (sumV l).1 = s1 at *
  generalize (sumV l).2 = s2 at *
  generalize (mulV a b).1 = m1 at *
  generalize (mulV a b).2 = m2 at *
  go_enter Try.func11, Try.ntmps11
  go_wp2_with (first
    | (go_at_call 43; refine (HA.out _ HROW.out).mono ?_; rintro e w' ⟨rfl, rfl⟩)
    | (go_at_call 44; refine (HR.out _ HROW.out).mono ?_; rintro e w' ⟨rfl, rfl⟩)
    | (go_at_call 45; refine (HM.out _).mono ?_; rintro e w' ⟨rfl, rfl⟩)
    | (go_at_call 46; refine (HN.out _).mono ?_; rintro e w' ⟨rfl, rfl⟩)
    | (go_at_call 29; refine (works2 _).mono ?_; rintro e w' ⟨rfl, hb⟩))
  go_ret
  exact ⟨rfl, hb⟩
end Go.Proofs.Ytbmhdacedicbjaa
