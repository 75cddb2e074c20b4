/-
  Walks of layer 9: may a number be; millionths; the number of a text.
-/
import Derived.Test.YtkolfecjlbnfkaaNum2
namespace Go.Proofs.Ytkolfecjlbnfkaa
open Go.RowKit

/-- A value that has no parts. -/
def valC (k n : Int) (s : ByteArray) : Array Value := #[.int .i64 k, .int .i64 n, .string s, .slice none 0 0]
def noStr : ByteArray := ⟨#[]⟩

theorem size_app (a b : ByteArray) : (a ++ b).size = a.size + b.size := ByteArray.size_append
theorem bl_app (a b : ByteArray) : bl (a ++ b) = bl a ++ bl b := by unfold bl; rw [ByteArray.data_append, Array.toList_append]

set_option maxHeartbeats 1000000 in
theorem millionths_any (s : ByteArray) (w : World) (hs : s.size ≤ 4611686018427387904) (hd : (bl s).all isDg = true) :
    Calls Try.prog 53 #[.string s] w fun e w' => e = .returned (.int .i64 (mil (bl s) : Nat)) ∧ Below w.heap.size w w' := by
  have hD := fun W => digits_any ((s ++ ⟨#[48, 48, 48, 48, 48, 48]⟩).extract 0 6) W
  have hb : bl ((s ++ ⟨#[48, 48, 48, 48, 48, 48]⟩).extract 0 6) = (bl s ++ List.replicate 6 48).take 6 := by rw [bl_to, bl_app]; rfl
  have hlt := mil_lt (bl s) hd
  have hv : digitsV ((bl s ++ List.replicate 6 48).take 6) = (((mil (bl s) : Nat) : Int), 0) := by
    refine digitsV_ok ?_ ?_ ?_
    · intro e; have := congrArg List.length e; simp at this
    · rw [List.all_eq_true]
      intro x hx
      have hx := List.mem_of_mem_take hx
      rw [List.mem_append] at hx
      rcases hx with hx | hx
      · exact List.all_eq_true.1 hd x hx
      · rw [List.mem_replicate] at hx; rw [hx.2]; rfl
    · show mil (bl s) ≤ _; omega
  rw [hb, hv] at hD
  have HD := Lib.hid hD
  have hsz : (s ++ ⟨#[48, 48, 48, 48, 48, 48]⟩).size = s.size + 6 := by rw [size_app]; rfl
  clear hD hb hv hd
  go_enter Try.func53, Try.ntmps53
  go_wp2_with (go_at_call 52; refine (HD.out _).mono ?_; rintro e w' ⟨rfl, hb⟩)
  go_ret
  exact ⟨rfl, hb⟩

/-- Is a text empty, and a row? -/
def bareV (s : ByteArray) (m : Nat) : Bool := decide (bl s = []) && decide (m = 0)
set_option maxHeartbeats 4000000 in
theorem check_any (k n : Int) (s : ByteArray) (a : Option Addr) (m c : Nat) (w : World) (hm : (m : Int) ≤ 9223372036854775807) :
    Calls Try.prog 54 #[.agg #[.int .i64 k, .int .i64 n, .string s, .slice a m c]] w fun e w' => e = .returned (.int .i64 (checkV k n (bareV s m))) ∧ Below w.heap.size w w' := by
  obtain ⟨V, hV⟩ : ∃ V, V = checkV k n (bareV s m) := ⟨_, rfl⟩
  rw [← hV]
  unfold checkV at hV
  by_cases hk : k = 2 ∨ k = 3
  · obtain ⟨L, hL⟩ : ∃ L : Int, L = if k = 2 then 2147483647 else 2147483647000000 := ⟨_, rfl⟩
    have hk2 : (k == 2) = decide (k = 2) := by by_cases h : k = 2 <;> simp [h]
    by_cases h1 : n < -L
    · have HV := Lib.hid (show V = 2 by rw [hV, if_neg]; rintro ⟨-, h | h⟩ <;> (rw [h.1] at hL; simp at hL; omega))
      have HB := Lib.hid (belowA w (.cells #[.int .i64 k, .int .i64 n, .string s, .slice a m c] 26))
      clear hV hk2
      rcases hk with rfl | rfl <;> (simp at hL; subst hL)
      all_goals
        go_enter Try.func54, Try.ntmps54
        go_wp2
        go_ret
        exact ⟨ret_int HV.out.symm, HB.out⟩
    · have h1d : decide (n < -L) = false := by simpa using h1
      by_cases h2 : L < n
      · have HV := Lib.hid (show V = 2 by rw [hV, if_neg]; rintro ⟨-, h | h⟩ <;> (rw [h.1] at hL; simp at hL; omega))
        have HB := Lib.hid (belowA w (.cells #[.int .i64 k, .int .i64 n, .string s, .slice a m c] 26))
        clear hV hk2 h1
        rcases hk with rfl | rfl <;> (simp at hL; subst hL)
        all_goals
          go_enter Try.func54, Try.ntmps54
          go_wp2
          go_ret
          exact ⟨ret_int HV.out.symm, HB.out⟩
      · have h2d : decide (L < n) = false := by simpa using h2
        by_cases h3 : s.toList = []
        · by_cases h4 : m = 0
          · have HV := Lib.hid (show V = 0 by
              rw [hV, if_pos]
              refine ⟨by unfold bareV; rw [← toL, h3, h4]; rfl, ?_⟩
              rcases hk with h | h <;> rw [h] at hL <;> simp at hL
              · exact .inl ⟨h, by omega, by omega⟩
              · exact .inr ⟨h, by omega, by omega⟩)
            have HB := Lib.hid (belowA w (.cells #[.int .i64 k, .int .i64 n, .string s, .slice a m c] 26))
            have h3e : s.toList.isEmpty = true := by rw [h3]; rfl
            clear hV hk2 h1 h2
            subst h4
            rcases hk with rfl | rfl <;> (simp at hL; subst hL)
            all_goals
              go_enter Try.func54, Try.ntmps54
              go_wp2
              go_ret
              exact ⟨ret_int HV.out.symm, HB.out⟩
          · have HV := Lib.hid (show V = 2 by rw [hV, if_neg]; rintro ⟨h, -⟩; unfold bareV at h; simp at h; exact h4 h.2)
            have HB := Lib.hid (belowA w (.cells #[.int .i64 k, .int .i64 n, .string s, .slice a m c] 26))
            have h3e : s.toList.isEmpty = true := by rw [h3]; rfl
            have h4' : (0 : Int) < m := by omega
            have h4'' : 0 < m := by omega
            clear hV hk2 h1 h2 h4
            rcases hk with rfl | rfl <;> (simp at hL; subst hL)
            all_goals
              go_enter Try.func54, Try.ntmps54
              go_wp2
              go_ret
              exact ⟨ret_int HV.out.symm, HB.out⟩
        · have HV := Lib.hid (show V = 2 by rw [hV, if_neg]; rintro ⟨h, -⟩; unfold bareV at h; rw [← toL] at h; simp at h; exact h3 h.1)
          have HB := Lib.hid (belowA w (.cells #[.int .i64 k, .int .i64 n, .string s, .slice a m c] 26))
          have h3e : s.toList.isEmpty = false := by simpa using h3
          clear hV hk2 h1 h2
          rcases hk with rfl | rfl <;> (simp at hL; subst hL)
          all_goals
            go_enter Try.func54, Try.ntmps54
            go_wp2
            go_ret
            exact ⟨ret_int HV.out.symm, HB.out⟩
  · have HV := Lib.hid (show V = 2 by rw [hV, if_neg]; rintro ⟨-, h | h⟩ <;> exact hk (by omega))
    have HB := Lib.hid (belowA w (.cells #[.int .i64 k, .int .i64 n, .string s, .slice a m c] 26))
    have hk2 : (k == 2) = false := by rw [beq_eq_false_iff_ne]; omega
    have hk3 : (k == 3) = false := by rw [beq_eq_false_iff_ne]; omega
    clear hV hk
    go_enter Try.func54, Try.ntmps54
    go_wp2
    go_ret
    exact ⟨ret_int HV.out.symm, HB.out⟩
end Go.Proofs.Ytkolfecjlbnfkaa
