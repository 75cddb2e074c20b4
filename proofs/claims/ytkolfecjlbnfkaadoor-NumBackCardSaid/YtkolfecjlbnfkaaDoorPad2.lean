/-
  Walks of layer 9: so many zeros; digits with zeros ahead.
-/
import Derived.Test.YtkolfecjlbnfkaaDoorPad
namespace Go.Proofs.YtkolfecjlbnfkaaDoor
open Go.RowKit

theorem case20 (k : Nat) (h : k < 20) : k = 0 ∨ k = 1 ∨ k = 2 ∨ k = 3 ∨ k = 4 ∨ k = 5 ∨ k = 6 ∨ k = 7 ∨ k = 8 ∨ k = 9 ∨ k = 10 ∨ k = 11 ∨ k = 12 ∨ k = 13 ∨ k = 14 ∨ k = 15 ∨ k = 16 ∨ k = 17 ∨ k = 18 ∨ k = 19 := by omega

set_option maxRecDepth 8000 in
set_option maxHeartbeats 1000000 in
theorem mul64_any (k : Nat) (h : k < 20) (w : World) : Calls Tryd.prog 44 #[.int .u64 1, .int .u64 k] w fun e w' => e = .returned (.tuple #[.int .u64 0, .int .u64 k]) ∧ w = w' := by
  rcases case20 k h with rfl | rfl | rfl | rfl | rfl | rfl | rfl | rfl | rfl | rfl | rfl | rfl | rfl | rfl | rfl | rfl | rfl | rfl | rfl | rfl
  all_goals
    go_enter Tryd.func44, Tryd.ntmps44
    go_wp2
    go_ret2
    exact ⟨rfl, rfl⟩
set_option maxRecDepth 8000 in
set_option maxHeartbeats 1000000 in
theorem mul_any (k : Nat) (h : k < 20) (w : World) : Calls Tryd.prog 34 #[.int .u64 1, .int .u64 k] w fun e w' => e = .returned (.tuple #[.int .u64 0, .int .u64 k]) ∧ w = w' := by
  have HM := Lib.hid (fun W => mul64_any k h W)
  go_enter Tryd.func34, Tryd.ntmps34
  go_wp2_with (go_at_call 44; refine (HM.out _).mono ?_; rintro e w' ⟨rfl, rfl⟩)
  go_ret2
  exact ⟨rfl, rfl⟩

set_option maxRecDepth 100000 in
set_option maxHeartbeats 4000000 in
theorem repeat_any (k : Nat) (h : k < 20) (w : World) : Calls Tryd.prog 27 #[.string ⟨#[48]⟩, .int .i64 k] w fun e w' => e = .returned (.string (mkS (List.replicate k 48))) ∧ w = w' := by
  have HM := Lib.hid (fun W => mul_any k h W)
  obtain ⟨V, hV⟩ : ∃ V, V = mkS (List.replicate k 48) := ⟨_, rfl⟩
  rw [← hV]
  have HV := Lib.hid hV
  clear hV
  by_cases h0 : k = 0
  · subst h0
    go_enter Tryd.func27, Tryd.ntmps27
    go_wp2
    go_ret
    exact ⟨ret_str HV.out.symm, rfl⟩
  by_cases h1 : k = 1
  · subst h1
    go_enter Tryd.func27, Tryd.ntmps27
    go_wp2
    go_ret
    exact ⟨ret_str HV.out.symm, rfl⟩
  have h0d : ((k : Int) == 0) = false := by rw [beq_eq_false_iff_ne]; omega
  have h1d : ((k : Int) == 1) = false := by rw [beq_eq_false_iff_ne]; omega
  have hn : decide ((k : Int) < 0) = false := decide_eq_false (by omega)
  have hk19 : (k : Int) ≤ 19 := by omega
  have hk0 : (0 : Int) ≤ k := by omega
  have h128 : decide ((k : Int) ≤ 128) = true := decide_eq_true (by omega)
  have h64 : decide ((k : Int) ≤ 64) = true := decide_eq_true (by omega)
  have HE := Lib.hid (show (mkS (List.replicate 64 48)).extract 0 k = V by rw [HV.out]; exact zeros_ext k (by omega))
  clear h0 h1
  go_enter Tryd.func27, Tryd.ntmps27
  go_wp2_with fail
  refine (HM.out _).mono ?_
  rintro e w' ⟨rfl, rfl⟩
  go_wp2_with fail
  refine (pre_any _ 48 _ (by decide)).mono ?_
  rintro e w' ⟨rfl, rfl⟩
  rw [show hd1 _ 48 = false from rfl]
  go_wp2_with fail
  refine (pre_any _ 48 _ (by decide)).mono ?_
  rintro e w' ⟨rfl, rfl⟩
  rw [show hd1 _ 48 = false from rfl]
  go_wp2_with fail
  refine (pre_any _ 48 _ (by decide)).mono ?_
  rintro e w' ⟨rfl, rfl⟩
  rw [show hd1 _ 48 = true from rfl]
  go_wp2
  go_ret
  exact ⟨ret_str HE.out, rfl⟩
end Go.Proofs.YtkolfecjlbnfkaaDoor
