/-
  slices.Clone at []int, []byte: the same cells in memory of the call's own.
-/
import Derived.Test.YtlmdgaajkjbpgaaProg
import Derived.Test.YtlmdgaajkjbpgaaBase
namespace Go.Proofs.Ytlmdgaajkjbpgaa
open Go.RowKit

theorem ETI : ElemT Try.prog 32 3 (.int .i64 0) 1 8 := ⟨Try.underlying32, by kernel_rfl, rfl, by omega⟩

theorem cloneI (a : Option Addr) (n cap : Nat) (xs : List Value) (w : World) (hr : Row w 1 a n cap xs) (h1 : ∀ u ∈ xs, u.oneCell' = true) (hby : n * 8 ≤ 140737488355328) :
    Calls Try.prog 57 #[.slice a n cap] w fun e w' => ∃ v, e = .returned v ∧ w'.ownsRow w.heap.size 3 1 v n xs ∧ Below w.heap.size w w' ∧ NN a v := by
  rcases a with _ | ad
  · obtain ⟨r1, r2, r3, r4, r5⟩ := hr
    obtain rfl := r4 rfl
    obtain rfl : n = 0 := by omega
    obtain rfl : xs = [] := List.eq_nil_of_length_eq_zero (by simpa using r1)
    have hnil := fun W : World => Lib.run_eql_slice_nil (P := Try.prog) W 32 3 none 0 0 0 0 Try.underlying32
    go_enter Try.func57, Try.ntmps57
    go_wp2
    go_ret
    exact ⟨_, rfl, World.ownsRow_nil _ _ _ _, Below.refl _ _, fun h => absurd rfl h⟩
  · have hm : n ≤ maxLen := Nat.le_trans hr.2.1 hr.2.2.1
    have hnil := fun W : World => Lib.run_eql_slice_nil (P := Try.prog) W 32 3 (some ad) n cap 0 0 Try.underlying32
    have HR := Lib.hid (hr.mono (belowA w (.cells #[] 3)))
    have hO := World.ownsRow_lit (base := w.heap.size) (e := 3) (size := 1) w #[] 0 (Nat.le_refl _) (by simp [maxLen]) (by simp)
    have HO := Lib.hid hO
    clear hO hr
    go_enter Try.func57, Try.ntmps57
    go_wp2_with (at_builtin; refine append_row ETI rfl (.tmp 5) (.tmp 6) rfl w.heap.size (.slice (some ⟨w.heap.size, 0, none⟩) 0 0) 0 _ rfl HO.out _ n _ _ rfl HR.out h1 (by omega) (by omega) (by simp) ?_; intro v' w1 hO1 hg hnil; have HO1 := Lib.hid hO1; have HN := Lib.hid hnil; have HG := Lib.hid hg; clear hO1 hnil hg)
    go_ret
    refine ⟨_, rfl, by simpa using HO1.out, below_grown (belowA w _) HG.out (by rw [sizeA]; omega) (fun k hk => by simp [Value.ownBlock] at hk; omega), fun _ h => ?_⟩
    have := HN.out.1 h; simp at this
theorem ETB : ElemT Try.prog 22 5 (.int .u8 0) 1 1 := ⟨Try.underlying22, by kernel_rfl, rfl, by omega⟩

theorem cloneB (a : Option Addr) (n cap : Nat) (xs : List Value) (w : World) (hr : Row w 1 a n cap xs) (h1 : ∀ u ∈ xs, u.oneCell' = true) (hby : n * 1 ≤ 140737488355328) :
    Calls Try.prog 29 #[.slice a n cap] w fun e w' => ∃ v, e = .returned v ∧ w'.ownsRow w.heap.size 5 1 v n xs ∧ Below w.heap.size w w' ∧ NN a v := by
  rcases a with _ | ad
  · obtain ⟨r1, r2, r3, r4, r5⟩ := hr
    obtain rfl := r4 rfl
    obtain rfl : n = 0 := by omega
    obtain rfl : xs = [] := List.eq_nil_of_length_eq_zero (by simpa using r1)
    have hnil := fun W : World => Lib.run_eql_slice_nil (P := Try.prog) W 22 5 none 0 0 0 0 Try.underlying22
    go_enter Try.func29, Try.ntmps29
    go_wp2
    go_ret
    exact ⟨_, rfl, World.ownsRow_nil _ _ _ _, Below.refl _ _, fun h => absurd rfl h⟩
  · have hm : n ≤ maxLen := Nat.le_trans hr.2.1 hr.2.2.1
    have hnil := fun W : World => Lib.run_eql_slice_nil (P := Try.prog) W 22 5 (some ad) n cap 0 0 Try.underlying22
    have HR := Lib.hid (hr.mono (belowA w (.cells #[] 5)))
    have hO := World.ownsRow_lit (base := w.heap.size) (e := 5) (size := 1) w #[] 0 (Nat.le_refl _) (by simp [maxLen]) (by simp)
    have HO := Lib.hid hO
    clear hO hr
    go_enter Try.func29, Try.ntmps29
    go_wp2_with (at_builtin; refine append_row ETB rfl (.tmp 5) (.tmp 6) rfl w.heap.size (.slice (some ⟨w.heap.size, 0, none⟩) 0 0) 0 _ rfl HO.out _ n _ _ rfl HR.out h1 (by omega) (by omega) (by simp) ?_; intro v' w1 hO1 hg hnil; have HO1 := Lib.hid hO1; have HN := Lib.hid hnil; have HG := Lib.hid hg; clear hO1 hnil hg)
    go_ret
    refine ⟨_, rfl, by simpa using HO1.out, below_grown (belowA w _) HG.out (by rw [sizeA]; omega) (fun k hk => by simp [Value.ownBlock] at hk; omega), fun _ h => ?_⟩
    have := HN.out.1 h; simp at this
end Go.Proofs.Ytlmdgaajkjbpgaa
