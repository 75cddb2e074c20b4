/-
  Walks of layer 1: the reader of bits.
-/
import Derived.Test.YtlmdgaajkjbpgaaProg
import Derived.Test.YtlmdgaajkjbpgaaBase
import Derived.Test.YtlmdgaajkjbpgaaClone
import Derived.BigQuiet
import Derived.Deep.QuietTactic
namespace Go.Proofs.Ytlmdgaajkjbpgaa
open Go.RowKit

theorem i64_and7 (n : Int) : bits .and .i64 n 7 = n % 8 := by
  have h7 : (BitVec.ofInt 64 7).toNat = 2 ^ 3 - 1 := by decide
  have key : (BitVec.ofInt 64 n &&& BitVec.ofInt 64 7).toNat = (n % ((2 ^ 64 : Nat) : Int)).toNat % 2 ^ 3 := by
    rw [BitVec.toNat_and, BitVec.toNat_ofInt, h7, Nat.and_two_pow_sub_one_eq_mod]
  show IntKind.i64.wrap ((BitVec.ofInt 64 n &&& BitVec.ofInt 64 7).toNat : Nat) = n % 8
  rw [key, IntKind.wrap_i64]
  omega

theorem case8 (s : Nat) (h : s < 8) : s = 0 ∨ s = 1 ∨ s = 2 ∨ s = 3 ∨ s = 4 ∨ s = 5 ∨ s = 6 ∨ s = 7 := by omega

/-- Which bit of its byte is the next: the power of it. -/
def maskE (at_ : Nat) (high : Bool) : Nat := if high then 7 - at_ % 8 else at_ % 8
def maskV (at_ : Nat) (high : Bool) : Int := ((2 ^ maskE at_ high : Nat) : Int)
theorem maskE_lt (at_ : Nat) (high : Bool) : maskE at_ high < 8 := by unfold maskE; split <;> omega

set_option maxHeartbeats 1000000 in
theorem mask_any (b off at_ : Nat) (high : Bool) (w : World) (h0 : w.cell? ⟨b, off, none⟩ = some (.int .i64 at_)) (h1 : w.cell? ⟨b, off + 1, none⟩ = some (.bool high)) :
    Calls Try.prog 53 #[.pointer (some ⟨b, off, none⟩)] w fun e w' => e = .returned (.int .u8 (maskV at_ high)) ∧ w = w' := by
  obtain ⟨s, hs⟩ : ∃ s, s = at_ % 8 := ⟨_, rfl⟩
  have hand : bits .and .i64 (at_ : Int) 7 = (s : Int) := by rw [i64_and7]; omega
  have hv : maskV at_ high = if high then ((2 ^ (7 - s) : Nat) : Int) else ((2 ^ s : Nat) : Int) := by
    unfold maskV maskE; rw [← hs]; cases high <;> rfl
  have hs8 : s < 8 := by omega
  have HV := Lib.hid hv
  clear hv hs
  rcases case8 s hs8 with rfl | rfl | rfl | rfl | rfl | rfl | rfl | rfl <;> cases high
  all_goals
    clear hs8
    go_enter Try.func53, Try.ntmps53
    go_wp2
    go_ret
    exact ⟨congrArg (fun x => Ending.returned (.int .u8 x)) HV.out.symm, rfl⟩

/-- Where the k-th bit of n goes. -/
def turnN (k n : Nat) (high : Bool) : Nat := if high then n - 1 - k else k

set_option maxHeartbeats 400000 in
theorem turn_any (b off k n : Nat) (high : Bool) (w : World) (h1 : w.cell? ⟨b, off + 1, none⟩ = some (.bool high)) (hk : k < n) (hn : n ≤ 32) :
    Calls Try.prog 54 #[.pointer (some ⟨b, off, none⟩), .int .i64 k, .int .i64 n] w fun e w' => e = .returned (.int .i64 (turnN k n high : Nat)) ∧ w = w' := by
  have hv : ((turnN k n high : Nat) : Int) = if high then (n : Int) - 1 - k else (k : Int) := by unfold turnN; cases high <;> simp <;> omega
  have HV := Lib.hid hv
  clear hv
  cases high
  all_goals
    go_enter Try.func54, Try.ntmps54
    go_wp2
    go_ret
    exact ⟨congrArg (fun x => Ending.returned (.int .i64 x)) HV.out.symm, rfl⟩

/-- A reader of bits in memory: its block r; its bytes. -/
structure IsRd (w : World) (r : Nat) (bs : List UInt8) (high : Bool) (at_ : Nat) : Prop where
  ex : ∃ a cap, w.heap[r]? = some (.cells (fl 4 (fun i => if i = 0 then .int .i64 at_ else if i = 1 then .bool high else if i = 2 then .bool true else .slice a bs.length cap)).toArray 61 (0, 0)) ∧
    Row w 1 a bs.length cap (bs.map fun b => .int .u8 b.toNat) ∧ ∀ x, a = some x → x.block < r
  le : at_ ≤ 8 * bs.length
  small : 8 * bs.length < 4611686018427387904

theorem rdead_any (r : Nat) (bs : List UInt8) (high : Bool) (at_ : Nat) (w : World) (h : IsRd w r bs high at_) :
    Calls Try.prog 36 #[.pointer (some ⟨r, 0, none⟩)] w fun e w' => e = .returned (.bool false) ∧ w = w' := by
  obtain ⟨⟨a, cap, hb, hr, hne⟩, hle, hsm⟩ := h
  have h2 := blk_cell hb 2 (by omega)
  simp only [if_pos, Nat.reduceEqDiff, if_false] at h2
  go_enter Try.func36, Try.ntmps36
  go_wp2
  go_ret
  exact ⟨rfl, rfl⟩

theorem left_any (r : Nat) (bs : List UInt8) (high : Bool) (at_ : Nat) (w : World) (h : IsRd w r bs high at_) :
    Calls Try.prog 52 #[.pointer (some ⟨r, 0, none⟩)] w fun e w' => e = .returned (.int .i64 ((8 * bs.length - at_ : Nat) : Int)) ∧ ∃ q, w' = w.drewN q := by
  have hdead := rdead_any r bs high at_ w h
  have HD := Lib.hid hdead
  obtain ⟨⟨a, cap, hb, hr, hne⟩, hle, hsm⟩ := h
  have h0 := blk_cell hb 0 (by omega)
  have h3 := blk_cell hb 3 (by omega)
  simp only [if_pos, Nat.reduceEqDiff, if_false] at h0 h3
  have hv : ((8 * bs.length - at_ : Nat) : Int) = 8 * (bs.length : Int) - at_ := by omega
  have HV := Lib.hid hv
  clear hv hb hr hne hdead
  generalize bs.length = n at *
  go_enter Try.func52, Try.ntmps52
  go_wp2_with (go_at_call 36; refine HD.out.mono ?_; rintro e w' ⟨rfl, rfl⟩)
  go_quiet (fail)
  go_wp2
  go_ret
  exact ⟨congrArg (fun x => Ending.returned (.int .i64 x)) HV.out.symm, _, rfl⟩
end Go.Proofs.Ytlmdgaajkjbpgaa
