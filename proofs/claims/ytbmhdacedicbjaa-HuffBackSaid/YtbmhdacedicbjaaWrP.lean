/-
  Plain: bits that are written into bytes.
-/
import Derived.Test.YtbmhdacedicbjaaGet
namespace Go.Proofs.Ytbmhdacedicbjaa
open Go.RowKit

theorem gd_left {α : Type} (a b : List α) (d : α) (i : Nat) (h : i < a.length) : (a ++ b).getD i d = a.getD i d := by simp [List.getD, List.getElem?_append_left h]
theorem gd_right {α : Type} (a b : List α) (d : α) (i : Nat) (h : a.length ≤ i) : (a ++ b).getD i d = b.getD (i - a.length) d := by simp [List.getD, List.getElem?_append_right h]

theorem bitAt_tb (bs : List UInt8) (high : Bool) (i : Nat) : bitAt bs high i = (bs.getD (i / 8) 0).toNat.testBit (maskE i high) := by
  unfold bitAt
  rw [Nat.testBit_eq_decide_div_mod_eq]
  rfl

theorem or_byte (x : UInt8) (s : Nat) (h : s < 8) : (UInt8.ofNat (x.toNat ||| 2 ^ s)).toNat = x.toNat ||| 2 ^ s := by
  have h1 : x.toNat ||| 2 ^ s < 2 ^ 8 := Nat.or_lt_two_pow x.toNat_lt (Nat.pow_lt_pow_right (by omega) h)
  simp only [UInt8.toNat_ofNat']
  exact Nat.mod_eq_of_lt h1

/-- Bytes hold these bits, and no more. -/
def Wrote (bs : List UInt8) (high : Bool) (B : List Bool) : Prop := bs.length = (B.length + 7) / 8 ∧ ∀ i, i < 8 * bs.length → bitAt bs high i = B.getD i false
/-- .. and there is room for one more. -/
def Room (bs : List UInt8) (high : Bool) (B : List Bool) : Prop := bs.length = B.length / 8 + 1 ∧ ∀ i, i < 8 * bs.length → bitAt bs high i = B.getD i false

theorem wrote_nil (high : Bool) : Wrote [] high [] := ⟨rfl, fun i h => by simp at h⟩
theorem room_pad {bs : List UInt8} {high : Bool} {B : List Bool} (h : Wrote bs high B) (h8 : B.length % 8 = 0) : Room (bs ++ [0]) high B := by
  obtain ⟨h1, h2⟩ := h
  refine ⟨by simp; omega, fun i hi => ?_⟩
  simp at hi
  by_cases hlt : i < 8 * bs.length
  · rw [← h2 i hlt]
    simp only [bitAt]
    rw [gd_left _ _ _ _ (by omega)]
  · have e : (bs ++ [(0 : UInt8)]).getD (i / 8) (0 : UInt8) = (0 : UInt8) := by
      rw [gd_right _ _ _ _ (by omega), show i / 8 - bs.length = 0 from by omega]; rfl
    rw [bitAt_tb, e]
    simp [List.getD, show ¬ i < B.length from by omega]
theorem room_in {bs : List UInt8} {high : Bool} {B : List Bool} (h : Wrote bs high B) (h8 : B.length % 8 ≠ 0) : Room bs high B := ⟨by have := h.1; omega, h.2⟩
theorem getD_snoc (B : List Bool) (x : Bool) (i : Nat) : (B ++ [x]).getD i false = if i = B.length then x else B.getD i false := by
  by_cases h : i = B.length
  · subst h; simp [List.getD]
  · rw [if_neg h]
    by_cases h2 : i < B.length
    · rw [gd_left _ _ _ _ h2]
    · simp [List.getD, h2, List.getElem?_append, show ¬ i - B.length = 0 from by omega]
theorem wrote_zero {bs : List UInt8} {high : Bool} {B : List Bool} (h : Room bs high B) : Wrote bs high (B ++ [false]) := by
  obtain ⟨h1, h2⟩ := h
  refine ⟨by simp; omega, fun i hi => ?_⟩
  rw [h2 i hi, getD_snoc]
  split
  · rename_i e; subst e; simp [List.getD]
  · rfl
theorem maskE_inj {i n : Nat} {high : Bool} (h1 : i / 8 = n / 8) (h2 : maskE i high = maskE n high) : i = n := by
  unfold maskE at h2
  cases high <;> simp at h2 <;> omega
theorem wrote_one {bs : List UInt8} {high : Bool} {B : List Bool} (h : Room bs high B) :
    Wrote (bs.set (B.length / 8) (UInt8.ofNat ((bs.getD (B.length / 8) 0).toNat ||| 2 ^ maskE B.length high))) high (B ++ [true]) := by
  obtain ⟨h1, h2⟩ := h
  refine ⟨by simp; omega, fun i hi => ?_⟩
  simp only [List.length_set] at hi
  rw [getD_snoc, bitAt_tb]
  by_cases hq : i / 8 = B.length / 8
  · rw [show (bs.set (B.length / 8) (UInt8.ofNat ((bs.getD (B.length / 8) 0).toNat ||| 2 ^ maskE B.length high))).getD (i / 8) 0 = UInt8.ofNat ((bs.getD (B.length / 8) 0).toNat ||| 2 ^ maskE B.length high) from by
      rw [hq]; simp [List.getD, show B.length / 8 < bs.length from by omega]]
    rw [or_byte _ _ (maskE_lt _ _), Nat.testBit_or, Nat.testBit_two_pow]
    by_cases hi2 : i = B.length
    · rw [if_pos hi2, hi2]; simp
    · rw [if_neg hi2, ← h2 i hi, bitAt_tb, hq]
      have hm : ¬ maskE B.length high = maskE i high := fun e => hi2 (maskE_inj hq e.symm)
      simp [hm]
  · rw [if_neg (fun e => hq (by rw [e])), ← h2 i hi, bitAt_tb]
    simp [List.getD, List.getElem?_set, Ne.symm hq]

/-- The bits of a number, as they are written. -/
def putL (x : Nat) (high : Bool) (n : Nat) : Nat → List Bool
  | 0 => []
  | k + 1 => putL x high n k ++ [x.testBit (turnN k n high)]
theorem putL_len (x : Nat) (high : Bool) (n : Nat) : ∀ k, (putL x high n k).length = k
  | 0 => rfl
  | k + 1 => by simp [putL, putL_len x high n k]
end Go.Proofs.Ytbmhdacedicbjaa
