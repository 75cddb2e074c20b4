/-
  The walk of the reference's Parse: the number of a text, by definition.
-/
import Derived.Test.YtkolfecjlbnfkaaNum4
namespace Go.Proofs.Ytkolfecjlbnfkaa
open Go.RowKit

/-- Ahead of a point: digits p have been looked at. -/
structure PA (p : List UInt8) (N : Int) (ov : Bool) : Prop where
  dg : p.all isDg = true
  ov_ : ov = decide (2147483647 < valD p)
  n : ov = false → N = (valD p : Nat)
/-- Behind a point at place i. -/
def PB (p : List UInt8) (i : Nat) (N P : Int) (ov : Bool) : Prop := ∃ w r, p = w ++ 46 :: r ∧ w.length = i ∧ PA w N ov ∧ r.all isDg = true ∧ P = (mil r : Nat)

theorem PA.nil : PA [] 0 false := ⟨rfl, rfl, fun _ => rfl⟩
theorem PA.over {p : List UInt8} {N : Int} (h : PA p N true) {c : UInt8} (hc : isDg c = true) : PA (p ++ [c]) N true :=
  ⟨all_snoc _ _ h.dg hc, by have := h.ov_; rw [eq_comm, decide_eq_true_iff] at this; rw [eq_comm, decide_eq_true_iff, valD_snoc]; omega, fun h => by cases h⟩
theorem PA.more {p : List UInt8} {N : Int} (h : PA p N false) {c : UInt8} (hc : isDg c = true) (M : Int) (hM : M = 10 * N + (dgV c : Nat)) (o : Bool) (ho : o = decide (2147483647 < M)) : PA (p ++ [c]) M o := by
  have h1 := h.n rfl
  have hv : M = (valD (p ++ [c]) : Nat) := by rw [valD_snoc, hM, h1]; omega
  refine ⟨all_snoc _ _ h.dg hc, ?_, fun _ => hv⟩
  rw [ho, Bool.eq_iff_iff, decide_eq_true_iff, decide_eq_true_iff]; omega
theorem PA.point {p : List UInt8} {N : Int} {ov : Bool} (h : PA p N ov) : PB (p ++ [46]) p.length N 0 ov := ⟨p, [], rfl, rfl, h, rfl, rfl⟩
theorem mil_by (r : List UInt8) (c : UInt8) (b : Nat) (hb : b = 100000 / 10 ^ (min (r.length + 1) 7 - 1)) : mil (r ++ [c]) = mil r + b * dgV c := by
  by_cases h : r.length < 6
  · rw [mil_snoc_lt r c h, hb, Nat.min_eq_left (by omega)]
    congr 2
    have : r.length = 0 ∨ r.length = 1 ∨ r.length = 2 ∨ r.length = 3 ∨ r.length = 4 ∨ r.length = 5 := by omega
    rcases this with h | h | h | h | h | h <;> rw [h]
  · rw [mil_snoc_ge r c (by omega), hb, Nat.min_eq_right (by omega)]
    simp
theorem PB.more {p : List UInt8} {i : Nat} {N P : Int} {ov : Bool} (h : PB p i N P ov) {c : UInt8} (hc : isDg c = true) (b : Nat) (hb : b = 100000 / 10 ^ (min (p.length - i) 7 - 1)) (Q : Int) (hQ : Q = P + (b : Int) * ((c.toNat : Int) - 48)) : PB (p ++ [c]) i N Q ov := by
  obtain ⟨w, r, e, hl, hA, hr, hP⟩ := h
  have hlen := congrArg List.length e
  simp only [List.length_append, List.length_cons] at hlen
  refine ⟨w, r ++ [c], by rw [e]; simp, hl, hA, all_snoc _ _ hr hc, ?_⟩
  rw [mil_by r c b (by rw [hb]; congr 3; omega), hQ, hP, ← dgV_int hc]
  push_cast
  rfl
theorem PB.bad {p : List UInt8} {i : Nat} {N P : Int} {ov : Bool} (h : PB p i N P ov) (sg : Int) (c : UInt8) (t : List UInt8) (hc : isDg c = false) : parseB sg (p ++ c :: t) = (0, 0, 11) := by
  obtain ⟨w, r, e, hl, hA, hr, hP⟩ := h
  rw [e]
  have : w ++ 46 :: r ++ c :: t = w ++ 46 :: (r ++ c :: t) := by simp
  rw [this]
  exact parseB_bad2 sg w r t c hA.dg hc
theorem PB.bd {p : List UInt8} {i : Nat} {N P : Int} {ov : Bool} (h : PB p i N P ov) : 0 ≤ P ∧ P ≤ 999999 := by
  obtain ⟨w, r, e, hl, hA, hr, rfl⟩ := h
  have := mil_lt r hr
  omega

/-- The end: no point. -/
theorem PA.fin {p : List UInt8} {N : Int} {ov : Bool} (h : PA p N ov) (sg : Int) : parseB sg p = if p.length = 0 then (0, 0, 11) else if ov = true then (0, 0, 5) else (2, sg * N, 0) := by
  rw [parseB_int sg p h.dg]
  by_cases h0 : p.length = 0
  · rw [if_pos h0, if_pos h0]
  · rw [if_neg h0, if_neg h0]
    have h1 := h.ov_
    cases ov
    · rw [eq_comm, decide_eq_false_iff_not] at h1
      rw [if_neg h1, if_neg (by decide), h.n rfl]
    · rw [eq_comm, decide_eq_true_iff] at h1
      rw [if_pos h1, if_pos rfl]
theorem PB.fin {p : List UInt8} {i : Nat} {N P : Int} {ov : Bool} (h : PB p i N P ov) (sg : Int) : parseB sg p = if p.length = 1 then (0, 0, 11) else if ov = true ∨ (N = 2147483647 ∧ 0 < P) then (0, 0, 5) else (3, sg * (1000000 * N + P), 0) := by
  obtain ⟨w, r, e, hl, hA, hr, rfl⟩ := h
  have hlen := congrArg List.length e
  simp only [List.length_append, List.length_cons] at hlen
  rw [e, parseB_real sg w r hA.dg hr, ← e]
  by_cases h0 : p.length = 1
  · rw [if_pos h0, if_pos (by omega)]
  · rw [if_neg h0, if_neg (by omega)]
    have h1 := hA.ov_
    cases ov
    · rw [eq_comm, decide_eq_false_iff_not] at h1
      have h2 := hA.n rfl
      by_cases h3 : N = 2147483647 ∧ 0 < ((mil r : Nat) : Int)
      · rw [if_pos (.inr (by omega)), if_pos (.inr h3)]
      · rw [if_neg (by rintro (h | h); exact h1 h; exact h3 (by omega)), if_neg (by rintro (h | h); cases h; exact h3 h), h2]
        rw [Int.natCast_add, Int.natCast_mul, Int.mul_comm 1000000]; rfl
    · rw [eq_comm, decide_eq_true_iff] at h1
      rw [if_pos (.inl h1), if_pos (.inl rfl)]

/-- Where the reference stands. -/
def St (b : List UInt8) (a K : Nat) (N P D T : Int) (ov : Bool) : Prop :=
  (T = -1 ∧ P = 0 ∧ D = (K : Int) - (a : Int) ∧ PA (b.take (K - a)) N ov) ∨ (∃ i : Nat, T = (a : Int) + (i : Int) ∧ i < K - a ∧ D = (K : Int) - (a : Int) - 1 ∧ PB (b.take (K - a)) i N P ov)
theorem at_take (s : ByteArray) (a k : Nat) (h : k < s.size) (ha : a ≤ k) : ((bl s).drop a).take (k + 1 - a) = ((bl s).drop a).take (k - a) ++ [s[k]] := by
  rw [show k + 1 - a = (k - a) + 1 from by omega, List.take_succ_eq_append_getElem (by rw [List.length_drop, bl_len]; omega), List.getElem_drop]
  congr 2
  rw [← bl_get s k h]
  congr 1
  omega
theorem at_split (s : ByteArray) (a k : Nat) (h : k < s.size) (ha : a ≤ k) : (bl s).drop a = ((bl s).drop a).take (k - a) ++ s[k] :: (bl s).drop (k + 1) := by
  have h1 := List.take_append_drop (k - a) ((bl s).drop a)
  rw [List.drop_drop, show a + (k - a) = k from by omega, bl_drop s k h] at h1
  exact h1.symm
end Go.Proofs.Ytkolfecjlbnfkaa
