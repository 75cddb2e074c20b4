/-
  Plain: a stable sort by blocks: what blocks of one size make of blocks of twice that size.
-/
import Derived.Test.YtlmdgaajkjbpgaaSymQ
namespace Go.Proofs.Ytlmdgaajkjbpgaa
open Go.RowKit Go.Sort
variable {α : Type} [Inhabited α] {lt lt1 : α → α → Bool} {d R R' : Array α} {lo m hi s i : Nat}

/-- The places from lo up to hi, as far as there are any, are sorted, and hold what these places held at first. -/
structure Good (lt : α → α → Bool) (d : Array α) (lo hi : Nat) (R : Array α) : Prop where
  srt : SortedIn lt lo (min hi d.size) R
  loc : ∀ k, lo ≤ k → k < hi → k < d.size → ∃ j, lo ≤ j ∧ j < hi ∧ j < d.size ∧ R[k]! = d[j]!

theorem Good.same (h : Good lt d lo hi R) (hR : ∀ k, lo ≤ k → k < hi → k < d.size → R'[k]! = R[k]!) : Good lt d lo hi R' :=
  ⟨sorted_congr h.srt (fun k h1 h2 => hR k h1 (by omega) (by omega)), fun k h1 h2 h3 => by rw [hR k h1 h2 h3]; exact h.loc k h1 h2 h3⟩
theorem Good.agree (hag : ∀ p q, p < q → q < d.size → lt1 d[q]! d[p]! = lt d[q]! d[p]!) (h1 : Good lt d lo m R) (h2 : Good lt d m hi R) : Agree lt1 lt R lo m (min hi d.size) := fun p q a b c e => by
  obtain ⟨p', _, p2, p3, hp⟩ := h1.loc p a b (by omega)
  obtain ⟨q', q1, q2, q3, hq⟩ := h2.loc q c (by omega) (by omega)
  rw [hp, hq]; exact hag _ _ (by omega) q3
theorem Good.join (h1 : Good lt d lo m R) (h2 : Good lt d m hi R) (hlm : lo ≤ m) (hmh : m ≤ hi) (hsz : R.size = d.size) (hP : PermIn lo (min hi d.size) R R') (hS : SortedIn lt lo (min hi d.size) R') : Good lt d lo hi R' :=
  ⟨hS, fun k a b c => permIn_all R R' lo (min hi d.size) (fun x => ∃ j, lo ≤ j ∧ j < hi ∧ j < d.size ∧ x = d[j]!) (by omega) hP (fun i i1 i2 => by
    by_cases h : i < m
    · obtain ⟨j, a1, a2, a3, a4⟩ := h1.loc i i1 h (by omega); exact ⟨j, a1, by omega, a3, a4⟩
    · obtain ⟨j, a1, a2, a3, a4⟩ := h2.loc i (by omega) (by omega) (by omega); exact ⟨j, by omega, a2, a3, a4⟩) k a (by omega)⟩
theorem Good.wide (h : Good lt d lo m R) (hm : d.size ≤ m) (hmh : m ≤ hi) : Good lt d lo hi R :=
  ⟨by have := h.srt; rwa [show min m d.size = min hi d.size from by omega] at this, fun k a b c => by obtain ⟨j, a1, a2, a3, a4⟩ := h.loc k a (by omega) c; exact ⟨j, a1, by omega, a3, a4⟩⟩
theorem Good.void (h : d.size ≤ lo) : Good lt d lo hi R := ⟨fun p q h1 h2 h3 => by omega, fun k h1 h2 h3 => by omega⟩

/-- The first i blocks are sorted; the rest is as it was. -/
structure InsInv (lt : α → α → Bool) (d : Array α) (s i : Nat) (R : Array α) : Prop where
  sz : R.size = d.size
  perm : PermIn 0 d.size d R
  old : ∀ k, s * i ≤ k → R[k]! = d[k]!
  good : ∀ j, j < i → Good lt d (s * j) (s * (j + 1)) R

theorem InsInv.start : InsInv lt d s 0 d := ⟨rfl, permIn_refl _ _ _, fun _ _ => rfl, fun _ h => by omega⟩
theorem InsInv.step (h : InsInv lt d s i R) (hle : s * i ≤ d.size) (hP : PermIn (s * i) (min (s * i + s) d.size) R R') (hS : SortedIn lt (s * i) (min (s * i + s) d.size) R') : InsInv lt d s (i + 1) R' := by
  have hm : s * (i + 1) = s * i + s := Nat.mul_succ s i
  refine ⟨hP.1.trans h.sz, permIn_trans _ _ _ _ _ h.perm (permIn_mono R R' _ _ 0 d.size (by omega) (by omega) (by rw [h.sz]; omega) hP), fun k hk => ?_, fun j hj => ?_⟩
  · rw [hP.2.1 k (by omega)]; exact h.old k (by omega)
  · by_cases hji : j < i
    · have h2 := Nat.mul_le_mul_left s (show j + 1 ≤ i by omega)
      exact (h.good j hji).same fun k h3 h4 h5 => hP.2.1 k (by omega)
    · obtain rfl : j = i := by omega
      rw [hm]
      exact ⟨hS, fun k a b c => permIn_all R R' _ _ (fun x => ∃ q, s * j ≤ q ∧ q < s * j + s ∧ q < d.size ∧ x = d[q]!) (by rw [h.sz]; omega) hP (fun q h1 h2 => ⟨q, h1, by omega, by omega, h.old q h1⟩) k a (by omega)⟩
theorem InsInv.all (h : InsInv lt d s i R) (hn : d.size ≤ s * i) (j : Nat) : Good lt d (s * j) (s * (j + 1)) R := by
  by_cases hj : j < i
  · exact h.good j hj
  · have h2 := Nat.mul_le_mul_left s (show i ≤ j by omega)
    exact Good.void (by omega)

/-- The first i pairs of blocks are one block each. -/
structure MrgInv (lt : α → α → Bool) (d : Array α) (s i : Nat) (R : Array α) : Prop where
  sz : R.size = d.size
  perm : PermIn 0 d.size d R
  lo : ∀ j, j < i → Good lt d (2 * s * j) (2 * s * (j + 1)) R
  hi : ∀ j, 2 * i ≤ j → Good lt d (s * j) (s * (j + 1)) R

theorem dbl0 (s i : Nat) : s * (2 * i) = 2 * s * i := by rw [← Nat.mul_assoc, Nat.mul_comm s 2]
theorem dbl1 (s i : Nat) : s * (2 * i + 1) = 2 * s * i + s := by rw [Nat.mul_succ, dbl0]
theorem dbl2 (s i : Nat) : s * (2 * i + 1 + 1) = 2 * s * i + 2 * s := by rw [Nat.mul_succ, dbl1]; omega

theorem MrgInv.start (h1 : R.size = d.size) (h2 : PermIn 0 d.size d R) (h3 : ∀ j, Good lt d (s * j) (s * (j + 1)) R) : MrgInv lt d s 0 R := ⟨h1, h2, fun _ h => by omega, fun j _ => h3 j⟩
theorem MrgInv.left (h : MrgInv lt d s i R) : Good lt d (2 * s * i) (2 * s * i + s) R := by
  have := h.hi (2 * i) (Nat.le_refl _); rwa [dbl0, dbl1] at this
theorem MrgInv.right (h : MrgInv lt d s i R) : Good lt d (2 * s * i + s) (2 * s * i + 2 * s) R := by
  have := h.hi (2 * i + 1) (by omega); rwa [dbl1, dbl2] at this
theorem MrgInv.step (h : MrgInv lt d s i R) (hle : 2 * s * i + s ≤ d.size) (hP : PermIn (2 * s * i) (min (2 * s * i + 2 * s) d.size) R R') (hS : SortedIn lt (2 * s * i) (min (2 * s * i + 2 * s) d.size) R') : MrgInv lt d s (i + 1) R' := by
  have hm : 2 * s * (i + 1) = 2 * s * i + 2 * s := Nat.mul_succ (2 * s) i
  refine ⟨hP.1.trans h.sz, permIn_trans _ _ _ _ _ h.perm (permIn_mono R R' _ _ 0 d.size (by omega) (by omega) (by rw [h.sz]; omega) hP), fun j hj => ?_, fun j hj => ?_⟩
  · by_cases hji : j < i
    · have h2 := Nat.mul_le_mul_left (2 * s) (show j + 1 ≤ i by omega)
      exact (h.lo j hji).same fun k h3 h4 h5 => hP.2.1 k (by omega)
    · obtain rfl : j = i := by omega
      rw [hm]
      exact h.left.join h.right (by omega) (by omega) h.sz hP hS
  · have h2 := Nat.mul_le_mul_left s (show 2 * i + 1 + 1 ≤ j by omega)
    rw [dbl2] at h2
    exact (h.hi j (by omega)).same fun k h3 h4 h5 => hP.2.1 k (by omega)
theorem MrgInv.done (h : MrgInv lt d s i R) (hn : d.size ≤ 2 * s * i + s) (j : Nat) : Good lt d (2 * s * j) (2 * s * (j + 1)) R := by
  by_cases hj : j < i
  · exact h.lo j hj
  · by_cases hji : j = i
    · subst hji
      rw [Nat.mul_succ (2 * s) j]
      exact h.left.wide hn (by omega)
    · have h2 := Nat.mul_le_mul_left (2 * s) (show i + 1 ≤ j by omega)
      rw [Nat.mul_succ] at h2
      exact Good.void (by omega)
theorem good_end (h : ∀ j, Good lt d (s * j) (s * (j + 1)) R) (hs : d.size ≤ s) : SortedIn lt 0 d.size R := by
  have := (h 0).srt
  rwa [Nat.mul_zero, Nat.zero_add, Nat.mul_one, show min s d.size = d.size from by omega] at this

theorem mrg_facts {A b : Nat} (h : MrgInv lt d s i R) (hA : A = 2 * s * i) (hag : ∀ p q, p < q → q < d.size → lt1 d[q]! d[p]! = lt d[q]! d[p]!) (hb : b = min (A + 2 * s) d.size) (hm : A + s < b) :
    SortedIn lt A (A + s) R ∧ SortedIn lt (A + s) b R ∧ Agree lt1 lt R A (A + s) b := by
  have hl := h.left
  have hr := h.right
  rw [← hA] at hl hr
  have h1 := hl.srt
  have h2 := hr.srt
  have h3 := hl.agree hag hr
  rw [show min (A + s) d.size = A + s from by omega] at h1
  rw [← hb] at h2 h3
  exact ⟨h1, h2, h3⟩
theorem mrg_step {A b : Nat} (h : MrgInv lt d s i R) (hA : A = 2 * s * i) (hb : b = min (A + 2 * s) d.size) (hm : A + s < b) (hP : PermIn A b R R') (hS : SortedIn lt A b R') : MrgInv lt d s (i + 1) R' := by
  subst hA hb
  exact h.step (by omega) hP hS
theorem ins_step {A b : Nat} (h : InsInv lt d s i R) (hA : A = s * i) (hb : b = min (A + s) d.size) (hm : A ≤ b) (hP : PermIn A b R R') (hS : SortedIn lt A b R') : InsInv lt d s (i + 1) R' := by
  subst hA hb
  exact h.step (by omega) hP hS
theorem ins_agree {A b : Nat} (h : InsInv lt d s i R) (hA : A = s * i) (hag : ∀ p q, p < q → q < d.size → lt1 d[q]! d[p]! = lt d[q]! d[p]!) (hb : b ≤ d.size) (p q : Nat) (h1 : A ≤ p) (h2 : p < q) (h3 : q < b) : lt1 R[q]! R[p]! = lt R[q]! R[p]! := by
  rw [h.old p (by omega), h.old q (by omega)]
  exact hag p q h2 (by omega)
end Go.Proofs.Ytlmdgaajkjbpgaa
