/-
  Plain: the steps of Go's stable merge in place.
-/
import Derived.Test.YtlmdgaajkjbpgaaSymP
namespace Go.Proofs.Ytlmdgaajkjbpgaa
open Go.RowKit Go.Sort
variable {α : Type} [Inhabited α]

/-- One element moved up to k, those between one place down. -/
def shlF (d : Array α) (a k q : Nat) : α := if a ≤ q ∧ q < k then d[q + 1]! else if q = k then d[a]! else d[q]!
theorem shlF_zero (d : Array α) (a q : Nat) : shlF d a a q = d[q]! := by
  unfold shlF
  rw [if_neg (by omega)]
  split
  · rename_i h; rw [h]
  · rfl
theorem shlF_step (d R : Array α) (a k : Nat) (hak : a ≤ k) (hk : k + 1 < R.size) (hR : ∀ q, R[q]! = shlF d a k q) (q : Nat) : (swp R k (k + 1))[q]! = shlF d a (k + 1) q := by
  by_cases h1 : q = k
  · subst h1
    rw [swp_left _ _ _ (by omega) (by omega), hR]
    unfold shlF
    rw [if_neg (by omega), if_neg (by omega), if_pos (by omega)]
  · by_cases h2 : q = k + 1
    · subst h2
      rw [swp_right _ _ _ (by omega), hR]
      unfold shlF
      rw [if_neg (by omega), if_pos rfl, if_neg (by omega), if_pos rfl]
    · rw [swp_other _ _ _ _ h1 h2, hR]
      unfold shlF
      repeat' split
      all_goals first
        | rfl
        | (exfalso; omega)

/-- One element moved down to k, those between one place up. -/
def shrF (d : Array α) (m k q : Nat) : α := if k < q ∧ q ≤ m then d[q - 1]! else if q = k then d[m]! else d[q]!
theorem shrF_zero (d : Array α) (m q : Nat) : shrF d m m q = d[q]! := by
  unfold shrF
  rw [if_neg (by omega)]
  split
  · rename_i h; rw [h]
  · rfl
theorem shrF_step (d R : Array α) (m k : Nat) (hkm : k + 1 ≤ m) (hk : k + 1 < R.size) (hR : ∀ q, R[q]! = shrF d m (k + 1) q) (q : Nat) : (swp R (k + 1) k)[q]! = shrF d m k q := by
  by_cases h1 : q = k + 1
  · subst h1
    rw [swp_left _ _ _ (by omega) (by omega), hR]
    unfold shrF
    rw [if_neg (by omega), if_neg (by omega), if_pos (by omega)]
    exact congrArg (fun i => d[i]!) (by omega)
  · by_cases h2 : q = k
    · subst h2
      rw [swp_right _ _ _ (by omega), hR]
      unfold shrF
      rw [if_neg (by omega), if_pos rfl, if_neg (by omega), if_pos rfl]
    · rw [swp_other _ _ _ _ h1 h2, hR]
      unfold shrF
      repeat' split
      all_goals first
        | rfl
        | (exfalso; omega)

theorem rot_none (d : Array α) (s m e : Nat) (hsm : s ≤ m) (hme : m ≤ e) (h : s = m ∨ m = e) (k : Nat) : d[k]! = rotF d s m e k := by
  unfold rotF
  repeat' split
  all_goals first
    | rfl
    | (exfalso; omega)
    | exact congrArg (fun i => d[i]!) (by omega)

variable {lt lt1 : α → α → Bool}

theorem sorted_of {d R : Array α} {a b f : Nat} (lo hi : Nat) (h : SortedIn lt a b d) (hlo : a ≤ f) (hhi : f + (hi - lo) ≤ b) (hR : ∀ k, lo ≤ k → k < hi → R[k]! = d[f + (k - lo)]!) : SortedIn lt lo hi R := fun i j h1 h2 h3 => by
  rw [hR i h1 (by omega), hR j (by omega) h3]
  exact h _ _ (by omega) (by omega) (by omega)

section
variable {d R : Array α} {a m b s e : Nat} (hR : ∀ k, R[k]! = rotF d s m e k) (has : a ≤ s) (hsm : s ≤ m) (hme : m ≤ e) (heb : e ≤ b) (h1 : SortedIn lt a m d) (h2 : SortedIn lt m b d)

include hR in
theorem part1 (k : Nat) (h : k < s) : R[k]! = d[k]! := by
  rw [hR, rotF, if_neg (by omega), if_neg (by omega)]
include hR hsm in
theorem part2 (k : Nat) (h1 : s ≤ k) (h2 : k < s + (e - m)) : R[k]! = d[m + (k - s)]! := by
  rw [hR, rotF, if_pos (by omega)]
  exact congrArg (fun i => d[i]!) (by omega)
include hR in
theorem part3 (k : Nat) (h1 : s + (e - m) ≤ k) (h2 : k < e) : R[k]! = d[s + (k - (s + (e - m)))]! := by
  rw [hR, rotF, if_neg (by omega), if_pos (by omega)]
  exact congrArg (fun i => d[i]!) (by omega)
include hR hsm hme in
theorem part4 (k : Nat) (h1 : e ≤ k) : R[k]! = d[k]! := by
  rw [hR, rotF, if_neg (by omega), if_neg (by omega)]

include hR has hsm h1 in
theorem sp1 : SortedIn lt a s R := sorted_of (f := a) a s h1 (Nat.le_refl _) (by omega) (fun k h3 h4 => by rw [part1 hR k h4]; exact congrArg (fun i => d[i]!) (by omega))
include hR hsm hme heb h2 in
theorem sp2 : SortedIn lt s (s + (e - m)) R := sorted_of (f := m) _ _ h2 (Nat.le_refl _) (by omega) (fun k h3 h4 => part2 hR hsm k h3 h4)
include hR has hsm hme h1 in
theorem sp3 : SortedIn lt (s + (e - m)) e R := sorted_of (f := s) _ _ h1 has (by omega) (fun k h3 h4 => part3 hR k h3 h4)
include hR hsm hme heb h2 in
theorem sp4 : SortedIn lt e b R := sorted_of (f := e) e b h2 hme (by omega) (fun k h3 _ => by rw [part4 hR hsm hme k h3]; exact congrArg (fun i => d[i]!) (by omega))

include hR hsm hme heb in
theorem agree_lo (hA : Agree lt1 lt d a m b) : Agree lt1 lt R a s (s + (e - m)) := fun p q h3 h4 h5 h6 => by
  rw [part1 hR p h4, part2 hR hsm q h5 h6]
  exact hA _ _ h3 (by omega) (by omega) (by omega)
include hR has hsm hme in
theorem agree_hi (hA : Agree lt1 lt d a m b) : Agree lt1 lt R (s + (e - m)) e b := fun p q h3 h4 h5 h6 => by
  rw [part3 hR p h3 h4, part4 hR hsm hme q h5]
  exact hA _ _ (by omega) (by omega) (by omega) h6
include hR has hsm hme heb h1 h2 in
theorem skip_lo (h : s = a ∨ s = s + (e - m)) : SortedIn lt a (s + (e - m)) R := by
  rcases h with h | h
  · have := sp2 hR hsm hme heb h2; rw [h] at this ⊢; exact this
  · rw [← h]; exact sp1 hR has hsm h1
include hR has hsm hme heb h1 h2 in
theorem skip_hi (h : e = s + (e - m) ∨ e = b) : SortedIn lt (s + (e - m)) b R := by
  rcases h with h | h
  · rw [← h]; exact sp4 hR hsm hme heb h2
  · have := sp3 hR has hsm hme h1; rw [h] at this ⊢; exact this
end

theorem sorted_congr {d R : Array α} {a b : Nat} (h : SortedIn lt a b d) (hR : ∀ k, a ≤ k → k < b → R[k]! = d[k]!) : SortedIn lt a b R := fun i j h1 h2 h3 => by
  rw [hR i h1 (by omega), hR j (by omega) h3]; exact h i j h1 h2 h3
theorem agree_congr {d R : Array α} {a m b : Nat} (h : Agree lt1 lt d a m b) (hR : ∀ k, a ≤ k → k < b → R[k]! = d[k]!) : Agree lt1 lt R a m b := fun p q h1 h2 h3 h4 => by
  rw [hR p h1 (by omega), hR q (by omega) h4]; exact h p q h1 h2 h3 h4
theorem all_perm {d R : Array α} {a b : Nat} (D : α → Prop) (hb : b ≤ d.size) (hP : PermIn a b d R) (hD : ∀ i, i < d.size → D d[i]!) (i : Nat) (hi : i < R.size) : D R[i]! := by
  by_cases h : a ≤ i ∧ i < b
  · exact permIn_all d R a b D hb hP (fun k _ h2 => hD k (by omega)) i h.1 h.2
  · rw [hP.2.1 i (by omega)]; exact hD i (by rw [← hP.1]; exact hi)
end Go.Proofs.Ytlmdgaajkjbpgaa
