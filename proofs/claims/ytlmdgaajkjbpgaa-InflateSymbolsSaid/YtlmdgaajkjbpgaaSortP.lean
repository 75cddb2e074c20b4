/-
  Plain: a stable sort's answer by a total order: insertion sort; what a sorted permutation is.
-/
import Derived.Test.YtlmdgaajkjbpgaaSortB
namespace Go.Proofs.Ytlmdgaajkjbpgaa
open Go.RowKit Go.Sort
variable {α : Type} [Inhabited α]

theorem inner_eq (lt1 lt2 : α → α → Bool) (a : Nat) : ∀ (j : Nat) (d : Array α), j < d.size → (∀ p, a ≤ p → p < j → lt1 d[j]! d[p]! = lt2 d[j]! d[p]!) → insInner lt1 a j d = insInner lt2 a j d
  | 0, d, _, _ => rfl
  | j + 1, d, hj, h => by
    rw [insInner, insInner]
    by_cases hja : j + 1 > a
    · rw [h j (by omega) (by omega)]
      have ih := inner_eq lt1 lt2 a j (swp d (j + 1) j) (by rw [size_swp]; omega) (fun p hp hpj => by
        rw [swp_right d (j + 1) j (by omega), swp_other d (j + 1) j p (by omega) (by omega)]
        exact h p hp (by omega))
      rw [ih]
    · simp [hja]

theorem outer_eq (lt1 lt2 : α → α → Bool) (hS : SWO lt2) (a b : Nat) (d0 : Array α) (hb : b ≤ d0.size) (h : ∀ p q, a ≤ p → p < q → q < b → lt1 d0[q]! d0[p]! = lt2 d0[q]! d0[p]!) :
    ∀ (n i : Nat) (d : Array α), b - i = n → a < i → PermIn a i d0 d → SortedIn lt2 a i d → insOuter lt1 a b i d = insOuter lt2 a b i d
  | 0, i, d, hn, _, _, _ => by rw [outer_stop _ _ _ _ _ (by omega), outer_stop _ _ _ _ _ (by omega)]
  | n + 1, i, d, hn, hai, hP, hs => by
    have hib : i < b := by omega
    have e : insInner lt1 a i d = insInner lt2 a i d := inner_eq lt1 lt2 a i d (by rw [hP.1]; omega) (fun p hp hpi => by
      rw [hP.2.1 i (by omega)]
      exact permIn_all d0 d a i (fun x => lt1 d0[i]! x = lt2 d0[i]! x) (by omega) hP (fun q hq hqi => h q i hq hqi hib) p hp hpi)
    have h1 := insInner_spec hS swp_permIn permIn_refl permIn_trans a b i hib i d (by omega) (Nat.le_refl _) (by rw [hP.1]; exact hb) ⟨fun p q hap hpq hqi _ hq => hs p q hap hpq (by omega), fun q h1 h2 => by omega⟩
    rw [outer_go _ _ _ _ _ hib, outer_go _ _ _ _ _ hib, e]
    have hP1 := insInner_spec hS swp_permIn permIn_refl permIn_trans a (i + 1) i (by omega) i d (by omega) (Nat.le_refl _) (by rw [hP.1]; omega) ⟨fun p q hap hpq hqi _ hq => hs p q hap hpq (by omega), fun q h1 h2 => by omega⟩
    refine outer_eq lt1 lt2 hS a b d0 hb h n (i + 1) _ (by omega) (by omega) (permIn_trans _ _ _ _ _ (permIn_mono d0 d a i a (i + 1) (by omega) (by omega) (by omega) hP) hP1.1) hP1.2

/-- Insertion sort by a comparing function that agrees, of any two in their first order, with a total order: the sorted permutation by that order. -/
theorem ins_stable (lt1 lt2 : α → α → Bool) (hS : SWO lt2) (a b : Nat) (d : Array α) (hab : a ≤ b) (hb : b ≤ d.size) (h : ∀ p q, a ≤ p → p < q → q < b → lt1 d[q]! d[p]! = lt2 d[q]! d[p]!) :
    PermIn a b d (Sort.insertionSort lt1 d a b) ∧ SortedIn lt2 a b (Sort.insertionSort lt1 d a b) := by
  have e : Sort.insertionSort lt1 d a b = Sort.insertionSort lt2 d a b := by
    unfold Sort.insertionSort
    by_cases hb2 : a + 1 ≤ b
    · exact outer_eq lt1 lt2 hS a b d hb h _ (a + 1) d rfl (by omega) (permIn_refl _ _ _) (fun i j h1 h2 h3 => by omega)
    · rw [outer_stop _ _ _ _ _ (by omega), outer_stop _ _ _ _ _ (by omega)]
  rw [e]
  exact insertionSort_holds hS d a b hab hb
end Go.Proofs.Ytlmdgaajkjbpgaa
