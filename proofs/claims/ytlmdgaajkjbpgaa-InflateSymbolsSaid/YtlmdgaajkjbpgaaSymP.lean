/-
  Plain: what Go's stable merge in place does to a row, by places.
-/
import Derived.Test.YtlmdgaajkjbpgaaSortP
namespace Go.Proofs.Ytlmdgaajkjbpgaa
open Go.RowKit Go.Sort
variable {α : Type} [Inhabited α]

/-- n places from a on, and from b on, exchanged. -/
def swR (d : Array α) (a b n k : Nat) : α := if a ≤ k ∧ k < a + n then d[k - a + b]! else if b ≤ k ∧ k < b + n then d[k - b + a]! else d[k]!

theorem swR_zero (d : Array α) (a b k : Nat) : swR d a b 0 k = d[k]! := by
  unfold swR
  rw [if_neg (by omega), if_neg (by omega)]

theorem swR_step (d R : Array α) (a b n i : Nat) (hi : i < n) (hab : a + n ≤ b) (hb : b + n ≤ R.size) (hR : ∀ k, R[k]! = swR d a b i k) (k : Nat) : (swp R (a + i) (b + i))[k]! = swR d a b (i + 1) k := by
  by_cases h1 : k = a + i
  · subst h1
    rw [swp_left _ _ _ (by omega) (by omega), hR]
    unfold swR
    rw [if_neg (by omega), if_neg (by omega), if_pos (by omega)]
    exact congrArg (fun i => d[i]!) (by omega)
  · by_cases h2 : k = b + i
    · subst h2
      rw [swp_right _ _ _ (by omega), hR]
      unfold swR
      rw [if_neg (by omega), if_neg (by omega), if_neg (by omega), if_pos (by omega)]
      exact congrArg (fun i => d[i]!) (by omega)
    · rw [swp_other _ _ _ _ h1 h2, hR]
      unfold swR
      repeat' split
      all_goals first
        | rfl
        | (exfalso; omega)

/-- The places from a to m and from m to b, turned round as blocks. -/
def rotF (d : Array α) (a m b k : Nat) : α := if a ≤ k ∧ k < a + (b - m) then d[k + (m - a)]! else if a + (b - m) ≤ k ∧ k < b then d[k - (b - m)]! else d[k]!

theorem rot_gt (d R : Array α) (m i j : Nat) (hij : j < i) (him : i ≤ m) (hR : ∀ k, R[k]! = swR d (m - i) m j k) (k : Nat) : rotF R (m - (i - j)) m (m + j) k = rotF d (m - i) m (m + j) k := by
  unfold rotF
  simp only [hR, swR]
  repeat' split
  all_goals first
    | (exfalso; omega)
    | exact congrArg (fun i => d[i]!) (by omega)
theorem rot_lt (d R : Array α) (m i j : Nat) (hij : i < j) (him : i ≤ m) (hR : ∀ k, R[k]! = swR d (m - i) (m + j - i) i k) (k : Nat) : rotF R (m - i) m (m + (j - i)) k = rotF d (m - i) m (m + j) k := by
  unfold rotF
  simp only [hR, swR]
  repeat' split
  all_goals first
    | (exfalso; omega)
    | exact congrArg (fun i => d[i]!) (by omega)
theorem rot_eq (d R : Array α) (m i : Nat) (him : i ≤ m) (hR : ∀ k, R[k]! = swR d (m - i) m i k) (k : Nat) : R[k]! = rotF d (m - i) m (m + i) k := by
  unfold rotF
  simp only [hR, swR]
  repeat' split
  all_goals first
    | (exfalso; omega)
    | exact congrArg (fun i => d[i]!) (by omega)

variable {lt : α → α → Bool}

omit [Inhabited α] in
/-- Of x not behind u, u not behind v: x not behind v. -/
theorem chain3 (hS : SWO lt) {y u v x : α} (h1 : lt y u = false) (h2 : lt u v = false) (h3 : lt v x = false) : lt y x = false := hS.ntrans _ _ _ (hS.ntrans _ _ _ h1 h2) h3

theorem sorted_le (hS : SWO lt) {a b i j : Nat} {d : Array α} (h : SortedIn lt a b d) (hai : a ≤ i) (hij : i ≤ j) (hjb : j < b) : lt d[j]! d[i]! = false := by
  rcases Nat.lt_or_eq_of_le hij with h1 | h1
  · exact h i j hai h1 hjb
  · subst h1; exact hS.irrefl _

/-- What is left of the comparing function where the left part stood ahead of the right one. -/
def Agree (lt1 lt : α → α → Bool) (d : Array α) (a m b : Nat) : Prop := ∀ p q, a ≤ p → p < m → m ≤ q → q < b → lt1 d[q]! d[p]! = lt d[q]! d[p]!

theorem merge_done (hS : SWO lt) (d R R1 R2 : Array α) (a m b s e : Nat) (has : a ≤ s) (hsm : s ≤ m) (hme : m ≤ e) (heb : e ≤ b) (hb : b ≤ d.size) (hsz : R.size = d.size)
    (h1 : SortedIn lt a m d) (h2 : SortedIn lt m b d) (hR : ∀ k, R[k]! = rotF d s m e k)
    (H1 : a < s → e < b → lt d[e]! d[s - 1]! = false) (H2 : s < m → m < e → lt d[s]! d[e - 1]! = false)
    (p1 : PermIn a (s + (e - m)) R R1) (s1 : SortedIn lt a (s + (e - m)) R1) (p2 : PermIn (s + (e - m)) b R1 R2) (s2 : SortedIn lt (s + (e - m)) b R2) : SortedIn lt a b R2 := by
  have hmid : s + (e - m) ≤ b := by omega
  have lowx : ∀ k, a ≤ k → k < s + (e - m) → (∃ q, a ≤ q ∧ q < s ∧ R[k]! = d[q]!) ∨ (∃ q, m ≤ q ∧ q < e ∧ R[k]! = d[q]!) := by
    intro k hk1 hk2
    rw [hR, rotF]
    by_cases hks : k < s
    · left; exact ⟨k, hk1, hks, by rw [if_neg (by omega), if_neg (by omega)]⟩
    · right; exact ⟨k + (m - s), by omega, by omega, by rw [if_pos (by omega)]⟩
  have upx : ∀ k, s + (e - m) ≤ k → k < b → (∃ q, s ≤ q ∧ q < m ∧ R[k]! = d[q]!) ∨ (∃ q, e ≤ q ∧ q < b ∧ R[k]! = d[q]!) := by
    intro k hk1 hk2
    rw [hR, rotF]
    by_cases hke : k < e
    · left; exact ⟨k - (e - m), by omega, by omega, by rw [if_neg (by omega), if_pos (by omega)]⟩
    · right; exact ⟨k, by omega, hk2, by rw [if_neg (by omega), if_neg (by omega)]⟩
  have cross : ∀ i j, a ≤ i → i < s + (e - m) → s + (e - m) ≤ j → j < b → lt R[j]! R[i]! = false := by
    intro i j hi1 hi2 hj1 hj2
    rcases lowx i hi1 hi2 with ⟨q, q1, q2, hq⟩ | ⟨q, q1, q2, hq⟩ <;> rcases upx j hj1 hj2 with ⟨r, r1, r2, hr⟩ | ⟨r, r1, r2, hr⟩ <;> rw [hq, hr]
    · exact sorted_le hS h1 q1 (by omega) r2
    · exact chain3 hS (sorted_le hS h2 (by omega) r1 r2) (H1 (by omega) (by omega)) (sorted_le hS h1 q1 (by omega) (by omega))
    · exact chain3 hS (sorted_le hS h1 (by omega) r1 r2) (H2 (by omega) (by omega)) (sorted_le hS h2 q1 (by omega) (by omega))
    · exact sorted_le hS h2 q1 (by omega) r2
  -- what the first merge and the second leave
  have l1 : ∀ i, a ≤ i → i < s + (e - m) → ∀ j, s + (e - m) ≤ j → j < b → lt R[j]! R1[i]! = false := fun i hi1 hi2 j hj1 hj2 =>
    permIn_all R R1 a (s + (e - m)) (fun x => lt R[j]! x = false) (by omega) p1 (fun i h1 h2 => cross i j h1 h2 hj1 hj2) i hi1 hi2
  have l2 : ∀ i, a ≤ i → i < s + (e - m) → ∀ j, s + (e - m) ≤ j → j < b → lt R1[j]! R1[i]! = false := fun i hi1 hi2 j hj1 hj2 => by
    rw [p1.2.1 j (by omega)]; exact l1 i hi1 hi2 j hj1 hj2
  have l3 : ∀ i, a ≤ i → i < s + (e - m) → ∀ j, s + (e - m) ≤ j → j < b → lt R2[j]! R1[i]! = false := fun i hi1 hi2 =>
    permIn_all R1 R2 (s + (e - m)) b (fun x => lt x R1[i]! = false) (by rw [p1.1]; omega) p2 (fun j h1 h2 => l2 i hi1 hi2 j h1 h2)
  intro i j hai hij hjb
  by_cases hj : j < s + (e - m)
  · rw [p2.2.1 i (by omega), p2.2.1 j (by omega)]; exact s1 i j hai hij hj
  · by_cases hi : i < s + (e - m)
    · rw [p2.2.1 i (by omega)]; exact l3 i hai hi j (by omega) hjb
    · exact s2 i j (by omega) hij hjb

/-- One element from the left goes behind those of the right that are less. -/
theorem left_done (hS : SWO lt) (d R : Array α) (a b i : Nat) (hi : a + 1 ≤ i) (hib : i ≤ b) (h2 : SortedIn lt (a + 1) b d) (hlt : ∀ q, a + 1 ≤ q → q < i → lt d[q]! d[a]! = true) (hge : ∀ q, i ≤ q → q < b → lt d[q]! d[a]! = false)
    (hR : ∀ k, R[k]! = if a ≤ k ∧ k < i - 1 then d[k + 1]! else if k = i - 1 then d[a]! else d[k]!) : SortedIn lt a b R := by
  intro p q hap hpq hqb
  rw [hR p, hR q]
  have asym : ∀ x y, lt x y = true → lt y x = false := fun x y h => by
    cases h2 : lt y x with
    | false => rfl
    | true => have := hS.trans _ _ _ h h2; rw [hS.irrefl] at this; cases this
  by_cases c1 : q < i - 1
  · rw [if_pos (by omega), if_pos (by omega)]; exact h2 _ _ (by omega) (by omega) (by omega)
  · by_cases c2 : q = i - 1
    · rw [if_neg (by omega), if_pos c2, if_pos (by omega)]
      exact asym _ _ (hlt _ (by omega) (by omega))
    · rw [if_neg (by omega), if_neg c2]
      by_cases c3 : p < i - 1
      · rw [if_pos (by omega)]; exact h2 _ _ (by omega) (by omega) hqb
      · by_cases c4 : p = i - 1
        · rw [if_neg (by omega), if_pos c4]; exact hge q (by omega) hqb
        · rw [if_neg (by omega), if_neg c4]; exact h2 _ _ (by omega) hpq hqb

/-- One element from the right goes ahead of those of the left that are greater. -/
theorem right_done (hS : SWO lt) (d R : Array α) (a m i : Nat) (hai : a ≤ i) (him : i ≤ m) (h1 : SortedIn lt a m d) (hge : ∀ q, a ≤ q → q < i → lt d[m]! d[q]! = false) (hlt : ∀ q, i ≤ q → q < m → lt d[m]! d[q]! = true)
    (hR : ∀ k, R[k]! = if i < k ∧ k ≤ m then d[k - 1]! else if k = i then d[m]! else d[k]!) : SortedIn lt a (m + 1) R := by
  intro p q hap hpq hqb
  rw [hR p, hR q]
  have asym : ∀ x y, lt x y = true → lt y x = false := fun x y h => by
    cases h2 : lt y x with
    | false => rfl
    | true => have := hS.trans _ _ _ h h2; rw [hS.irrefl] at this; cases this
  by_cases c1 : i < q
  · rw [if_pos (by omega)]
    by_cases c2 : i < p
    · rw [if_pos (by omega)]; exact h1 _ _ (by omega) (by omega) (by omega)
    · by_cases c3 : p = i
      · rw [if_neg (by omega), if_pos c3]; exact asym _ _ (hlt _ (by omega) (by omega))
      · rw [if_neg (by omega), if_neg c3]; exact h1 _ _ hap (by omega) (by omega)
  · by_cases c2 : q = i
    · rw [if_neg (by omega), if_pos c2, if_neg (by omega), if_neg (by omega)]; exact hge _ hap (by omega)
    · rw [if_neg (by omega), if_neg c2, if_neg (by omega), if_neg (by omega)]; exact h1 _ _ hap hpq (by omega)

/-- A search's two sides, one step on. -/
theorem low_all (hS : SWO lt) {d : Array α} {m b h : Nat} {x : α} (hs : SortedIn lt m b d) (hh : h < b) (hx : lt d[h]! x = true) : ∀ q, m ≤ q → q ≤ h → lt d[q]! x = true := by
  intro q h1 h2
  cases hq : lt d[q]! x with
  | true => rfl
  | false => have := hS.ntrans _ _ _ (sorted_le hS hs h1 h2 hh) hq; rw [hx] at this; cases this
theorem high_all (hS : SWO lt) {d : Array α} {m b h : Nat} {x : α} (hs : SortedIn lt m b d) (hm : m ≤ h) (hx : lt d[h]! x = false) : ∀ q, h ≤ q → q < b → lt d[q]! x = false :=
  fun _ h1 h2 => hS.ntrans _ _ _ (sorted_le hS hs hm h1 h2) hx
theorem low_all' (hS : SWO lt) {d : Array α} {a m h : Nat} {x : α} (hs : SortedIn lt a m d) (hh : h < m) (hx : lt x d[h]! = false) : ∀ q, a ≤ q → q ≤ h → lt x d[q]! = false :=
  fun _ h1 h2 => hS.ntrans _ _ _ hx (sorted_le hS hs h1 h2 hh)
theorem high_all' (hS : SWO lt) {d : Array α} {a m h : Nat} {x : α} (hs : SortedIn lt a m d) (hm : a ≤ h) (hx : lt x d[h]! = true) : ∀ q, h ≤ q → q < m → lt x d[q]! = true := by
  intro q h1 h2
  cases hq : lt x d[q]! with
  | true => rfl
  | false => have := hS.ntrans _ _ _ hq (sorted_le hS hs hm h1 h2); rw [hx] at this; cases this
end Go.Proofs.Ytlmdgaajkjbpgaa
