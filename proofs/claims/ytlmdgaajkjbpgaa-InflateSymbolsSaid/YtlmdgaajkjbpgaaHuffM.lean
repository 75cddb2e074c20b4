/-
  Plain mathematics of codes of prefixes (layer 4), no program: how much room lengths take.
-/
import Derived.WalkKit
namespace Go.Proofs.Ytlmdgaajkjbpgaa

theorem take_snoc {α : Type} (d : α) (l : List α) (k : Nat) (h : k < l.length) : l.take (k + 1) = l.take k ++ [l.getD k d] := by
  rw [List.take_succ_eq_append_getElem h]; simp [List.getD, h]

def hby (n : Int) : Int := 32768 / 2 ^ n.toNat
def hadd (s n : Int) : Int := if 0 < n then s + hby n else s
def hsum (l : List Int) : Int := l.foldl hadd 0
def hok (l : List Int) : Bool := l.all fun n => decide (0 ≤ n) && decide (n ≤ 15)
def roomV (l : List Int) : Int := if l.length = 0 ∨ 320 < l.length ∨ hok l = false then -1 else if 32768 < hsum l then -1 else hsum l

theorem hby_bd (n : Int) : 0 ≤ hby n ∧ hby n ≤ 32768 := by
  unfold hby
  have h : (0 : Int) < 2 ^ n.toNat := Int.pow_pos (by omega)
  exact ⟨Int.ediv_nonneg (by omega) (by omega), Int.ediv_le_self _ (by omega)⟩
theorem hsum_snoc (l : List Int) (x : Int) : hsum (l ++ [x]) = hadd (hsum l) x := by simp [hsum]
theorem hadd_bd (s n : Int) : s ≤ hadd s n ∧ hadd s n ≤ s + 32768 := by
  have := hby_bd n
  unfold hadd; split <;> omega
theorem foldl_hadd_bd (l : List Int) : ∀ s : Int, s ≤ l.foldl hadd s ∧ l.foldl hadd s ≤ s + 32768 * l.length := by
  induction l with
  | nil => intro s; simp
  | cons x l ih =>
    intro s
    have h1 := hadd_bd s x
    have h2 := ih (hadd s x)
    simp only [List.foldl_cons, List.length_cons]
    omega
theorem hsum_bd (l : List Int) : 0 ≤ hsum l ∧ hsum l ≤ 32768 * l.length := by
  have := foldl_hadd_bd l 0; unfold hsum; omega
theorem hok_snoc (l : List Int) (x : Int) : hok (l ++ [x]) = (hok l && (decide (0 ≤ x) && decide (x ≤ 15))) := by simp [hok]
theorem hok_not {l : List Int} {k : Nat} (hk : k < l.length) (h : l.getD k 0 < 0 ∨ 15 < l.getD k 0) : hok l = false := by
  simp only [hok, List.all_eq_false]
  refine ⟨l[k], List.getElem_mem _, ?_⟩
  simp [List.getD, hk] at h
  simp
  omega
theorem hok_mem {l : List Int} (h : hok l = true) : ∀ x ∈ l, 0 ≤ x ∧ x ≤ 15 := by
  simpa [hok] using h
theorem roomV_le (l : List Int) : -1 ≤ roomV l ∧ roomV l ≤ 32768 := by
  unfold roomV
  have := hsum_bd l
  split
  · omega
  · split <;> omega
theorem roomV_ok {l : List Int} (h : 0 ≤ roomV l) : l.length ≠ 0 ∧ l.length ≤ 320 ∧ hok l = true ∧ hsum l ≤ 32768 := by
  unfold roomV at h
  split at h
  · omega
  · rename_i h1
    split at h
    · omega
    · simp only [not_or] at h1
      exact ⟨h1.1, by omega, by simpa using h1.2.2, by omega⟩
/-- The halving loop of the reference. -/
theorem halve (j : Nat) : (32768 : Int) / 2 ^ (j + 1) = (32768 / 2 ^ j) / 2 := by
  rw [Int.pow_succ, Int.ediv_ediv_of_nonneg (Int.pow_nonneg (by omega))]

/-- How many lengths are m (m above 0). -/
def cn (l : List Int) (m : Nat) : Int := if m = 0 then 0 else ((l.filter fun x => x == (m : Int)).length : Nat)
theorem cn_snoc (l : List Int) (x : Int) (m : Nat) (hx : 0 ≤ x) : cn (l ++ [x]) m = cn l m + if 0 < x ∧ m = x.toNat then 1 else 0 := by
  unfold cn
  by_cases hm : m = 0
  · subst hm; simp; omega
  · rw [if_neg hm, if_neg hm, List.filter_append]
    by_cases h : x = (m : Int)
    · subst h
      simp
      omega
    · have h2 : ¬ (0 < x ∧ m = x.toNat) := by omega
      simp [h, h2]
theorem cn_bd (l : List Int) (m : Nat) : 0 ≤ cn l m ∧ cn l m ≤ l.length := by
  unfold cn
  have := List.length_filter_le (fun x => x == (m : Int)) l
  split <;> omega
theorem cn_take_le (l : List Int) (k m : Nat) : cn (l.take k) m ≤ cn l m := by
  unfold cn
  split
  · omega
  · have := ((List.take_sublist k l).filter (fun x => x == (m : Int))).length_le
    omega
/-- One more of its kind stands at k: so fewer before. -/
theorem cn_lt {l : List Int} {k m : Nat} (hk : k < l.length) (hm : 0 < m) (h : l.getD k 0 = (m : Int)) : cn (l.take k) m + 1 ≤ cn l m := by
  have h1 := cn_take_le l (k + 1) m
  rw [take_snoc 0 l k hk, cn_snoc _ _ _ (by omega), if_pos (by omega)] at h1
  exact h1

def fcode (c : Nat → Int) : Nat → Int
  | 0 => 0
  | n + 1 => (fcode c n + c n) * 2

theorem fcode_nonneg (c : Nat → Int) (h : ∀ m, 0 ≤ c m) : ∀ n, 0 ≤ fcode c n
  | 0 => by simp [fcode]
  | n + 1 => by have := fcode_nonneg c h n; have := h n; simp only [fcode]; omega

/-- The room that counts take: of lengths 1 to 15. -/
def weigh (c : Nat → Int) : Int := 16384 * c 1 + 8192 * c 2 + 4096 * c 3 + 2048 * c 4 + 1024 * c 5 + 512 * c 6 + 256 * c 7 + 128 * c 8 + 64 * c 9 + 32 * c 10 + 16 * c 11 + 8 * c 12 + 4 * c 13 + 2 * c 14 + c 15

theorem case15 {x : Int} (h0 : 0 < x) (h : x ≤ 15) : x = 1 ∨ x = 2 ∨ x = 3 ∨ x = 4 ∨ x = 5 ∨ x = 6 ∨ x = 7 ∨ x = 8 ∨ x = 9 ∨ x = 10 ∨ x = 11 ∨ x = 12 ∨ x = 13 ∨ x = 14 ∨ x = 15 := by omega

theorem weigh_snoc (l : List Int) (x : Int) (h0 : 0 ≤ x) (h : x ≤ 15) : weigh (cn (l ++ [x])) = weigh (cn l) + (if 0 < x then hby x else 0) := by
  unfold weigh
  simp only [cn_snoc l x _ h0]
  by_cases hp : 0 < x
  · rcases case15 hp h with rfl | rfl | rfl | rfl | rfl | rfl | rfl | rfl | rfl | rfl | rfl | rfl | rfl | rfl | rfl <;> simp [hby] <;> omega
  · simp [hp]

theorem hsum_weigh (l : List Int) (h : hok l = true) : hsum l = weigh (cn l) := by
  have key : ∀ k, k ≤ l.length → hsum (l.take k) = weigh (cn (l.take k)) := by
    intro k
    induction k with
    | zero => intro _; simp [hsum, weigh, cn]
    | succ k ih =>
      intro hk
      have hx := hok_mem h (l.getD k 0) (by simp [List.getD, show k < l.length by omega])
      rw [take_snoc 0 l k (by omega), hsum_snoc, weigh_snoc _ _ hx.1 hx.2, ih (by omega)]
      unfold hadd; split <;> omega
  have := key l.length (Nat.le_refl _)
  simpa using this

theorem fcode_weigh (c : Nat → Int) (h0 : c 0 = 0) (hc : ∀ m, 0 ≤ c m) (hw : weigh c ≤ 32768) (n : Nat) (hn : n ≤ 15) : (fcode c n + c n) * 2 ^ (15 - n) ≤ 32768 := by
  unfold weigh at hw
  have h1 := hc 1; have h2 := hc 2; have h3 := hc 3; have h4 := hc 4; have h5 := hc 5; have h6 := hc 6; have h7 := hc 7; have h8 := hc 8; have h9 := hc 9
  have h10 := hc 10; have h11 := hc 11; have h12 := hc 12; have h13 := hc 13; have h14 := hc 14; have h15 := hc 15
  rcases (by omega : n = 0 ∨ n = 1 ∨ n = 2 ∨ n = 3 ∨ n = 4 ∨ n = 5 ∨ n = 6 ∨ n = 7 ∨ n = 8 ∨ n = 9 ∨ n = 10 ∨ n = 11 ∨ n = 12 ∨ n = 13 ∨ n = 14 ∨ n = 15) with
    rfl | rfl | rfl | rfl | rfl | rfl | rfl | rfl | rfl | rfl | rfl | rfl | rfl | rfl | rfl | rfl <;> simp only [fcode, h0] <;> omega

/-- Codes of n bits are below 2^n. -/
theorem fcode_top {l : List Int} (h : 0 ≤ roomV l) (n : Nat) (hn : n ≤ 15) : 0 ≤ fcode (cn l) n ∧ fcode (cn l) n + cn l n ≤ 2 ^ n := by
  obtain ⟨_, _, h3, h4⟩ := roomV_ok h
  refine ⟨fcode_nonneg _ (fun m => (cn_bd l m).1) n, ?_⟩
  have h5 := fcode_weigh (cn l) (by simp [cn]) (fun m => (cn_bd l m).1) (by rw [← hsum_weigh l h3]; exact h4) n hn
  rcases (by omega : n = 0 ∨ n = 1 ∨ n = 2 ∨ n = 3 ∨ n = 4 ∨ n = 5 ∨ n = 6 ∨ n = 7 ∨ n = 8 ∨ n = 9 ∨ n = 10 ∨ n = 11 ∨ n = 12 ∨ n = 13 ∨ n = 14 ∨ n = 15) with
    rfl | rfl | rfl | rfl | rfl | rfl | rfl | rfl | rfl | rfl | rfl | rfl | rfl | rfl | rfl | rfl <;> omega

theorem pow_le_15 {n : Nat} (hn : n ≤ 15) : (2 : Int) ^ n ≤ 32768 := by
  rcases (by omega : n = 0 ∨ n = 1 ∨ n = 2 ∨ n = 3 ∨ n = 4 ∨ n = 5 ∨ n = 6 ∨ n = 7 ∨ n = 8 ∨ n = 9 ∨ n = 10 ∨ n = 11 ∨ n = 12 ∨ n = 13 ∨ n = 14 ∨ n = 15) with
    rfl | rfl | rfl | rfl | rfl | rfl | rfl | rfl | rfl | rfl | rfl | rfl | rfl | rfl | rfl | rfl <;> omega

/-- The code of symbol k (P4.1). -/
def codeAt (l : List Int) (k : Nat) : Int := if 0 < l.getD k 0 then fcode (cn l) (l.getD k 0).toNat + cn (l.take k) (l.getD k 0).toNat else 0

theorem codeAt_bd {l : List Int} (h : 0 ≤ roomV l) (k : Nat) : 0 ≤ codeAt l k ∧ codeAt l k ≤ 32768 := by
  unfold codeAt
  split
  · rename_i hp
    obtain ⟨_, _, h3, _⟩ := roomV_ok h
    by_cases hk : k < l.length
    · have hx := hok_mem h3 (l.getD k 0) (by simp [List.getD, hk])
      have h1 := fcode_top h (l.getD k 0).toNat (by omega)
      have h2 := cn_take_le l k (l.getD k 0).toNat
      have h4 := (cn_bd (l.take k) (l.getD k 0).toNat).1
      have h5 := pow_le_15 (n := (l.getD k 0).toNat) (by omega)
      omega
    · simp [List.getD, hk] at hp
  · omega
end Go.Proofs.Ytlmdgaajkjbpgaa
