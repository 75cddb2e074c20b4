/-
  Our texts NumP to LexQ, in one.
-/
import Derived.Lib.Hide
/-
  Plain half of layer 9: digits, the number of a text, the text of a number.
-/
namespace Go.Proofs.YtnkodejgiabamaaGreat

theorem snoc_ind {α : Type} {p : List α → Prop} (h0 : p []) (h1 : ∀ l c, p l → p (l ++ [c])) (l : List α) : p l := by
  have h : ∀ r : List α, p r.reverse := by
    intro r
    induction r with
    | nil => exact h0
    | cons c r ih => rw [List.reverse_cons]; exact h1 _ _ ih
  have h2 := h l.reverse
  rwa [List.reverse_reverse] at h2

def isDg (c : UInt8) : Bool := decide (48 ≤ c.toNat) && decide (c.toNat ≤ 57)
def dgV (c : UInt8) : Nat := c.toNat - 48
def decV : List UInt8 → Nat → Nat
  | [], n => n
  | c :: l, n => decV l (10 * n + dgV c)
/-- The number that digits are. -/
def valD (l : List UInt8) : Nat := decV l 0

theorem isDg_iff {c : UInt8} : isDg c = true ↔ 48 ≤ c.toNat ∧ c.toNat ≤ 57 := by unfold isDg; simp
theorem isDg_no {c : UInt8} : isDg c = false ↔ c.toNat < 48 ∨ 57 < c.toNat := by
  rw [← Bool.not_eq_true, isDg_iff]; omega
theorem dgV_le {c : UInt8} (h : isDg c = true) : dgV c ≤ 9 := by rw [isDg_iff] at h; unfold dgV; omega
theorem dgV_int {c : UInt8} (h : isDg c = true) : (dgV c : Int) = (c.toNat : Int) - 48 := by rw [isDg_iff] at h; unfold dgV; omega

theorem decV_append : ∀ (l m : List UInt8) (n : Nat), decV (l ++ m) n = decV m (decV l n)
  | [], _, _ => rfl
  | c :: l, m, n => decV_append l m (10 * n + dgV c)
theorem decV_ge : ∀ (l : List UInt8) (n : Nat), n ≤ decV l n
  | [], _ => Nat.le_refl _
  | c :: l, n => Nat.le_trans (by omega) (decV_ge l (10 * n + dgV c))
theorem valD_nil : valD [] = 0 := rfl
theorem valD_snoc (l : List UInt8) (c : UInt8) : valD (l ++ [c]) = 10 * valD l + dgV c := by unfold valD; rw [decV_append]; rfl
theorem valD_append_ge (l m : List UInt8) : valD l ≤ valD (l ++ m) := by unfold valD; rw [decV_append]; exact decV_ge _ _
theorem valD_zeros (l : List UInt8) : ∀ j, valD (l ++ List.replicate j 48) = valD l * 10 ^ j
  | 0 => by simp
  | j + 1 => by
    rw [List.replicate_succ', ← List.append_assoc, valD_snoc, valD_zeros l j, Nat.pow_succ, show dgV 48 = 0 from rfl]
    rw [Nat.add_zero, Nat.mul_comm (10 ^ j) 10, ← Nat.mul_assoc, ← Nat.mul_assoc, Nat.mul_comm (valD l) 10]
theorem all_snoc (l : List UInt8) (c : UInt8) (h : l.all isDg = true) (hc : isDg c = true) : (l ++ [c]).all isDg = true := by simp [hc]; simpa using h
theorem valD_lt : ∀ (l : List UInt8), l.all isDg = true → valD l < 10 ^ l.length := by
  refine snoc_ind (fun _ => by decide) fun l c ih => ?_
  · intro h
    rw [List.all_append, Bool.and_eq_true] at h
    have h1 := ih h.1
    have h2 := dgV_le (c := c) (by simpa using h.2)
    rw [valD_snoc, List.length_append, List.length_singleton, Nat.pow_succ]
    omega

/-- The number that digits alone are, and an error. -/
def digitsV (l : List UInt8) : Int × Int := if l = [] ∨ l.all isDg = false then (0, 11) else if 2147483647 < valD l then (0, 5) else (((valD l : Nat) : Int), 0)
theorem digitsV_nil : digitsV [] = (0, 11) := by simp [digitsV]
theorem digitsV_form {l : List UInt8} (h : l.all isDg = false) : digitsV l = (0, 11) := by unfold digitsV; rw [if_pos (.inr h)]
theorem digitsV_over {l : List UInt8} (hn : l ≠ []) (h : l.all isDg = true) (ho : 2147483647 < valD l) : digitsV l = (0, 5) := by
  unfold digitsV; rw [if_neg (by rw [h]; simpa using hn), if_pos ho]
theorem digitsV_ok {l : List UInt8} (hn : l ≠ []) (h : l.all isDg = true) (ho : valD l ≤ 2147483647) : digitsV l = (((valD l : Nat) : Int), 0) := by
  unfold digitsV; rw [if_neg (by rw [h]; simpa using hn), if_neg (by omega)]

/-- The millionths that digits behind a point are. -/
def mil (r : List UInt8) : Nat := valD ((r ++ List.replicate 6 48).take 6)
theorem mil_short {r : List UInt8} (h : r.length ≤ 6) : mil r = valD r * 10 ^ (6 - r.length) := by
  unfold mil
  rw [List.take_append, List.take_of_length_le h, List.take_replicate, Nat.min_eq_left (by omega), valD_zeros]
theorem mil_long {r : List UInt8} (h : 6 ≤ r.length) : mil r = valD (r.take 6) := by
  unfold mil
  rw [List.take_append_of_le_length h]
theorem mil_nil : mil [] = 0 := by decide
theorem mil_snoc_lt (r : List UInt8) (c : UInt8) (h : r.length < 6) : mil (r ++ [c]) = mil r + 10 ^ (5 - r.length) * dgV c := by
  rw [mil_short (by simp; omega), mil_short (by omega), valD_snoc, List.length_append, List.length_singleton]
  rw [show 6 - r.length = (5 - r.length) + 1 from by omega, show 6 - (r.length + 1) = 5 - r.length from by omega, Nat.pow_succ, Nat.add_mul]
  rw [Nat.mul_comm (dgV c)]
  congr 1
  rw [Nat.mul_comm 10 (valD r), Nat.mul_assoc, Nat.mul_comm 10]
theorem mil_snoc_ge (r : List UInt8) (c : UInt8) (h : 6 ≤ r.length) : mil (r ++ [c]) = mil r := by
  rw [mil_long h, mil_long (by simp; omega), List.take_append_of_le_length h]
theorem mil_lt (r : List UInt8) (h : r.all isDg = true) : mil r < 1000000 := by
  by_cases hl : r.length ≤ 6
  · have := valD_lt ((r ++ List.replicate 6 48).take 6) (by
      rw [List.all_eq_true]
      intro x hx
      have hx := List.mem_of_mem_take hx
      rw [List.mem_append] at hx
      rcases hx with hx | hx
      · exact List.all_eq_true.1 h x hx
      · rw [List.mem_replicate] at hx; rw [hx.2]; rfl)
    unfold mil
    have hlen : ((r ++ List.replicate 6 48).take 6 : List UInt8).length = 6 := by simp
    rw [hlen] at this
    omega
  · rw [mil_long (by omega)]
    have := valD_lt (r.take 6) (by rw [List.all_eq_true]; intro x hx; exact List.all_eq_true.1 h x (List.mem_of_mem_take hx))
    rw [List.length_take, Nat.min_eq_left (by omega)] at this
    omega

/-- The sign, and what stands behind it; what stands ahead of the first point, and behind it. -/
def signOf (s : List UInt8) : Int := if s.head? = some 45 then -1 else 1
def bodyOf (s : List UInt8) : List UInt8 := if s.head? = some 45 ∨ s.head? = some 43 then s.tail else s
def wholeOf (b : List UInt8) : List UInt8 := b.takeWhile (· != 46)
def restOf (b : List UInt8) : List UInt8 := (b.dropWhile (· != 46)).tail
def hasPt (b : List UInt8) : Bool := b.any (· == 46)

/-- A text's number: kind, number, error. -/
def parseB (sg : Int) (b : List UInt8) : Int × Int × Int :=
  if (wholeOf b).length + (restOf b).length = 0 ∨ (wholeOf b).all isDg = false ∨ (restOf b).all isDg = false then (0, 0, 11)
  else if 2147483647 < valD (wholeOf b) then (0, 0, 5)
  else if hasPt b = false then (2, sg * (valD (wholeOf b) : Nat), 0)
  else if 2147483647000000 < valD (wholeOf b) * 1000000 + mil (restOf b) then (0, 0, 5)
  else (3, sg * ((valD (wholeOf b) * 1000000 + mil (restOf b) : Nat) : Int), 0)
def parseV (s : List UInt8) : Int × Int × Int := parseB (signOf s) (bodyOf s)

theorem tw_app (w t : List UInt8) (hw : ∀ x ∈ w, x ≠ 46) : wholeOf (w ++ 46 :: t) = w ∧ restOf (w ++ 46 :: t) = t ∧ hasPt (w ++ 46 :: t) = true := by
  induction w with
  | nil => simp [wholeOf, restOf, hasPt]
  | cons x w ih =>
    have hx : x ≠ 46 := hw x (List.mem_cons_self)
    obtain ⟨h1, h2, h3⟩ := ih fun y hy => hw y (List.mem_cons_of_mem _ hy)
    refine ⟨?_, ?_, by simp [hasPt]⟩
    · unfold wholeOf at *
      rw [List.cons_append, List.takeWhile_cons_of_pos (by simpa using hx), h1]
    · unfold restOf at *
      rw [List.cons_append, List.dropWhile_cons_of_pos (by simpa using hx), h2]
theorem tw_none (b : List UInt8) (hb : ∀ x ∈ b, x ≠ 46) : wholeOf b = b ∧ restOf b = [] ∧ hasPt b = false := by
  induction b with
  | nil => simp [wholeOf, restOf, hasPt]
  | cons x w ih =>
    have hx : x ≠ 46 := hb x (List.mem_cons_self)
    obtain ⟨h1, h2, h3⟩ := ih fun y hy => hb y (List.mem_cons_of_mem _ hy)
    refine ⟨?_, ?_, ?_⟩
    · unfold wholeOf at *
      rw [List.takeWhile_cons_of_pos (by simpa using hx), h1]
    · unfold restOf at *
      rw [List.dropWhile_cons_of_pos (by simpa using hx), h2]
    · unfold hasPt at *
      rw [List.any_cons, h3]; simpa using hx
theorem dg_ne {x : UInt8} (h : isDg x = true) : x ≠ 46 := by rintro rfl; revert h; decide
theorem all_ne {w : List UInt8} (h : w.all isDg = true) : ∀ x ∈ w, x ≠ 46 := fun x hx => dg_ne (List.all_eq_true.1 h x hx)
theorem tw_mem (w t : List UInt8) (c : UInt8) (hw : ∀ x ∈ w, x ≠ 46) (hc : c ≠ 46) : c ∈ wholeOf (w ++ c :: t) := by
  induction w with
  | nil => unfold wholeOf; rw [List.nil_append, List.takeWhile_cons_of_pos (by simpa using hc)]; exact List.mem_cons_self
  | cons x w ih =>
    have hx : x ≠ 46 := hw x (List.mem_cons_self)
    unfold wholeOf at *
    rw [List.cons_append, List.takeWhile_cons_of_pos (by simpa using hx)]
    exact List.mem_cons_of_mem _ (ih fun y hy => hw y (List.mem_cons_of_mem _ hy))
theorem all_false {l : List UInt8} {c : UInt8} (h : c ∈ l) (hc : isDg c = false) : l.all isDg = false := by
  rw [← Bool.not_eq_true, List.all_eq_true]; intro h2; rw [h2 c h] at hc; exact absurd hc (by decide)

/-- A byte that may not be, ahead of a point. -/
theorem parseB_bad1 (sg : Int) (w t : List UInt8) (c : UInt8) (hw : w.all isDg = true) (hc : c ≠ 46) (hd : isDg c = false) : parseB sg (w ++ c :: t) = (0, 0, 11) := by
  unfold parseB
  rw [if_pos (.inr (.inl (all_false (tw_mem w t c (all_ne hw) hc) hd)))]
/-- .. and behind it. -/
theorem parseB_bad2 (sg : Int) (w r t : List UInt8) (c : UInt8) (hw : w.all isDg = true) (hd : isDg c = false) : parseB sg (w ++ 46 :: (r ++ c :: t)) = (0, 0, 11) := by
  obtain ⟨h1, h2, h3⟩ := tw_app w (r ++ c :: t) (all_ne hw)
  unfold parseB
  rw [h2, if_pos (.inr (.inr (all_false (c := c) (by simp) hd)))]
theorem parseB_int (sg : Int) (b : List UInt8) (h : b.all isDg = true) : parseB sg b = if b.length = 0 then (0, 0, 11) else if 2147483647 < valD b then (0, 0, 5) else (2, sg * (valD b : Nat), 0) := by
  obtain ⟨h1, h2, h3⟩ := tw_none b (all_ne h)
  unfold parseB
  rw [h1, h2, h3]
  by_cases hb : b.length = 0
  · rw [if_pos (.inl (by simp [hb])), if_pos hb]
  · rw [if_neg (by rw [h]; simp; intro e; exact hb (by simp [e])), if_neg hb]; rfl
theorem parseB_real (sg : Int) (w r : List UInt8) (hw : w.all isDg = true) (hr : r.all isDg = true) :
    parseB sg (w ++ 46 :: r) = if w.length + r.length = 0 then (0, 0, 11) else if 2147483647 < valD w ∨ (valD w = 2147483647 ∧ 0 < mil r) then (0, 0, 5) else (3, sg * ((valD w * 1000000 + mil r : Nat) : Int), 0) := by
  obtain ⟨h1, h2, h3⟩ := tw_app w r (all_ne hw)
  have hm := mil_lt r hr
  unfold parseB
  rw [h1, h2, h3]
  by_cases hb : w.length + r.length = 0
  · rw [if_pos (.inl hb), if_pos hb]
  · rw [if_neg (by rw [hw, hr]; simp; intro e1 e2; exact hb (by simp [e1, e2])), if_neg hb, if_neg (by decide : ¬ (true = false))]
    by_cases h4 : 2147483647 < valD w
    · rw [if_pos h4, if_pos (.inl h4)]
    · rw [if_neg h4]
      by_cases h5 : valD w = 2147483647 ∧ 0 < mil r
      · rw [if_pos (by omega), if_pos (.inr h5)]
      · rw [if_neg (by omega), if_neg (by omega)]

/-- A number's digits. -/
def decL (n : Nat) : List UInt8 := if n < 10 then [UInt8.ofNat (48 + n)] else decL (n / 10) ++ [UInt8.ofNat (48 + n % 10)]
termination_by n
theorem decL_small {n : Nat} (h : n < 10) : decL n = [UInt8.ofNat (48 + n)] := by rw [decL, if_pos h]
theorem decL_big {n : Nat} (h : 10 ≤ n) : decL n = decL (n / 10) ++ [UInt8.ofNat (48 + n % 10)] := by rw [decL, if_neg (by omega)]
theorem dig_isDg {d : Nat} (h : d < 10) : isDg (UInt8.ofNat (48 + d)) = true := by
  rw [isDg_iff, UInt8.toNat_ofNat']; omega
theorem dig_dgV {d : Nat} (h : d < 10) : dgV (UInt8.ofNat (48 + d)) = d := by
  unfold dgV; rw [UInt8.toNat_ofNat']; omega
theorem decL_spec (n : Nat) : (decL n).all isDg = true ∧ valD (decL n) = n ∧ 1 ≤ (decL n).length := by
  induction n using Nat.strongRecOn with
  | ind n ih =>
    by_cases h : n < 10
    · rw [decL_small h]
      refine ⟨by rw [List.all_cons, dig_isDg h]; rfl, ?_, by simp⟩
      show valD ([] ++ [_]) = n
      rw [valD_snoc, valD_nil, dig_dgV h]; omega
    · obtain ⟨h1, h2, h3⟩ := ih (n / 10) (by omega)
      rw [decL_big (by omega)]
      refine ⟨all_snoc _ _ h1 (dig_isDg (by omega)), ?_, by simp⟩
      rw [valD_snoc, h2, dig_dgV (by omega)]; omega
theorem decL_len : ∀ (k n : Nat), n < 10 ^ (k + 1) → (decL n).length ≤ k + 1
  | 0, n, h => by rw [decL_small (by simpa using h)]; simp
  | k + 1, n, h => by
    by_cases h10 : n < 10
    · rw [decL_small h10]; simp
    · rw [decL_big (by omega), List.length_append, List.length_singleton]
      have := decL_len k (n / 10) (by rw [Nat.div_lt_iff_lt_mul (by omega)]; rwa [Nat.pow_succ] at h)
      omega
theorem decL_len_ge : ∀ (k n : Nat), 10 ^ k ≤ n → k + 1 ≤ (decL n).length
  | 0, n, _ => (decL_spec n).2.2
  | k + 1, n, h => by
    have hp : 1 ≤ 10 ^ k := Nat.pow_pos (by omega)
    rw [Nat.pow_succ] at h
    rw [decL_big (by omega), List.length_append, List.length_singleton]
    have := decL_len_ge k (n / 10) (by rw [Nat.le_div_iff_mul_le (by omega)]; exact h)
    omega

/-- A number's last k digits. -/
def fixD (n : Nat) : Nat → List UInt8
  | 0 => []
  | k + 1 => UInt8.ofNat (48 + n / 10 ^ k % 10) :: fixD n k
theorem fixD_len (n : Nat) : ∀ k, (fixD n k).length = k
  | 0 => rfl
  | k + 1 => by simp [fixD, fixD_len n k]
theorem fixD_snoc (n : Nat) : ∀ k, fixD n (k + 1) = fixD (n / 10) k ++ [UInt8.ofNat (48 + n % 10)]
  | 0 => by simp [fixD]
  | k + 1 => by
    rw [fixD, fixD_snoc n k]
    show _ = (UInt8.ofNat (48 + n / 10 / 10 ^ k % 10) :: fixD (n / 10) k) ++ _
    rw [Nat.div_div_eq_div_mul, Nat.pow_succ, Nat.mul_comm 10, List.cons_append]
theorem fixD_zero : ∀ k, fixD 0 k = List.replicate k 48
  | 0 => rfl
  | k + 1 => by rw [fixD, fixD_zero k, List.replicate_succ, Nat.zero_div]; rfl
/-- Digits, so many at least. -/
def padL (n d : Nat) : List UInt8 := List.replicate (d - (decL n).length) 48 ++ decL n
theorem fixD_pad : ∀ (k n : Nat), n < 10 ^ (k + 1) → fixD n (k + 1) = padL n (k + 1)
  | 0, n, h => by
    have h10 : n < 10 := by simpa using h
    unfold padL
    rw [decL_small h10, fixD_snoc]
    simp [fixD, Nat.mod_eq_of_lt h10]
  | k + 1, n, h => by
    rw [fixD_snoc]
    by_cases h10 : n < 10
    · unfold padL
      rw [decL_small h10, show n / 10 = 0 from by omega, fixD_zero, Nat.mod_eq_of_lt h10]; rfl
    · rw [fixD_pad k (n / 10) (by rw [Nat.div_lt_iff_lt_mul (by omega)]; rwa [Nat.pow_succ] at h)]
      unfold padL
      rw [decL_big (n := n) (by omega), List.length_append, List.length_singleton, show k + 1 + 1 - ((decL (n / 10)).length + 1) = k + 1 - (decL (n / 10)).length from by omega, List.append_assoc]
theorem padL_of_ge {n d : Nat} (h : d ≤ (decL n).length) : padL n d = decL n := by
  unfold padL; rw [show d - (decL n).length = 0 from by omega]; rfl
/-- Where the reference's loop ends. -/
theorem fixD_end (n least k : Nat) (hl : 1 ≤ least) (hk : least ≤ k) (h0 : n / 10 ^ k = 0) (h1 : least < k → n / 10 ^ (k - 1) ≠ 0) : fixD n k = padL n least := by
  have hn : n < 10 ^ k := by
    rcases Nat.lt_or_ge n (10 ^ k) with h | h
    · exact h
    · have := (Nat.le_div_iff_mul_le (Nat.pow_pos (by omega : 0 < 10))).2 (by rwa [Nat.one_mul] : 1 * 10 ^ k ≤ n)
      omega
  obtain ⟨j, rfl⟩ : ∃ j, k = j + 1 := ⟨k - 1, by omega⟩
  rw [fixD_pad j n hn]
  by_cases he : least = j + 1
  · rw [he]
  · have h2 : 10 ^ j ≤ n := by
      have := h1 (by omega)
      rw [show j + 1 - 1 = j from rfl] at this
      rcases Nat.lt_or_ge n (10 ^ j) with h | h
      · exact absurd (Nat.div_eq_of_lt h) this
      · exact h
    have h3 := decL_len_ge j n h2
    rw [padL_of_ge h3, padL_of_ge (by omega)]

/-- Digits with zeros ahead, and an error. -/
def padV (n digits : Int) : List UInt8 × Int :=
  if n < 0 ∨ digits < 1 ∨ 20 < digits ∨ digits < ((decL n.toNat).length : Int) then ([], 2) else (padL n.toNat digits.toNat, 0)

/-- May a number be? -/
def checkV (k n : Int) (bare : Bool) : Int :=
  if bare = true ∧ ((k = 2 ∧ -2147483647 ≤ n ∧ n ≤ 2147483647) ∨ (k = 3 ∧ -2147483647000000 ≤ n ∧ n ≤ 2147483647000000)) then 0 else 2

/-- Zeros behind the first digit struck off. -/
def trimR (l : List UInt8) : List UInt8 := (l.reverse.dropWhile (· == 48)).reverse
def trimF (f : List UInt8) : List UInt8 := f.take 1 ++ trimR (f.drop 1)
def absL (k : Int) (n : Nat) : List UInt8 := if k = 2 then decL n else decL (n / 1000000) ++ 46 :: trimF (padL (n % 1000000) 6)
def signL (n : Int) : List UInt8 := if n < 0 then [45] else []
def printV (k n : Int) (bare : Bool) : List UInt8 × Int := if checkV k n bare = 0 then (signL n ++ absL k n.natAbs, 0) else ([], 2)

theorem trimR_snoc (l : List UInt8) : trimR (l ++ [48]) = trimR l := by unfold trimR; simp
theorem trimR_stop (l : List UInt8) (c : UInt8) (h : c ≠ 48) : trimR (l ++ [c]) = l ++ [c] := by
  unfold trimR
  rw [List.reverse_append, List.reverse_singleton, List.singleton_append, List.dropWhile_cons_of_neg (by simpa using h)]
  simp
theorem trimR_zeros (l : List UInt8) : ∃ j, l = trimR l ++ List.replicate j 48 := by
  refine snoc_ind (p := fun l => ∃ j, l = trimR l ++ List.replicate j 48) ⟨0, by simp [trimR]⟩ (fun l c ih => ?_) l
  · by_cases h : c = 48
    · subst h
      obtain ⟨j, hj⟩ := ih
      refine ⟨j + 1, ?_⟩
      rw [trimR_snoc, List.replicate_succ', ← List.append_assoc, ← hj]
    · exact ⟨0, by rw [trimR_stop l c h]; simp⟩
theorem padL_len {n d : Nat} (h : (decL n).length ≤ d) : (padL n d).length = d := by unfold padL; simp; omega
theorem padL_all (n d : Nat) : (padL n d).all isDg = true := by
  unfold padL
  rw [List.all_append, (decL_spec n).1, Bool.and_true, List.all_eq_true]
  intro x hx; rw [List.mem_replicate] at hx; rw [hx.2]; rfl
theorem valD_zl (j : Nat) (l : List UInt8) : valD (List.replicate j 48 ++ l) = valD l := by
  have := valD_zeros [] j
  simp only [List.nil_append, valD_nil, Nat.zero_mul] at this
  unfold valD at *
  rw [decV_append, this]
theorem valD_pad (n d : Nat) : valD (padL n d) = n := by unfold padL; rw [valD_zl, (decL_spec n).2.1]
theorem mil_trimF (m : Nat) (h : m < 1000000) : mil (trimF (padL m 6)) = m ∧ (trimF (padL m 6)).all isDg = true ∧ 1 ≤ (trimF (padL m 6)).length ∧ (trimF (padL m 6)).length ≤ 6 := by
  have hl : (padL m 6).length = 6 := padL_len (by have := decL_len 5 m (by omega); omega)
  have ha := padL_all m 6
  have hv := valD_pad m 6
  generalize padL m 6 = f at *
  obtain ⟨j, hj⟩ := trimR_zeros (f.drop 1)
  have hf : f = trimF f ++ List.replicate j 48 := by
    unfold trimF; rw [List.append_assoc, ← hj, List.take_append_drop]
  have hlen : (trimF f).length + j = 6 := by have := congrArg List.length hf; simpa [hl] using this.symm
  have hal : (trimF f).all isDg = true := by
    rw [hf, List.all_append, Bool.and_eq_true] at ha; exact ha.1
  refine ⟨?_, hal, ?_, by omega⟩
  · rw [mil_short (by omega), show 6 - (trimF f).length = j from by omega, ← valD_zeros, ← hf, hv]
  · unfold trimF; rw [List.length_append, List.length_take]; omega

theorem checkV_cases {k n : Int} {b : Bool} (h : checkV k n b = 0) : b = true ∧ ((k = 2 ∧ -2147483647 ≤ n ∧ n ≤ 2147483647) ∨ (k = 3 ∧ -2147483647000000 ≤ n ∧ n ≤ 2147483647000000)) := by
  unfold checkV at h
  split at h
  · assumption
  · omega
theorem checkV_two {k n : Int} {b : Bool} (h : checkV k n b ≠ 0) : checkV k n b = 2 := by
  unfold checkV at *
  split <;> simp_all

theorem head_dg {l t : List UInt8} (h : l.all isDg = true) (hl : 1 ≤ l.length) : (l ++ t).head? ≠ some 45 ∧ (l ++ t).head? ≠ some 43 := by
  cases l with
  | nil => simp at hl
  | cons x l =>
    have hx : isDg x = true := List.all_eq_true.1 h x List.mem_cons_self
    constructor <;> (intro e; simp at e; subst e; revert hx; decide)
theorem absL_parts (k : Int) (n : Nat) : ∃ l t, absL k n = l ++ t ∧ l.all isDg = true ∧ 1 ≤ l.length := by
  unfold absL
  split
  · exact ⟨decL n, [], by simp, (decL_spec n).1, (decL_spec n).2.2⟩
  · exact ⟨_, _, rfl, (decL_spec _).1, (decL_spec _).2.2⟩
theorem signB (k n : Int) (m : Nat) : signOf (signL n ++ absL k m) = (if n < 0 then -1 else 1) ∧ bodyOf (signL n ++ absL k m) = absL k m := by
  obtain ⟨l, t, he, h1, h2⟩ := absL_parts k m
  unfold signL
  by_cases hn : n < 0
  · rw [if_pos hn, if_pos hn]
    exact ⟨by simp [signOf], by simp [bodyOf]⟩
  · rw [if_neg hn, if_neg hn, List.nil_append, he]
    obtain ⟨a, b⟩ := head_dg (t := t) h1 h2
    exact ⟨by unfold signOf; rw [if_neg a], by unfold bodyOf; rw [if_neg (by rintro (h | h) <;> contradiction)]⟩

/-- What is printed is read. -/
theorem parse_print (k n : Int) (b : Bool) (h : checkV k n b = 0) : parseV (printV k n b).1 = (k, n, 0) := by
  unfold printV
  rw [if_pos h]
  obtain ⟨-, hc⟩ := checkV_cases h
  obtain ⟨s1, s2⟩ := signB k n n.natAbs
  show parseV (signL n ++ absL k n.natAbs) = _
  unfold parseV
  rw [s1, s2]
  obtain ⟨m, hm⟩ : ∃ m, m = n.natAbs := ⟨_, rfl⟩
  rw [← hm]
  have hsg : ∀ x : Nat, x = m → (if n < 0 then (-1 : Int) else 1) * (x : Int) = n := by
    rintro x rfl
    split <;> omega
  rcases hc with ⟨rfl, h1, h2⟩ | ⟨rfl, h1, h2⟩
  · unfold absL
    rw [if_pos rfl, parseB_int _ _ (decL_spec m).1, if_neg (by have := (decL_spec m).2.2; omega), (decL_spec m).2.1, if_neg (by omega), hsg m rfl]
  · unfold absL
    obtain ⟨t1, t2, t3, t4⟩ := mil_trimF (m % 1000000) (by omega)
    rw [if_neg (by decide : ¬ (3 : Int) = 2), parseB_real _ _ _ (decL_spec _).1 t2, if_neg (by omega), (decL_spec _).2.1, t1, if_neg (by omega), hsg _ (by omega)]

/-- What is read may be printed. -/
theorem parseV_check (s : List UInt8) (h : (parseV s).2.2 = 0) : checkV (parseV s).1 (parseV s).2.1 true = 0 := by
  unfold parseV parseB at *
  have hsg : signOf s = 1 ∨ signOf s = -1 := by unfold signOf; split <;> simp
  generalize signOf s = sg at *
  generalize wholeOf (bodyOf s) = w at *
  generalize restOf (bodyOf s) = r at *
  generalize hasPt (bodyOf s) = p at *
  split at h
  · simp at h
  · rename_i c1
    rw [if_neg c1]
    split at h
    · simp at h
    · rename_i c2
      rw [if_neg c2]
      split at h
      · rename_i c3
        rw [if_pos c3]
        unfold checkV
        rw [if_pos]
        refine ⟨rfl, .inl ⟨rfl, ?_⟩⟩
        simp only
        rcases hsg with rfl | rfl <;> omega
      · rename_i c3
        rw [if_neg c3]
        split at h
        · simp at h
        · rename_i c4
          rw [if_neg c4]
          unfold checkV
          rw [if_pos]
          refine ⟨rfl, .inr ⟨rfl, ?_⟩⟩
          simp only
          rcases hsg with rfl | rfl <;> omega
theorem parseV_err (s : List UInt8) (h : (parseV s).2.2 ≠ 0) : (parseV s).1 = 0 ∧ (parseV s).2.1 = 0 := by
  unfold parseV parseB at *
  split at h
  · rename_i c; rw [if_pos c]; exact ⟨rfl, rfl⟩
  · rename_i c1
    rw [if_neg c1]
    split at h
    · rename_i c; rw [if_pos c]; exact ⟨rfl, rfl⟩
    · rename_i c2
      rw [if_neg c2]
      split at h
      · simp at h
      · rename_i c3
        rw [if_neg c3]
        split at h
        · rename_i c; rw [if_pos c]; exact ⟨rfl, rfl⟩
        · simp at h
/-- Digits with zeros ahead come back. -/
theorem digits_pad (n digits : Int) (h : (padV n digits).2 = 0) : 0 ≤ n ∧ ((padV n digits).1.length : Int) = digits ∧ digitsV (padV n digits).1 = if 2147483647 < n then (0, 5) else (n, 0) := by
  unfold padV at *
  split at h
  · simp at h
  · rename_i c
    rw [if_neg c]
    have h1 : 0 ≤ n := by omega
    have hl : (padL n.toNat digits.toNat).length = digits.toNat := padL_len (by omega)
    have hv := valD_pad n.toNat digits.toNat
    have ha := padL_all n.toNat digits.toNat
    have hne : padL n.toNat digits.toNat ≠ [] := by intro e; rw [e] at hl; simp at hl; omega
    refine ⟨h1, by simp only [hl]; omega, ?_⟩
    show digitsV (padL n.toNat digits.toNat) = _
    by_cases h2 : 2147483647 < n
    · rw [if_pos h2, digitsV_over hne ha (by omega)]
    · rw [if_neg h2, digitsV_ok hne ha (by omega), hv]
      congr 1
      omega
end Go.Proofs.YtnkodejgiabamaaGreat
/-
  Plain half of layer 10: space, delimiters, texts, names, tokens.
-/
namespace Go.Proofs.YtnkodejgiabamaaGreat

def isSp (c : UInt8) : Bool := c == 0 || c == 9 || c == 10 || c == 12 || c == 13 || c == 32
def isDl (c : UInt8) : Bool := c == 40 || c == 41 || c == 60 || c == 62 || c == 91 || c == 93 || c == 123 || c == 125 || c == 47 || c == 37
def isRg (c : UInt8) : Bool := !isSp c && !isDl c
def isOc (c : UInt8) : Bool := decide (48 ≤ c.toNat) && decide (c.toNat ≤ 55)
/-- A digit to the base 16; below 0: none. -/
def hexD (c : UInt8) : Int :=
  if 48 ≤ c.toNat ∧ c.toNat ≤ 57 then (c.toNat : Int) - 48 else if 97 ≤ c.toNat ∧ c.toNat ≤ 102 then (c.toNat : Int) - 87 else if 65 ≤ c.toNat ∧ c.toNat ≤ 70 then (c.toNat : Int) - 55 else -1
theorem hexD_bd (c : UInt8) : -1 ≤ hexD c ∧ hexD c ≤ 15 := by
  unfold hexD
  repeat' split
  all_goals omega

/-- How many bytes are space and comments. -/
def skipN : Bool → List UInt8 → Nat
  | _, [] => 0
  | true, c :: l => 1 + skipN (c != 10 && c != 13) l
  | false, c :: l => if c = 37 then 1 + skipN true l else if isSp c = true then 1 + skipN false l else 0
theorem skipN_le : ∀ (b : Bool) (l : List UInt8), skipN b l ≤ l.length
  | _, [] => by simp [skipN]
  | true, c :: l => by have := skipN_le (c != 10 && c != 13) l; simp only [skipN, List.length_cons]; omega
  | false, c :: l => by
    have h1 := skipN_le true l
    have h2 := skipN_le false l
    simp only [skipN, List.length_cons]
    split
    · omega
    · split <;> omega
def skipV (bs : List UInt8) (k : Int) : Nat := if k < 0 then 0 else if (bs.length : Int) ≤ k then bs.length else k.toNat + skipN false (bs.drop k.toNat)
/-- A comment's end is space. -/
theorem skipN_nl {c : UInt8} (l : List UInt8) (h : c = 10 ∨ c = 13) : skipN true (c :: l) = skipN false (c :: l) := by
  rcases h with rfl | rfl <;> simp [skipN, isSp]
theorem skipN_pc (l : List UInt8) : skipN false (37 :: l) = skipN true (37 :: l) := by simp [skipN]

/-- What stands behind a 13 in a text: how many bytes of it go; none: nobody knows. -/
def lineV (last : Bool) : List UInt8 → Option Nat
  | [] => if last then some 0 else none
  | d :: _ => some (if d = 10 then 1 else 0)
/-- One to three digits: a byte, and how many there are. -/
def octV (last : Bool) (c : UInt8) : List UInt8 → Option (Nat × Nat)
  | [] => if last then some (c.toNat - 48, 1) else none
  | d :: t => if isOc d = true then
      (match t with
        | [] => if last then some (8 * (c.toNat - 48) + (d.toNat - 48), 2) else none
        | e :: _ => if isOc e = true then some (8 * (8 * (c.toNat - 48) + (d.toNat - 48)) + (e.toNat - 48), 3) else some (8 * (c.toNat - 48) + (d.toNat - 48), 2))
    else some (c.toNat - 48, 1)
/-- What stands behind a backslash: bytes, and how many go. -/
def escV (last : Bool) : List UInt8 → Option (List UInt8 × Nat)
  | [] => none
  | c :: t =>
    if c = 110 then some ([10], 1) else if c = 114 then some ([13], 1) else if c = 116 then some ([9], 1) else if c = 98 then some ([8], 1) else if c = 102 then some ([12], 1)
    else if isOc c = true then (octV last c t).map fun x => ([UInt8.ofNat x.1], x.2)
    else if c = 10 then some ([], 1)
    else if c = 13 then (lineV last t).map fun k => ([], k + 1)
    else some ([c], 1)
/-- A text in brackets, behind the first: its bytes, and what stands behind it. -/
def textV (last : Bool) (deep : Nat) (out : List UInt8) (l : List UInt8) : Option (List UInt8 × List UInt8) :=
  match l with
  | [] => none
  | c :: t =>
    if c = 92 then (match escV last t with | none => none | some (x, k) => textV last deep (out ++ x) (t.drop k))
    else if c = 13 then (match lineV last t with | none => none | some k => textV last deep (out ++ [10]) (t.drop k))
    else if c = 40 then textV last (deep + 1) (out ++ [c]) t
    else if c = 41 then (if deep = 1 then some (out, t) else textV last (deep - 1) (out ++ [c]) t)
    else textV last deep (out ++ [c]) t
termination_by l.length
decreasing_by all_goals (simp only [List.length_cons, List.length_drop]; omega)
/-- A text in hex, behind the first: 0, its bytes, what stands behind it; 1: it is open; 11: of another form. -/
def hexV (out : List UInt8) (half : Int) : List UInt8 → Int × List UInt8 × List UInt8
  | [] => (1, [], [])
  | c :: t =>
    if c = 62 then (0, if 0 ≤ half then out ++ [UInt8.ofNat (16 * half).toNat] else out, t)
    else if isSp c = true then hexV out half t
    else if hexD c < 0 then (11, [], [])
    else if half < 0 then hexV out (hexD c) t
    else hexV (out ++ [UInt8.ofNat (16 * half + hexD c).toNat]) (-1) t
/-- A name's bytes. -/
def nameGo (out : List UInt8) : List UInt8 → Option (List UInt8)
  | [] => some out
  | c :: t => if c = 35 then
      (match t with
        | x :: y :: u => if hexD x < 0 ∨ hexD y < 0 then none else nameGo (out ++ [UInt8.ofNat (16 * hexD x + hexD y).toNat]) u
        | _ => none)
    else nameGo (out ++ [c]) t
def nameV (w : List UInt8) : Option (List UInt8) := match nameGo [] w with | none => none | some o => if 127 < o.length ∨ (0 : UInt8) ∈ o then none else some o

/-- A token: its kind, its value's kind, number, text, its own text. -/
structure Tk where
  kind : Int
  vk : Int := 0
  vn : Int := 0
  vs : List UInt8 := []
  s : List UInt8 := []
deriving DecidableEq
def openE (last : Bool) : Int := if last then 10 else 6
/-- What begins with a byte: an error, or a token and what stands behind it. -/
def tokV (last : Bool) (c : UInt8) (t : List UInt8) : Int × Tk × List UInt8 :=
  if isRg c = true then
    (let w := (c :: t).takeWhile isRg; let r := (c :: t).dropWhile isRg
     if r = [] ∧ last = false then (6, { kind := 0 }, [])
     else if isDg c = true ∨ c = 43 ∨ c = 45 ∨ c = 46 then ((parseV w).2.2, { kind := 1, vk := (parseV w).1, vn := (parseV w).2.1 }, r)
     else (0, { kind := 6, s := w }, r))
  else if c = 91 then (0, { kind := 2 }, t)
  else if c = 93 then (0, { kind := 3 }, t)
  else if c = 60 then
    (match t with
      | [] => (openE last, { kind := 0 }, [])
      | d :: u => if d = 60 then (0, { kind := 4 }, u) else
        (match hexV [] (-1) (d :: u) with
          | (e, x, r) => if e = 0 then (0, { kind := 1, vk := 4, vs := x }, r) else if e = 1 then (openE last, { kind := 0 }, []) else (11, { kind := 0 }, [])))
  else if c = 62 then
    (match t with
      | [] => (if last then 11 else 6, { kind := 0 }, [])
      | d :: u => if d = 62 then (0, { kind := 5 }, u) else (11, { kind := 0 }, []))
  else if c = 40 then
    (match textV last 1 [] t with
      | none => (openE last, { kind := 0 }, [])
      | some (x, r) => (0, { kind := 1, vk := 4, vs := x }, r))
  else if c = 47 then
    (let w := t.takeWhile isRg; let r := t.dropWhile isRg
     if r = [] ∧ last = false then (6, { kind := 0 }, [])
     else match nameV w with
      | none => (17, { kind := 0 }, [])
      | some o => (0, { kind := 1, vk := 5, vs := o }, r))
  else (11, { kind := 0 }, [])
/-- The token that stands from a place on: the token, from, to, error. -/
def nextV (bs : List UInt8) (k : Int) (last : Bool) : Tk × Int × Int × Int :=
  if k < 0 ∨ (bs.length : Int) < k then ({ kind := 0 }, 0, 0, 2)
  else
    (let f := skipV bs k
     match bs.drop f with
      | [] => ({ kind := 0 }, (f : Int), (f : Int), if last then 0 else 6)
      | c :: t =>
        (match tokV last c t with
          | (e, x, r) => if e = 0 then (x, (f : Int), (bs.length : Int) - (r.length : Int), 0) else ({ kind := 0 }, (f : Int), (f : Int), e)))
end Go.Proofs.YtnkodejgiabamaaGreat
/-
  Plain half of LexPlaces and LexStays: where a token lies; what is told of the first bytes is told of more.
-/
namespace Go.Proofs.YtnkodejgiabamaaGreat

theorem skipN_idem : ∀ (b : Bool) (l : List UInt8), skipN false (l.drop (skipN b l)) = 0
  | _, [] => by simp [skipN]
  | true, c :: l => by
    simp only [skipN]
    rw [Nat.add_comm, List.drop_succ_cons]; exact skipN_idem _ l
  | false, c :: l => by
    by_cases h : c = 37
    · rw [skipN, if_pos h, Nat.add_comm, List.drop_succ_cons]; exact skipN_idem _ l
    · by_cases h2 : isSp c = true
      · rw [skipN, if_neg h, if_pos h2, Nat.add_comm, List.drop_succ_cons]; exact skipN_idem _ l
      · rw [skipN, if_neg h, if_neg h2, List.drop_zero, skipN, if_neg h, if_neg h2]
theorem skipV_bd {bs : List UInt8} {k : Int} (h : 0 ≤ k) (h2 : k ≤ bs.length) : k ≤ (skipV bs k : Nat) ∧ skipV bs k ≤ bs.length := by
  unfold skipV
  rw [if_neg (by omega)]
  split
  · omega
  · have := skipN_le false (bs.drop k.toNat)
    rw [List.length_drop] at this; omega
theorem skipV_idem {bs : List UInt8} {k : Int} (h : 0 ≤ k) (h2 : k ≤ bs.length) : skipV bs (skipV bs k : Nat) = skipV bs k := by
  have hb := skipV_bd h h2
  by_cases h3 : (bs.length : Int) ≤ (skipV bs k : Nat)
  · have e : skipV bs k = bs.length := by omega
    rw [e]; unfold skipV; rw [if_neg (by omega), if_pos (by omega)]
  · have e : skipV bs k = k.toNat + skipN false (bs.drop k.toNat) := by
      unfold skipV
      rw [if_neg (by omega), if_neg (by omega)]
    have e3 : skipN false (bs.drop (skipV bs k)) = 0 := by
      rw [e, ← List.drop_drop]
      exact skipN_idem false _
    have gen : ∀ f : Nat, ¬ (bs.length : Int) ≤ (f : Int) → skipN false (bs.drop f) = 0 → skipV bs (f : Int) = f := fun f h1 h2 => by
      unfold skipV
      rw [if_neg (by omega), if_neg h1, Int.toNat_natCast, h2]; rfl
    exact gen _ h3 e3

/-- Of a longer list nothing else, if it stops within. -/
theorem skipN_more : ∀ (b : Bool) (l u : List UInt8), skipN b l < l.length → skipN b (l ++ u) = skipN b l
  | _, [], u => by simp
  | true, c :: l, u => by
    intro h
    simp only [skipN, List.cons_append, List.length_cons] at h ⊢
    rw [skipN_more _ l u (by omega)]
  | false, c :: l, u => by
    intro h
    rw [List.cons_append]
    by_cases h1 : c = 37
    · rw [skipN, if_pos h1] at h ⊢
      rw [skipN, if_pos h1, skipN_more _ l u (by simp at h; omega)]
    · by_cases h2 : isSp c = true
      · rw [skipN, if_neg h1, if_pos h2] at h ⊢
        rw [skipN, if_neg h1, if_pos h2, skipN_more _ l u (by simp at h; omega)]
      · rw [skipN, if_neg h1, if_neg h2, skipN, if_neg h1, if_neg h2]

theorem lineV_more {t u : List UInt8} {last : Bool} {k : Nat} (h : lineV false t = some k) : lineV last (t ++ u) = some k ∧ k ≤ t.length := by
  cases t with
  | nil => simp [lineV] at h
  | cons d t =>
    simp only [lineV, List.cons_append, Option.some.injEq, List.length_cons] at h ⊢
    refine ⟨h, ?_⟩
    subst h; split <;> omega
theorem octV_more {c : UInt8} {t u : List UInt8} {last : Bool} {x : Nat × Nat} (h : octV false c t = some x) : octV last c (t ++ u) = some x ∧ x.2 ≤ t.length + 1 := by
  rcases t with _ | ⟨d, _ | ⟨e, t⟩⟩
  · simp [octV] at h
  · by_cases hd : isOc d = true
    · simp [octV, hd] at h
    · simp only [octV, List.cons_append, if_neg hd] at h ⊢
      refine ⟨h, ?_⟩
      cases h; simp
  · by_cases hd : isOc d = true
    · simp only [octV, List.cons_append, if_pos hd] at h ⊢
      refine ⟨h, ?_⟩
      split at h <;> (cases h; simp)
    · simp only [octV, List.cons_append, if_neg hd] at h ⊢
      refine ⟨h, ?_⟩
      cases h; simp
theorem escV_more {t u : List UInt8} {last : Bool} {x : List UInt8 × Nat} (h : escV false t = some x) : escV last (t ++ u) = some x ∧ x.2 ≤ t.length := by
  cases t with
  | nil => simp [escV] at h
  | cons c t =>
    rw [List.cons_append]
    unfold escV at h ⊢
    simp only [List.length_cons] at h ⊢
    by_cases h1 : c = 110
    · rw [if_pos h1] at h ⊢; refine ⟨h, ?_⟩; cases h; simp
    rw [if_neg h1] at h ⊢
    by_cases h2 : c = 114
    · rw [if_pos h2] at h ⊢; refine ⟨h, ?_⟩; cases h; simp
    rw [if_neg h2] at h ⊢
    by_cases h3 : c = 116
    · rw [if_pos h3] at h ⊢; refine ⟨h, ?_⟩; cases h; simp
    rw [if_neg h3] at h ⊢
    by_cases h4 : c = 98
    · rw [if_pos h4] at h ⊢; refine ⟨h, ?_⟩; cases h; simp
    rw [if_neg h4] at h ⊢
    by_cases h5 : c = 102
    · rw [if_pos h5] at h ⊢; refine ⟨h, ?_⟩; cases h; simp
    rw [if_neg h5] at h ⊢
    by_cases h6 : isOc c = true
    · rw [if_pos h6] at h ⊢
      obtain ⟨y, hy, rfl⟩ := Option.map_eq_some_iff.1 h
      obtain ⟨h7, h8⟩ := octV_more (u := u) (last := last) hy
      rw [h7]
      exact ⟨rfl, h8⟩
    rw [if_neg h6] at h ⊢
    by_cases h7 : c = 10
    · rw [if_pos h7] at h ⊢; refine ⟨h, ?_⟩; cases h; simp
    rw [if_neg h7] at h ⊢
    by_cases h8 : c = 13
    · rw [if_pos h8] at h ⊢
      obtain ⟨y, hy, rfl⟩ := Option.map_eq_some_iff.1 h
      obtain ⟨h7, h8⟩ := lineV_more (u := u) (last := last) hy
      rw [h7]
      exact ⟨rfl, by simp; omega⟩
    rw [if_neg h8] at h ⊢
    refine ⟨h, ?_⟩; cases h; simp
theorem textV_more (last : Bool) (u : List UInt8) : ∀ (n : Nat) (l : List UInt8), l.length ≤ n → ∀ (deep : Nat) (out x r : List UInt8), textV false deep out l = some (x, r) → textV last deep out (l ++ u) = some (x, r ++ u) ∧ r.length < l.length := by
  intro n
  induction n with
  | zero =>
    intro l hl deep out x r h
    obtain rfl : l = [] := List.eq_nil_of_length_eq_zero (by omega)
    rw [textV] at h; cases h
  | succ n ih =>
    intro l hl deep out x r h
    cases l with
    | nil => rw [textV] at h; cases h
    | cons c t =>
      simp only [List.length_cons] at hl ⊢
      rw [List.cons_append]
      rw [textV.eq_def] at h ⊢
      simp only at h ⊢
      by_cases h1 : c = 92
      · rw [if_pos h1] at h ⊢
        cases he : escV false t with
        | none => rw [he] at h; cases h
        | some y =>
          obtain ⟨a, k⟩ := y
          rw [he] at h
          obtain ⟨h7, h8⟩ := escV_more (u := u) (last := last) he
          rw [h7]
          simp only at h h8 ⊢
          obtain ⟨g1, g2⟩ := ih (t.drop k) (by rw [List.length_drop]; omega) _ _ _ _ h
          rw [List.drop_append_of_le_length h8]
          rw [List.length_drop] at g2
          exact ⟨g1, by omega⟩
      rw [if_neg h1] at h ⊢
      by_cases h2 : c = 13
      · rw [if_pos h2] at h ⊢
        cases he : lineV false t with
        | none => rw [he] at h; cases h
        | some k =>
          rw [he] at h
          obtain ⟨h7, h8⟩ := lineV_more (u := u) (last := last) he
          rw [h7]
          simp only at h ⊢
          obtain ⟨g1, g2⟩ := ih (t.drop k) (by rw [List.length_drop]; omega) _ _ _ _ h
          rw [List.drop_append_of_le_length h8]
          rw [List.length_drop] at g2
          exact ⟨g1, by omega⟩
      rw [if_neg h2] at h ⊢
      by_cases h3 : c = 40
      · rw [if_pos h3] at h ⊢
        obtain ⟨g1, g2⟩ := ih t (by omega) _ _ _ _ h
        exact ⟨g1, by omega⟩
      rw [if_neg h3] at h ⊢
      by_cases h4 : c = 41
      · rw [if_pos h4] at h ⊢
        by_cases h5 : deep = 1
        · rw [if_pos h5] at h ⊢
          cases h
          exact ⟨rfl, by omega⟩
        · rw [if_neg h5] at h ⊢
          obtain ⟨g1, g2⟩ := ih t (by omega) _ _ _ _ h
          exact ⟨g1, by omega⟩
      rw [if_neg h4] at h ⊢
      obtain ⟨g1, g2⟩ := ih t (by omega) _ _ _ _ h
      exact ⟨g1, by omega⟩
theorem hexV_more (u : List UInt8) : ∀ (l : List UInt8) (out : List UInt8) (half : Int), ((hexV out half l).1 = 0 → hexV out half (l ++ u) = (0, (hexV out half l).2.1, (hexV out half l).2.2 ++ u) ∧ (hexV out half l).2.2.length < l.length) ∧
    ((hexV out half l).1 ≠ 0 → (hexV out half l).1 ≠ 1 → (hexV out half l).1 = 11 ∧ hexV out half (l ++ u) = (11, [], []))
  | [], out, half => by simp [hexV]
  | c :: t, out, half => by
    rw [List.cons_append]
    simp only [hexV, List.length_cons]
    by_cases h1 : c = 62
    · simp only [if_pos h1]
      exact ⟨fun _ => ⟨by simp, by omega⟩, fun h => absurd rfl h⟩
    simp only [if_neg h1]
    by_cases h2 : isSp c = true
    · simp only [if_pos h2]
      obtain ⟨g1, g2⟩ := hexV_more u t out half
      exact ⟨fun h => ⟨(g1 h).1, by have := (g1 h).2; omega⟩, g2⟩
    simp only [if_neg h2]
    by_cases h3 : hexD c < 0
    · simp only [if_pos h3]
      exact ⟨fun h => by simp at h, fun _ _ => ⟨by simp, by simp⟩⟩
    simp only [if_neg h3]
    by_cases h4 : half < 0
    · simp only [if_pos h4]
      obtain ⟨g1, g2⟩ := hexV_more u t out (hexD c)
      exact ⟨fun h => ⟨(g1 h).1, by have := (g1 h).2; omega⟩, g2⟩
    simp only [if_neg h4]
    obtain ⟨g1, g2⟩ := hexV_more u t (out ++ [UInt8.ofNat (16 * half + hexD c).toNat]) (-1)
    exact ⟨fun h => ⟨(g1 h).1, by have := (g1 h).2; omega⟩, g2⟩
theorem hexV_err : ∀ (l : List UInt8) (out : List UInt8) (half : Int), (hexV out half l).1 = 0 ∨ (hexV out half l).1 = 1 ∨ (hexV out half l).1 = 11
  | [], out, half => by simp [hexV]
  | c :: t, out, half => by
    simp only [hexV]
    split
    · exact .inl rfl
    · split
      · exact hexV_err t _ _
      · split
        · exact .inr (.inr rfl)
        · split
          · exact hexV_err t _ _
          · exact hexV_err t _ _
theorem while_more (p : UInt8 → Bool) (u : List UInt8) : ∀ (l : List UInt8), l.dropWhile p ≠ [] → (l ++ u).takeWhile p = l.takeWhile p ∧ (l ++ u).dropWhile p = l.dropWhile p ++ u
  | [] => by simp
  | c :: t => by
    intro h
    rw [List.cons_append]
    by_cases hp : p c = true
    · rw [List.dropWhile_cons_of_pos hp] at h
      obtain ⟨g1, g2⟩ := while_more p u t h
      rw [List.takeWhile_cons_of_pos hp, List.dropWhile_cons_of_pos hp, List.takeWhile_cons_of_pos hp, List.dropWhile_cons_of_pos hp, g1, g2]
      exact ⟨rfl, rfl⟩
    · rw [List.takeWhile_cons_of_neg hp, List.dropWhile_cons_of_neg hp, List.takeWhile_cons_of_neg hp, List.dropWhile_cons_of_neg hp]
      exact ⟨rfl, rfl⟩
theorem drop_len (p : UInt8 → Bool) (l : List UInt8) : (l.dropWhile p).length ≤ l.length := List.Sublist.length_le (List.dropWhile_sublist _)

/-- The token of the first bytes, if no more are needed, is the token of all; it is not empty. -/
theorem tokV_more (last : Bool) (c : UInt8) (t u : List UInt8) :
    ((tokV false c t).1 = 0 → tokV last c (t ++ u) = (0, (tokV false c t).2.1, (tokV false c t).2.2 ++ u)) ∧ ((tokV false c t).1 ≠ 0 → (tokV false c t).1 ≠ 6 → (tokV last c (t ++ u)).1 = (tokV false c t).1) := by
  by_cases hr : isRg c = true
  · have hc : tokV false c t = if (c :: t).dropWhile isRg = [] ∧ false = false then (6, { kind := 0 }, []) else if isDg c = true ∨ c = 43 ∨ c = 45 ∨ c = 46 then ((parseV ((c :: t).takeWhile isRg)).2.2, { kind := 1, vk := (parseV ((c :: t).takeWhile isRg)).1, vn := (parseV ((c :: t).takeWhile isRg)).2.1 }, (c :: t).dropWhile isRg) else (0, { kind := 6, s := (c :: t).takeWhile isRg }, (c :: t).dropWhile isRg) := by
      unfold tokV; rw [if_pos hr]
    have hc2 : tokV last c (t ++ u) = if (c :: (t ++ u)).dropWhile isRg = [] ∧ last = false then (6, { kind := 0 }, []) else if isDg c = true ∨ c = 43 ∨ c = 45 ∨ c = 46 then ((parseV ((c :: (t ++ u)).takeWhile isRg)).2.2, { kind := 1, vk := (parseV ((c :: (t ++ u)).takeWhile isRg)).1, vn := (parseV ((c :: (t ++ u)).takeWhile isRg)).2.1 }, (c :: (t ++ u)).dropWhile isRg) else (0, { kind := 6, s := (c :: (t ++ u)).takeWhile isRg }, (c :: (t ++ u)).dropWhile isRg) := by
      unfold tokV; rw [if_pos hr]
    by_cases h0 : (c :: t).dropWhile isRg = []
    · rw [hc, if_pos ⟨h0, rfl⟩]
      exact ⟨fun h => by simp at h, fun _ h => absurd rfl h⟩
    · obtain ⟨g1, g2⟩ := while_more isRg u _ h0
      rw [List.cons_append] at g1 g2
      rw [hc, hc2, g1, g2, if_neg (show ¬ ((c :: t).dropWhile isRg = [] ∧ false = false) from fun h => h0 h.1), if_neg (show ¬ ((c :: t).dropWhile isRg ++ u = [] ∧ last = false) from fun h => h0 (List.append_eq_nil_iff.1 h.1).1)]
      by_cases hd : isDg c = true ∨ c = 43 ∨ c = 45 ∨ c = 46
      · rw [if_pos hd, if_pos hd]
        exact ⟨fun h => by rw [show (parseV (List.takeWhile isRg (c :: t))).2.2 = 0 from h], fun _ _ => rfl⟩
      · rw [if_neg hd, if_neg hd]
        exact ⟨fun _ => rfl, fun _ _ => rfl⟩
  · unfold tokV
    rw [if_neg hr, if_neg hr]
    by_cases h1 : c = 91
    · rw [if_pos h1, if_pos h1]; exact ⟨fun _ => rfl, fun _ _ => rfl⟩
    rw [if_neg h1, if_neg h1]
    by_cases h2 : c = 93
    · rw [if_pos h2, if_pos h2]; exact ⟨fun _ => rfl, fun _ _ => rfl⟩
    rw [if_neg h2, if_neg h2]
    by_cases h3 : c = 60
    · rw [if_pos h3, if_pos h3]
      cases t with
      | nil => exact ⟨fun h => by simp [openE] at h, fun _ h => by simp [openE] at h⟩
      | cons d t =>
        simp only [List.cons_append]
        by_cases hd : d = 60
        · rw [if_pos hd, if_pos hd]; exact ⟨fun _ => rfl, fun _ _ => rfl⟩
        rw [if_neg hd, if_neg hd]
        obtain ⟨g1, g2⟩ := hexV_more u (d :: t) [] (-1)
        have g3 := hexV_err (d :: t) [] (-1)
        rw [List.cons_append] at g1 g2
        obtain ⟨H, hH⟩ : ∃ H, hexV [] (-1) (d :: t) = H := ⟨_, rfl⟩
        rw [hH] at g1 g2 g3 ⊢
        obtain ⟨e, x, r⟩ := H
        simp only at g1 g2 g3 ⊢
        rcases g3 with rfl | rfl | rfl
        · rw [(g1 rfl).1, if_pos rfl]
          exact ⟨fun _ => rfl, fun h => absurd rfl h⟩
        · rw [if_neg (by decide), if_pos rfl]
          exact ⟨fun h => by simp [openE] at h, fun _ h => by simp [openE] at h⟩
        · rw [(g2 (by decide) (by decide)).2, if_neg (by decide), if_neg (by decide)]
          exact ⟨fun h => by simp at h, fun _ _ => rfl⟩
    rw [if_neg h3, if_neg h3]
    by_cases h4 : c = 62
    · rw [if_pos h4, if_pos h4]
      cases t with
      | nil => exact ⟨fun h => by simp at h, fun _ h => by simp at h⟩
      | cons d t =>
        simp only [List.cons_append]
        by_cases hd : d = 62
        · rw [if_pos hd, if_pos hd]; exact ⟨fun _ => rfl, fun _ _ => rfl⟩
        · rw [if_neg hd, if_neg hd]; exact ⟨fun h => by simp at h, fun _ _ => rfl⟩
    rw [if_neg h4, if_neg h4]
    by_cases h5 : c = 40
    · rw [if_pos h5, if_pos h5]
      cases he : textV false 1 [] t with
      | none => exact ⟨fun h => by simp [openE] at h, fun _ h => by simp [openE] at h⟩
      | some y =>
        obtain ⟨x, r⟩ := y
        rw [(textV_more last u _ t (Nat.le_refl _) _ _ _ _ he).1]
        exact ⟨fun _ => rfl, fun h => absurd rfl h⟩
    rw [if_neg h5, if_neg h5]
    by_cases h6 : c = 47
    · rw [if_pos h6, if_pos h6]
      simp only
      by_cases h0 : t.dropWhile isRg = []
      · rw [if_pos (show t.dropWhile isRg = [] ∧ True from ⟨h0, trivial⟩)]
        exact ⟨fun h => by simp at h, fun _ h => absurd rfl h⟩
      · obtain ⟨g1, g2⟩ := while_more isRg u _ h0
        rw [g1, g2, if_neg (fun h => h0 h.1), if_neg (fun h => h0 (List.append_eq_nil_iff.1 h.1).1)]
        cases nameV (t.takeWhile isRg) with
        | none => exact ⟨fun h => by simp at h, fun _ _ => rfl⟩
        | some o => exact ⟨fun _ => rfl, fun _ _ => rfl⟩
    rw [if_neg h6, if_neg h6]
    exact ⟨fun h => by simp at h, fun _ _ => rfl⟩
theorem textV_len (last : Bool) : ∀ (n : Nat) (l : List UInt8), l.length ≤ n → ∀ (deep : Nat) (out x r : List UInt8), textV last deep out l = some (x, r) → r.length < l.length := by
  intro n
  induction n with
  | zero =>
    intro l hl deep out x r h
    obtain rfl : l = [] := List.eq_nil_of_length_eq_zero (by omega)
    rw [textV] at h; cases h
  | succ n ih =>
    intro l hl deep out x r h
    cases l with
    | nil => rw [textV] at h; cases h
    | cons c t =>
      simp only [List.length_cons] at hl ⊢
      rw [textV.eq_def] at h
      simp only at h
      split at h
      · split at h
        · cases h
        · have := ih _ (by rw [List.length_drop]; omega) _ _ _ _ h
          rw [List.length_drop] at this; omega
      · split at h
        · split at h
          · cases h
          · have := ih _ (by rw [List.length_drop]; omega) _ _ _ _ h
            rw [List.length_drop] at this; omega
        · split at h
          · have := ih _ (by omega) _ _ _ _ h
            omega
          · split at h
            · split at h
              · cases h; omega
              · have := ih _ (by omega) _ _ _ _ h
                omega
            · have := ih _ (by omega) _ _ _ _ h
              omega
/-- A token is some, and takes its bytes. -/
theorem tokV_some (last : Bool) (c : UInt8) (t : List UInt8) (h : (tokV last c t).1 = 0) : (tokV last c t).2.1.kind ≠ 0 ∧ (tokV last c t).2.2.length ≤ t.length := by
  obtain ⟨V, hV⟩ : ∃ V, tokV last c t = V := ⟨_, rfl⟩
  rw [hV] at h ⊢
  unfold tokV at hV
  split at hV
  · next hr =>
    have hd : ((c :: t).dropWhile isRg).length ≤ t.length := by rw [List.dropWhile_cons_of_pos hr]; exact drop_len _ _
    simp only at hV
    split at hV
    · subst hV; simp at h
    · split at hV
      · subst hV; exact ⟨by simp, hd⟩
      · subst hV; exact ⟨by simp, hd⟩
  split at hV
  · subst hV; exact ⟨by simp, Nat.le_refl _⟩
  split at hV
  · subst hV; exact ⟨by simp, Nat.le_refl _⟩
  split at hV
  · cases t with
    | nil => subst hV; cases last <;> simp [openE] at h
    | cons d t =>
      simp only at hV
      split at hV
      · subst hV; exact ⟨by simp, by simp⟩
      · have hx := (hexV_more [] (d :: t) [] (-1)).1
        split at hV
        · subst hV
          exact ⟨by simp, Nat.le_of_lt (hx ‹_›).2⟩
        · split at hV
          · subst hV; cases last <;> simp [openE] at h
          · subst hV; simp at h
  split at hV
  · cases t with
    | nil => subst hV; cases last <;> simp at h
    | cons d t =>
      simp only at hV
      split at hV
      · subst hV; exact ⟨by simp, by simp⟩
      · subst hV; simp at h
  split at hV
  · cases he : textV last 1 [] t with
    | none => rw [he] at hV; subst hV; cases last <;> simp [openE] at h
    | some y =>
      obtain ⟨x, r⟩ := y
      rw [he] at hV
      subst hV
      exact ⟨by simp, by have := textV_len last _ t (Nat.le_refl _) _ _ _ _ he; simp only; omega⟩
  split at hV
  · simp only at hV
    split at hV
    · subst hV; simp at h
    · split at hV
      · subst hV; simp at h
      · subst hV; exact ⟨by simp, drop_len _ _⟩
  · subst hV; simp at h

/-- The token that stands at a place where no space is. -/
def nextF (bs : List UInt8) (f : Nat) (last : Bool) : Tk × Int × Int × Int :=
  match bs.drop f with
  | [] => ({ kind := 0 }, (f : Int), (f : Int), if last then 0 else 6)
  | c :: t => if (tokV last c t).1 = 0 then ((tokV last c t).2.1, (f : Int), (bs.length : Int) - ((tokV last c t).2.2.length : Int), 0) else ({ kind := 0 }, (f : Int), (f : Int), (tokV last c t).1)
theorem nextV_in {bs : List UInt8} {k : Int} (last : Bool) (h : 0 ≤ k) (h2 : k ≤ bs.length) : nextV bs k last = nextF bs (skipV bs k) last := by
  have h3 : ¬ (k < 0 ∨ (bs.length : Int) < k) := by omega
  unfold nextV
  rw [if_neg h3]
  show (match bs.drop (skipV bs k) with | [] => _ | c :: t => _) = _
  unfold nextF
  cases bs.drop (skipV bs k) <;> rfl
theorem nextF_nil {bs : List UInt8} {f : Nat} (last : Bool) (h : bs.drop f = []) : nextF bs f last = ({ kind := 0 }, (f : Int), (f : Int), if last then 0 else 6) := by unfold nextF; rw [h]
theorem nextF_cons {bs : List UInt8} {f : Nat} (last : Bool) {c : UInt8} {t : List UInt8} (h : bs.drop f = c :: t) : nextF bs f last = if (tokV last c t).1 = 0 then ((tokV last c t).2.1, (f : Int), (bs.length : Int) - ((tokV last c t).2.2.length : Int), 0) else ({ kind := 0 }, (f : Int), (f : Int), (tokV last c t).1) := by unfold nextF; rw [h]
/-- What LexPlaces asks. -/
theorem nextV_places {bs : List UInt8} {k : Int} (last : Bool) (h : 0 ≤ k) (h2 : k ≤ bs.length) :
    ((nextV bs k last).2.2.2 ≠ 0 → (nextV bs k last).1 = { kind := 0 } ∧ (nextV bs k last).2.1 = (nextV bs k last).2.2.1 ∧ k ≤ (nextV bs k last).2.1 ∧ (nextV bs k last).2.1 ≤ bs.length) ∧
    ((nextV bs k last).2.2.2 = 0 → (nextV bs k last).1.kind = 0 → last = true ∧ (nextV bs k last).2.1 = bs.length ∧ (nextV bs k last).2.2.1 = bs.length) ∧
    ((nextV bs k last).2.2.2 = 0 → (nextV bs k last).1.kind ≠ 0 → nextV bs (nextV bs k last).2.1 last = nextV bs k last ∧ k ≤ (nextV bs k last).2.1 ∧ (nextV bs k last).2.1 < (nextV bs k last).2.2.1 ∧ (nextV bs k last).2.2.1 ≤ bs.length) := by
  obtain ⟨hb1, hb2⟩ := skipV_bd h h2
  have hi := skipV_idem h h2
  have hV := nextV_in (bs := bs) last h h2
  have hV2 := nextV_in (bs := bs) (k := (skipV bs k : Nat)) last (by omega) (by omega)
  rw [hi] at hV2
  generalize skipV bs k = f at *
  rw [hV]
  cases hd : bs.drop f with
  | nil =>
    have hn := nextF_nil last hd
    rw [hn] at hV2 ⊢
    have hfl : f = bs.length := by have := List.drop_eq_nil_iff.1 hd; omega
    refine ⟨fun _ => ⟨rfl, rfl, hb1, by simp only; omega⟩, fun h0 _ => ⟨?_, by simp only; omega, by simp only; omega⟩, fun _ h => absurd rfl h⟩
    cases last
    · simp at h0
    · rfl
  | cons c t =>
    have hn := nextF_cons last hd
    have hlen : f + (t.length + 1) = bs.length := by
      have := congrArg List.length hd
      rw [List.length_drop, List.length_cons] at this; omega
    by_cases h0 : (tokV last c t).1 = 0
    · obtain ⟨g1, g2⟩ := tokV_some last c t h0
      rw [if_pos h0] at hn
      rw [hn] at hV2 ⊢
      generalize tokV last c t = T at *
      obtain ⟨e, x, r⟩ := T
      simp only at g1 g2 hV2 ⊢
      exact ⟨fun h => absurd rfl h, fun _ h => absurd h g1, fun _ _ => ⟨hV2, hb1, by omega, by omega⟩⟩
    · rw [if_neg h0] at hn
      rw [hn]
      exact ⟨fun _ => ⟨rfl, rfl, hb1, by simp only; omega⟩, fun h => absurd h h0, fun h => absurd h h0⟩

theorem nextV_gen {l : List UInt8} (u : List UInt8) (la : Bool) {k : Int} (h : 0 ≤ k) (hk : k ≤ l.length) (h6 : (nextV l k false).2.2.2 ≠ 6) : nextV (l ++ u) k la = nextV l k false := by
  obtain ⟨hb1, hb2⟩ := skipV_bd h hk
  have hV := nextV_in (bs := l) false h hk
  have hV2 := nextV_in (bs := l ++ u) la h (by rw [List.length_append]; omega)
  by_cases hl : skipV l k = l.length
  · exfalso; apply h6
    rw [hV, hl, nextF_nil false (by simp)]
    rfl
  · have hkl : k < l.length := by omega
    have e : skipV l k = k.toNat + skipN false (l.drop k.toNat) := by
      unfold skipV; rw [if_neg (by omega), if_neg (by omega)]
    have e2 : skipV (l ++ u) k = skipV l k := by
      rw [e]; unfold skipV
      rw [if_neg (by omega), if_neg (by rw [List.length_append]; omega), List.drop_append_of_le_length (by omega), skipN_more _ _ _ (by rw [List.length_drop]; omega)]
    rw [e2] at hV2
    rw [hV] at h6
    rw [hV, hV2]
    clear hV hV2 e e2
    generalize skipV l k = f at *
    cases hd : l.drop f with
    | nil => have := List.drop_eq_nil_iff.1 hd; omega
    | cons c t =>
      have hd2 : (l ++ u).drop f = c :: (t ++ u) := by rw [List.drop_append_of_le_length (by omega), hd]; rfl
      have hn := nextF_cons false hd
      rw [nextF_cons la hd2, hn]
      rw [hn] at h6
      obtain ⟨g1, g2⟩ := tokV_more la c t u
      by_cases h0 : (tokV false c t).1 = 0
      · rw [g1 h0, if_pos rfl, if_pos h0]
        simp only
        rw [List.length_append, List.length_append]
        congr 3; omega
      · rw [if_neg h0] at h6
        have g3 := g2 h0 h6
        rw [if_neg (by rw [g3]; exact h0), if_neg h0, g3]
/-- What LexStays asks. -/
theorem nextV_stays {bs : List UInt8} {n : Nat} {k : Int} (last : Bool) (h : 0 ≤ k) (h2 : k ≤ n) (hn : n ≤ bs.length) (h6 : (nextV (bs.take n) k false).2.2.2 ≠ 6) : nextV bs k last = nextV (bs.take n) k false ∧ nextV (bs.take n) k true = nextV (bs.take n) k false := by
  have hk : k ≤ (bs.take n).length := by rw [List.length_take]; omega
  refine ⟨?_, ?_⟩
  · have := nextV_gen (l := bs.take n) (bs.drop n) last h hk h6
    rwa [List.take_append_drop] at this
  · have := nextV_gen (l := bs.take n) [] true h hk h6
    rwa [List.append_nil] at this
end Go.Proofs.YtnkodejgiabamaaGreat
