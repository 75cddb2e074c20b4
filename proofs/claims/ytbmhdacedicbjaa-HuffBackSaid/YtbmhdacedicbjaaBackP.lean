/-
  Plain: a code's bits, read, are its symbol.
-/
import Derived.Test.YtbmhdacedicbjaaApart0
import Derived.Test.YtbmhdacedicbjaaWrP
namespace Go.Proofs.Ytbmhdacedicbjaa
open Go.RowKit Go.Sort

theorem valN_bits (x n : Nat) (f : Nat → Bool) (hx : x < 2 ^ n) (h : ∀ i, i < n → f i = x.testBit (n - 1 - i)) : ∀ m, m ≤ n → valN f m = x / 2 ^ (n - m)
  | 0, _ => by simp [valN, Nat.div_eq_of_lt hx]
  | m + 1, hm => by
    have e : n - m = (n - (m + 1)) + 1 := by omega
    rw [valN, valN_bits x n f hx h m (by omega), h m (by omega), e, Nat.pow_succ, ← Nat.div_div_eq_div_mul, show n - 1 - m = n - (m + 1) from by omega, Nat.testBit_eq_decide_div_mod_eq]
    generalize x / 2 ^ (n - (m + 1)) = y
    by_cases hy : y % 2 = 1
    · simp [hy]; omega
    · simp [hy]; omega

/-- How long a symbol's code is; its bits. -/
def lenN (l : List Int) (s : Nat) : Nat := (l.getD s 0).toNat
def codeB (l : List Int) (s i : Nat) : Bool := (codeAt l s).toNat.testBit (lenN l s - 1 - i)
def codeL (l : List Int) (s k : Nat) : List Bool := (List.range k).map (codeB l s)
theorem codeL_len (l : List Int) (s k : Nat) : (codeL l s k).length = k := by simp [codeL]
theorem codeL_succ (l : List Int) (s k : Nat) : codeL l s (k + 1) = codeL l s k ++ [codeB l s k] := by simp [codeL, List.range_succ]
theorem codeL_get (l : List Int) (s k i : Nat) (h : i < k) : (codeL l s k).getD i false = codeB l s i := by simp [codeL, h]

theorem code_lt {l : List Int} (hroom : 0 ≤ roomV l) {s : Nat} (hs : s < l.length) (hp : 0 < l.getD s 0) : (codeAt l s).toNat < 2 ^ lenN l s := by
  obtain ⟨_, _, hok1, _⟩ := roomV_ok hroom
  have hx := hok_mem hok1 (l.getD s 0) (by simp [List.getD, hs])
  have e : codeAt l s = fcode (cn l) (l.getD s 0).toNat + cn (l.take s) (l.getD s 0).toNat := by unfold codeAt; rw [if_pos hp]
  have h1 := cn_lt (m := (l.getD s 0).toNat) hs (by omega) (by omega)
  have h2 := fcode_top hroom (l.getD s 0).toNat (by omega)
  have h0 := codeAt_bd hroom s
  unfold lenN
  have h3 : ((codeAt l s).toNat : Int) < ((2 ^ (l.getD s 0).toNat : Nat) : Int) := by
    rw [Int.toNat_of_nonneg h0.1]
    simp only [Int.natCast_pow, Int.cast_ofNat_Int]
    omega
  exact_mod_cast h3

theorem findSym_code {l : List Int} (hroom : 0 ≤ roomV l) {s : Nat} (hs : s < l.length) (hp : 0 < l.getD s 0) : findSym l (lenN l s) ((codeAt l s).toNat : Nat) = some s := by
  have h0 := codeAt_bd hroom s
  have hps : (l.getD s 0 == ((lenN l s : Nat) : Int) && codeAt l s == (((codeAt l s).toNat : Nat) : Int)) = true := by
    rw [Bool.and_eq_true, beq_iff_eq, beq_iff_eq]; unfold lenN; exact ⟨by omega, by omega⟩
  cases h : findSym l (lenN l s) ((codeAt l s).toNat : Nat) with
  | none =>
    rw [findSym, List.find?_eq_none] at h
    exact absurd hps (h s (by simpa using hs))
  | some k =>
    have hk := List.find?_some h
    have hkl : k < l.length := by simpa using List.mem_of_find?_eq_some h
    simp only [Bool.and_eq_true, beq_iff_eq] at hk
    by_cases e : k = s
    · rw [e]
    · exfalso
      have hl : l.getD k 0 = l.getD s 0 := by rw [hk.1, lenN]; omega
      have := prefix_free hroom hkl hs e (by omega) (by omega)
      rw [hl] at this
      simp only [Int.sub_self, Int.toNat_zero, Int.pow_zero, Int.ediv_one] at this
      omega

theorem findSym_part {l : List Int} (hroom : 0 ≤ roomV l) {s m : Nat} (hs : s < l.length) (hp : 0 < l.getD s 0) (hm0 : 0 < m) (hm : m < lenN l s) : findSym l m (((codeAt l s).toNat / 2 ^ (lenN l s - m) : Nat) : Int) = none := by
  have h0 := codeAt_bd hroom s
  rw [findSym, List.find?_eq_none]
  intro k hk
  have hkl : k < l.length := by simpa using hk
  simp only [Bool.and_eq_true, beq_iff_eq, not_and]
  intro hl hc
  unfold lenN at hm hc
  have hks : k ≠ s := fun e => by rw [e] at hl; omega
  have := prefix_free hroom hkl hs hks (by omega) (by omega)
  rw [hl, show (l.getD s 0 - (m : Int)).toNat = (l.getD s 0).toNat - m from by omega] at this
  apply this
  rw [hc]
  simp only [Int.natCast_ediv, Int.natCast_pow, Int.cast_ofNat_Int]
  rw [Int.toNat_of_nonneg h0.1]

theorem takeGo_code {l : List Int} (hroom : 0 ≤ roomV l) {s : Nat} (hs : s < l.length) (hp : 0 < l.getD s 0) {f : Nat → Bool} {left : Nat} (hl : lenN l s ≤ left) (hf : ∀ i, i < lenN l s → f i = codeB l s i) :
    ∀ fuel m, 0 < m → m ≤ lenN l s → lenN l s < m + fuel → takeGo l f left fuel m = (s, lenN l s, 0)
  | 0, m, h0, h1, h2 => by omega
  | fuel + 1, m, h0, h1, h2 => by
    have hlong : hasLong l m = true := by
      unfold hasLong
      rw [List.any_eq_true]
      exact ⟨l.getD s 0, by simp [List.getD, hs], by simp only [decide_eq_true_eq]; unfold lenN at h1; omega⟩
    have hv := valN_bits (codeAt l s).toNat (lenN l s) f (code_lt hroom hs hp) (fun i hi => hf i hi) m h1
    rw [takeGo, if_neg (by rw [hlong]; simp), if_neg (by omega), hv]
    by_cases hm : m = lenN l s
    · subst hm
      rw [Nat.sub_self, Nat.pow_zero, Nat.div_one, findSym_code hroom hs hp]
    · rw [findSym_part hroom hs hp h0 (by omega)]
      exact takeGo_code hroom hs hp hl hf fuel (m + 1) (by omega) (by omega) (by omega)

theorem take_code {l : List Int} (hroom : 0 ≤ roomV l) {s : Nat} (hs : s < l.length) (hp : 0 < l.getD s 0) {f : Nat → Bool} {left : Nat} (hl : lenN l s ≤ left) (hf : ∀ i, i < lenN l s → f i = codeB l s i) : takeV l f left = (s, lenN l s, 0) := by
  have hx := hok_mem (roomV_ok hroom).2.2.1 (l.getD s 0) (by simp [List.getD, hs])
  exact takeGo_code hroom hs hp hl hf 15 1 (by omega) (by unfold lenN; omega) (by unfold lenN; omega)

/-- All bits of symbols, one behind the other. -/
def bitsOf (l : List Int) : List Nat → List Bool
  | [] => []
  | s :: ss => codeL l s (lenN l s) ++ bitsOf l ss
theorem bitsOf_append (l : List Int) : ∀ a b, bitsOf l (a ++ b) = bitsOf l a ++ bitsOf l b
  | [], b => rfl
  | s :: a, b => by simp only [List.cons_append, bitsOf, bitsOf_append l a b, List.append_assoc]
theorem bitsOf_snoc (l : List Int) (a : List Nat) (s : Nat) : bitsOf l (a ++ [s]) = bitsOf l a ++ codeL l s (lenN l s) := by rw [bitsOf_append]; simp [bitsOf]
theorem bitsOf_at (l : List Int) (ss : List Nat) (k : Nat) (hk : k < ss.length) (i : Nat) (hi : i < lenN l (ss.getD k 0)) : (bitsOf l ss).getD ((bitsOf l (ss.take k)).length + i) false = codeB l (ss.getD k 0) i := by
  have e : ss = ss.take k ++ (ss.getD k 0 :: ss.drop (k + 1)) := by
    conv => lhs; rw [← List.take_append_drop k ss, List.drop_eq_getElem_cons hk]
    simp [List.getD, hk]
  have e2 : bitsOf l ss = bitsOf l (ss.take k) ++ (codeL l (ss.getD k 0) (lenN l (ss.getD k 0)) ++ bitsOf l (ss.drop (k + 1))) := by
    conv => lhs; rw [e]
    rw [bitsOf_append]; rfl
  rw [e2, gd_right _ _ _ _ (by omega), Nat.add_sub_cancel_left, gd_left _ _ _ _ (by rw [codeL_len]; exact hi), codeL_get _ _ _ _ hi]
theorem bitsOf_take (l : List Int) (ss : List Nat) (k : Nat) (hk : k < ss.length) : (bitsOf l (ss.take (k + 1))).length = (bitsOf l (ss.take k)).length + lenN l (ss.getD k 0) := by
  rw [List.take_succ_eq_append_getElem hk, bitsOf_snoc, List.length_append, codeL_len]
  simp [List.getD, hk]
theorem bitsOf_le (l : List Int) (ss : List Nat) (k : Nat) : (bitsOf l (ss.take k)).length ≤ (bitsOf l ss).length := by
  conv => rhs; rw [← List.take_append_drop k ss, bitsOf_append, List.length_append]
  omega
end Go.Proofs.Ytbmhdacedicbjaa
