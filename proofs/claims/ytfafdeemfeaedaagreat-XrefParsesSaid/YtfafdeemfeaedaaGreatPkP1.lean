/-
  Our texts NumP to Base, in one.
-/
import Derived.Lib.Hide
import Derived.WalkKit
import Derived.WalkSpells
import Derived.WalkLawsBesides
set_option maxRecDepth 8000
set_option maxHeartbeats 8000000
namespace Go.Proofs.YtfafdeemfeaedaaGreat
theorem snoc_ind {α : Type} {p : List α → Prop} (h0 : p []) (h1 : ∀ l c, p l → p (l ++ [c])) (l : List α) : p l := by
 have h : ∀ r : List α, p r.reverse := by
   intro r
   induction r with
   | nil => exact h0
   | cons c r ih => rw [List.reverse_cons]; exact h1 _ _ ih
 have h2 := h l.reverse
 rwa [List.reverse_reverse] at h2
def isDg (c : UInt8) : Bool := decide (48 ≤ c.toNat) && decide (c.toNat ≤ 57)
def dgV (c : UInt8) : Nat := c.toNat - 48
def decV : List UInt8 → Nat → Nat
 | [], n => n
 | c :: l, n => decV l (10 * n + dgV c)
def valD (l : List UInt8) : Nat := decV l 0
theorem isDg_iff {c : UInt8} : isDg c = true ↔ 48 ≤ c.toNat ∧ c.toNat ≤ 57 := by unfold isDg; simp
theorem isDg_no {c : UInt8} : isDg c = false ↔ c.toNat < 48 ∨ 57 < c.toNat := by
 rw [← Bool.not_eq_true, isDg_iff]; omega
theorem dgV_le {c : UInt8} (h : isDg c = true) : dgV c ≤ 9 := by rw [isDg_iff] at h; unfold dgV; omega
theorem dgV_int {c : UInt8} (h : isDg c = true) : (dgV c : Int) = (c.toNat : Int) - 48 := by rw [isDg_iff] at h; unfold dgV; omega
theorem decV_append : ∀ (l m : List UInt8) (n : Nat), decV (l ++ m) n = decV m (decV l n)
 | [], _, _ => rfl
 | c :: l, m, n => decV_append l m (10 * n + dgV c)
theorem decV_ge : ∀ (l : List UInt8) (n : Nat), n ≤ decV l n
 | [], _ => Nat.le_refl _
 | c :: l, n => Nat.le_trans (by omega) (decV_ge l (10 * n + dgV c))
theorem valD_nil : valD [] = 0 := rfl
theorem valD_snoc (l : List UInt8) (c : UInt8) : valD (l ++ [c]) = 10 * valD l + dgV c := by unfold valD; rw [decV_append]; rfl
theorem valD_append_ge (l m : List UInt8) : valD l ≤ valD (l ++ m) := by unfold valD; rw [decV_append]; exact decV_ge _ _
theorem valD_zeros (l : List UInt8) : ∀ j, valD (l ++ List.replicate j 48) = valD l * 10 ^ j
 | 0 => by simp
 | j + 1 => by
   rw [List.replicate_succ', ← List.append_assoc, valD_snoc, valD_zeros l j, Nat.pow_succ, show dgV 48 = 0 from rfl]
   rw [Nat.add_zero, Nat.mul_comm (10 ^ j) 10, ← Nat.mul_assoc, ← Nat.mul_assoc, Nat.mul_comm (valD l) 10]
theorem all_snoc (l : List UInt8) (c : UInt8) (h : l.all isDg = true) (hc : isDg c = true) : (l ++ [c]).all isDg = true := by simp [hc]; simpa using h
theorem valD_lt : ∀ (l : List UInt8), l.all isDg = true → valD l < 10 ^ l.length := by
 refine snoc_ind (fun _ => by decide) fun l c ih => ?_
 · intro h
   rw [List.all_append, Bool.and_eq_true] at h
   have h1 := ih h.1
   have h2 := dgV_le (c := c) (by simpa using h.2)
   rw [valD_snoc, List.length_append, List.length_singleton, Nat.pow_succ]
   omega
def digitsV (l : List UInt8) : Int × Int := if l = [] ∨ l.all isDg = false then (0, 11) else if 2147483647 < valD l then (0, 5) else (((valD l : Nat) : Int), 0)
theorem digitsV_nil : digitsV [] = (0, 11) := by simp [digitsV]
theorem digitsV_form {l : List UInt8} (h : l.all isDg = false) : digitsV l = (0, 11) := by unfold digitsV; rw [if_pos (.inr h)]
theorem digitsV_over {l : List UInt8} (hn : l ≠ []) (h : l.all isDg = true) (ho : 2147483647 < valD l) : digitsV l = (0, 5) := by
 unfold digitsV; rw [if_neg (by rw [h]; simpa using hn), if_pos ho]
theorem digitsV_ok {l : List UInt8} (hn : l ≠ []) (h : l.all isDg = true) (ho : valD l ≤ 2147483647) : digitsV l = (((valD l : Nat) : Int), 0) := by
 unfold digitsV; rw [if_neg (by rw [h]; simpa using hn), if_neg (by omega)]
def mil (r : List UInt8) : Nat := valD ((r ++ List.replicate 6 48).take 6)
theorem mil_short {r : List UInt8} (h : r.length ≤ 6) : mil r = valD r * 10 ^ (6 - r.length) := by
 unfold mil
 rw [List.take_append, List.take_of_length_le h, List.take_replicate, Nat.min_eq_left (by omega), valD_zeros]
theorem mil_long {r : List UInt8} (h : 6 ≤ r.length) : mil r = valD (r.take 6) := by
 unfold mil
 rw [List.take_append_of_le_length h]
theorem mil_snoc_lt (r : List UInt8) (c : UInt8) (h : r.length < 6) : mil (r ++ [c]) = mil r + 10 ^ (5 - r.length) * dgV c := by
 rw [mil_short (by simp; omega), mil_short (by omega), valD_snoc, List.length_append, List.length_singleton]
 rw [show 6 - r.length = (5 - r.length) + 1 from by omega, show 6 - (r.length + 1) = 5 - r.length from by omega, Nat.pow_succ, Nat.add_mul]
 rw [Nat.mul_comm (dgV c)]
 congr 1
 rw [Nat.mul_comm 10 (valD r), Nat.mul_assoc, Nat.mul_comm 10]
theorem mil_snoc_ge (r : List UInt8) (c : UInt8) (h : 6 ≤ r.length) : mil (r ++ [c]) = mil r := by
 rw [mil_long h, mil_long (by simp; omega), List.take_append_of_le_length h]
theorem mil_lt (r : List UInt8) (h : r.all isDg = true) : mil r < 1000000 := by
 by_cases hl : r.length ≤ 6
 · have := valD_lt ((r ++ List.replicate 6 48).take 6) (by
     rw [List.all_eq_true]
     intro x hx
     have hx := List.mem_of_mem_take hx
     rw [List.mem_append] at hx
     rcases hx with hx | hx
     · exact List.all_eq_true.1 h x hx
     · rw [List.mem_replicate] at hx; rw [hx.2]; rfl)
   unfold mil
   have hlen : ((r ++ List.replicate 6 48).take 6 : List UInt8).length = 6 := by simp
   rw [hlen] at this
   omega
 · rw [mil_long (by omega)]
   have := valD_lt (r.take 6) (by rw [List.all_eq_true]; intro x hx; exact List.all_eq_true.1 h x (List.mem_of_mem_take hx))
   rw [List.length_take, Nat.min_eq_left (by omega)] at this
   omega
def signOf (s : List UInt8) : Int := if s.head? = some 45 then -1 else 1
def bodyOf (s : List UInt8) : List UInt8 := if s.head? = some 45 ∨ s.head? = some 43 then s.tail else s
def wholeOf (b : List UInt8) : List UInt8 := b.takeWhile (· != 46)
def restOf (b : List UInt8) : List UInt8 := (b.dropWhile (· != 46)).tail
def hasPt (b : List UInt8) : Bool := b.any (· == 46)
def parseB (sg : Int) (b : List UInt8) : Int × Int × Int :=
 if (wholeOf b).length + (restOf b).length = 0 ∨ (wholeOf b).all isDg = false ∨ (restOf b).all isDg = false then (0, 0, 11)
 else if 2147483647 < valD (wholeOf b) then (0, 0, 5)
 else if hasPt b = false then (2, sg * (valD (wholeOf b) : Nat), 0)
 else if 2147483647000000 < valD (wholeOf b) * 1000000 + mil (restOf b) then (0, 0, 5)
 else (3, sg * ((valD (wholeOf b) * 1000000 + mil (restOf b) : Nat) : Int), 0)
def parseV (s : List UInt8) : Int × Int × Int := parseB (signOf s) (bodyOf s)
theorem tw_app (w t : List UInt8) (hw : ∀ x ∈ w, x ≠ 46) : wholeOf (w ++ 46 :: t) = w ∧ restOf (w ++ 46 :: t) = t ∧ hasPt (w ++ 46 :: t) = true := by
 induction w with
 | nil => simp [wholeOf, restOf, hasPt]
 | cons x w ih =>
   have hx : x ≠ 46 := hw x (List.mem_cons_self)
   obtain ⟨h1, h2, h3⟩ := ih fun y hy => hw y (List.mem_cons_of_mem _ hy)
   refine ⟨?_, ?_, by simp [hasPt]⟩
   · unfold wholeOf at *
     rw [List.cons_append, List.takeWhile_cons_of_pos (by simpa using hx), h1]
   · unfold restOf at *
     rw [List.cons_append, List.dropWhile_cons_of_pos (by simpa using hx), h2]
theorem tw_none (b : List UInt8) (hb : ∀ x ∈ b, x ≠ 46) : wholeOf b = b ∧ restOf b = [] ∧ hasPt b = false := by
 induction b with
 | nil => simp [wholeOf, restOf, hasPt]
 | cons x w ih =>
   have hx : x ≠ 46 := hb x (List.mem_cons_self)
   obtain ⟨h1, h2, h3⟩ := ih fun y hy => hb y (List.mem_cons_of_mem _ hy)
   refine ⟨?_, ?_, ?_⟩
   · unfold wholeOf at *
     rw [List.takeWhile_cons_of_pos (by simpa using hx), h1]
   · unfold restOf at *
     rw [List.dropWhile_cons_of_pos (by simpa using hx), h2]
   · unfold hasPt at *
     rw [List.any_cons, h3]; simpa using hx
theorem dg_ne {x : UInt8} (h : isDg x = true) : x ≠ 46 := by rintro rfl; revert h; decide
theorem all_ne {w : List UInt8} (h : w.all isDg = true) : ∀ x ∈ w, x ≠ 46 := fun x hx => dg_ne (List.all_eq_true.1 h x hx)
theorem tw_mem (w t : List UInt8) (c : UInt8) (hw : ∀ x ∈ w, x ≠ 46) (hc : c ≠ 46) : c ∈ wholeOf (w ++ c :: t) := by
 induction w with
 | nil => unfold wholeOf; rw [List.nil_append, List.takeWhile_cons_of_pos (by simpa using hc)]; exact List.mem_cons_self
 | cons x w ih =>
   have hx : x ≠ 46 := hw x (List.mem_cons_self)
   unfold wholeOf at *
   rw [List.cons_append, List.takeWhile_cons_of_pos (by simpa using hx)]
   exact List.mem_cons_of_mem _ (ih fun y hy => hw y (List.mem_cons_of_mem _ hy))
theorem all_false {l : List UInt8} {c : UInt8} (h : c ∈ l) (hc : isDg c = false) : l.all isDg = false := by
 rw [← Bool.not_eq_true, List.all_eq_true]; intro h2; rw [h2 c h] at hc; exact absurd hc (by decide)
theorem parseB_bad1 (sg : Int) (w t : List UInt8) (c : UInt8) (hw : w.all isDg = true) (hc : c ≠ 46) (hd : isDg c = false) : parseB sg (w ++ c :: t) = (0, 0, 11) := by
 unfold parseB
 rw [if_pos (.inr (.inl (all_false (tw_mem w t c (all_ne hw) hc) hd)))]
theorem parseB_bad2 (sg : Int) (w r t : List UInt8) (c : UInt8) (hw : w.all isDg = true) (hd : isDg c = false) : parseB sg (w ++ 46 :: (r ++ c :: t)) = (0, 0, 11) := by
 obtain ⟨h1, h2, h3⟩ := tw_app w (r ++ c :: t) (all_ne hw)
 unfold parseB
 rw [h2, if_pos (.inr (.inr (all_false (c := c) (by simp) hd)))]
theorem parseB_int (sg : Int) (b : List UInt8) (h : b.all isDg = true) : parseB sg b = if b.length = 0 then (0, 0, 11) else if 2147483647 < valD b then (0, 0, 5) else (2, sg * (valD b : Nat), 0) := by
 obtain ⟨h1, h2, h3⟩ := tw_none b (all_ne h)
 unfold parseB
 rw [h1, h2, h3]
 by_cases hb : b.length = 0
 · rw [if_pos (.inl (by simp [hb])), if_pos hb]
 · rw [if_neg (by rw [h]; simp; intro e; exact hb (by simp [e])), if_neg hb]; rfl
theorem parseB_real (sg : Int) (w r : List UInt8) (hw : w.all isDg = true) (hr : r.all isDg = true) :
   parseB sg (w ++ 46 :: r) = if w.length + r.length = 0 then (0, 0, 11) else if 2147483647 < valD w ∨ (valD w = 2147483647 ∧ 0 < mil r) then (0, 0, 5) else (3, sg * ((valD w * 1000000 + mil r : Nat) : Int), 0) := by
 obtain ⟨h1, h2, h3⟩ := tw_app w r (all_ne hw)
 have hm := mil_lt r hr
 unfold parseB
 rw [h1, h2, h3]
 by_cases hb : w.length + r.length = 0
 · rw [if_pos (.inl hb), if_pos hb]
 · rw [if_neg (by rw [hw, hr]; simp; intro e1 e2; exact hb (by simp [e1, e2])), if_neg hb, if_neg (by decide : ¬ (true = false))]
   by_cases h4 : 2147483647 < valD w
   · rw [if_pos h4, if_pos (.inl h4)]
   · rw [if_neg h4]
     by_cases h5 : valD w = 2147483647 ∧ 0 < mil r
     · rw [if_pos (by omega), if_pos (.inr h5)]
     · rw [if_neg (by omega), if_neg (by omega)]
def decL (n : Nat) : List UInt8 := if n < 10 then [UInt8.ofNat (48 + n)] else decL (n / 10) ++ [UInt8.ofNat (48 + n % 10)]
termination_by n
theorem decL_small {n : Nat} (h : n < 10) : decL n = [UInt8.ofNat (48 + n)] := by rw [decL, if_pos h]
theorem decL_big {n : Nat} (h : 10 ≤ n) : decL n = decL (n / 10) ++ [UInt8.ofNat (48 + n % 10)] := by rw [decL, if_neg (by omega)]
theorem dig_isDg {d : Nat} (h : d < 10) : isDg (UInt8.ofNat (48 + d)) = true := by
 rw [isDg_iff, UInt8.toNat_ofNat']; omega
theorem dig_dgV {d : Nat} (h : d < 10) : dgV (UInt8.ofNat (48 + d)) = d := by
 unfold dgV; rw [UInt8.toNat_ofNat']; omega
theorem decL_spec (n : Nat) : (decL n).all isDg = true ∧ valD (decL n) = n ∧ 1 ≤ (decL n).length := by
 induction n using Nat.strongRecOn with
 | ind n ih =>
   by_cases h : n < 10
   · rw [decL_small h]
     refine ⟨by rw [List.all_cons, dig_isDg h]; rfl, ?_, by simp⟩
     show valD ([] ++ [_]) = n
     rw [valD_snoc, valD_nil, dig_dgV h]; omega
   · obtain ⟨h1, h2, h3⟩ := ih (n / 10) (by omega)
     rw [decL_big (by omega)]
     refine ⟨all_snoc _ _ h1 (dig_isDg (by omega)), ?_, by simp⟩
     rw [valD_snoc, h2, dig_dgV (by omega)]; omega
theorem decL_len : ∀ (k n : Nat), n < 10 ^ (k + 1) → (decL n).length ≤ k + 1
 | 0, n, h => by rw [decL_small (by simpa using h)]; simp
 | k + 1, n, h => by
   by_cases h10 : n < 10
   · rw [decL_small h10]; simp
   · rw [decL_big (by omega), List.length_append, List.length_singleton]
     have := decL_len k (n / 10) (by rw [Nat.div_lt_iff_lt_mul (by omega)]; rwa [Nat.pow_succ] at h)
     omega
def padL (n d : Nat) : List UInt8 := List.replicate (d - (decL n).length) 48 ++ decL n
def padV (n digits : Int) : List UInt8 × Int :=
 if n < 0 ∨ digits < 1 ∨ 20 < digits ∨ digits < ((decL n.toNat).length : Int) then ([], 2) else (padL n.toNat digits.toNat, 0)
def checkV (k n : Int) (bare : Bool) : Int :=
 if bare = true ∧ ((k = 2 ∧ -2147483647 ≤ n ∧ n ≤ 2147483647) ∨ (k = 3 ∧ -2147483647000000 ≤ n ∧ n ≤ 2147483647000000)) then 0 else 2
theorem padL_len {n d : Nat} (h : (decL n).length ≤ d) : (padL n d).length = d := by unfold padL; simp; omega
theorem valD_zl (j : Nat) (l : List UInt8) : valD (List.replicate j 48 ++ l) = valD l := by
 have := valD_zeros [] j
 simp only [List.nil_append, valD_nil, Nat.zero_mul] at this
 unfold valD at *
 rw [decV_append, this]
theorem parseV_check (s : List UInt8) (h : (parseV s).2.2 = 0) : checkV (parseV s).1 (parseV s).2.1 true = 0 := by
 unfold parseV parseB at *
 have hsg : signOf s = 1 ∨ signOf s = -1 := by unfold signOf; split <;> simp
 generalize signOf s = sg at *
 generalize wholeOf (bodyOf s) = w at *
 generalize restOf (bodyOf s) = r at *
 generalize hasPt (bodyOf s) = p at *
 split at h
 · simp at h
 · rename_i c1
   rw [if_neg c1]
   split at h
   · simp at h
   · rename_i c2
     rw [if_neg c2]
     split at h
     · rename_i c3
       rw [if_pos c3]
       unfold checkV
       rw [if_pos]
       refine ⟨rfl, .inl ⟨rfl, ?_⟩⟩
       simp only
       rcases hsg with rfl | rfl <;> omega
     · rename_i c3
       rw [if_neg c3]
       split at h
       · simp at h
       · rename_i c4
         rw [if_neg c4]
         unfold checkV
         rw [if_pos]
         refine ⟨rfl, .inr ⟨rfl, ?_⟩⟩
         simp only
         rcases hsg with rfl | rfl <;> omega
def isSp (c : UInt8) : Bool := c == 0 || c == 9 || c == 10 || c == 12 || c == 13 || c == 32
def isDl (c : UInt8) : Bool := c == 40 || c == 41 || c == 60 || c == 62 || c == 91 || c == 93 || c == 123 || c == 125 || c == 47 || c == 37
def isRg (c : UInt8) : Bool := !isSp c && !isDl c
def isOc (c : UInt8) : Bool := decide (48 ≤ c.toNat) && decide (c.toNat ≤ 55)
def hexD (c : UInt8) : Int :=
 if 48 ≤ c.toNat ∧ c.toNat ≤ 57 then (c.toNat : Int) - 48 else if 97 ≤ c.toNat ∧ c.toNat ≤ 102 then (c.toNat : Int) - 87 else if 65 ≤ c.toNat ∧ c.toNat ≤ 70 then (c.toNat : Int) - 55 else -1
theorem hexD_bd (c : UInt8) : -1 ≤ hexD c ∧ hexD c ≤ 15 := by
 unfold hexD
 repeat' split
 all_goals omega
def skipN : Bool → List UInt8 → Nat
 | _, [] => 0
 | true, c :: l => 1 + skipN (c != 10 && c != 13) l
 | false, c :: l => if c = 37 then 1 + skipN true l else if isSp c = true then 1 + skipN false l else 0
theorem skipN_le : ∀ (b : Bool) (l : List UInt8), skipN b l ≤ l.length
 | _, [] => by simp [skipN]
 | true, c :: l => by have := skipN_le (c != 10 && c != 13) l; simp only [skipN, List.length_cons]; omega
 | false, c :: l => by
   have h1 := skipN_le true l
   have h2 := skipN_le false l
   simp only [skipN, List.length_cons]
   split
   · omega
   · split <;> omega
def skipV (bs : List UInt8) (k : Int) : Nat := if k < 0 then 0 else if (bs.length : Int) ≤ k then bs.length else k.toNat + skipN false (bs.drop k.toNat)
def lineV (last : Bool) : List UInt8 → Option Nat
 | [] => if last then some 0 else none
 | d :: _ => some (if d = 10 then 1 else 0)
def octV (last : Bool) (c : UInt8) : List UInt8 → Option (Nat × Nat)
 | [] => if last then some (c.toNat - 48, 1) else none
 | d :: t => if isOc d = true then
     (match t with
       | [] => if last then some (8 * (c.toNat - 48) + (d.toNat - 48), 2) else none
       | e :: _ => if isOc e = true then some (8 * (8 * (c.toNat - 48) + (d.toNat - 48)) + (e.toNat - 48), 3) else some (8 * (c.toNat - 48) + (d.toNat - 48), 2))
   else some (c.toNat - 48, 1)
def escV (last : Bool) : List UInt8 → Option (List UInt8 × Nat)
 | [] => none
 | c :: t =>
   if c = 110 then some ([10], 1) else if c = 114 then some ([13], 1) else if c = 116 then some ([9], 1) else if c = 98 then some ([8], 1) else if c = 102 then some ([12], 1)
   else if isOc c = true then (octV last c t).map fun x => ([UInt8.ofNat x.1], x.2)
   else if c = 10 then some ([], 1)
   else if c = 13 then (lineV last t).map fun k => ([], k + 1)
   else some ([c], 1)
def textV (last : Bool) (deep : Nat) (out : List UInt8) (l : List UInt8) : Option (List UInt8 × List UInt8) :=
 match l with
 | [] => none
 | c :: t =>
   if c = 92 then (match escV last t with | none => none | some (x, k) => textV last deep (out ++ x) (t.drop k))
   else if c = 13 then (match lineV last t with | none => none | some k => textV last deep (out ++ [10]) (t.drop k))
   else if c = 40 then textV last (deep + 1) (out ++ [c]) t
   else if c = 41 then (if deep = 1 then some (out, t) else textV last (deep - 1) (out ++ [c]) t)
   else textV last deep (out ++ [c]) t
termination_by l.length
decreasing_by all_goals (simp only [List.length_cons, List.length_drop]; omega)
def hexV (out : List UInt8) (half : Int) : List UInt8 → Int × List UInt8 × List UInt8
 | [] => (1, [], [])
 | c :: t =>
   if c = 62 then (0, if 0 ≤ half then out ++ [UInt8.ofNat (16 * half).toNat] else out, t)
   else if isSp c = true then hexV out half t
   else if hexD c < 0 then (11, [], [])
   else if half < 0 then hexV out (hexD c) t
   else hexV (out ++ [UInt8.ofNat (16 * half + hexD c).toNat]) (-1) t
def nameGo (out : List UInt8) : List UInt8 → Option (List UInt8)
 | [] => some out
 | c :: t => if c = 35 then
     (match t with
       | x :: y :: u => if hexD x < 0 ∨ hexD y < 0 then none else nameGo (out ++ [UInt8.ofNat (16 * hexD x + hexD y).toNat]) u
       | _ => none)
   else nameGo (out ++ [c]) t
def nameV (w : List UInt8) : Option (List UInt8) := match nameGo [] w with | none => none | some o => if 127 < o.length ∨ (0 : UInt8) ∈ o then none else some o
structure Tk where
 kind : Int
 vk : Int := 0
 vn : Int := 0
 vs : List UInt8 := []
 s : List UInt8 := []
deriving DecidableEq
def openE (last : Bool) : Int := if last then 10 else 6
def tokV (last : Bool) (c : UInt8) (t : List UInt8) : Int × Tk × List UInt8 :=
 if isRg c = true then
   (let w := (c :: t).takeWhile isRg; let r := (c :: t).dropWhile isRg
    if r = [] ∧ last = false then (6, { kind := 0 }, [])
    else if isDg c = true ∨ c = 43 ∨ c = 45 ∨ c = 46 then ((parseV w).2.2, { kind := 1, vk := (parseV w).1, vn := (parseV w).2.1 }, r)
    else (0, { kind := 6, s := w }, r))
 else if c = 91 then (0, { kind := 2 }, t)
 else if c = 93 then (0, { kind := 3 }, t)
 else if c = 60 then
   (match t with
     | [] => (openE last, { kind := 0 }, [])
     | d :: u => if d = 60 then (0, { kind := 4 }, u) else
       (match hexV [] (-1) (d :: u) with
         | (e, x, r) => if e = 0 then (0, { kind := 1, vk := 4, vs := x }, r) else if e = 1 then (openE last, { kind := 0 }, []) else (11, { kind := 0 }, [])))
 else if c = 62 then
   (match t with
     | [] => (if last then 11 else 6, { kind := 0 }, [])
     | d :: u => if d = 62 then (0, { kind := 5 }, u) else (11, { kind := 0 }, []))
 else if c = 40 then
   (match textV last 1 [] t with
     | none => (openE last, { kind := 0 }, [])
     | some (x, r) => (0, { kind := 1, vk := 4, vs := x }, r))
 else if c = 47 then
   (let w := t.takeWhile isRg; let r := t.dropWhile isRg
    if r = [] ∧ last = false then (6, { kind := 0 }, [])
    else match nameV w with
     | none => (17, { kind := 0 }, [])
     | some o => (0, { kind := 1, vk := 5, vs := o }, r))
 else (11, { kind := 0 }, [])
def nextV (bs : List UInt8) (k : Int) (last : Bool) : Tk × Int × Int × Int :=
 if k < 0 ∨ (bs.length : Int) < k then ({ kind := 0 }, 0, 0, 2)
 else
   (let f := skipV bs k
    match bs.drop f with
     | [] => ({ kind := 0 }, (f : Int), (f : Int), if last then 0 else 6)
     | c :: t =>
       (match tokV last c t with
         | (e, x, r) => if e = 0 then (x, (f : Int), (bs.length : Int) - (r.length : Int), 0) else ({ kind := 0 }, (f : Int), (f : Int), e)))
theorem skipN_idem : ∀ (b : Bool) (l : List UInt8), skipN false (l.drop (skipN b l)) = 0
 | _, [] => by simp [skipN]
 | true, c :: l => by
   simp only [skipN]
   rw [Nat.add_comm, List.drop_succ_cons]; exact skipN_idem _ l
 | false, c :: l => by
   by_cases h : c = 37
   · rw [skipN, if_pos h, Nat.add_comm, List.drop_succ_cons]; exact skipN_idem _ l
   · by_cases h2 : isSp c = true
     · rw [skipN, if_neg h, if_pos h2, Nat.add_comm, List.drop_succ_cons]; exact skipN_idem _ l
     · rw [skipN, if_neg h, if_neg h2, List.drop_zero, skipN, if_neg h, if_neg h2]
theorem skipV_bd {bs : List UInt8} {k : Int} (h : 0 ≤ k) (h2 : k ≤ bs.length) : k ≤ (skipV bs k : Nat) ∧ skipV bs k ≤ bs.length := by
 unfold skipV
 rw [if_neg (by omega)]
 split
 · omega
 · have := skipN_le false (bs.drop k.toNat)
   rw [List.length_drop] at this; omega
theorem skipV_idem {bs : List UInt8} {k : Int} (h : 0 ≤ k) (h2 : k ≤ bs.length) : skipV bs (skipV bs k : Nat) = skipV bs k := by
 have hb := skipV_bd h h2
 by_cases h3 : (bs.length : Int) ≤ (skipV bs k : Nat)
 · have e : skipV bs k = bs.length := by omega
   rw [e]; unfold skipV; rw [if_neg (by omega), if_pos (by omega)]
 · have e : skipV bs k = k.toNat + skipN false (bs.drop k.toNat) := by
     unfold skipV
     rw [if_neg (by omega), if_neg (by omega)]
   have e3 : skipN false (bs.drop (skipV bs k)) = 0 := by
     rw [e, ← List.drop_drop]
     exact skipN_idem false _
   have gen : ∀ f : Nat, ¬ (bs.length : Int) ≤ (f : Int) → skipN false (bs.drop f) = 0 → skipV bs (f : Int) = f := fun f h1 h2 => by
     unfold skipV
     rw [if_neg (by omega), if_neg h1, Int.toNat_natCast, h2]; rfl
   exact gen _ h3 e3
theorem hexV_more (u : List UInt8) : ∀ (l : List UInt8) (out : List UInt8) (half : Int), ((hexV out half l).1 = 0 → hexV out half (l ++ u) = (0, (hexV out half l).2.1, (hexV out half l).2.2 ++ u) ∧ (hexV out half l).2.2.length < l.length) ∧
   ((hexV out half l).1 ≠ 0 → (hexV out half l).1 ≠ 1 → (hexV out half l).1 = 11 ∧ hexV out half (l ++ u) = (11, [], []))
 | [], out, half => by simp [hexV]
 | c :: t, out, half => by
   rw [List.cons_append]
   simp only [hexV, List.length_cons]
   by_cases h1 : c = 62
   · simp only [if_pos h1]
     exact ⟨fun _ => ⟨by simp, by omega⟩, fun h => absurd rfl h⟩
   simp only [if_neg h1]
   by_cases h2 : isSp c = true
   · simp only [if_pos h2]
     obtain ⟨g1, g2⟩ := hexV_more u t out half
     exact ⟨fun h => ⟨(g1 h).1, by have := (g1 h).2; omega⟩, g2⟩
   simp only [if_neg h2]
   by_cases h3 : hexD c < 0
   · simp only [if_pos h3]
     exact ⟨fun h => by simp at h, fun _ _ => ⟨by simp, by simp⟩⟩
   simp only [if_neg h3]
   by_cases h4 : half < 0
   · simp only [if_pos h4]
     obtain ⟨g1, g2⟩ := hexV_more u t out (hexD c)
     exact ⟨fun h => ⟨(g1 h).1, by have := (g1 h).2; omega⟩, g2⟩
   simp only [if_neg h4]
   obtain ⟨g1, g2⟩ := hexV_more u t (out ++ [UInt8.ofNat (16 * half + hexD c).toNat]) (-1)
   exact ⟨fun h => ⟨(g1 h).1, by have := (g1 h).2; omega⟩, g2⟩
theorem drop_len (p : UInt8 → Bool) (l : List UInt8) : (l.dropWhile p).length ≤ l.length := List.Sublist.length_le (List.dropWhile_sublist _)
theorem textV_len (last : Bool) : ∀ (n : Nat) (l : List UInt8), l.length ≤ n → ∀ (deep : Nat) (out x r : List UInt8), textV last deep out l = some (x, r) → r.length < l.length := by
 intro n
 induction n with
 | zero =>
   intro l hl deep out x r h
   obtain rfl : l = [] := List.eq_nil_of_length_eq_zero (by omega)
   rw [textV] at h; cases h
 | succ n ih =>
   intro l hl deep out x r h
   cases l with
   | nil => rw [textV] at h; cases h
   | cons c t =>
     simp only [List.length_cons] at hl ⊢
     rw [textV.eq_def] at h
     simp only at h
     split at h
     · split at h
       · cases h
       · have := ih _ (by rw [List.length_drop]; omega) _ _ _ _ h
         rw [List.length_drop] at this; omega
     · split at h
       · split at h
         · cases h
         · have := ih _ (by rw [List.length_drop]; omega) _ _ _ _ h
           rw [List.length_drop] at this; omega
       · split at h
         · have := ih _ (by omega) _ _ _ _ h
           omega
         · split at h
           · split at h
             · cases h; omega
             · have := ih _ (by omega) _ _ _ _ h
               omega
           · have := ih _ (by omega) _ _ _ _ h
             omega
theorem tokV_some (last : Bool) (c : UInt8) (t : List UInt8) (h : (tokV last c t).1 = 0) : (tokV last c t).2.1.kind ≠ 0 ∧ (tokV last c t).2.2.length ≤ t.length := by
 obtain ⟨V, hV⟩ : ∃ V, tokV last c t = V := ⟨_, rfl⟩
 rw [hV] at h ⊢
 unfold tokV at hV
 split at hV
 · next hr =>
   have hd : ((c :: t).dropWhile isRg).length ≤ t.length := by rw [List.dropWhile_cons_of_pos hr]; exact drop_len _ _
   simp only at hV
   split at hV
   · subst hV; simp at h
   · split at hV
     · subst hV; exact ⟨by simp, hd⟩
     · subst hV; exact ⟨by simp, hd⟩
 split at hV
 · subst hV; exact ⟨by simp, Nat.le_refl _⟩
 split at hV
 · subst hV; exact ⟨by simp, Nat.le_refl _⟩
 split at hV
 · cases t with
   | nil => subst hV; cases last <;> simp [openE] at h
   | cons d t =>
     simp only at hV
     split at hV
     · subst hV; exact ⟨by simp, by simp⟩
     · have hx := (hexV_more [] (d :: t) [] (-1)).1
       split at hV
       · subst hV
         exact ⟨by simp, Nat.le_of_lt (hx ‹_›).2⟩
       · split at hV
         · subst hV; cases last <;> simp [openE] at h
         · subst hV; simp at h
 split at hV
 · cases t with
   | nil => subst hV; cases last <;> simp at h
   | cons d t =>
     simp only at hV
     split at hV
     · subst hV; exact ⟨by simp, by simp⟩
     · subst hV; simp at h
 split at hV
 · cases he : textV last 1 [] t with
   | none => rw [he] at hV; subst hV; cases last <;> simp [openE] at h
   | some y =>
     obtain ⟨x, r⟩ := y
     rw [he] at hV
     subst hV
     exact ⟨by simp, by have := textV_len last _ t (Nat.le_refl _) _ _ _ _ he; simp only; omega⟩
 split at hV
 · simp only at hV
   split at hV
   · subst hV; simp at h
   · split at hV
     · subst hV; simp at h
     · subst hV; exact ⟨by simp, drop_len _ _⟩
 · subst hV; simp at h
def nextF (bs : List UInt8) (f : Nat) (last : Bool) : Tk × Int × Int × Int :=
 match bs.drop f with
 | [] => ({ kind := 0 }, (f : Int), (f : Int), if last then 0 else 6)
 | c :: t => if (tokV last c t).1 = 0 then ((tokV last c t).2.1, (f : Int), (bs.length : Int) - ((tokV last c t).2.2.length : Int), 0) else ({ kind := 0 }, (f : Int), (f : Int), (tokV last c t).1)
theorem nextV_in {bs : List UInt8} {k : Int} (last : Bool) (h : 0 ≤ k) (h2 : k ≤ bs.length) : nextV bs k last = nextF bs (skipV bs k) last := by
 have h3 : ¬ (k < 0 ∨ (bs.length : Int) < k) := by omega
 unfold nextV
 rw [if_neg h3]
 show (match bs.drop (skipV bs k) with | [] => _ | c :: t => _) = _
 unfold nextF
 cases bs.drop (skipV bs k) <;> rfl
theorem nextF_nil {bs : List UInt8} {f : Nat} (last : Bool) (h : bs.drop f = []) : nextF bs f last = ({ kind := 0 }, (f : Int), (f : Int), if last then 0 else 6) := by unfold nextF; rw [h]
theorem nextF_cons {bs : List UInt8} {f : Nat} (last : Bool) {c : UInt8} {t : List UInt8} (h : bs.drop f = c :: t) : nextF bs f last = if (tokV last c t).1 = 0 then ((tokV last c t).2.1, (f : Int), (bs.length : Int) - ((tokV last c t).2.2.length : Int), 0) else ({ kind := 0 }, (f : Int), (f : Int), (tokV last c t).1) := by unfold nextF; rw [h]
theorem nextV_places {bs : List UInt8} {k : Int} (last : Bool) (h : 0 ≤ k) (h2 : k ≤ bs.length) :
   ((nextV bs k last).2.2.2 ≠ 0 → (nextV bs k last).1 = { kind := 0 } ∧ (nextV bs k last).2.1 = (nextV bs k last).2.2.1 ∧ k ≤ (nextV bs k last).2.1 ∧ (nextV bs k last).2.1 ≤ bs.length) ∧
   ((nextV bs k last).2.2.2 = 0 → (nextV bs k last).1.kind = 0 → last = true ∧ (nextV bs k last).2.1 = bs.length ∧ (nextV bs k last).2.2.1 = bs.length) ∧
   ((nextV bs k last).2.2.2 = 0 → (nextV bs k last).1.kind ≠ 0 → nextV bs (nextV bs k last).2.1 last = nextV bs k last ∧ k ≤ (nextV bs k last).2.1 ∧ (nextV bs k last).2.1 < (nextV bs k last).2.2.1 ∧ (nextV bs k last).2.2.1 ≤ bs.length) := by
 obtain ⟨hb1, hb2⟩ := skipV_bd h h2
 have hi := skipV_idem h h2
 have hV := nextV_in (bs := bs) last h h2
 have hV2 := nextV_in (bs := bs) (k := (skipV bs k : Nat)) last (by omega) (by omega)
 rw [hi] at hV2
 generalize skipV bs k = f at *
 rw [hV]
 cases hd : bs.drop f with
 | nil =>
   have hn := nextF_nil last hd
   rw [hn] at hV2 ⊢
   have hfl : f = bs.length := by have := List.drop_eq_nil_iff.1 hd; omega
   refine ⟨fun _ => ⟨rfl, rfl, hb1, by simp only; omega⟩, fun h0 _ => ⟨?_, by simp only; omega, by simp only; omega⟩, fun _ h => absurd rfl h⟩
   cases last
   · simp at h0
   · rfl
 | cons c t =>
   have hn := nextF_cons last hd
   have hlen : f + (t.length + 1) = bs.length := by
     have := congrArg List.length hd
     rw [List.length_drop, List.length_cons] at this; omega
   by_cases h0 : (tokV last c t).1 = 0
   · obtain ⟨g1, g2⟩ := tokV_some last c t h0
     rw [if_pos h0] at hn
     rw [hn] at hV2 ⊢
     generalize tokV last c t = T at *
     obtain ⟨e, x, r⟩ := T
     simp only at g1 g2 hV2 ⊢
     exact ⟨fun h => absurd rfl h, fun _ h => absurd h g1, fun _ _ => ⟨hV2, hb1, by omega, by omega⟩⟩
   · rw [if_neg h0] at hn
     rw [hn]
     exact ⟨fun _ => ⟨rfl, rfl, hb1, by simp only; omega⟩, fun h => absurd h h0, fun h => absurd h h0⟩
inductive PV where
 | mk (kind n : Int) (s : List UInt8) (l : List PV)
def PV.kind : PV → Int | .mk k _ _ _ => k
def PV.n : PV → Int | .mk _ n _ _ => n
def PV.s : PV → List UInt8 | .mk _ _ s _ => s
def PV.l : PV → List PV | .mk _ _ _ l => l
def PV.none : PV := .mk 0 0 [] []
instance : Inhabited PV := ⟨PV.none⟩
structure Lv where
 dict : Bool
 l : List PV
def wantsV (v : Lv) : Bool := v.dict && v.l.length % 2 == 0
def topW : List Lv → Bool
 | [] => false
 | v :: _ => wantsV v
def wholeV (t : Tk) : Bool := t.kind == 1 && t.vk == 2
def moreV (e : Int) : Int := if e = 6 then 6 else 0
def tkV (t : Tk) : PV := .mk t.vk t.vn t.vs []
def refV (bs : List UInt8) (last : Bool) (at_ : Int) (v : PV) : PV × Int × Int :=
 let g := nextV bs at_ last
 if g.2.2.2 ≠ 0 ∨ wholeV g.1 = false then (v, at_, moreV g.2.2.2) else
 let r := nextV bs g.2.2.1 last
 if r.2.2.2 ≠ 0 ∨ r.1.kind ≠ 6 ∨ r.1.s ≠ [82] then (v, at_, moreV r.2.2.2) else
 if v.n < 1 ∨ 4096 < v.n ∨ g.1.vn ≠ 0 then (v, at_, 26) else (.mk 8 v.n [] [], r.2.2.1, 0)
def wordV (w : List UInt8) : Option PV :=
 if w = [116, 114, 117, 101] then some (.mk 1 1 [] []) else if w = [102, 97, 108, 115, 101] then some (.mk 1 0 [] []) else if w = [110, 117, 108, 108] then some PV.none else none
def singleV (bs : List UInt8) (last : Bool) (st : List Lv) (at_ : Int) (t : Tk) : PV × Int × Int :=
 if topW st = true ∧ (t.kind ≠ 1 ∨ t.vk ≠ 5) then (PV.none, at_, 11)
 else if t.kind = 6 then (match wordV t.s with | none => (PV.none, at_, 11) | some v => (v, at_, 0))
 else if wholeV t = true then refV bs last at_ (tkV t)
 else (tkV t, at_, 0)
def beginV (st : List Lv) (dict : Bool) : List Lv × Int := if topW st = true then (st, 11) else if 64 ≤ st.length then (st, 15) else ({ dict := dict, l := [] } :: st, 0)
def twoV : List PV → List (PV × PV)
 | a :: b :: l => (a, b) :: twoV l
 | _ => []
def flatV : List (PV × PV) → List PV
 | [] => []
 | (a, b) :: l => a :: b :: flatV l
def sLt : List UInt8 → List UInt8 → Bool
 | [], [] => false
 | [], _ :: _ => true
 | _ :: _, [] => false
 | a :: l, b :: m => if a.toNat < b.toNat then true else if b.toNat < a.toNat then false else sLt l m
def insV (x : PV × PV) : List (PV × PV) → List (PV × PV)
 | [] => [x]
 | y :: l => if sLt y.1.s x.1.s then y :: insV x l else x :: y :: l
def sortV : List (PV × PV) → List (PV × PV)
 | [] => []
 | x :: l => insV x (sortV l)
def twiceV : List (PV × PV) → Bool
 | x :: y :: l => x.1.s == y.1.s || twiceV (y :: l)
 | _ => false
def pairsV (l : List PV) : Option (List PV) := if twiceV (sortV (twoV l)) = true then none else some (flatV (sortV (twoV l)))
def endV12 (st : List Lv) (dict : Bool) : PV × List Lv × Int :=
 match st with
 | [] => (PV.none, st, 11)
 | v :: rest =>
   if v.dict ≠ dict ∨ (dict = true ∧ wantsV v = false) then (PV.none, st, 11)
   else if dict = false then (.mk 6 0 [] v.l, rest, 0)
   else match pairsV v.l with
     | none => (PV.none, st, 16)
     | some l => (.mk 7 0 [] l, rest, 0)
def stepV (bs : List UInt8) (last : Bool) (st : List Lv) (at_ : Int) (t : Tk) : Option PV × List Lv × Int × Int :=
 if t.kind = 0 then (none, st, at_, 10)
 else if t.kind = 2 ∨ t.kind = 4 then (none, (beginV st (t.kind == 4)).1, at_, (beginV st (t.kind == 4)).2)
 else if t.kind = 3 ∨ t.kind = 5 then
   (let r := endV12 st (t.kind == 5)
    if r.2.2 = 0 then (some r.1, r.2.1, at_, 0) else (none, r.2.1, at_, r.2.2))
 else
   (let r := singleV bs last st at_ t
    if r.2.2 ≠ 0 then (none, st, r.2.1, r.2.2) else if 64 ≤ st.length then (none, st, r.2.1, 15) else (some r.1, st, r.2.1, 0))
def valO (bs : List UInt8) (last : Bool) : Nat → List Lv → Int → Option (PV × Int × Int)
 | 0, _, _ => none
 | g + 1, st, at_ =>
   let t := nextV bs at_ last
   if t.2.2.2 ≠ 0 then some (PV.none, 0, t.2.2.2) else
   match stepV bs last st t.2.2.1 t.1 with
   | (v, st2, at2, e) =>
     if e ≠ 0 then some (PV.none, 0, e) else
     match v with
     | none => valO bs last g st2 at2
     | some x => match st2 with
       | [] => some (x, at2, 0)
       | top :: rest => valO bs last g ({ top with l := top.l ++ [x] } :: rest) at2
theorem nextV_to {bs : List UInt8} {k : Int} (last : Bool) (h : 0 ≤ k) (h2 : k ≤ bs.length) : k ≤ (nextV bs k last).2.2.1 ∧ (nextV bs k last).2.2.1 ≤ bs.length := by
 rw [nextV_in last h h2]
 have hs := skipV_bd h h2
 cases hd : bs.drop (skipV bs k) with
 | nil => rw [nextF_nil last hd]; exact ⟨hs.1, by have := hs.2; show ((skipV bs k : Nat) : Int) ≤ _; omega⟩
 | cons c t =>
   rw [nextF_cons last hd]
   have hl : (bs.drop (skipV bs k)).length = t.length + 1 := by rw [hd]; rfl
   rw [List.length_drop] at hl
   split
   · rename_i h0
     have := (tokV_some last c t h0).2
     exact ⟨by show k ≤ (bs.length : Int) - _; omega, by show (bs.length : Int) - _ ≤ _; omega⟩
   · exact ⟨hs.1, by have := hs.2; show ((skipV bs k : Nat) : Int) ≤ _; omega⟩
def ascV : List (PV × PV) → Bool
 | x :: y :: l => sLt x.1.s y.1.s && ascV (y :: l)
 | _ => true
def evenN : List PV → Bool
 | [] => true
 | [a] => a.kind == 5
 | a :: _ :: l => a.kind == 5 && evenN l
def ownC : PV → Int
 | .mk k n s l =>
   if k = 0 then (if n = 0 ∧ s = [] ∧ l = [] then 0 else 2)
   else if k = 1 then (if (n = 0 ∨ n = 1) ∧ s = [] ∧ l = [] then 0 else 2)
   else if k = 2 ∨ k = 3 then (if s = [] ∧ l = [] then checkV k n true else 2)
   else if k = 4 then (if n = 0 ∧ l = [] then 0 else 2)
   else if k = 5 then (if 127 < s.length ∨ (0 : UInt8) ∈ s then 17 else if n = 0 ∧ l = [] then 0 else 2)
   else if k = 6 then (if n = 0 ∧ s = [] then 0 else 2)
   else if k = 7 then (if n ≠ 0 ∨ s ≠ [] ∨ l.length % 2 ≠ 0 then 2 else if evenN l = false then 2 else if ascV (twoV l) = true then 0 else 16)
   else if k = 8 then (if 1 ≤ n ∧ n ≤ 4096 ∧ s = [] ∧ l = [] then 0 else 2)
   else 2
theorem sLt_tri : ∀ a b : List UInt8, sLt a b = false → a ≠ b → sLt b a = true
 | [], [], _, h => absurd rfl h
 | [], _ :: _, h, _ => by simp [sLt] at h
 | _ :: _, [], _, _ => by simp [sLt]
 | x :: a, y :: b, h, hn => by
   simp only [sLt] at h ⊢
   by_cases h1 : x.toNat < y.toNat
   · rw [if_pos h1] at h; cases h
   · rw [if_neg h1] at h
     by_cases h2 : y.toNat < x.toNat
     · rw [if_pos h2]
     · rw [if_neg h2] at h ⊢
       rw [if_neg h1]
       have hxy : x = y := UInt8.toNat_inj.1 (by omega)
       subst hxy
       exact sLt_tri a b h fun e => hn (by rw [e])
def notGt : List (PV × PV) → Prop
 | x :: y :: l => sLt y.1.s x.1.s = false ∧ notGt (y :: l)
 | _ => True
theorem sLt_as : ∀ a b : List UInt8, sLt a b = true → sLt b a = false
 | [], [], h => by simp [sLt] at h
 | [], _ :: _, _ => by simp [sLt]
 | _ :: _, [], h => by simp [sLt] at h
 | x :: a, y :: b, h => by
   simp only [sLt] at h ⊢
   by_cases h1 : x.toNat < y.toNat
   · rw [if_neg (by omega), if_pos h1]
   · rw [if_neg h1] at h
     by_cases h2 : y.toNat < x.toNat
     · rw [if_pos h2] at h; cases h
     · rw [if_neg h2] at h
       rw [if_neg h2, if_neg h1]
       exact sLt_as a b h
theorem ins_head (x : PV × PV) : ∀ l, ∃ z t, insV x l = z :: t ∧ (z = x ∨ ∃ t', l = z :: t')
 | [] => ⟨x, [], rfl, .inl rfl⟩
 | y :: l => by
   simp only [insV]
   split
   · exact ⟨y, _, rfl, .inr ⟨l, rfl⟩⟩
   · exact ⟨x, _, rfl, .inl rfl⟩
theorem notGt_cons {x : PV × PV} {l : List (PV × PV)} (h : notGt l) (hh : ∀ z t, l = z :: t → sLt z.1.s x.1.s = false) : notGt (x :: l) := by
 cases l with
 | nil => trivial
 | cons y t => exact ⟨hh y t rfl, h⟩
theorem notGt_tail {x : PV × PV} {l : List (PV × PV)} (h : notGt (x :: l)) : notGt l := by
 cases l with
 | nil => trivial
 | cons y t => exact h.2
theorem ins_notGt (x : PV × PV) : ∀ l, notGt l → notGt (insV x l)
 | [], _ => trivial
 | y :: l, h => by
   simp only [insV]
   split
   · rename_i hy
     refine notGt_cons (ins_notGt x l (notGt_tail h)) fun z t hz => ?_
     obtain ⟨z', t', e1, e2⟩ := ins_head x l
     rw [e1] at hz
     have hzz : z' = z := (List.cons.inj hz).1
     rcases e2 with e2 | ⟨t2, e2⟩
     · rw [← hzz, e2]; exact sLt_as _ _ hy
     · rw [← hzz]; subst e2; exact h.1
   · rename_i hy
     exact notGt_cons h fun z t hz => by
       have : y = z := (List.cons.inj hz).1
       rw [← this]
       simpa using hy
theorem sort_notGt : ∀ l, notGt (sortV l)
 | [] => trivial
 | x :: l => ins_notGt x _ (sort_notGt l)
theorem ins_perm (x : PV × PV) : ∀ l, (insV x l).Perm (x :: l)
 | [] => List.Perm.refl _
 | y :: l => by
   simp only [insV]
   split
   · exact ((ins_perm x l).cons y).trans (List.Perm.swap x y l)
   · exact List.Perm.refl _
theorem sort_perm : ∀ l, (sortV l).Perm l
 | [] => List.Perm.refl _
 | x :: l => (ins_perm x _).trans ((sort_perm l).cons x)
def tkOk (t : Tk) : Prop := 0 ≤ t.kind ∧ t.kind ≤ 6 ∧ (t.kind = 1 → ownC (tkV t) = 0 ∧ t.vk ≠ 6 ∧ t.vk ≠ 7)
theorem tkn {t : Tk} (n : Nat) (e : t.kind = n) (h : n ≤ 6) (h1 : n ≠ 1) : tkOk t := ⟨by omega, by omega, fun h2 => by omega⟩
theorem tk1 {t : Tk} (e : t.kind = 1) (ho : ownC (tkV t) = 0) (h6 : t.vk ≠ 6) (h7 : t.vk ≠ 7) : tkOk t := ⟨by omega, by omega, fun _ => ⟨ho, h6, h7⟩⟩
theorem own_num {k n : Int} (hk : k = 2 ∨ k = 3) (hc : checkV k n true = 0) : ownC (.mk k n [] []) = 0 := by
 simp only [ownC]
 rw [if_neg (by omega), if_neg (by omega), if_pos hk, if_pos ⟨by trivial, by trivial⟩]
 exact hc
theorem nameV_ok {w o : List UInt8} (h : nameV w = some o) : ¬ (127 < o.length ∨ (0 : UInt8) ∈ o) := by
 unfold nameV at h
 split at h
 · cases h
 · split at h
   · cases h
   · rename_i hn
     cases h
     exact hn
theorem tokV_ok (last : Bool) (c : UInt8) (t : List UInt8) (h : (tokV last c t).1 = 0) : tkOk (tokV last c t).2.1 := by
 unfold tokV at h ⊢
 split
 · rename_i q0
   rw [if_pos q0] at h
   try simp only at h ⊢
   split
   · rename_i q1; rw [if_pos q1] at h; cases h
   · rename_i q1
     rw [if_neg q1] at h
     split
     · rename_i q2
       rw [if_pos q2] at h
       have hc := parseV_check _ h
       try simp only at hc
       have hk : (parseV ((c :: t).takeWhile isRg)).1 = 2 ∨ (parseV ((c :: t).takeWhile isRg)).1 = 3 := by
         unfold checkV at hc
         split at hc
         · rename_i hq
           rcases hq.2 with hq | hq
           · exact .inl hq.1
           · exact .inr hq.1
         · cases hc
       refine tk1 rfl ?_ ?_ ?_
       · exact own_num hk hc
       · show (parseV _).1 ≠ 6; omega
       · show (parseV _).1 ≠ 7; omega
     · exact (by first | exact tkn 0 rfl (by decide) (by decide) | exact tkn 2 rfl (by decide) (by decide) | exact tkn 3 rfl (by decide) (by decide) | exact tkn 4 rfl (by decide) (by decide) | exact tkn 5 rfl (by decide) (by decide) | exact tkn 6 rfl (by decide) (by decide))
 · rename_i q0
   rw [if_neg q0] at h
   split
   · exact (by first | exact tkn 0 rfl (by decide) (by decide) | exact tkn 2 rfl (by decide) (by decide) | exact tkn 3 rfl (by decide) (by decide) | exact tkn 4 rfl (by decide) (by decide) | exact tkn 5 rfl (by decide) (by decide) | exact tkn 6 rfl (by decide) (by decide))
   · rename_i q1
     rw [if_neg q1] at h
     split
     · exact (by first | exact tkn 0 rfl (by decide) (by decide) | exact tkn 2 rfl (by decide) (by decide) | exact tkn 3 rfl (by decide) (by decide) | exact tkn 4 rfl (by decide) (by decide) | exact tkn 5 rfl (by decide) (by decide) | exact tkn 6 rfl (by decide) (by decide))
     · rename_i q2
       rw [if_neg q2] at h
       split
       · split
         · exact (by first | exact tkn 0 rfl (by decide) (by decide) | exact tkn 2 rfl (by decide) (by decide) | exact tkn 3 rfl (by decide) (by decide) | exact tkn 4 rfl (by decide) (by decide) | exact tkn 5 rfl (by decide) (by decide) | exact tkn 6 rfl (by decide) (by decide))
         · split
           · exact (by first | exact tkn 0 rfl (by decide) (by decide) | exact tkn 2 rfl (by decide) (by decide) | exact tkn 3 rfl (by decide) (by decide) | exact tkn 4 rfl (by decide) (by decide) | exact tkn 5 rfl (by decide) (by decide) | exact tkn 6 rfl (by decide) (by decide))
           · simp only
             split
             · exact tk1 rfl (by show ownC (.mk 4 0 _ []) = 0; simp [ownC]) (by show (4 : Int) ≠ 6; decide) (by show (4 : Int) ≠ 7; decide)
             · split
               · exact (by first | exact tkn 0 rfl (by decide) (by decide) | exact tkn 2 rfl (by decide) (by decide) | exact tkn 3 rfl (by decide) (by decide) | exact tkn 4 rfl (by decide) (by decide) | exact tkn 5 rfl (by decide) (by decide) | exact tkn 6 rfl (by decide) (by decide))
               · exact (by first | exact tkn 0 rfl (by decide) (by decide) | exact tkn 2 rfl (by decide) (by decide) | exact tkn 3 rfl (by decide) (by decide) | exact tkn 4 rfl (by decide) (by decide) | exact tkn 5 rfl (by decide) (by decide) | exact tkn 6 rfl (by decide) (by decide))
       · rename_i q3
         rw [if_neg q3] at h
         split
         · split
           · exact (by first | exact tkn 0 rfl (by decide) (by decide) | exact tkn 2 rfl (by decide) (by decide) | exact tkn 3 rfl (by decide) (by decide) | exact tkn 4 rfl (by decide) (by decide) | exact tkn 5 rfl (by decide) (by decide) | exact tkn 6 rfl (by decide) (by decide))
           · split
             · exact (by first | exact tkn 0 rfl (by decide) (by decide) | exact tkn 2 rfl (by decide) (by decide) | exact tkn 3 rfl (by decide) (by decide) | exact tkn 4 rfl (by decide) (by decide) | exact tkn 5 rfl (by decide) (by decide) | exact tkn 6 rfl (by decide) (by decide))
             · exact (by first | exact tkn 0 rfl (by decide) (by decide) | exact tkn 2 rfl (by decide) (by decide) | exact tkn 3 rfl (by decide) (by decide) | exact tkn 4 rfl (by decide) (by decide) | exact tkn 5 rfl (by decide) (by decide) | exact tkn 6 rfl (by decide) (by decide))
         · rename_i q4
           rw [if_neg q4] at h
           split
           · split
             · exact (by first | exact tkn 0 rfl (by decide) (by decide) | exact tkn 2 rfl (by decide) (by decide) | exact tkn 3 rfl (by decide) (by decide) | exact tkn 4 rfl (by decide) (by decide) | exact tkn 5 rfl (by decide) (by decide) | exact tkn 6 rfl (by decide) (by decide))
             · exact tk1 rfl (by show ownC (.mk 4 0 _ []) = 0; simp [ownC]) (by show (4 : Int) ≠ 6; decide) (by show (4 : Int) ≠ 7; decide)
           · rename_i q5
             rw [if_neg q5] at h
             split
             · simp only
               split
               · exact (by first | exact tkn 0 rfl (by decide) (by decide) | exact tkn 2 rfl (by decide) (by decide) | exact tkn 3 rfl (by decide) (by decide) | exact tkn 4 rfl (by decide) (by decide) | exact tkn 5 rfl (by decide) (by decide) | exact tkn 6 rfl (by decide) (by decide))
               · split
                 · exact (by first | exact tkn 0 rfl (by decide) (by decide) | exact tkn 2 rfl (by decide) (by decide) | exact tkn 3 rfl (by decide) (by decide) | exact tkn 4 rfl (by decide) (by decide) | exact tkn 5 rfl (by decide) (by decide) | exact tkn 6 rfl (by decide) (by decide))
                 · rename_i o ho
                   have hn := nameV_ok ho
                   exact tk1 rfl (by show ownC (.mk 5 0 o []) = 0; simp only [ownC]; simp [hn]) (by show (5 : Int) ≠ 6; decide) (by show (5 : Int) ≠ 7; decide)
             · exact (by first | exact tkn 0 rfl (by decide) (by decide) | exact tkn 2 rfl (by decide) (by decide) | exact tkn 3 rfl (by decide) (by decide) | exact tkn 4 rfl (by decide) (by decide) | exact tkn 5 rfl (by decide) (by decide) | exact tkn 6 rfl (by decide) (by decide))
theorem nextV_ok {bs : List UInt8} {k : Int} (last : Bool) (h : 0 ≤ k) (h2 : k ≤ bs.length) : tkOk (nextV bs k last).1 := by
 rw [nextV_in last h h2]
 cases hd : bs.drop (skipV bs k) with
 | nil => rw [nextF_nil last hd]; exact (by first | exact tkn 0 rfl (by decide) (by decide) | exact tkn 2 rfl (by decide) (by decide) | exact tkn 3 rfl (by decide) (by decide) | exact tkn 4 rfl (by decide) (by decide) | exact tkn 5 rfl (by decide) (by decide) | exact tkn 6 rfl (by decide) (by decide))
 | cons c t =>
   rw [nextF_cons last hd]
   split
   · rename_i h0; exact tokV_ok last c t h0
   · exact (by first | exact tkn 0 rfl (by decide) (by decide) | exact tkn 2 rfl (by decide) (by decide) | exact tkn 3 rfl (by decide) (by decide) | exact tkn 4 rfl (by decide) (by decide) | exact tkn 5 rfl (by decide) (by decide) | exact tkn 6 rfl (by decide) (by decide))
theorem nextV_far {bs : List UInt8} {k : Int} {last : Bool} (h : 0 ≤ k) (h2 : k ≤ bs.length) (he : (nextV bs k last).2.2.2 = 0) (hk : (nextV bs k last).1.kind ≠ 0) : k < (nextV bs k last).2.2.1 := by
 have := (nextV_places last h h2).2.2 he hk
 omega
theorem refV_at {bs : List UInt8} {last : Bool} {k : Int} (h : 0 ≤ k) (h2 : k ≤ bs.length) (v : PV) : k ≤ (refV bs last k v).2.1 ∧ (refV bs last k v).2.1 ≤ bs.length := by
 obtain ⟨g1, g2⟩ := nextV_to last h h2
 unfold refV
 simp only
 split
 · exact ⟨Int.le_refl _, h2⟩
 · obtain ⟨r1, r2⟩ := nextV_to (bs := bs) (k := (nextV bs k last).2.2.1) last (by omega) g2
   split
   · exact ⟨Int.le_refl _, h2⟩
   · split
     · exact ⟨Int.le_refl _, h2⟩
     · exact ⟨Int.le_trans g1 r1, r2⟩
theorem singleV_at {bs : List UInt8} {last : Bool} {k : Int} (h : 0 ≤ k) (h2 : k ≤ bs.length) (st : List Lv) (t : Tk) : k ≤ (singleV bs last st k t).2.1 ∧ (singleV bs last st k t).2.1 ≤ bs.length := by
 unfold singleV
 split
 · exact ⟨Int.le_refl _, h2⟩
 · split
   · split
     · exact ⟨Int.le_refl _, h2⟩
     · exact ⟨Int.le_refl _, h2⟩
   · split
     · exact refV_at h h2 _
     · exact ⟨Int.le_refl _, h2⟩
theorem stepV_at {bs : List UInt8} {last : Bool} {k : Int} (h : 0 ≤ k) (h2 : k ≤ bs.length) (st : List Lv) (t : Tk) : k ≤ (stepV bs last st k t).2.2.1 ∧ (stepV bs last st k t).2.2.1 ≤ bs.length := by
 unfold stepV
 split
 · exact ⟨Int.le_refl _, h2⟩
 · split
   · exact ⟨Int.le_refl _, h2⟩
   · split
     · simp only
       split
       · exact ⟨Int.le_refl _, h2⟩
       · exact ⟨Int.le_refl _, h2⟩
     · simp only
       have := singleV_at (last := last) h h2 st t
       split
       · exact this
       · split
         · exact this
         · exact this
theorem stepV_kind {bs : List UInt8} {last : Bool} {k : Int} {st : List Lv} {t : Tk} (h : (stepV bs last st k t).2.2.2 = 0) : t.kind ≠ 0 := by
 intro e
 unfold stepV at h
 rw [if_pos e] at h
 cases h
theorem valO_some (bs : List UInt8) (last : Bool) : ∀ (g : Nat) (st : List Lv) (k : Int), 0 ≤ k → k ≤ bs.length → ((bs.length : Int) - k).toNat < g → ∃ V, valO bs last g st k = some V
 | 0, _, _, _, _, h => by omega
 | g + 1, st, k, h, h2, hg => by
   unfold valO
   simp only
   by_cases he : (nextV bs k last).2.2.2 ≠ 0
   · rw [if_pos he]; exact ⟨_, rfl⟩
   · rw [if_neg he]
     have he0 : (nextV bs k last).2.2.2 = 0 := by simpa using he
     obtain ⟨g1, g2⟩ := nextV_to last h h2
     have hfar := nextV_far h h2 he0
     generalize (nextV bs k last).2.2.1 = to at *
     generalize (nextV bs k last).1 = t at *
     obtain ⟨s1, s2⟩ := stepV_at (bs := bs) (last := last) (k := to) (by omega) g2 st t
     have sk := stepV_kind (bs := bs) (last := last) (k := to) (st := st) (t := t)
     generalize stepV bs last st to t = Z at *
     obtain ⟨v, st2, at2, e2⟩ := Z
     simp only at s1 s2 sk ⊢
     by_cases h0 : e2 ≠ 0
     · rw [if_pos h0]; exact ⟨_, rfl⟩
     · rw [if_neg h0]
       have hk := hfar (sk (by simpa using h0))
       cases v with
       | none => exact valO_some bs last g st2 at2 (by omega) s2 (by omega)
       | some x =>
         cases st2 with
         | nil => exact ⟨_, rfl⟩
         | cons top rest => exact valO_some bs last g _ at2 (by omega) s2 (by omega)
def insK (x : PV × PV) : List (PV × PV) → List (PV × PV)
 | [] => [x]
 | y :: l => if sLt x.1.s y.1.s then x :: y :: l else y :: insK x l
def hasK (s : List UInt8) (l : List (PV × PV)) : Bool := l.any fun y => y.1.s == s
def repK (x : PV × PV) : List (PV × PV) → List (PV × PV)
 | [] => []
 | y :: l => if y.1.s = x.1.s then (y.1, x.2) :: l else y :: repK x l
def putK (x : PV × PV) (l : List (PV × PV)) : List (PV × PV) := if hasK x.1.s l then repK x l else insK x l
def docS : List (PV × PV) → List (PV × PV) → Bool → List (PV × PV) × Bool
 | [], l, tw => (l, tw)
 | x :: p, l, tw => docS p (putK x l) (tw || hasK x.1.s l)
def ascP : List (PV × PV) → Prop
 | [] => True
 | x :: l => (∀ y ∈ l, sLt x.1.s y.1.s = true) ∧ ascP l
theorem sLt_tr : ∀ a b c : List UInt8, sLt a b = true → sLt b c = true → sLt a c = true
 | [], [], _, h, _ => by simp [sLt] at h
 | [], _ :: _, [], _, h => by simp [sLt] at h
 | [], _ :: _, _ :: _, _, _ => by simp [sLt]
 | _ :: _, [], _, h, _ => by simp [sLt] at h
 | _ :: _, _ :: _, [], _, h => by simp [sLt] at h
 | x :: a, y :: b, z :: c, h1, h2 => by
   simp only [sLt] at h1 h2 ⊢
   by_cases p1 : x.toNat < y.toNat
   · by_cases p2 : y.toNat < z.toNat
     · rw [if_pos (by omega)]
     · rw [if_neg p2] at h2
       by_cases p3 : z.toNat < y.toNat
       · rw [if_pos p3] at h2; cases h2
       · rw [if_pos (by omega)]
   · rw [if_neg p1] at h1
     by_cases p4 : y.toNat < x.toNat
     · rw [if_pos p4] at h1; cases h1
     · rw [if_neg p4] at h1
       by_cases p2 : y.toNat < z.toNat
       · rw [if_pos (by omega)]
       · rw [if_neg p2] at h2
         by_cases p3 : z.toNat < y.toNat
         · rw [if_pos p3] at h2; cases h2
         · rw [if_neg p3] at h2
           rw [if_neg (by omega), if_neg (by omega)]
           exact sLt_tr a b c h1 h2
theorem sLt_ir : ∀ a : List UInt8, sLt a a = false
 | [] => rfl
 | x :: a => by simp only [sLt]; rw [if_neg (by omega), if_neg (by omega)]; exact sLt_ir a
theorem insK_mem {x y : PV × PV} : ∀ l, y ∈ insK x l ↔ y = x ∨ y ∈ l
 | [] => by simp [insK]
 | z :: l => by
   simp only [insK]
   split
   · simp
   · rw [List.mem_cons, insK_mem l, List.mem_cons]
     constructor
     · rintro (h | h | h)
       · exact .inr (.inl h)
       · exact .inl h
       · exact .inr (.inr h)
     · rintro (h | h | h)
       · exact .inr (.inl h)
       · exact .inl h
       · exact .inr (.inr h)
theorem insK_perm (x : PV × PV) : ∀ l, (insK x l).Perm (x :: l)
 | [] => List.Perm.refl _
 | y :: l => by
   simp only [insK]
   split
   · exact List.Perm.refl _
   · exact ((insK_perm x l).cons y).trans (List.Perm.swap x y l)
theorem insK_asc {x : PV × PV} : ∀ l, ascP l → hasK x.1.s l = false → ascP (insK x l)
 | [], _, _ => ⟨fun y hy => (by cases hy), trivial⟩
 | y :: l, h, hh => by
   simp only [hasK, List.any_cons, Bool.or_eq_false_iff, beq_eq_false_iff_ne] at hh
   simp only [insK]
   split
   · rename_i hlt
     refine ⟨fun z hz => ?_, h⟩
     rcases List.mem_cons.1 hz with rfl | hz
     · exact hlt
     · exact sLt_tr _ _ _ hlt (h.1 z hz)
   · rename_i hlt
     have hyx : sLt y.1.s x.1.s = true := sLt_tri _ _ (by simpa using hlt) (fun e => hh.1 e.symm)
     refine ⟨fun z hz => ?_, insK_asc l h.2 hh.2⟩
     rcases (insK_mem l).1 hz with rfl | hz
     · exact hyx
     · exact h.1 z hz
theorem asc_unique : ∀ l m : List (PV × PV), ascP l → ascP m → l.Perm m → l = m
 | [], m, _, _, h => (List.Perm.nil_eq h).symm ▸ rfl
 | x :: l, [], _, _, h => absurd h.length_eq (by simp)
 | x :: l, y :: m, hl, hm, h => by
   have hxy : x = y := by
     have h1 : x ∈ y :: m := h.mem_iff.1 (List.mem_cons_self)
     have h2 : y ∈ x :: l := h.mem_iff.2 (List.mem_cons_self)
     rcases List.mem_cons.1 h1 with h1 | h1
     · exact h1
     · rcases List.mem_cons.1 h2 with h2 | h2
       · exact h2.symm
       · have a1 := hm.1 x h1
         have a2 := hl.1 y h2
         rw [sLt_as _ _ a1] at a2
         cases a2
   subst hxy
   rw [asc_unique l m hl.2 hm.2 ((List.perm_cons x).1 h)]
theorem asc_of_asc : ∀ l : List (PV × PV), notGt l → twiceV l = false → ascP l
 | [], _, _ => trivial
 | [x], _, _ => ⟨fun y hy => (by cases hy), trivial⟩
 | x :: y :: l, h, ht => by
   simp only [twiceV, Bool.or_eq_false_iff, beq_eq_false_iff_ne] at ht
   have hr := asc_of_asc (y :: l) h.2 ht.2
   have hxy : sLt x.1.s y.1.s = true := sLt_tri _ _ h.1 (fun e => ht.1 e.symm)
   refine ⟨fun z hz => ?_, hr⟩
   rcases List.mem_cons.1 hz with rfl | hz
   · exact hxy
   · exact sLt_tr _ _ _ hxy (hr.1 z hz)
def nodupK : List (PV × PV) → Prop
 | [] => True
 | x :: l => (∀ y ∈ l, y.1.s ≠ x.1.s) ∧ nodupK l
theorem nodupK_perm {l m : List (PV × PV)} (h : l.Perm m) : nodupK l → nodupK m := by
 induction h with
 | nil => exact id
 | cons x h ih => exact fun ⟨h1, h2⟩ => ⟨fun y hy => h1 y (h.mem_iff.2 hy), ih h2⟩
 | swap x y l =>
   rintro ⟨h1, h2, h3⟩
   refine ⟨fun z hz => ?_, fun z hz => h1 z (List.mem_cons_of_mem _ hz), h3⟩
   rcases List.mem_cons.1 hz with rfl | hz
   · exact fun e => h1 x (List.mem_cons_self) e.symm
   · exact h2 z hz
 | trans _ _ ih1 ih2 => exact fun h => ih2 (ih1 h)
theorem twice_nodup : ∀ l : List (PV × PV), twiceV l = true → ¬ nodupK l
 | [], h, _ => by cases h
 | [_], h, _ => by cases h
 | x :: y :: l, h, hn => by
   simp only [twiceV, Bool.or_eq_true, beq_iff_eq] at h
   rcases h with h | h
   · exact hn.1 y (List.mem_cons_self) h.symm
   · exact twice_nodup (y :: l) h hn.2
theorem asc_nodup : ∀ l : List (PV × PV), ascP l → nodupK l
 | [], _ => trivial
 | x :: l, h => ⟨fun y hy e => (by have := h.1 y hy; rw [e, sLt_ir] at this; cases this), asc_nodup l h.2⟩
theorem hasK_no {s : List UInt8} {l : List (PV × PV)} : hasK s l = false ↔ ∀ y ∈ l, y.1.s ≠ s := by
 unfold hasK
 rw [List.any_eq_false]
 simp
theorem docS_tw : ∀ p l, (docS p l true).2 = true
 | [], _ => rfl
 | x :: p, l => by simp only [docS, Bool.true_or]; exact docS_tw p _
theorem docS_is : ∀ (p l : List (PV × PV)), ascP l → ((docS p l false).2 = false → ascP (docS p l false).1 ∧ (docS p l false).1.Perm (l ++ p)) ∧ ((docS p l false).2 = true → ¬ nodupK (l ++ p))
 | [], l, h => ⟨fun _ => ⟨h, by simp [docS]⟩, fun e => by cases e⟩
 | x :: p, l, h => by
   simp only [docS, Bool.false_or]
   cases hk : hasK x.1.s l with
   | true =>
     refine ⟨fun e => ?_, fun _ hn => ?_⟩
     · rw [docS_tw] at e; cases e
     · have h1 := nodupK_perm (List.perm_middle) hn
       have h2 : hasK x.1.s l = false := hasK_no.2 fun y hy => h1.1 y (List.mem_append_left _ hy)
       rw [hk] at h2; cases h2
   | false =>
     have e1 : putK x l = insK x l := by unfold putK; rw [hk]; rfl
     rw [e1]
     obtain ⟨r1, r2⟩ := docS_is p (insK x l) (insK_asc l h hk)
     have hp : (insK x l ++ p).Perm (l ++ x :: p) := ((insK_perm x l).append_right p).trans (List.perm_middle.symm)
     exact ⟨fun e => ⟨(r1 e).1, (r1 e).2.trans hp⟩, fun e hn => r2 e (nodupK_perm hp.symm hn)⟩
theorem pairs_doc (l : List PV) : pairsV l = if (docS (twoV l) [] false).2 = true then none else some (flatV (docS (twoV l) [] false).1) := by
 obtain ⟨r1, r2⟩ := docS_is (twoV l) [] trivial
 have hp := sort_perm (twoV l)
 unfold pairsV
 cases hd : (docS (twoV l) [] false).2 with
 | true =>
   have hn := r2 hd
   have ht : twiceV (sortV (twoV l)) = true := by
     cases h : twiceV (sortV (twoV l)) with
     | true => rfl
     | false => exact absurd (nodupK_perm hp (asc_nodup _ (asc_of_asc _ (sort_notGt _) h))) hn
   rw [if_pos ht, if_pos rfl]
 | false =>
   obtain ⟨q1, q2⟩ := r1 hd
   have hn : nodupK (twoV l) := nodupK_perm q2 (asc_nodup _ q1)
   have ht : twiceV (sortV (twoV l)) = false := by
     cases h : twiceV (sortV (twoV l)) with
     | false => rfl
     | true => exact absurd (nodupK_perm hp.symm hn) (twice_nodup _ h)
   rw [if_neg (by simp [ht]), if_neg (by simp)]
   rw [asc_unique _ _ (asc_of_asc _ (sort_notGt _) ht) q1 (hp.trans q2.symm)]
theorem docS_snoc : ∀ (p : List (PV × PV)) (x : PV × PV) (l : List (PV × PV)) (tw : Bool), docS (p ++ [x]) l tw = (putK x (docS p l tw).1, (docS p l tw).2 || hasK x.1.s (docS p l tw).1)
 | [], _, _, _ => rfl
 | y :: p, x, l, tw => by simp only [List.cons_append, docS]; exact docS_snoc p x _ _
theorem two_snoc : ∀ (l : List PV) (a b : PV), l.length % 2 = 0 → twoV (l ++ [a, b]) = twoV l ++ [(a, b)]
 | [], _, _, _ => rfl
 | [_], _, _, h => by simp at h
 | x :: y :: l, a, b, h => by simp only [List.cons_append, twoV]; rw [two_snoc l a b (by simp at h; omega)]
def refD (bs : List UInt8) (last : Bool) (at_ n : Int) : Bool × Int × Int :=
 let g := nextV bs at_ last
 if g.2.2.2 = 6 then (false, 0, 6) else
 if g.2.2.2 ≠ 0 ∨ wholeV g.1 = false then (false, 0, 0) else
 let r := nextV bs g.2.2.1 last
 if r.2.2.2 = 6 then (false, 0, 6) else
 if r.2.2.2 ≠ 0 ∨ r.1.kind ≠ 6 ∨ r.1.s ≠ [82] then (false, 0, 0) else
 if n < 1 ∨ 4096 < n ∨ g.1.vn ≠ 0 then (false, 0, 26) else (true, r.2.2.1, 0)
def singD (bs : List UInt8) (last : Bool) (t : Tk) (to : Int) : PV × Int × Int :=
 if t.kind = 6 then (match wordV t.s with | none => (PV.none, 0, 11) | some v => (v, to, 0))
 else if wholeV t = true then
   (if (refD bs last to t.vn).2.2 ≠ 0 then (PV.none, 0, (refD bs last to t.vn).2.2) else if (refD bs last to t.vn).1 = true then (.mk 8 t.vn [] [], (refD bs last to t.vn).2.1, 0) else (tkV t, to, 0))
 else (tkV t, to, 0)
def arrD (bs : List UInt8) (last : Bool) (f : Tk → Int → PV × Int × Int) : Nat → List PV → Int → PV × Int × Int
 | 0, _, _ => (PV.none, 0, 10)
 | r + 1, l, at_ =>
   if (nextV bs at_ last).2.2.2 ≠ 0 then (PV.none, 0, (nextV bs at_ last).2.2.2)
   else if (nextV bs at_ last).1.kind = 3 then (.mk 6 0 [] l, (nextV bs at_ last).2.2.1, 0)
   else if (f (nextV bs at_ last).1 (nextV bs at_ last).2.2.1).2.2 ≠ 0 then (PV.none, 0, (f (nextV bs at_ last).1 (nextV bs at_ last).2.2.1).2.2)
   else arrD bs last f r (l ++ [(f (nextV bs at_ last).1 (nextV bs at_ last).2.2.1).1]) (f (nextV bs at_ last).1 (nextV bs at_ last).2.2.1).2.1
def dictD (bs : List UInt8) (last : Bool) (f : Tk → Int → PV × Int × Int) (d : Nat) : Nat → List (PV × PV) → Bool → Int → PV × Int × Int
 | 0, _, _, _ => (PV.none, 0, 10)
 | r + 1, ps, tw, at_ =>
   let t := nextV bs at_ last
   if t.2.2.2 ≠ 0 then (PV.none, 0, t.2.2.2)
   else if t.1.kind = 5 then (if tw = true then (PV.none, 0, 16) else (.mk 7 0 [] (flatV ps), t.2.2.1, 0))
   else if t.1.kind = 0 then (PV.none, 0, 10)
   else if t.1.kind ≠ 1 ∨ t.1.vk ≠ 5 then (PV.none, 0, 11)
   else if d = 0 then (PV.none, 0, 15)
   else
     let u := nextV bs t.2.2.1 last
     if u.2.2.2 ≠ 0 then (PV.none, 0, u.2.2.2)
     else if (f u.1 u.2.2.1).2.2 ≠ 0 then (PV.none, 0, (f u.1 u.2.2.1).2.2)
     else dictD bs last f d r (putK (.mk 5 0 t.1.vs [], (f u.1 u.2.2.1).1) ps) (tw || hasK t.1.vs ps) (f u.1 u.2.2.1).2.1
def vlD (bs : List UInt8) (last : Bool) : Nat → Tk → Int → PV × Int × Int
 | 0, t, to =>
   if t.kind = 0 then (PV.none, 0, 10) else if t.kind = 2 ∨ t.kind = 4 then (PV.none, 0, 15) else if t.kind = 3 ∨ t.kind = 5 then (PV.none, 0, 11)
   else if (singD bs last t to).2.2 ≠ 0 then (PV.none, 0, (singD bs last t to).2.2) else (PV.none, 0, 15)
 | d + 1, t, to =>
   if t.kind = 0 then (PV.none, 0, 10)
   else if t.kind = 2 then arrD bs last (vlD bs last d) (bs.length + 1) [] to
   else if t.kind = 4 then dictD bs last (vlD bs last d) d (bs.length + 1) [] false to
   else if t.kind = 3 ∨ t.kind = 5 then (PV.none, 0, 11)
   else singD bs last t to
def wholeD (bs : List UInt8) (last : Bool) (at_ : Int) : PV × Int × Int :=
 if (nextV bs at_ last).2.2.2 ≠ 0 then (PV.none, 0, (nextV bs at_ last).2.2.2) else vlD bs last 64 (nextV bs at_ last).1 (nextV bs at_ last).2.2.1
theorem refD_is {bs : List UInt8} {last : Bool} {k : Int} (v : PV) (n : Int) (hn : v.n = n) :
   (refV bs last k v).2.2 = (refD bs last k n).2.2 ∧ ((refD bs last k n).2.2 = 0 → (refV bs last k v).1 = (if (refD bs last k n).1 = true then .mk 8 n [] [] else v) ∧ (refV bs last k v).2.1 = if (refD bs last k n).1 = true then (refD bs last k n).2.1 else k) := by
 unfold refV refD
 simp only
 by_cases g6 : (nextV bs k last).2.2.2 = 6
 · rw [if_pos (.inl (by rw [g6]; decide)), if_pos g6, g6]
   exact ⟨rfl, fun h => by cases h⟩
 · rw [if_neg g6]
   by_cases hc : (nextV bs k last).2.2.2 ≠ 0 ∨ wholeV (nextV bs k last).1 = false
   · rw [if_pos hc, if_pos hc]
     have : moreV (nextV bs k last).2.2.2 = 0 := if_neg g6
     exact ⟨this, fun _ => ⟨rfl, rfl⟩⟩
   · rw [if_neg hc, if_neg hc]
     by_cases r6 : (nextV bs (nextV bs k last).2.2.1 last).2.2.2 = 6
     · rw [if_pos (.inl (by rw [r6]; decide)), if_pos r6, r6]
       exact ⟨rfl, fun h => by cases h⟩
     · rw [if_neg r6]
       by_cases hd : (nextV bs (nextV bs k last).2.2.1 last).2.2.2 ≠ 0 ∨ (nextV bs (nextV bs k last).2.2.1 last).1.kind ≠ 6 ∨ (nextV bs (nextV bs k last).2.2.1 last).1.s ≠ [82]
       · rw [if_pos hd, if_pos hd]
         have : moreV (nextV bs (nextV bs k last).2.2.1 last).2.2.2 = 0 := if_neg r6
         exact ⟨this, fun _ => ⟨rfl, rfl⟩⟩
       · rw [if_neg hd, if_neg hd, hn]
         by_cases he : n < 1 ∨ 4096 < n ∨ (nextV bs k last).1.vn ≠ 0
         · rw [if_pos he, if_pos he]
           exact ⟨rfl, fun h => by cases h⟩
         · rw [if_neg he, if_neg he]
           exact ⟨rfl, fun _ => ⟨rfl, rfl⟩⟩
theorem singD_is {bs : List UInt8} {last : Bool} {st : List Lv} {to : Int} {t : Tk} (hw : topW st = false) :
   ((singD bs last t to).2.2 = 0 → singleV bs last st to t = ((singD bs last t to).1, (singD bs last t to).2.1, 0)) ∧ ((singD bs last t to).2.2 ≠ 0 → (singleV bs last st to t).2.2 = (singD bs last t to).2.2) := by
 have hs : singleV bs last st to t = (if t.kind = 6 then (match wordV t.s with | none => (PV.none, to, 11) | some v => (v, to, 0)) else if wholeV t = true then refV bs last to (tkV t) else (tkV t, to, 0)) := by
   unfold singleV
   rw [if_neg (by rintro ⟨h, -⟩; rw [hw] at h; cases h)]
   all_goals (try rfl)
 rw [hs]
 unfold singD
 by_cases k6 : t.kind = 6
 · simp only [if_pos k6]
   cases hq : wordV t.s with
   | none => exact ⟨fun h => (by cases h), fun _ => rfl⟩
   | some v => exact ⟨fun _ => rfl, fun h => absurd rfl h⟩
 · simp only [if_neg k6]
   by_cases hq : wholeV t = true
   · simp only [if_pos hq]
     obtain ⟨r1, r2⟩ := refD_is (bs := bs) (last := last) (k := to) (tkV t) t.vn rfl
     by_cases he : (refD bs last to t.vn).2.2 ≠ 0
     · simp only [if_pos he]
       exact ⟨fun h => absurd h he, fun _ => r1⟩
     · simp only [if_neg he]
       have he0 : (refD bs last to t.vn).2.2 = 0 := by simpa using he
       obtain ⟨p1, p2⟩ := r2 he0
       rw [he0] at r1
       by_cases hb : (refD bs last to t.vn).1 = true
       · simp only [if_pos hb] at p1 p2 ⊢
         exact ⟨fun _ => Prod.ext p1 (Prod.ext p2 r1), fun h => absurd rfl h⟩
       · simp only [if_neg hb] at p1 p2 ⊢
         exact ⟨fun _ => Prod.ext p1 (Prod.ext p2 r1), fun h => absurd rfl h⟩
   · simp only [if_neg hq]
     exact ⟨fun _ => by trivial, fun h => absurd rfl h⟩
def contO (bs : List UInt8) (last : Bool) (g : Nat) (st : List Lv) (at_ : Int) (x : PV) : Option (PV × Int × Int) :=
 match st with
 | [] => some (x, at_, 0)
 | top :: rest => valO bs last g ({ top with l := top.l ++ [x] } :: rest) at_
def aftO (bs : List UInt8) (last : Bool) (g : Nat) (st : List Lv) (to : Int) (t : Tk) : Option (PV × Int × Int) :=
 if (stepV bs last st to t).2.2.2 ≠ 0 then some (PV.none, 0, (stepV bs last st to t).2.2.2) else
 match (stepV bs last st to t).1 with
 | none => valO bs last g (stepV bs last st to t).2.1 (stepV bs last st to t).2.2.1
 | some x => contO bs last g (stepV bs last st to t).2.1 (stepV bs last st to t).2.2.1 x
theorem valO_eq (bs : List UInt8) (last : Bool) (g : Nat) (st : List Lv) (k : Int) : valO bs last (g + 1) st k = if (nextV bs k last).2.2.2 ≠ 0 then some (PV.none, 0, (nextV bs k last).2.2.2) else aftO bs last g st (nextV bs k last).2.2.1 (nextV bs k last).1 := by
 unfold aftO contO
 rw [valO]
 all_goals (try rfl)
def AnsD (bs : List UInt8) (last : Bool) (st : List Lv) (R : PV × Int × Int) (P : PV × Int × Int → Prop) : Prop :=
 (R.2.2 = 0 → ∀ V, (∃ g, contO bs last g st R.2.1 R.1 = some V) → P V) ∧ (R.2.2 ≠ 0 → P (PV.none, 0, R.2.2))
theorem aft_err {bs : List UInt8} {last : Bool} {st : List Lv} {to : Int} {t : Tk} {e : Int} (h : (stepV bs last st to t).2.2.2 = e) (he : e ≠ 0) : ∃ g, aftO bs last g st to t = some (PV.none, 0, e) := by
 refine ⟨0, ?_⟩
 unfold aftO
 rw [if_pos (by rw [h]; exact he), h]
theorem aft_none {bs : List UInt8} {last : Bool} {st st2 : List Lv} {to at2 : Int} {t : Tk} (h : stepV bs last st to t = (none, st2, at2, 0)) (g : Nat) : aftO bs last g st to t = valO bs last g st2 at2 := by
 unfold aftO
 rw [h]
 simp only
 rw [if_neg (by decide)]
theorem aft_some {bs : List UInt8} {last : Bool} {st st2 : List Lv} {to at2 : Int} {t : Tk} {x : PV} (h : stepV bs last st to t = (some x, st2, at2, 0)) (g : Nat) : aftO bs last g st to t = contO bs last g st2 at2 x := by
 unfold aftO
 rw [h]
 simp only
 rw [if_neg (by decide)]
theorem sing_ans {bs : List UInt8} {last : Bool} {st : List Lv} {to : Int} {t : Tk} (hw : topW st = false) (hk : t.kind = 1 ∨ t.kind = 6) :
   (st.length < 64 → AnsD bs last st (singD bs last t to) fun V => ∃ g, aftO bs last g st to t = some V) ∧
   (64 ≤ st.length → ∃ g, aftO bs last g st to t = some (PV.none, 0, if (singD bs last t to).2.2 ≠ 0 then (singD bs last t to).2.2 else 15)) := by
 obtain ⟨s1, s2⟩ := singD_is (bs := bs) (last := last) (to := to) (t := t) hw
 have hst : stepV bs last st to t = (if (singleV bs last st to t).2.2 ≠ 0 then (none, st, (singleV bs last st to t).2.1, (singleV bs last st to t).2.2) else if 64 ≤ st.length then (none, st, (singleV bs last st to t).2.1, 15) else (some (singleV bs last st to t).1, st, (singleV bs last st to t).2.1, 0)) := by
   unfold stepV
   rw [if_neg (by omega), if_neg (by omega), if_neg (by omega)]
 by_cases he : (singD bs last t to).2.2 = 0
 · have h1 := s1 he
   rw [h1] at hst
   simp only at hst
   rw [if_neg (by decide)] at hst
   refine ⟨fun hl => ⟨fun _ V hV => ?_, fun h => absurd he h⟩, fun hl => ?_⟩
   · rw [if_neg (by omega)] at hst
     obtain ⟨g, hg⟩ := hV
     exact ⟨g, by rw [aft_some hst]; exact hg⟩
   · rw [if_pos hl] at hst
     rw [if_neg (by simp [he])]
     exact aft_err (by rw [hst]) (by decide)
 · have h1 := s2 he
   rw [if_pos (by rw [h1]; exact he)] at hst
   refine ⟨fun hl => ⟨fun h => absurd h he, fun _ => ?_⟩, fun hl => ?_⟩
   · exact aft_err (by rw [hst]; exact h1) he
   · rw [if_pos he]
     exact aft_err (by rw [hst]; exact h1) he
def ValAt (bs : List UInt8) (last : Bool) (d : Nat) : Prop := ∀ (st : List Lv) (t : Tk) (to : Int), st.length + d = 64 → topW st = false → (t.kind = 3 → ∀ v rest, st = v :: rest → v.dict = true) → tkOk t → 0 ≤ to → to ≤ bs.length →
 AnsD bs last st (vlD bs last d t to) (fun V => ∃ g, aftO bs last g st to t = some V) ∧ ((vlD bs last d t to).2.2 = 0 → t.kind ≠ 0 ∧ to ≤ (vlD bs last d t to).2.1 ∧ (vlD bs last d t to).2.1 ≤ bs.length)
theorem arr_ans {bs : List UInt8} {last : Bool} {d : Nat} (hf : ValAt bs last d) (st : List Lv) (hd : st.length + 1 + d = 64) : ∀ (r : Nat) (l : List PV) (k : Int), 0 ≤ k → k ≤ bs.length → ((bs.length : Int) - k).toNat < r →
   AnsD bs last st (arrD bs last (vlD bs last d) r l k) (fun V => ∃ g, valO bs last g ({ dict := false, l := l } :: st) k = some V) ∧ ((arrD bs last (vlD bs last d) r l k).2.2 = 0 → k ≤ (arrD bs last (vlD bs last d) r l k).2.1 ∧ (arrD bs last (vlD bs last d) r l k).2.1 ≤ bs.length)
 | 0, _, _, _, _, h => by omega
 | r + 1, l, k, h, h2, hr => by
   obtain ⟨g1, g2⟩ := nextV_to last h h2
   have hok := nextV_ok last h h2
   have hfar := nextV_far (last := last) h h2
   have hval := valO_eq bs last
   simp only [arrD]
   by_cases he : (nextV bs k last).2.2.2 ≠ 0
   · rw [if_pos he]
     exact ⟨⟨fun h => absurd h he, fun _ => ⟨1, by rw [hval, if_pos he]⟩⟩, fun h => absurd h he⟩
   · rw [if_neg he]
     have he0 : (nextV bs k last).2.2.2 = 0 := by simpa using he
     have hfar2 := hfar he0
     have hgo : ∀ V, (∃ g, aftO bs last g ({ dict := false, l := l } :: st) (nextV bs k last).2.2.1 (nextV bs k last).1 = some V) → ∃ g, valO bs last g ({ dict := false, l := l } :: st) k = some V := fun V ⟨g, hg⟩ => ⟨g + 1, by rw [hval, if_neg he]; exact hg⟩
     generalize (nextV bs k last).2.2.1 = to at *
     generalize (nextV bs k last).1 = t at *
     by_cases k3 : t.kind = 3
     · rw [if_pos k3]
       have hst : stepV bs last ({ dict := false, l := l } :: st) to t = (some (.mk 6 0 [] l), st, to, 0) := by
         unfold stepV
         rw [if_neg (by omega), if_neg (by omega), if_pos (.inl k3)]
         have hk : (t.kind == 5) = false := by rw [beq_eq_false_iff_ne]; omega
         rw [hk]
         simp [endV12]
       exact ⟨⟨fun _ V ⟨g, hg⟩ => hgo V ⟨g, by rw [aft_some hst]; exact hg⟩, fun h => absurd rfl h⟩, fun _ => ⟨g1, g2⟩⟩
     · rw [if_neg k3]
       obtain ⟨f1, f2⟩ := hf ({ dict := false, l := l } :: st) t to (by simpa using hd) rfl (fun h => absurd h k3) hok (by omega) g2
       by_cases hv : (vlD bs last d t to).2.2 ≠ 0
       · rw [if_pos hv]
         exact ⟨⟨fun h => absurd h hv, fun _ => hgo _ (f1.2 hv)⟩, fun h => absurd h hv⟩
       · rw [if_neg hv]
         have hv0 : (vlD bs last d t to).2.2 = 0 := by simpa using hv
         obtain ⟨q1, q2, q3⟩ := f2 hv0
         have hlt := hfar2 q1
         obtain ⟨r1, r2⟩ := arr_ans hf st hd r (l ++ [(vlD bs last d t to).1]) (vlD bs last d t to).2.1 (by omega) q3 (by omega)
         exact ⟨⟨fun h V hV => hgo V (f1.1 hv0 V (r1.1 h V hV)), fun h => hgo _ (f1.1 hv0 _ (r1.2 h))⟩, fun h => ⟨by have := (r2 h).1; omega, (r2 h).2⟩⟩
theorem name_tk {t : Tk} (ht : tkOk t) (h1 : t.kind = 1) (h5 : t.vk = 5) : tkV t = .mk 5 0 t.vs [] := by
 obtain ⟨o1, -, -⟩ := ht.2.2 h1
 have hn : t.vn = 0 := by
   unfold tkV at o1
   rw [h5] at o1
   simp only [ownC] at o1
   rw [if_neg (by decide), if_neg (by decide), if_neg (by decide), if_neg (by decide), if_pos (by trivial)] at o1
   split at o1
   · cases o1
   · split at o1
     · rename_i h; exact h.1
     · cases o1
 unfold tkV
 rw [h5, hn]
theorem step_name {bs : List UInt8} {last : Bool} {st : List Lv} {to : Int} {t : Tk} (ht : tkOk t) (h1 : t.kind = 1) (h5 : t.vk = 5) : stepV bs last st to t = if 64 ≤ st.length then (none, st, to, 15) else (some (.mk 5 0 t.vs []), st, to, 0) := by
 have hs : singleV bs last st to t = (tkV t, to, 0) := by
   unfold singleV
   rw [if_neg (by rintro ⟨-, h | h⟩; exact h h1; exact h h5), if_neg (by omega), if_neg (by unfold wholeV; rw [h5]; simp)]
 unfold stepV
 rw [if_neg (by omega), if_neg (by omega), if_neg (by omega), hs, name_tk ht h1 h5]
 simp only
 rw [if_neg (by decide)]
theorem dict_ans {bs : List UInt8} {last : Bool} {d : Nat} (hf : ValAt bs last d) (st : List Lv) (hd : st.length + 1 + d = 64) : ∀ (r : Nat) (l : List PV) (k : Int), l.length % 2 = 0 → 0 ≤ k → k ≤ bs.length → ((bs.length : Int) - k).toNat < r →
   AnsD bs last st (dictD bs last (vlD bs last d) d r (docS (twoV l) [] false).1 (docS (twoV l) [] false).2 k) (fun V => ∃ g, valO bs last g ({ dict := true, l := l } :: st) k = some V) ∧ ((dictD bs last (vlD bs last d) d r (docS (twoV l) [] false).1 (docS (twoV l) [] false).2 k).2.2 = 0 → k ≤ (dictD bs last (vlD bs last d) d r (docS (twoV l) [] false).1 (docS (twoV l) [] false).2 k).2.1 ∧ (dictD bs last (vlD bs last d) d r (docS (twoV l) [] false).1 (docS (twoV l) [] false).2 k).2.1 ≤ bs.length)
 | 0, _, _, _, _, _, h => by omega
 | r + 1, l, k, hl, h, h2, hr => by
   obtain ⟨g1, g2⟩ := nextV_to last h h2
   have hok := nextV_ok last h h2
   have hfar := nextV_far (last := last) h h2
   have hval := valO_eq bs last
   have hpd := pairs_doc l
   have htw := docS_snoc (twoV l)
   have hts := two_snoc l
   simp only [dictD]
   generalize hps : docS (twoV l) [] false = D at *
   obtain ⟨ps, tw⟩ := D
   simp only at hpd ⊢
   by_cases he : (nextV bs k last).2.2.2 ≠ 0
   · rw [if_pos he]
     exact ⟨⟨fun h => absurd h he, fun _ => ⟨1, by rw [hval, if_pos he]⟩⟩, fun h => absurd h he⟩
   · rw [if_neg he]
     have he0 : (nextV bs k last).2.2.2 = 0 := by simpa using he
     have hfar2 := hfar he0
     have hgo : ∀ V, (∃ g, aftO bs last g ({ dict := true, l := l } :: st) (nextV bs k last).2.2.1 (nextV bs k last).1 = some V) → ∃ g, valO bs last g ({ dict := true, l := l } :: st) k = some V := fun V ⟨g, hg⟩ => ⟨g + 1, by rw [hval, if_neg he]; exact hg⟩
     generalize (nextV bs k last).2.2.1 = to at *
     generalize (nextV bs k last).1 = t at *
     have hw : topW ({ dict := true, l := l } :: st) = true := by simp [topW, wantsV, hl]
     by_cases k5 : t.kind = 5
     · rw [if_pos k5]
       have hst : stepV bs last ({ dict := true, l := l } :: st) to t = if tw = true then (none, { dict := true, l := l } :: st, to, 16) else (some (.mk 7 0 [] (flatV ps)), st, to, 0) := by
         have hww : wantsV { dict := true, l := l } = true := hw
         unfold stepV
         rw [if_neg (by omega), if_neg (by omega), if_pos (.inr k5)]
         have hk : (t.kind == 5) = true := by rw [beq_iff_eq]; exact k5
         rw [hk]
         cases tw with
         | true => simp [endV12, hww, hpd]
         | false => simp [endV12, hww, hpd]
       cases tw with
       | true =>
         rw [if_pos rfl] at hst ⊢
         exact ⟨⟨fun h => (by cases h), fun _ => hgo _ (aft_err (by rw [hst]) (by decide))⟩, fun h => by cases h⟩
       | false =>
         rw [if_neg (by decide)] at hst ⊢
         exact ⟨⟨fun _ V ⟨g, hg⟩ => hgo V ⟨g, by rw [aft_some hst]; exact hg⟩, fun h => absurd rfl h⟩, fun _ => ⟨g1, g2⟩⟩
     · rw [if_neg k5]
       by_cases k0 : t.kind = 0
       · rw [if_pos k0]
         exact ⟨⟨fun h => (by cases h), fun _ => hgo _ (aft_err (by unfold stepV; rw [if_pos k0]) (by decide))⟩, fun h => by cases h⟩
       · rw [if_neg k0]
         by_cases kv : t.kind ≠ 1 ∨ t.vk ≠ 5
         · rw [if_pos kv]
           have hst : (stepV bs last ({ dict := true, l := l } :: st) to t).2.2.2 = 11 := by
             unfold stepV
             rw [if_neg k0]
             by_cases k24 : t.kind = 2 ∨ t.kind = 4
             · rw [if_pos k24]
               unfold beginV
               rw [if_pos hw]
             · rw [if_neg k24]
               by_cases k3 : t.kind = 3
               · rw [if_pos (.inl k3)]
                 have hk : (t.kind == 5) = false := by rw [beq_eq_false_iff_ne]; omega
                 rw [hk]
                 simp [endV12]
               · rw [if_neg (by omega)]
                 have hs : singleV bs last ({ dict := true, l := l } :: st) to t = (PV.none, to, 11) := by
                   unfold singleV
                   rw [if_pos ⟨hw, kv⟩]
                 rw [hs]
                 rfl
           exact ⟨⟨fun h => (by cases h), fun _ => hgo _ (aft_err hst (by decide))⟩, fun h => by cases h⟩
         · rw [if_neg kv]
           have k1 : t.kind = 1 := Decidable.byContradiction fun h => kv (.inl h)
           have v5 : t.vk = 5 := Decidable.byContradiction fun h => kv (.inr h)
           have hst := step_name (bs := bs) (last := last) (st := { dict := true, l := l } :: st) (to := to) hok k1 v5
           by_cases d0 : d = 0
           · rw [if_pos d0]
             rw [if_pos (by simp only [List.length_cons]; omega)] at hst
             exact ⟨⟨fun h => (by cases h), fun _ => hgo _ (aft_err (by rw [hst]) (by decide))⟩, fun h => by cases h⟩
           · rw [if_neg d0]
             rw [if_neg (by simp only [List.length_cons]; omega)] at hst
             have hlt := hfar2 k0
             have hgo2 : ∀ V, (∃ g, valO bs last g ({ dict := true, l := l ++ [.mk 5 0 t.vs []] } :: st) to = some V) → ∃ g, valO bs last g ({ dict := true, l := l } :: st) k = some V := fun V ⟨g, hg⟩ => hgo V ⟨g, by rw [aft_some hst]; exact hg⟩
             obtain ⟨u1, u2⟩ := nextV_to (bs := bs) (k := to) last (by omega) g2
             have uok := nextV_ok (bs := bs) (k := to) last (by omega) g2
             by_cases ue : (nextV bs to last).2.2.2 ≠ 0
             · rw [if_pos ue]
               exact ⟨⟨fun h => absurd h ue, fun _ => hgo2 _ ⟨1, by rw [hval, if_pos ue]⟩⟩, fun h => absurd h ue⟩
             · rw [if_neg ue]
               have hgo3 : ∀ V, (∃ g, aftO bs last g ({ dict := true, l := l ++ [.mk 5 0 t.vs []] } :: st) (nextV bs to last).2.2.1 (nextV bs to last).1 = some V) → ∃ g, valO bs last g ({ dict := true, l := l } :: st) k = some V := fun V ⟨g, hg⟩ => hgo2 V ⟨g + 1, by rw [hval, if_neg ue]; exact hg⟩
               generalize (nextV bs to last).2.2.1 = uto at *
               generalize (nextV bs to last).1 = u at *
               obtain ⟨f1, f2⟩ := hf ({ dict := true, l := l ++ [.mk 5 0 t.vs []] } :: st) u uto (by simpa using hd) (by simp [topW, wantsV]; omega) (fun _ v rest hv => by cases hv; rfl) uok (by omega) u2
               by_cases hv : (vlD bs last d u uto).2.2 ≠ 0
               · rw [if_pos hv]
                 exact ⟨⟨fun h => absurd h hv, fun _ => hgo3 _ (f1.2 hv)⟩, fun h => absurd h hv⟩
               · rw [if_neg hv]
                 have hv0 : (vlD bs last d u uto).2.2 = 0 := by simpa using hv
                 obtain ⟨q1, q2, q3⟩ := f2 hv0
                 obtain ⟨r1, r2⟩ := dict_ans hf st hd r (l ++ [.mk 5 0 t.vs [], (vlD bs last d u uto).1]) (vlD bs last d u uto).2.1 (by simp; omega) (by omega) q3 (by omega)
                 rw [hts _ _ hl, htw, hps] at r1 r2
                 have happ : ∀ x : PV, (l ++ [.mk 5 0 t.vs []]) ++ [x] = l ++ [.mk 5 0 t.vs [], x] := fun x => by simp
                 have hc : ∀ V, (∃ g, valO bs last g ({ dict := true, l := l ++ [.mk 5 0 t.vs [], (vlD bs last d u uto).1] } :: st) (vlD bs last d u uto).2.1 = some V) → ∃ g, contO bs last g ({ dict := true, l := l ++ [.mk 5 0 t.vs []] } :: st) (vlD bs last d u uto).2.1 (vlD bs last d u uto).1 = some V := fun V ⟨g, hg⟩ => ⟨g, by show valO bs last g ({ dict := true, l := (l ++ [.mk 5 0 t.vs []]) ++ [_] } :: st) _ = _; rw [happ]; exact hg⟩
                 exact ⟨⟨fun h V hV => hgo3 V (f1.1 hv0 V (hc V (r1.1 h V hV))), fun h => hgo3 _ (f1.1 hv0 _ (hc _ (r1.2 h)))⟩, fun h => ⟨Int.le_trans (show k ≤ (vlD bs last d u uto).2.1 by omega) (r2 h).1, (r2 h).2⟩⟩
theorem refD_at {bs : List UInt8} {last : Bool} {k n : Int} (h : 0 ≤ k) (h2 : k ≤ bs.length) (hb : (refD bs last k n).1 = true) : k ≤ (refD bs last k n).2.1 ∧ (refD bs last k n).2.1 ≤ bs.length := by
 obtain ⟨g1, g2⟩ := nextV_to last h h2
 obtain ⟨r1, r2⟩ := nextV_to (bs := bs) (k := (nextV bs k last).2.2.1) last (by omega) g2
 unfold refD at hb ⊢
 simp only at hb ⊢
 split at hb
 · cases hb
 · rename_i q1
   rw [if_neg q1]
   split at hb
   · cases hb
   · rename_i q2
     rw [if_neg q2]
     split at hb
     · cases hb
     · rename_i q3
       rw [if_neg q3]
       split at hb
       · cases hb
       · rename_i q4
         rw [if_neg q4]
         split at hb
         · cases hb
         · rename_i q5
           rw [if_neg q5]
           exact ⟨Int.le_trans g1 r1, r2⟩
theorem singD_at {bs : List UInt8} {last : Bool} {k : Int} {t : Tk} (h : 0 ≤ k) (h2 : k ≤ bs.length) (he : (singD bs last t k).2.2 = 0) : k ≤ (singD bs last t k).2.1 ∧ (singD bs last t k).2.1 ≤ bs.length := by
 unfold singD at he ⊢
 split
 · rename_i q
   rw [if_pos q] at he
   cases hw : wordV t.s with
   | none => rw [hw] at he; cases he
   | some v => exact ⟨Int.le_refl _, h2⟩
 · rename_i q
   rw [if_neg q] at he
   split
   · rename_i q2
     rw [if_pos q2] at he
     split
     · rename_i q3; rw [if_pos q3] at he; exact absurd he q3
     · split
       · rename_i q4; exact refD_at h h2 q4
       · exact ⟨Int.le_refl _, h2⟩
   · exact ⟨Int.le_refl _, h2⟩
theorem close_err {bs : List UInt8} {last : Bool} {st : List Lv} {t : Tk} {to : Int} (hw : topW st = false) (hn3 : t.kind = 3 → ∀ v rest, st = v :: rest → v.dict = true) (k : t.kind = 3 ∨ t.kind = 5) : (stepV bs last st to t).2.2.2 = 11 := by
 have he : (endV12 st (t.kind == 5)).2.2 = 11 := by
   cases st with
   | nil => rfl
   | cons v rest =>
     unfold endV12
     simp only
     rw [if_pos]
     rcases k with k | k
     · left
       have hk : (t.kind == 5) = false := by rw [beq_eq_false_iff_ne]; omega
       rw [hk, hn3 k v rest rfl]
       decide
     · have hk : (t.kind == 5) = true := by rw [beq_iff_eq]; exact k
       rw [hk]
       exact .inr ⟨rfl, hw⟩
 unfold stepV
 rw [if_neg (by omega), if_neg (by omega), if_pos k]
 simp only
 rw [if_neg (by rw [he]; decide)]
 exact he
theorem val_ans {bs : List UInt8} {last : Bool} : ∀ d, ValAt bs last d
 | 0 => fun st t to hd hw hn3 ht h h2 => by
   unfold vlD
   by_cases k0 : t.kind = 0
   · rw [if_pos k0]
     exact ⟨⟨fun h => (by cases h), fun _ => aft_err (by unfold stepV; rw [if_pos k0]) (by decide)⟩, fun h => by cases h⟩
   · rw [if_neg k0]
     by_cases k24 : t.kind = 2 ∨ t.kind = 4
     · rw [if_pos k24]
       exact ⟨⟨fun h => (by cases h), fun _ => aft_err (by unfold stepV beginV; rw [if_neg k0, if_pos k24, if_neg (by rw [hw]; decide), if_pos (by omega)]) (by decide)⟩, fun h => by cases h⟩
     · rw [if_neg k24]
       by_cases k35 : t.kind = 3 ∨ t.kind = 5
       · rw [if_pos k35]
         exact ⟨⟨fun h => (by cases h), fun _ => aft_err (close_err hw hn3 k35) (by decide)⟩, fun h => by cases h⟩
       · rw [if_neg k35]
         have hk : t.kind = 1 ∨ t.kind = 6 := by have := ht.1; have := ht.2.1; omega
         have hs := (sing_ans (bs := bs) (last := last) (to := to) hw hk).2 (by omega)
         by_cases he : (singD bs last t to).2.2 ≠ 0
         · rw [if_pos he] at hs ⊢
           exact ⟨⟨fun h => absurd h he, fun _ => hs⟩, fun h => absurd h he⟩
         · rw [if_neg he] at hs ⊢
           exact ⟨⟨fun h => (by cases h), fun _ => hs⟩, fun h => by cases h⟩
 | d + 1 => fun st t to hd hw hn3 ht h h2 => by
   unfold vlD
   by_cases k0 : t.kind = 0
   · rw [if_pos k0]
     exact ⟨⟨fun h => (by cases h), fun _ => aft_err (by unfold stepV; rw [if_pos k0]) (by decide)⟩, fun h => by cases h⟩
   · rw [if_neg k0]
     have hbeg : ∀ q : Bool, beginV st q = ({ dict := q, l := [] } :: st, 0) := fun q => by
       unfold beginV
       rw [if_neg (by rw [hw]; decide), if_neg (by omega)]
     by_cases k2 : t.kind = 2
     · rw [if_pos k2]
       have hst : stepV bs last st to t = (none, { dict := false, l := [] } :: st, to, 0) := by
         unfold stepV
         have hk : (t.kind == 4) = false := by rw [beq_eq_false_iff_ne]; omega
         rw [if_neg k0, if_pos (.inl k2), hk, hbeg]
       obtain ⟨r1, r2⟩ := arr_ans (val_ans (bs := bs) (last := last) d) st (by omega) (bs.length + 1) [] to h h2 (by omega)
       exact ⟨⟨fun h V hV => by obtain ⟨g, hg⟩ := r1.1 h V hV; exact ⟨g, by rw [aft_none hst]; exact hg⟩, fun h => by obtain ⟨g, hg⟩ := r1.2 h; exact ⟨g, by rw [aft_none hst]; exact hg⟩⟩, fun h => ⟨k0, r2 h⟩⟩
     · rw [if_neg k2]
       by_cases k4 : t.kind = 4
       · rw [if_pos k4]
         have hst : stepV bs last st to t = (none, { dict := true, l := [] } :: st, to, 0) := by
           unfold stepV
           have hk : (t.kind == 4) = true := by rw [beq_iff_eq]; exact k4
           rw [if_neg k0, if_pos (.inr k4), hk, hbeg]
         obtain ⟨r1, r2⟩ := dict_ans (val_ans (bs := bs) (last := last) d) st (by omega) (bs.length + 1) [] to rfl h h2 (by omega)
         exact ⟨⟨fun h V hV => by obtain ⟨g, hg⟩ := r1.1 h V hV; exact ⟨g, by rw [aft_none hst]; exact hg⟩, fun h => by obtain ⟨g, hg⟩ := r1.2 h; exact ⟨g, by rw [aft_none hst]; exact hg⟩⟩, fun h => ⟨k0, r2 h⟩⟩
       · rw [if_neg k4]
         by_cases k35 : t.kind = 3 ∨ t.kind = 5
         · rw [if_pos k35]
           exact ⟨⟨fun h => (by cases h), fun _ => aft_err (close_err hw hn3 k35) (by decide)⟩, fun h => by cases h⟩
         · rw [if_neg k35]
           have hk : t.kind = 1 ∨ t.kind = 6 := by have := ht.1; have := ht.2.1; omega
           exact ⟨(sing_ans (bs := bs) (last := last) (to := to) hw hk).1 (by omega), fun he => ⟨k0, singD_at h h2 he⟩⟩
def ErrS (R : PV × Int × Int) : Prop := R.2.2 ≠ 0 → R = (PV.none, 0, R.2.2)
theorem sing_shape (bs : List UInt8) (last : Bool) (t : Tk) (to : Int) : ErrS (singD bs last t to) := by
 unfold singD ErrS
 split
 · split
   · exact fun _ => rfl
   · exact fun h => absurd rfl h
 · split
   · split
     · exact fun _ => rfl
     · split
       · exact fun h => absurd rfl h
       · exact fun h => absurd rfl h
   · exact fun h => absurd rfl h
theorem arr_shape (bs : List UInt8) (last : Bool) (f : Tk → Int → PV × Int × Int) : ∀ r l k, ErrS (arrD bs last f r l k)
 | 0, _, _ => fun _ => rfl
 | r + 1, l, k => by
   unfold ErrS
   simp only [arrD]
   split
   · exact fun _ => rfl
   · split
     · exact fun h => absurd rfl h
     · split
       · exact fun _ => rfl
       · exact arr_shape bs last f r _ _
theorem dict_shape (bs : List UInt8) (last : Bool) (f : Tk → Int → PV × Int × Int) (d : Nat) : ∀ r ps tw k, ErrS (dictD bs last f d r ps tw k)
 | 0, _, _, _ => fun _ => rfl
 | r + 1, ps, tw, k => by
   unfold ErrS
   simp only [dictD]
   split
   · exact fun _ => rfl
   · split
     · split
       · exact fun _ => rfl
       · exact fun h => absurd rfl h
     · split
       · exact fun _ => rfl
       · split
         · exact fun _ => rfl
         · split
           · exact fun _ => rfl
           · split
             · exact fun _ => rfl
             · split
               · exact fun _ => rfl
               · exact dict_shape bs last f d r _ _ _
theorem vl_shape (bs : List UInt8) (last : Bool) (d : Nat) (t : Tk) (to : Int) : ErrS (vlD bs last d t to) := by
 cases d with
 | zero =>
   unfold ErrS vlD
   split
   · exact fun _ => rfl
   · split
     · exact fun _ => rfl
     · split
       · exact fun _ => rfl
       · split
         · exact fun _ => rfl
         · exact fun _ => rfl
 | succ d =>
   unfold vlD
   split
   · exact fun _ => rfl
   · split
     · exact arr_shape _ _ _ _ _ _
     · split
       · exact dict_shape _ _ _ _ _ _ _ _
       · split
         · exact fun _ => rfl
         · exact sing_shape _ _ _ _
theorem wholeD_is {bs : List UInt8} {last : Bool} {k : Int} (h : 0 ≤ k) (h2 : k ≤ bs.length) : ∃ g, valO bs last g [] k = some (wholeD bs last k) := by
 obtain ⟨g1, g2⟩ := nextV_to last h h2
 have hok := nextV_ok last h h2
 unfold wholeD
 by_cases he : (nextV bs k last).2.2.2 ≠ 0
 · rw [if_pos he]
   exact ⟨1, by rw [valO_eq, if_pos he]⟩
 · rw [if_neg he]
   obtain ⟨⟨a1, a2⟩, -⟩ := val_ans (bs := bs) (last := last) 64 [] (nextV bs k last).1 (nextV bs k last).2.2.1 rfl rfl (fun _ v rest hv => by cases hv) hok (by omega) g2
   by_cases hv : (vlD bs last 64 (nextV bs k last).1 (nextV bs k last).2.2.1).2.2 = 0
   · obtain ⟨g, hg⟩ := a1 hv (vlD bs last 64 (nextV bs k last).1 (nextV bs k last).2.2.1) ⟨0, by
       show some (_, _, (0 : Int)) = some _
       rw [← hv]⟩
     exact ⟨g + 1, by rw [valO_eq, if_neg he]; exact hg⟩
   · obtain ⟨g, hg⟩ := a2 hv
     refine ⟨g + 1, ?_⟩
     rw [valO_eq, if_neg he, hg]
     exact congrArg some (vl_shape bs last 64 _ _ hv).symm
theorem valO_mono {bs : List UInt8} {last : Bool} : ∀ (g : Nat) (st : List Lv) (k : Int) (V : PV × Int × Int), valO bs last g st k = some V → valO bs last (g + 1) st k = some V
 | 0, _, _, _, h => by cases h
 | g + 1, st, k, V, h => by
   rw [valO_eq] at h ⊢
   by_cases he : (nextV bs k last).2.2.2 ≠ 0
   · rw [if_pos he] at h ⊢; exact h
   · rw [if_neg he] at h ⊢
     unfold aftO at h ⊢
     by_cases hs : (stepV bs last st (nextV bs k last).2.2.1 (nextV bs k last).1).2.2.2 ≠ 0
     · rw [if_pos hs] at h ⊢; exact h
     · rw [if_neg hs] at h ⊢
       generalize stepV bs last st (nextV bs k last).2.2.1 (nextV bs k last).1 = Z at *
       obtain ⟨v, st2, at2, e2⟩ := Z
       cases v with
       | none => exact valO_mono g st2 at2 V h
       | some x =>
         cases st2 with
         | nil => exact h
         | cons top rest => exact valO_mono g _ at2 V h
theorem valO_more {bs : List UInt8} {last : Bool} {g : Nat} {st : List Lv} {k : Int} {V : PV × Int × Int} (h : valO bs last g st k = some V) : ∀ j, valO bs last (g + j) st k = some V
 | 0 => h
 | j + 1 => valO_mono _ _ _ _ (valO_more h j)
theorem valO_one {bs : List UInt8} {last : Bool} {g g2 : Nat} {st : List Lv} {k : Int} {V V2 : PV × Int × Int} (h : valO bs last g st k = some V) (h2 : valO bs last g2 st k = some V2) : V = V2 := by
 have a1 := valO_more h g2
 have a2 := valO_more h2 g
 rw [Nat.add_comm] at a2
 rw [a1] at a2
 exact Option.some.inj a2
theorem parse_doc {bs : List UInt8} {last : Bool} {k : Int} (h : 0 ≤ k) (h2 : k ≤ bs.length) : valO bs last (bs.length + 2) [] k = some (wholeD bs last k) := by
 obtain ⟨V, hV⟩ := valO_some bs last (bs.length + 2) [] k h h2 (by omega)
 obtain ⟨g, hg⟩ := wholeD_is (last := last) h h2
 rw [hV, valO_one hV hg]
structure Ent where
 at_ : Int := 0
 gen : Int := 0
 used : Bool := false
 deriving DecidableEq, Inhabited
structure Grp where
 first : Int
 es : List Ent
 deriving DecidableEq, Inhabited
structure Sec where
 gs : List Grp
 tr : PV
def Sec.none : Sec := ⟨[], PV.none⟩
theorem digitsV_le (l : List UInt8) : 0 ≤ (digitsV l).1 ∧ (digitsV l).1 ≤ 2147483647 := by
 unfold digitsV
 split
 · exact ⟨by decide, by decide⟩
 · split
   · exact ⟨by decide, by decide⟩
   · exact ⟨by show (0 : Int) ≤ (valD l : Nat); omega, by show ((valD l : Nat) : Int) ≤ 2147483647; omega⟩
def skipS (bs : List UInt8) (k : Nat) : Nat := k + ((bs.drop k).takeWhile isSp).length
def entS (s : List UInt8) : Option Ent :=
 if (digitsV (s.take 10)).2 ≠ 0 ∨ (digitsV ((s.drop 11).take 5)).2 ≠ 0 ∨ 65535 < (digitsV ((s.drop 11).take 5)).1 ∨ s.getD 10 0 ≠ 32 ∨ s.getD 16 0 ≠ 32 ∨ (s.getD 17 0 ≠ 110 ∧ s.getD 17 0 ≠ 102) ∨
   (s.getD 18 0 ≠ 32 ∧ s.getD 18 0 ≠ 10 ∧ s.getD 18 0 ≠ 13) then none
 else some { at_ := (digitsV (s.take 10)).1, gen := (digitsV ((s.drop 11).take 5)).1, used := s.getD 17 0 == 110 }
def entV (bs : List UInt8) (last : Bool) (k : Nat) : Ent × Nat × Int :=
 if bs.length < skipS bs k + 19 then ({}, 0, openE last)
 else match entS ((bs.drop (skipS bs k)).take 19) with
   | none => ({}, 0, 20)
   | some x => (x, skipS bs k + 19, 0)
def entsV (bs : List UInt8) (last : Bool) : Nat → Nat → List Ent → List Ent × Nat × Int
 | 0, k, l => (l, k, 0)
 | n + 1, k, l => if (entV bs last k).2.2 ≠ 0 then ([], 0, (entV bs last k).2.2) else entsV bs last n (entV bs last k).2.1 (l ++ [(entV bs last k).1])
def nxtV (bs : List UInt8) (last : Bool) (k : Int) : Tk × Int × Int × Int :=
 if (nextV bs k last).2.2.2 = 0 ∧ (nextV bs k last).1.kind = 0 then ((nextV bs k last).1, (nextV bs k last).2.1, (nextV bs k last).2.2.1, 10) else nextV bs k last
def fitsV (f n : Int) : Bool := decide (0 ≤ f) && decide (f ≤ 4097) && decide (0 ≤ n) && decide (n ≤ 4097 - f)
def trailT (t : Tk) : Bool := t.kind == 6 && t.s == [116, 114, 97, 105, 108, 101, 114]
def xrefT (t : Tk) : Bool := t.kind == 6 && t.s == [120, 114, 101, 102]
def grpsV (bs : List UInt8) (last : Bool) : Nat → List Grp → Int → List Grp × Int × Int
 | 0, _, _ => ([], 0, 20)
 | g + 1, gs, k =>
   let t := nxtV bs last k
   if t.2.2.2 ≠ 0 then ([], 0, t.2.2.2)
   else if trailT t.1 = true then (gs, t.2.2.1, 0)
   else if wholeV t.1 = false then ([], 0, 20)
   else
     let u := nxtV bs last t.2.2.1
     if u.2.2.2 ≠ 0 then ([], 0, u.2.2.2)
     else if wholeV u.1 = false ∨ gs.length = 64 ∨ fitsV t.1.vn u.1.vn = false then ([], 0, 20)
     else
       let q := entsV bs last u.1.vn.toNat u.2.2.1.toNat []
       if q.2.2 ≠ 0 then ([], 0, q.2.2) else grpsV bs last g (gs ++ [⟨t.1.vn, q.1⟩]) (q.2.1 : Int)
def oneX (p : Tk → Bool) (V : Tk × Int × Int × Int) : Int × Int :=
 if V.2.2.2 ≠ 0 then (0, V.2.2.2) else if V.1.kind = 0 then (0, 10) else if p V.1 = false then (0, 11) else (V.2.2.1, 0)
def secV (bs : List UInt8) (last : Bool) (k : Int) : Sec × Int × Int :=
 let o := oneX xrefT (nextV bs k last)
 if o.2 ≠ 0 then (Sec.none, 0, o.2)
 else
   let g := grpsV bs last 65 [] o.1
   if g.2.2 ≠ 0 then (Sec.none, 0, g.2.2)
   else
     let v := wholeD bs last g.2.1
     if v.2.2 ≠ 0 then (Sec.none, 0, v.2.2) else if v.1.kind ≠ 7 then (Sec.none, 0, 20) else (⟨g.1, v.1⟩, v.2.1, 0)
def findV : List Grp → Int → Option Ent
 | [], _ => none
 | g :: gs, n => if g.first ≤ n ∧ n - g.first < (g.es.length : Int) then some (g.es.getD (n - g.first).toNat {}) else findV gs n
def findP (o : Option Ent) : Ent × Bool := match o with | none => ({}, false) | some e => (e, true)
def entOk (e : Ent) : Bool := decide (0 ≤ e.at_) && decide (e.at_ ≤ 2147483647) && decide (0 ≤ e.gen) && decide (e.gen ≤ 65535)
def entB (e : Ent) : List UInt8 := padL e.at_.toNat 10 ++ (32 :: (padL e.gen.toNat 5 ++ [32, if e.used then 110 else 102, 32]))
def entL (e : Ent) : List UInt8 := entB e ++ [10]
theorem entOk_iff {e : Ent} : entOk e = true ↔ 0 ≤ e.at_ ∧ e.at_ ≤ 2147483647 ∧ 0 ≤ e.gen ∧ e.gen ≤ 65535 := by
 unfold entOk; simp only [Bool.and_eq_true, decide_eq_true_eq]; omega
end Go.Proofs.YtfafdeemfeaedaaGreat
namespace Go.Proofs.YtfafdeemfeaedaaGreat
open Go.RowKit
def Row (w : World) (sz : Nat) (a : Option Addr) (n cap : Nat) (xs : List Value) : Prop :=
 xs.length = n * sz ∧ n ≤ cap ∧ cap ≤ maxLen ∧ (a = none → cap = 0) ∧
   (0 < n → ∃ b off, a = some ⟨b, off, none⟩ ∧ b < w.heap.size ∧ ∀ j u, xs[j]? = some u → w.cell? ⟨b, off + j, none⟩ = some u)
theorem cell?_keep {w w' : World} (hb : Below w.heap.size w w') {a : Addr} {v : Value} (h : w.cell? a = some v) : w'.cell? a = some v :=
 (hb.cell (World.block_lt_of_cell? w a h)).trans h
theorem Row.mono {w w' : World} {sz : Nat} {a : Option Addr} {n cap : Nat} {xs : List Value} (h : Row w sz a n cap xs) (hb : Below w.heap.size w w') : Row w' sz a n cap xs := by
 obtain ⟨h1, h2, h3, h4, h5⟩ := h
 refine ⟨h1, h2, h3, h4, fun hn => ?_⟩
 obtain ⟨b, off, ha, hlt, hc⟩ := h5 hn
 exact ⟨b, off, ha, Nat.lt_of_lt_of_le hlt hb.size, fun j u hj => cell?_keep hb (hc j u hj)⟩
theorem Row.i64 {w : World} {sz : Nat} {a : Option Addr} {n cap : Nat} {xs : List Value} (h : Row w sz a n cap xs) : (n : Int) ≤ 9223372036854775807 := by
 have := h.2.1; have := h.2.2.1; unfold maxLen at this; omega
theorem Row.i64c {w : World} {sz : Nat} {a : Option Addr} {n cap : Nat} {xs : List Value} (h : Row w sz a n cap xs) : (cap : Int) ≤ 9223372036854775807 := by
 have := h.2.2.1; unfold maxLen at this; omega
theorem Row.at {α : Type} {enc : α → Value} (d : α) {w : World} {a : Option Addr} {n cap : Nat} {l : List α} (h : Row w 1 a n cap (l.map enc)) (k : Nat) (hk : k < n) :
   ∃ b off, a = some ⟨b, off, none⟩ ∧ b < w.heap.size ∧ ∀ k, k < n → w.cell? ⟨b, off + k, none⟩ = some (enc (l.getD k d)) := by
 obtain ⟨h1, h2, h3, h4, h5⟩ := h
 obtain ⟨b, off, rfl, hb, hc⟩ := h5 (by omega)
 refine ⟨b, off, rfl, hb, fun k hk => hc k _ ?_⟩
 simp at h1 ⊢
 have : k < l.length := by omega
 simp [this]
theorem Row.len1 {α : Type} {enc : α → Value} {w : World} {a : Option Addr} {n cap : Nat} {l : List α} (h : Row w 1 a n cap (l.map enc)) : l.length = n := by
 have := h.1; simpa using this
theorem Row.nil (w : World) (sz : Nat) : Row w sz none 0 0 [] := ⟨by simp, Nat.le_refl _, by simp [maxLen], fun _ => rfl, fun h => by omega⟩
theorem Row.of_owns {w : World} {base e sz : Nat} {v : Value} {n : Nat} {xs : List Value} (h : w.ownsRow base e sz v n xs) :
   ∃ a cap, v = .slice a n cap ∧ Row w sz a n cap xs ∧ ∀ x, a = some x → base ≤ x.block := by
 obtain ⟨h1, h2⟩ := h
 rcases h2 with ⟨rfl, rfl⟩ | ⟨g, cap, cur, rfl, hb, hg, hn, hm, hs, ht⟩
 · have : xs = [] := List.eq_nil_of_length_eq_zero (by simpa using h1)
   subst this
   exact ⟨none, 0, rfl, Row.nil w sz, fun x hx => by cases hx⟩
 · refine ⟨some ⟨g, 0, none⟩, cap, rfl, ⟨h1, hn, hm, fun h => (by cases h), fun _ => ⟨g, 0, rfl, (Array.getElem?_eq_some_iff.1 hg).1, fun j u hj => ?_⟩⟩, fun x hx => by cases hx; exact hb⟩
   rw [Nat.zero_add, cell_of_row w g j cur e (0, 0) hg]
   rw [← ht, List.getElem?_take] at hj
   split at hj
   · simpa using hj
   · cases hj
theorem Row.of_own {w : World} {base e sz : Nat} {a : Option Addr} {n m cap : Nat} {xs : List Value} (h : w.ownsRow base e sz (.slice a n cap) m xs) : n = m ∧ Row w sz a n cap xs := by
 obtain ⟨a', cap', hv, hr, _⟩ := Row.of_owns h
 simp only [Value.slice.injEq] at hv
 obtain ⟨rfl, rfl, rfl⟩ := hv
 exact ⟨rfl, hr⟩
theorem ownsRow_keep {w w' : World} {base e sz : Nat} {v : Value} {n : Nat} {xs : List Value} (h : w.ownsRow base e sz v n xs) (hb : Below w.heap.size w w') : w'.ownsRow base e sz v n xs := by
 obtain ⟨h1, h2⟩ := h
 refine ⟨h1, ?_⟩
 rcases h2 with h2 | ⟨g, cap, cur, hv, hg, hh, r⟩
 · exact .inl h2
 · exact .inr ⟨g, cap, cur, hv, hg, by rw [hb.block g (Array.getElem?_eq_some_iff.1 hh).1]; exact hh, r⟩
theorem ownsRow_base {w : World} {base base' e sz : Nat} {v : Value} {n : Nat} {xs : List Value} (h : w.ownsRow base e sz v n xs) (hb : base' ≤ base) : w.ownsRow base' e sz v n xs := by
 obtain ⟨h1, h2⟩ := h
 refine ⟨h1, ?_⟩
 rcases h2 with h2 | ⟨g, cap, cur, hv, hg, r⟩
 · exact .inl h2
 · exact .inr ⟨g, cap, cur, hv, by omega, r⟩
theorem block_keep {w w' : World} (hb : Below w.heap.size w w') {b : Nat} {o : Obj} (h : w.heap[b]? = some o) : w'.heap[b]? = some o := by
 rw [hb.block b (Array.getElem?_eq_some_iff.1 h).1]; exact h
structure ElemT (P : Program) (t e : TypeId) (z : Value) (size bytes : Nat) : Prop where
 und : P.underlying t = some (.slice e)
 info : (P.info? e).map (fun i => (i.zero, i.size, i.bytes)) = some (some z, size, bytes)
 cells : z.cells.size = size
 pos : 0 < size
theorem ret_int {k : IntKind} {a b : Int} (h : a = b) : Ending.returned (.int k a) = .returned (.int k b) := by rw [h]
theorem ret_bool {a b : Bool} (h : a = b) : Ending.returned (.bool a) = .returned (.bool b) := by rw [h]
theorem heapA_new {w : World} {b : Nat} (o : Obj) (h : b = w.heap.size) : (w.alloc o).heap[b]? = some o := by subst h; exact heap_alloc_new w o
theorem heapA_old {w : World} {b : Nat} (o : Obj) {o' : Obj} (h : w.heap[b]? = some o') : (w.alloc o).heap[b]? = some o' := by
 rw [Below.heap_alloc w o b (Array.getElem?_eq_some_iff.1 h).1]; exact h
theorem sizeA (w : World) (o : Obj) : (w.alloc o).heap.size = w.heap.size + 1 := by
 show (w.heap.push o).size = _
 simp
theorem belowA (w : World) (o : Obj) : Below w.heap.size w (w.alloc o) := (Below.refl _ _).alloc (Nat.le_refl _) o
theorem belowA2 (w : World) (o o2 : Obj) : Below w.heap.size w ((w.alloc o).alloc o2) := (belowA w o).alloc (by rw [sizeA]; omega) o2
theorem belowA3 (w : World) (o o2 o3 : Obj) : Below w.heap.size w (((w.alloc o).alloc o2).alloc o3) := (belowA2 w o o2).alloc (by rw [sizeA, sizeA]; omega) o3
theorem append_row {P : Program} {w : World} {ops : Array Oper} {rest : List Oper} {o : Oper} {a : Act} {Q : Exit → Act → World → Prop} {t e : TypeId} {z : Value} {size bytes : Nat} (T : ElemT P t e z size bytes)
   (hgd : o.guard = none) (s x : Operand) (ho : o.op = .call { callee := .builtin .append, args := #[s, x], argTypes := #[t, t] })
   (base : Nat) (v : Value) (n : Nat) (xs : List Value) (hs : a.eval s = v) (hown : w.ownsRow base e size v n xs)
   (ao : Option Addr) (m c : Nat) (news : List Value) (hx : a.eval x = .slice ao m c) (hr : Row w size ao m c news) (h1 : ∀ u ∈ news, u.oneCell' = true)
   (h63 : n + m ≤ maxLen) (hbytes : (n + m) * bytes ≤ 140737488355328) (hbase : base ≤ w.heap.size)
   (h : ∀ v' w', w'.ownsRow base e size v' (n + m) (xs ++ news) → w.grownBy w' v.ownBlock → (v' = .slice none 0 0 ↔ v = .slice none 0 0 ∧ m = 0) → wpList P ops Q rest (a.put o.dst v') w') : wpList P ops Q (o :: rest) a w := by
 obtain ⟨i, hi, hz, hs', hb⟩ := info_parts T.info
 subst hb
 obtain ⟨r1, r2, r3, r4, r5⟩ := hr
 cases ao with
 | some ad =>
   refine wpList_append_own w hgd s x t ho base e i z size i.bytes T.und hi hz hs' rfl T.cells T.pos v n xs hs hown ad m c news hx r1 (fun j u hj => ?_) h1 h63 hbytes hbase h
   by_cases hm : 0 < m
   · obtain ⟨b, off, hab, _, hc⟩ := r5 hm
     obtain rfl := Option.some.inj hab
     rw [Addr.add_lit]; exact hc j u hj
   · obtain rfl : m = 0 := by omega
     have : news = [] := List.eq_nil_of_length_eq_zero (by simpa using r1)
     subst this; simp at hj
 | none =>
   obtain rfl := r4 rfl
   obtain rfl : m = 0 := by omega
   have : news = [] := List.eq_nil_of_length_eq_zero (by simpa using r1)
   subst this
   refine wpList_plain hgd fun K hK => ?_
   have hrun := run_append_owned_none (P := P) w base t o.type e i size T.und hi v n xs hown
   unfold Oper.wp
   simp [execOp, ho, resolve, invoke, builtin, hs, hx, hrun, Result.andThen]
   exact hK _ _ (h v w (by simpa using hown) ⟨rfl, rfl, rfl, Nat.le_refl _, fun _ _ _ => rfl⟩ (by simp))
theorem row_new1 (w : World) (x : Value) (e : TypeId) : Row (w.alloc (.cells #[x] e)) 1 (some ⟨w.heap.size, 0, none⟩) 1 1 [x] :=
 ⟨rfl, Nat.le_refl _, by simp [maxLen], fun h => (by cases h), fun _ => ⟨w.heap.size, 0, rfl, by rw [sizeA]; omega, fun j u hj => by
   rw [cell_of_row _ _ _ _ _ _ (heapA_new _ rfl)]
   rcases j with _ | j
   · simpa using hj
   · simp at hj⟩⟩
theorem one_mem {x : Value} (h : x.oneCell' = true) : ∀ u ∈ [x], u.oneCell' = true := by
 intro u hu; simp at hu; subst hu; exact h
theorem below_cell {B : Nat} {w w' : World} (h : Below B w w') {b o : Nat} {v : Value} (hb : b < B) (hc : w.cell? ⟨b, o, none⟩ = some v) : w'.cell? ⟨b, o, none⟩ = some v := (h.cell (p := ⟨b, o, none⟩) hb).trans hc
theorem Row.below {B : Nat} {w w' : World} {sz : Nat} {a : Option Addr} {n cap : Nat} {xs : List Value} (h : Row w sz a n cap xs) (hb : Below B w w') (ha : ∀ x, a = some x → x.block < B) : Row w' sz a n cap xs := by
 obtain ⟨h1, h2, h3, h4, h5⟩ := h
 refine ⟨h1, h2, h3, h4, fun hn => ?_⟩
 obtain ⟨b, off, ha', hlt, hc⟩ := h5 hn
 exact ⟨b, off, ha', Nat.lt_of_lt_of_le hlt hb.size, fun j u hj => below_cell hb (ha _ ha') (hc j u hj)⟩
theorem Row.lt {w : World} {sz : Nat} {a : Option Addr} {n cap : Nat} {xs : List Value} (h : Row w sz a n cap xs) (hn : 0 < n) : ∀ x, a = some x → x.block < w.heap.size := by
 obtain ⟨b, off, ha, hlt, _⟩ := h.2.2.2.2 hn
 intro x hx
 rw [ha] at hx; cases hx; exact hlt
end Go.Proofs.YtfafdeemfeaedaaGreat
