/-
  Our texts NumP to ParS, in one.
-/
import Derived.Lib.Hide
set_option maxRecDepth 8000
set_option maxHeartbeats 8000000
namespace Go.Proofs.YtfafdeemfeaedaaGreat
theorem snoc_ind {α : Type} {p : List α → Prop} (h0 : p []) (h1 : ∀ l c, p l → p (l ++ [c])) (l : List α) : p l := by
 have h : ∀ r : List α, p r.reverse := by
   intro r
   induction r with
   | nil => exact h0
   | cons c r ih => rw [List.reverse_cons]; exact h1 _ _ ih
 have h2 := h l.reverse
 rwa [List.reverse_reverse] at h2
def isDg (c : UInt8) : Bool := decide (48 ≤ c.toNat) && decide (c.toNat ≤ 57)
def dgV (c : UInt8) : Nat := c.toNat - 48
def decV : List UInt8 → Nat → Nat
 | [], n => n
 | c :: l, n => decV l (10 * n + dgV c)
def valD (l : List UInt8) : Nat := decV l 0
theorem zcr {c : UInt8} : isDg c = true ↔ 48 ≤ c.toNat ∧ c.toNat ≤ 57 := by unfold isDg; simp
theorem isDg_no {c : UInt8} : isDg c = false ↔ c.toNat < 48 ∨ 57 < c.toNat := by
 rw [← Bool.not_eq_true, zcr]; omega
theorem dgV_le {c : UInt8} (h : isDg c = true) : dgV c ≤ 9 := by rw [zcr] at h; unfold dgV; omega
theorem zfe {c : UInt8} (h : isDg c = true) : (dgV c : Int) = (c.toNat : Int) - 48 := by rw [zcr] at h; unfold dgV; omega
theorem zcF : ∀ (l m : List UInt8) (n : Nat), decV (l ++ m) n = decV m (decV l n)
 | [], _, _ => rfl
 | c :: l, m, n => zcF l m (10 * n + dgV c)
theorem valD_nil : valD [] = 0 := rfl
theorem zb0 (l : List UInt8) (c : UInt8) : valD (l ++ [c]) = 10 * valD l + dgV c := by unfold valD; rw [zcF]; rfl
theorem zc9 (l : List UInt8) : ∀ j, valD (l ++ List.replicate j 48) = valD l * 10 ^ j
 | 0 => by simp
 | j + 1 => by
   rw [List.replicate_succ', ← List.append_assoc, zb0, zc9 l j, Nat.pow_succ, show dgV 48 = 0 from rfl]
   rw [Nat.add_zero, Nat.mul_comm (10 ^ j) 10, ← Nat.mul_assoc, ← Nat.mul_assoc, Nat.mul_comm (valD l) 10]
theorem zcV (l : List UInt8) (c : UInt8) (h : l.all isDg = true) (hc : isDg c = true) : (l ++ [c]).all isDg = true := by simp [hc]; simpa using h
theorem valD_lt : ∀ (l : List UInt8), l.all isDg = true → valD l < 10 ^ l.length := by
 refine snoc_ind (fun _ => by decide) fun l c ih => ?_
 · intro h
   rw [List.all_append, Bool.and_eq_true] at h
   have h1 := ih h.1
   have h2 := dgV_le (c := c) (by simpa using h.2)
   rw [zb0, List.length_append, List.length_singleton, Nat.pow_succ]
   omega
def zav (l : List UInt8) : Int × Int := if l = [] ∨ l.all isDg = false then (0, 11) else if 2147483647 < valD l then (0, 5) else (((valD l : Nat) : Int), 0)
theorem digitsV_nil : zav [] = (0, 11) := by simp [zav]
theorem digitsV_form {l : List UInt8} (h : l.all isDg = false) : zav l = (0, 11) := by unfold zav; rw [if_pos (.inr h)]
theorem zdH {l : List UInt8} (hn : l ≠ []) (h : l.all isDg = true) (ho : 2147483647 < valD l) : zav l = (0, 5) := by
 unfold zav; rw [if_neg (by rw [h]; simpa using hn), if_pos ho]
theorem zdk {l : List UInt8} (hn : l ≠ []) (h : l.all isDg = true) (ho : valD l ≤ 2147483647) : zav l = (((valD l : Nat) : Int), 0) := by
 unfold zav; rw [if_neg (by rw [h]; simpa using hn), if_neg (by omega)]
def mil (r : List UInt8) : Nat := valD ((r ++ List.replicate 6 48).take 6)
theorem mil_short {r : List UInt8} (h : r.length ≤ 6) : mil r = valD r * 10 ^ (6 - r.length) := by
 unfold mil
 rw [List.take_append, List.take_of_length_le h, List.take_replicate, Nat.min_eq_left (by omega), zc9]
theorem ze7 {r : List UInt8} (h : 6 ≤ r.length) : mil r = valD (r.take 6) := by
 unfold mil
 rw [List.take_append_of_le_length h]
theorem mil_snoc_lt (r : List UInt8) (c : UInt8) (h : r.length < 6) : mil (r ++ [c]) = mil r + 10 ^ (5 - r.length) * dgV c := by
 rw [mil_short (by simp; omega), mil_short (by omega), zb0, List.length_append, List.length_singleton]
 rw [show 6 - r.length = (5 - r.length) + 1 from by omega, show 6 - (r.length + 1) = 5 - r.length from by omega, Nat.pow_succ, Nat.add_mul]
 rw [Nat.mul_comm (dgV c)]
 congr 1
 rw [Nat.mul_comm 10 (valD r), Nat.mul_assoc, Nat.mul_comm 10]
theorem mil_snoc_ge (r : List UInt8) (c : UInt8) (h : 6 ≤ r.length) : mil (r ++ [c]) = mil r := by
 rw [ze7 h, ze7 (by simp; omega), List.take_append_of_le_length h]
theorem zeW (r : List UInt8) (h : r.all isDg = true) : mil r < 1000000 := by
 by_cases hl : r.length ≤ 6
 · have := valD_lt ((r ++ List.replicate 6 48).take 6) (by
     rw [List.all_eq_true]
     intro x hx
     have hx := List.mem_of_mem_take hx
     rw [List.mem_append] at hx
     rcases hx with hx | hx
     · exact List.all_eq_true.1 h x hx
     · rw [List.mem_replicate] at hx; rw [hx.2]; rfl)
   unfold mil
   have hlen : ((r ++ List.replicate 6 48).take 6 : List UInt8).length = 6 := by simp
   rw [hlen] at this
   omega
 · rw [ze7 (by omega)]
   have := valD_lt (r.take 6) (by rw [List.all_eq_true]; intro x hx; exact List.all_eq_true.1 h x (List.mem_of_mem_take hx))
   rw [List.length_take, Nat.min_eq_left (by omega)] at this
   omega
def zdA (s : List UInt8) : Int := if s.head? = some 45 then -1 else 1
def zdx (s : List UInt8) : List UInt8 := if s.head? = some 45 ∨ s.head? = some 43 then s.tail else s
def za7 (b : List UInt8) : List UInt8 := b.takeWhile (· != 46)
def zbT (b : List UInt8) : List UInt8 := (b.dropWhile (· != 46)).tail
def zdt (b : List UInt8) : Bool := b.any (· == 46)
def zaY (sg : Int) (b : List UInt8) : Int × Int × Int :=
 if (za7 b).length + (zbT b).length = 0 ∨ (za7 b).all isDg = false ∨ (zbT b).all isDg = false then (0, 0, 11)
 else if 2147483647 < valD (za7 b) then (0, 0, 5)
 else if zdt b = false then (2, sg * (valD (za7 b) : Nat), 0)
 else if 2147483647000000 < valD (za7 b) * 1000000 + mil (zbT b) then (0, 0, 5)
 else (3, sg * ((valD (za7 b) * 1000000 + mil (zbT b) : Nat) : Int), 0)
def zaL (s : List UInt8) : Int × Int × Int := zaY (zdA s) (zdx s)
theorem tw_app (w t : List UInt8) (hw : ∀ x ∈ w, x ≠ 46) : za7 (w ++ 46 :: t) = w ∧ zbT (w ++ 46 :: t) = t ∧ zdt (w ++ 46 :: t) = true := by
 induction w with
 | nil => simp [za7, zbT, zdt]
 | cons x w ih =>
   have hx : x ≠ 46 := hw x (List.mem_cons_self)
   obtain ⟨h1, h2, h3⟩ := ih fun y hy => hw y (List.mem_cons_of_mem _ hy)
   refine ⟨?_, ?_, by simp [zdt]⟩
   · unfold za7 at *
     rw [List.cons_append, List.takeWhile_cons_of_pos (by simpa using hx), h1]
   · unfold zbT at *
     rw [List.cons_append, List.dropWhile_cons_of_pos (by simpa using hx), h2]
theorem tw_none (b : List UInt8) (hb : ∀ x ∈ b, x ≠ 46) : za7 b = b ∧ zbT b = [] ∧ zdt b = false := by
 induction b with
 | nil => simp [za7, zbT, zdt]
 | cons x w ih =>
   have hx : x ≠ 46 := hb x (List.mem_cons_self)
   obtain ⟨h1, h2, h3⟩ := ih fun y hy => hb y (List.mem_cons_of_mem _ hy)
   refine ⟨?_, ?_, ?_⟩
   · unfold za7 at *
     rw [List.takeWhile_cons_of_pos (by simpa using hx), h1]
   · unfold zbT at *
     rw [List.dropWhile_cons_of_pos (by simpa using hx), h2]
   · unfold zdt at *
     rw [List.any_cons, h3]; simpa using hx
theorem dg_ne {x : UInt8} (h : isDg x = true) : x ≠ 46 := by rintro rfl; revert h; decide
theorem all_ne {w : List UInt8} (h : w.all isDg = true) : ∀ x ∈ w, x ≠ 46 := fun x hx => dg_ne (List.all_eq_true.1 h x hx)
theorem all_false {l : List UInt8} {c : UInt8} (h : c ∈ l) (hc : isDg c = false) : l.all isDg = false := by
 rw [← Bool.not_eq_true, List.all_eq_true]; intro h2; rw [h2 c h] at hc; exact absurd hc (by decide)
theorem parseB_int (sg : Int) (b : List UInt8) (h : b.all isDg = true) : zaY sg b = if b.length = 0 then (0, 0, 11) else if 2147483647 < valD b then (0, 0, 5) else (2, sg * (valD b : Nat), 0) := by
 obtain ⟨h1, h2, h3⟩ := tw_none b (all_ne h)
 unfold zaY
 rw [h1, h2, h3]
 by_cases hb : b.length = 0
 · rw [if_pos (.inl (by simp [hb])), if_pos hb]
 · rw [if_neg (by rw [h]; simp; intro e; exact hb (by simp [e])), if_neg hb]; rfl
theorem parseB_real (sg : Int) (w r : List UInt8) (hw : w.all isDg = true) (hr : r.all isDg = true) :
   zaY sg (w ++ 46 :: r) = if w.length + r.length = 0 then (0, 0, 11) else if 2147483647 < valD w ∨ (valD w = 2147483647 ∧ 0 < mil r) then (0, 0, 5) else (3, sg * ((valD w * 1000000 + mil r : Nat) : Int), 0) := by
 obtain ⟨h1, h2, h3⟩ := tw_app w r (all_ne hw)
 have hm := zeW r hr
 unfold zaY
 rw [h1, h2, h3]
 by_cases hb : w.length + r.length = 0
 · rw [if_pos (.inl hb), if_pos hb]
 · rw [if_neg (by rw [hw, hr]; simp; intro e1 e2; exact hb (by simp [e1, e2])), if_neg hb, if_neg (by decide : ¬ (true = false))]
   by_cases h4 : 2147483647 < valD w
   · rw [if_pos h4, if_pos (.inl h4)]
   · rw [if_neg h4]
     by_cases h5 : valD w = 2147483647 ∧ 0 < mil r
     · rw [if_pos (by omega), if_pos (.inr h5)]
     · rw [if_neg (by omega), if_neg (by omega)]
def zbx (k n : Int) (bare : Bool) : Int :=
 if bare = true ∧ ((k = 2 ∧ -2147483647 ≤ n ∧ n ≤ 2147483647) ∨ (k = 3 ∧ -2147483647000000 ≤ n ∧ n ≤ 2147483647000000)) then 0 else 2
theorem valD_zl (j : Nat) (l : List UInt8) : valD (List.replicate j 48 ++ l) = valD l := by
 have := zc9 [] j
 simp only [List.nil_append, valD_nil, Nat.zero_mul] at this
 unfold valD at *
 rw [zcF, this]
theorem parseV_check (s : List UInt8) (h : (zaL s).2.2 = 0) : zbx (zaL s).1 (zaL s).2.1 true = 0 := by
 unfold zaL zaY at *
 have hsg : zdA s = 1 ∨ zdA s = -1 := by unfold zdA; split <;> simp
 generalize zdA s = sg at *
 generalize za7 (zdx s) = w at *
 generalize zbT (zdx s) = r at *
 generalize zdt (zdx s) = p at *
 split at h
 · simp at h
 · rename_i c1
   rw [if_neg c1]
   split at h
   · simp at h
   · rename_i c2
     rw [if_neg c2]
     split at h
     · rename_i c3
       rw [if_pos c3]
       unfold zbx
       rw [if_pos]
       refine ⟨rfl, .inl ⟨rfl, ?_⟩⟩
       simp only
       rcases hsg with rfl | rfl <;> omega
     · rename_i c3
       rw [if_neg c3]
       split at h
       · simp at h
       · rename_i c4
         rw [if_neg c4]
         unfold zbx
         rw [if_pos]
         refine ⟨rfl, .inr ⟨rfl, ?_⟩⟩
         simp only
         rcases hsg with rfl | rfl <;> omega
def isSp (c : UInt8) : Bool := c == 0 || c == 9 || c == 10 || c == 12 || c == 13 || c == 32
def isDl (c : UInt8) : Bool := c == 40 || c == 41 || c == 60 || c == 62 || c == 91 || c == 93 || c == 123 || c == 125 || c == 47 || c == 37
def isRg (c : UInt8) : Bool := !isSp c && !isDl c
def isOc (c : UInt8) : Bool := decide (48 ≤ c.toNat) && decide (c.toNat ≤ 55)
def hexD (c : UInt8) : Int :=
 if 48 ≤ c.toNat ∧ c.toNat ≤ 57 then (c.toNat : Int) - 48 else if 97 ≤ c.toNat ∧ c.toNat ≤ 102 then (c.toNat : Int) - 87 else if 65 ≤ c.toNat ∧ c.toNat ≤ 70 then (c.toNat : Int) - 55 else -1
theorem hexD_bd (c : UInt8) : -1 ≤ hexD c ∧ hexD c ≤ 15 := by
 unfold hexD
 repeat' split
 all_goals omega
def zaU : Bool → List UInt8 → Nat
 | _, [] => 0
 | true, c :: l => 1 + zaU (c != 10 && c != 13) l
 | false, c :: l => if c = 37 then 1 + zaU true l else if isSp c = true then 1 + zaU false l else 0
theorem zcK : ∀ (b : Bool) (l : List UInt8), zaU b l ≤ l.length
 | _, [] => by simp [zaU]
 | true, c :: l => by have := zcK (c != 10 && c != 13) l; simp only [zaU, List.length_cons]; omega
 | false, c :: l => by
   have h1 := zcK true l
   have h2 := zcK false l
   simp only [zaU, List.length_cons]
   split
   · omega
   · split <;> omega
def zaS (bs : List UInt8) (k : Int) : Nat := if k < 0 then 0 else if (bs.length : Int) ≤ k then bs.length else k.toNat + zaU false (bs.drop k.toNat)
def zcw (last : Bool) : List UInt8 → Option Nat
 | [] => if last then some 0 else none
 | d :: _ => some (if d = 10 then 1 else 0)
def octV (last : Bool) (c : UInt8) : List UInt8 → Option (Nat × Nat)
 | [] => if last then some (c.toNat - 48, 1) else none
 | d :: t => if isOc d = true then
     (match t with
       | [] => if last then some (8 * (c.toNat - 48) + (d.toNat - 48), 2) else none
       | e :: _ => if isOc e = true then some (8 * (8 * (c.toNat - 48) + (d.toNat - 48)) + (e.toNat - 48), 3) else some (8 * (c.toNat - 48) + (d.toNat - 48), 2))
   else some (c.toNat - 48, 1)
def escV (last : Bool) : List UInt8 → Option (List UInt8 × Nat)
 | [] => none
 | c :: t =>
   if c = 110 then some ([10], 1) else if c = 114 then some ([13], 1) else if c = 116 then some ([9], 1) else if c = 98 then some ([8], 1) else if c = 102 then some ([12], 1)
   else if isOc c = true then (octV last c t).map fun x => ([UInt8.ofNat x.1], x.2)
   else if c = 10 then some ([], 1)
   else if c = 13 then (zcw last t).map fun k => ([], k + 1)
   else some ([c], 1)
def zaQ (last : Bool) (deep : Nat) (out : List UInt8) (l : List UInt8) : Option (List UInt8 × List UInt8) :=
 match l with
 | [] => none
 | c :: t =>
   if c = 92 then (match escV last t with | none => none | some (x, k) => zaQ last deep (out ++ x) (t.drop k))
   else if c = 13 then (match zcw last t with | none => none | some k => zaQ last deep (out ++ [10]) (t.drop k))
   else if c = 40 then zaQ last (deep + 1) (out ++ [c]) t
   else if c = 41 then (if deep = 1 then some (out, t) else zaQ last (deep - 1) (out ++ [c]) t)
   else zaQ last deep (out ++ [c]) t
termination_by l.length
decreasing_by all_goals (simp only [List.length_cons, List.length_drop]; omega)
def hexV (out : List UInt8) (half : Int) : List UInt8 → Int × List UInt8 × List UInt8
 | [] => (1, [], [])
 | c :: t =>
   if c = 62 then (0, if 0 ≤ half then out ++ [UInt8.ofNat (16 * half).toNat] else out, t)
   else if isSp c = true then hexV out half t
   else if hexD c < 0 then (11, [], [])
   else if half < 0 then hexV out (hexD c) t
   else hexV (out ++ [UInt8.ofNat (16 * half + hexD c).toNat]) (-1) t
def zbH (out : List UInt8) : List UInt8 → Option (List UInt8)
 | [] => some out
 | c :: t => if c = 35 then
     (match t with
       | x :: y :: u => if hexD x < 0 ∨ hexD y < 0 then none else zbH (out ++ [UInt8.ofNat (16 * hexD x + hexD y).toNat]) u
       | _ => none)
   else zbH (out ++ [c]) t
def zes (w : List UInt8) : Option (List UInt8) := match zbH [] w with | none => none | some o => if 127 < o.length ∨ (0 : UInt8) ∈ o then none else some o
structure Tk where
 kind : Int
 vk : Int := 0
 vn : Int := 0
 vs : List UInt8 := []
 s : List UInt8 := []
deriving DecidableEq
def za5 (last : Bool) : Int := if last then 10 else 6
def tokV (last : Bool) (c : UInt8) (t : List UInt8) : Int × Tk × List UInt8 :=
 if isRg c = true then
   (let w := (c :: t).takeWhile isRg; let r := (c :: t).dropWhile isRg
    if r = [] ∧ last = false then (6, { kind := 0 }, [])
    else if isDg c = true ∨ c = 43 ∨ c = 45 ∨ c = 46 then ((zaL w).2.2, { kind := 1, vk := (zaL w).1, vn := (zaL w).2.1 }, r)
    else (0, { kind := 6, s := w }, r))
 else if c = 91 then (0, { kind := 2 }, t)
 else if c = 93 then (0, { kind := 3 }, t)
 else if c = 60 then
   (match t with
     | [] => (za5 last, { kind := 0 }, [])
     | d :: u => if d = 60 then (0, { kind := 4 }, u) else
       (match hexV [] (-1) (d :: u) with
         | (e, x, r) => if e = 0 then (0, { kind := 1, vk := 4, vs := x }, r) else if e = 1 then (za5 last, { kind := 0 }, []) else (11, { kind := 0 }, [])))
 else if c = 62 then
   (match t with
     | [] => (if last then 11 else 6, { kind := 0 }, [])
     | d :: u => if d = 62 then (0, { kind := 5 }, u) else (11, { kind := 0 }, []))
 else if c = 40 then
   (match zaQ last 1 [] t with
     | none => (za5 last, { kind := 0 }, [])
     | some (x, r) => (0, { kind := 1, vk := 4, vs := x }, r))
 else if c = 47 then
   (let w := t.takeWhile isRg; let r := t.dropWhile isRg
    if r = [] ∧ last = false then (6, { kind := 0 }, [])
    else match zes w with
     | none => (17, { kind := 0 }, [])
     | some o => (0, { kind := 1, vk := 5, vs := o }, r))
 else (11, { kind := 0 }, [])
def zaf (bs : List UInt8) (k : Int) (last : Bool) : Tk × Int × Int × Int :=
 if k < 0 ∨ (bs.length : Int) < k then ({ kind := 0 }, 0, 0, 2)
 else
   (let f := zaS bs k
    match bs.drop f with
     | [] => ({ kind := 0 }, (f : Int), (f : Int), if last then 0 else 6)
     | c :: t =>
       (match tokV last c t with
         | (e, x, r) => if e = 0 then (x, (f : Int), (bs.length : Int) - (r.length : Int), 0) else ({ kind := 0 }, (f : Int), (f : Int), e)))
theorem zcn : ∀ (b : Bool) (l : List UInt8), zaU false (l.drop (zaU b l)) = 0
 | _, [] => by simp [zaU]
 | true, c :: l => by
   simp only [zaU]
   rw [Nat.add_comm, List.drop_succ_cons]; exact zcn _ l
 | false, c :: l => by
   by_cases h : c = 37
   · rw [zaU, if_pos h, Nat.add_comm, List.drop_succ_cons]; exact zcn _ l
   · by_cases h2 : isSp c = true
     · rw [zaU, if_neg h, if_pos h2, Nat.add_comm, List.drop_succ_cons]; exact zcn _ l
     · rw [zaU, if_neg h, if_neg h2, List.drop_zero, zaU, if_neg h, if_neg h2]
theorem zdT {bs : List UInt8} {k : Int} (h : 0 ≤ k) (h2 : k ≤ bs.length) : k ≤ (zaS bs k : Nat) ∧ zaS bs k ≤ bs.length := by
 unfold zaS
 rw [if_neg (by omega)]
 split
 · omega
 · have := zcK false (bs.drop k.toNat)
   rw [List.length_drop] at this; omega
theorem skipV_idem {bs : List UInt8} {k : Int} (h : 0 ≤ k) (h2 : k ≤ bs.length) : zaS bs (zaS bs k : Nat) = zaS bs k := by
 have hb := zdT h h2
 by_cases h3 : (bs.length : Int) ≤ (zaS bs k : Nat)
 · have e : zaS bs k = bs.length := by omega
   rw [e]; unfold zaS; rw [if_neg (by omega), if_pos (by omega)]
 · have e : zaS bs k = k.toNat + zaU false (bs.drop k.toNat) := by
     unfold zaS
     rw [if_neg (by omega), if_neg (by omega)]
   have e3 : zaU false (bs.drop (zaS bs k)) = 0 := by
     rw [e, ← List.drop_drop]
     exact zcn false _
   have gen : ∀ f : Nat, ¬ (bs.length : Int) ≤ (f : Int) → zaU false (bs.drop f) = 0 → zaS bs (f : Int) = f := fun f h1 h2 => by
     unfold zaS
     rw [if_neg (by omega), if_neg h1, Int.toNat_natCast, h2]; rfl
   exact gen _ h3 e3
theorem zcu : ∀ (b : Bool) (l u : List UInt8), zaU b l < l.length → zaU b (l ++ u) = zaU b l
 | _, [], u => by simp
 | true, c :: l, u => by
   intro h
   simp only [zaU, List.cons_append, List.length_cons] at h ⊢
   rw [zcu _ l u (by omega)]
 | false, c :: l, u => by
   intro h
   rw [List.cons_append]
   by_cases h1 : c = 37
   · rw [zaU, if_pos h1] at h ⊢
     rw [zaU, if_pos h1, zcu _ l u (by simp at h; omega)]
   · by_cases h2 : isSp c = true
     · rw [zaU, if_neg h1, if_pos h2] at h ⊢
       rw [zaU, if_neg h1, if_pos h2, zcu _ l u (by simp at h; omega)]
     · rw [zaU, if_neg h1, if_neg h2, zaU, if_neg h1, if_neg h2]
theorem zeN {t u : List UInt8} {last : Bool} {k : Nat} (h : zcw false t = some k) : zcw last (t ++ u) = some k ∧ k ≤ t.length := by
 cases t with
 | nil => simp [zcw] at h
 | cons d t =>
   simp only [zcw, List.cons_append, Option.some.injEq, List.length_cons] at h ⊢
   refine ⟨h, ?_⟩
   subst h; split <;> omega
theorem octV_more {c : UInt8} {t u : List UInt8} {last : Bool} {x : Nat × Nat} (h : octV false c t = some x) : octV last c (t ++ u) = some x ∧ x.2 ≤ t.length + 1 := by
 rcases t with _ | ⟨d, _ | ⟨e, t⟩⟩
 · simp [octV] at h
 · by_cases hd : isOc d = true
   · simp [octV, hd] at h
   · simp only [octV, List.cons_append, if_neg hd] at h ⊢
     refine ⟨h, ?_⟩
     cases h; simp
 · by_cases hd : isOc d = true
   · simp only [octV, List.cons_append, if_pos hd] at h ⊢
     refine ⟨h, ?_⟩
     split at h <;> (cases h; simp)
   · simp only [octV, List.cons_append, if_neg hd] at h ⊢
     refine ⟨h, ?_⟩
     cases h; simp
theorem escV_more {t u : List UInt8} {last : Bool} {x : List UInt8 × Nat} (h : escV false t = some x) : escV last (t ++ u) = some x ∧ x.2 ≤ t.length := by
 cases t with
 | nil => simp [escV] at h
 | cons c t =>
   rw [List.cons_append]
   unfold escV at h ⊢
   simp only [List.length_cons] at h ⊢
   by_cases h1 : c = 110
   · rw [if_pos h1] at h ⊢; refine ⟨h, ?_⟩; cases h; simp
   rw [if_neg h1] at h ⊢
   by_cases h2 : c = 114
   · rw [if_pos h2] at h ⊢; refine ⟨h, ?_⟩; cases h; simp
   rw [if_neg h2] at h ⊢
   by_cases h3 : c = 116
   · rw [if_pos h3] at h ⊢; refine ⟨h, ?_⟩; cases h; simp
   rw [if_neg h3] at h ⊢
   by_cases h4 : c = 98
   · rw [if_pos h4] at h ⊢; refine ⟨h, ?_⟩; cases h; simp
   rw [if_neg h4] at h ⊢
   by_cases h5 : c = 102
   · rw [if_pos h5] at h ⊢; refine ⟨h, ?_⟩; cases h; simp
   rw [if_neg h5] at h ⊢
   by_cases h6 : isOc c = true
   · rw [if_pos h6] at h ⊢
     obtain ⟨y, hy, rfl⟩ := Option.map_eq_some_iff.1 h
     obtain ⟨h7, h8⟩ := octV_more (u := u) (last := last) hy
     rw [h7]
     exact ⟨rfl, h8⟩
   rw [if_neg h6] at h ⊢
   by_cases h7 : c = 10
   · rw [if_pos h7] at h ⊢; refine ⟨h, ?_⟩; cases h; simp
   rw [if_neg h7] at h ⊢
   by_cases h8 : c = 13
   · rw [if_pos h8] at h ⊢
     obtain ⟨y, hy, rfl⟩ := Option.map_eq_some_iff.1 h
     obtain ⟨h7, h8⟩ := zeN (u := u) (last := last) hy
     rw [h7]
     exact ⟨rfl, by simp; omega⟩
   rw [if_neg h8] at h ⊢
   refine ⟨h, ?_⟩; cases h; simp
theorem textV_more (last : Bool) (u : List UInt8) : ∀ (n : Nat) (l : List UInt8), l.length ≤ n → ∀ (deep : Nat) (out x r : List UInt8), zaQ false deep out l = some (x, r) → zaQ last deep out (l ++ u) = some (x, r ++ u) ∧ r.length < l.length := by
 intro n
 induction n with
 | zero =>
   intro l hl deep out x r h
   obtain rfl : l = [] := List.eq_nil_of_length_eq_zero (by omega)
   rw [zaQ] at h; cases h
 | succ n ih =>
   intro l hl deep out x r h
   cases l with
   | nil => rw [zaQ] at h; cases h
   | cons c t =>
     simp only [List.length_cons] at hl ⊢
     rw [List.cons_append]
     rw [zaQ.eq_def] at h ⊢
     simp only at h ⊢
     by_cases h1 : c = 92
     · rw [if_pos h1] at h ⊢
       cases he : escV false t with
       | none => rw [he] at h; cases h
       | some y =>
         obtain ⟨a, k⟩ := y
         rw [he] at h
         obtain ⟨h7, h8⟩ := escV_more (u := u) (last := last) he
         rw [h7]
         simp only at h h8 ⊢
         obtain ⟨g1, g2⟩ := ih (t.drop k) (by rw [List.length_drop]; omega) _ _ _ _ h
         rw [List.drop_append_of_le_length h8]
         rw [List.length_drop] at g2
         exact ⟨g1, by omega⟩
     rw [if_neg h1] at h ⊢
     by_cases h2 : c = 13
     · rw [if_pos h2] at h ⊢
       cases he : zcw false t with
       | none => rw [he] at h; cases h
       | some k =>
         rw [he] at h
         obtain ⟨h7, h8⟩ := zeN (u := u) (last := last) he
         rw [h7]
         simp only at h ⊢
         obtain ⟨g1, g2⟩ := ih (t.drop k) (by rw [List.length_drop]; omega) _ _ _ _ h
         rw [List.drop_append_of_le_length h8]
         rw [List.length_drop] at g2
         exact ⟨g1, by omega⟩
     rw [if_neg h2] at h ⊢
     by_cases h3 : c = 40
     · rw [if_pos h3] at h ⊢
       obtain ⟨g1, g2⟩ := ih t (by omega) _ _ _ _ h
       exact ⟨g1, by omega⟩
     rw [if_neg h3] at h ⊢
     by_cases h4 : c = 41
     · rw [if_pos h4] at h ⊢
       by_cases h5 : deep = 1
       · rw [if_pos h5] at h ⊢
         cases h
         exact ⟨rfl, by omega⟩
       · rw [if_neg h5] at h ⊢
         obtain ⟨g1, g2⟩ := ih t (by omega) _ _ _ _ h
         exact ⟨g1, by omega⟩
     rw [if_neg h4] at h ⊢
     obtain ⟨g1, g2⟩ := ih t (by omega) _ _ _ _ h
     exact ⟨g1, by omega⟩
theorem zcb (u : List UInt8) : ∀ (l : List UInt8) (out : List UInt8) (half : Int), ((hexV out half l).1 = 0 → hexV out half (l ++ u) = (0, (hexV out half l).2.1, (hexV out half l).2.2 ++ u) ∧ (hexV out half l).2.2.length < l.length) ∧
   ((hexV out half l).1 ≠ 0 → (hexV out half l).1 ≠ 1 → (hexV out half l).1 = 11 ∧ hexV out half (l ++ u) = (11, [], []))
 | [], out, half => by simp [hexV]
 | c :: t, out, half => by
   rw [List.cons_append]
   simp only [hexV, List.length_cons]
   by_cases h1 : c = 62
   · simp only [if_pos h1]
     exact ⟨fun _ => ⟨by simp, by omega⟩, fun h => absurd rfl h⟩
   simp only [if_neg h1]
   by_cases h2 : isSp c = true
   · simp only [if_pos h2]
     obtain ⟨g1, g2⟩ := zcb u t out half
     exact ⟨fun h => ⟨(g1 h).1, by have := (g1 h).2; omega⟩, g2⟩
   simp only [if_neg h2]
   by_cases h3 : hexD c < 0
   · simp only [if_pos h3]
     exact ⟨fun h => by simp at h, fun _ _ => ⟨by simp, by simp⟩⟩
   simp only [if_neg h3]
   by_cases h4 : half < 0
   · simp only [if_pos h4]
     obtain ⟨g1, g2⟩ := zcb u t out (hexD c)
     exact ⟨fun h => ⟨(g1 h).1, by have := (g1 h).2; omega⟩, g2⟩
   simp only [if_neg h4]
   obtain ⟨g1, g2⟩ := zcb u t (out ++ [UInt8.ofNat (16 * half + hexD c).toNat]) (-1)
   exact ⟨fun h => ⟨(g1 h).1, by have := (g1 h).2; omega⟩, g2⟩
theorem zdR : ∀ (l : List UInt8) (out : List UInt8) (half : Int), (hexV out half l).1 = 0 ∨ (hexV out half l).1 = 1 ∨ (hexV out half l).1 = 11
 | [], out, half => by simp [hexV]
 | c :: t, out, half => by
   simp only [hexV]
   split
   · exact .inl rfl
   · split
     · exact zdR t _ _
     · split
       · exact .inr (.inr rfl)
       · split
         · exact zdR t _ _
         · exact zdR t _ _
theorem zcq (p : UInt8 → Bool) (u : List UInt8) : ∀ (l : List UInt8), l.dropWhile p ≠ [] → (l ++ u).takeWhile p = l.takeWhile p ∧ (l ++ u).dropWhile p = l.dropWhile p ++ u
 | [] => by simp
 | c :: t => by
   intro h
   rw [List.cons_append]
   by_cases hp : p c = true
   · rw [List.dropWhile_cons_of_pos hp] at h
     obtain ⟨g1, g2⟩ := zcq p u t h
     rw [List.takeWhile_cons_of_pos hp, List.dropWhile_cons_of_pos hp, List.takeWhile_cons_of_pos hp, List.dropWhile_cons_of_pos hp, g1, g2]
     exact ⟨rfl, rfl⟩
   · rw [List.takeWhile_cons_of_neg hp, List.dropWhile_cons_of_neg hp, List.takeWhile_cons_of_neg hp, List.dropWhile_cons_of_neg hp]
     exact ⟨rfl, rfl⟩
theorem drop_len (p : UInt8 → Bool) (l : List UInt8) : (l.dropWhile p).length ≤ l.length := List.Sublist.length_le (List.dropWhile_sublist _)
theorem tokV_more (last : Bool) (c : UInt8) (t u : List UInt8) :
   ((tokV false c t).1 = 0 → tokV last c (t ++ u) = (0, (tokV false c t).2.1, (tokV false c t).2.2 ++ u)) ∧ ((tokV false c t).1 ≠ 0 → (tokV false c t).1 ≠ 6 → (tokV last c (t ++ u)).1 = (tokV false c t).1) := by
 by_cases hr : isRg c = true
 · have hc : tokV false c t = if (c :: t).dropWhile isRg = [] ∧ false = false then (6, { kind := 0 }, []) else if isDg c = true ∨ c = 43 ∨ c = 45 ∨ c = 46 then ((zaL ((c :: t).takeWhile isRg)).2.2, { kind := 1, vk := (zaL ((c :: t).takeWhile isRg)).1, vn := (zaL ((c :: t).takeWhile isRg)).2.1 }, (c :: t).dropWhile isRg) else (0, { kind := 6, s := (c :: t).takeWhile isRg }, (c :: t).dropWhile isRg) := by
     unfold tokV; rw [if_pos hr]
   have hc2 : tokV last c (t ++ u) = if (c :: (t ++ u)).dropWhile isRg = [] ∧ last = false then (6, { kind := 0 }, []) else if isDg c = true ∨ c = 43 ∨ c = 45 ∨ c = 46 then ((zaL ((c :: (t ++ u)).takeWhile isRg)).2.2, { kind := 1, vk := (zaL ((c :: (t ++ u)).takeWhile isRg)).1, vn := (zaL ((c :: (t ++ u)).takeWhile isRg)).2.1 }, (c :: (t ++ u)).dropWhile isRg) else (0, { kind := 6, s := (c :: (t ++ u)).takeWhile isRg }, (c :: (t ++ u)).dropWhile isRg) := by
     unfold tokV; rw [if_pos hr]
   by_cases h0 : (c :: t).dropWhile isRg = []
   · rw [hc, if_pos ⟨h0, rfl⟩]
     exact ⟨fun h => by simp at h, fun _ h => absurd rfl h⟩
   · obtain ⟨g1, g2⟩ := zcq isRg u _ h0
     rw [List.cons_append] at g1 g2
     rw [hc, hc2, g1, g2, if_neg (show ¬ ((c :: t).dropWhile isRg = [] ∧ false = false) from fun h => h0 h.1), if_neg (show ¬ ((c :: t).dropWhile isRg ++ u = [] ∧ last = false) from fun h => h0 (List.append_eq_nil_iff.1 h.1).1)]
     by_cases hd : isDg c = true ∨ c = 43 ∨ c = 45 ∨ c = 46
     · rw [if_pos hd, if_pos hd]
       exact ⟨fun h => by rw [show (zaL (List.takeWhile isRg (c :: t))).2.2 = 0 from h], fun _ _ => rfl⟩
     · rw [if_neg hd, if_neg hd]
       exact ⟨fun _ => rfl, fun _ _ => rfl⟩
 · unfold tokV
   rw [if_neg hr, if_neg hr]
   by_cases h1 : c = 91
   · rw [if_pos h1, if_pos h1]; exact ⟨fun _ => rfl, fun _ _ => rfl⟩
   rw [if_neg h1, if_neg h1]
   by_cases h2 : c = 93
   · rw [if_pos h2, if_pos h2]; exact ⟨fun _ => rfl, fun _ _ => rfl⟩
   rw [if_neg h2, if_neg h2]
   by_cases h3 : c = 60
   · rw [if_pos h3, if_pos h3]
     cases t with
     | nil => exact ⟨fun h => by simp [za5] at h, fun _ h => by simp [za5] at h⟩
     | cons d t =>
       simp only [List.cons_append]
       by_cases hd : d = 60
       · rw [if_pos hd, if_pos hd]; exact ⟨fun _ => rfl, fun _ _ => rfl⟩
       rw [if_neg hd, if_neg hd]
       obtain ⟨g1, g2⟩ := zcb u (d :: t) [] (-1)
       have g3 := zdR (d :: t) [] (-1)
       rw [List.cons_append] at g1 g2
       obtain ⟨H, hH⟩ : ∃ H, hexV [] (-1) (d :: t) = H := ⟨_, rfl⟩
       rw [hH] at g1 g2 g3 ⊢
       obtain ⟨e, x, r⟩ := H
       simp only at g1 g2 g3 ⊢
       rcases g3 with rfl | rfl | rfl
       · rw [(g1 rfl).1, if_pos rfl]
         exact ⟨fun _ => rfl, fun h => absurd rfl h⟩
       · rw [if_neg (by decide), if_pos rfl]
         exact ⟨fun h => by simp [za5] at h, fun _ h => by simp [za5] at h⟩
       · rw [(g2 (by decide) (by decide)).2, if_neg (by decide), if_neg (by decide)]
         exact ⟨fun h => by simp at h, fun _ _ => rfl⟩
   rw [if_neg h3, if_neg h3]
   by_cases h4 : c = 62
   · rw [if_pos h4, if_pos h4]
     cases t with
     | nil => exact ⟨fun h => by simp at h, fun _ h => by simp at h⟩
     | cons d t =>
       simp only [List.cons_append]
       by_cases hd : d = 62
       · rw [if_pos hd, if_pos hd]; exact ⟨fun _ => rfl, fun _ _ => rfl⟩
       · rw [if_neg hd, if_neg hd]; exact ⟨fun h => by simp at h, fun _ _ => rfl⟩
   rw [if_neg h4, if_neg h4]
   by_cases h5 : c = 40
   · rw [if_pos h5, if_pos h5]
     cases he : zaQ false 1 [] t with
     | none => exact ⟨fun h => by simp [za5] at h, fun _ h => by simp [za5] at h⟩
     | some y =>
       obtain ⟨x, r⟩ := y
       rw [(textV_more last u _ t (Nat.le_refl _) _ _ _ _ he).1]
       exact ⟨fun _ => rfl, fun h => absurd rfl h⟩
   rw [if_neg h5, if_neg h5]
   by_cases h6 : c = 47
   · rw [if_pos h6, if_pos h6]
     simp only
     by_cases h0 : t.dropWhile isRg = []
     · rw [if_pos (show t.dropWhile isRg = [] ∧ True from ⟨h0, trivial⟩)]
       exact ⟨fun h => by simp at h, fun _ h => absurd rfl h⟩
     · obtain ⟨g1, g2⟩ := zcq isRg u _ h0
       rw [g1, g2, if_neg (fun h => h0 h.1), if_neg (fun h => h0 (List.append_eq_nil_iff.1 h.1).1)]
       cases zes (t.takeWhile isRg) with
       | none => exact ⟨fun h => by simp at h, fun _ _ => rfl⟩
       | some o => exact ⟨fun _ => rfl, fun _ _ => rfl⟩
   rw [if_neg h6, if_neg h6]
   exact ⟨fun h => by simp at h, fun _ _ => rfl⟩
theorem textV_len (last : Bool) : ∀ (n : Nat) (l : List UInt8), l.length ≤ n → ∀ (deep : Nat) (out x r : List UInt8), zaQ last deep out l = some (x, r) → r.length < l.length := by
 intro n
 induction n with
 | zero =>
   intro l hl deep out x r h
   obtain rfl : l = [] := List.eq_nil_of_length_eq_zero (by omega)
   rw [zaQ] at h; cases h
 | succ n ih =>
   intro l hl deep out x r h
   cases l with
   | nil => rw [zaQ] at h; cases h
   | cons c t =>
     simp only [List.length_cons] at hl ⊢
     rw [zaQ.eq_def] at h
     simp only at h
     split at h
     · split at h
       · cases h
       · have := ih _ (by rw [List.length_drop]; omega) _ _ _ _ h
         rw [List.length_drop] at this; omega
     · split at h
       · split at h
         · cases h
         · have := ih _ (by rw [List.length_drop]; omega) _ _ _ _ h
           rw [List.length_drop] at this; omega
       · split at h
         · have := ih _ (by omega) _ _ _ _ h
           omega
         · split at h
           · split at h
             · cases h; omega
             · have := ih _ (by omega) _ _ _ _ h
               omega
           · have := ih _ (by omega) _ _ _ _ h
             omega
theorem tokV_some (last : Bool) (c : UInt8) (t : List UInt8) (h : (tokV last c t).1 = 0) : (tokV last c t).2.1.kind ≠ 0 ∧ (tokV last c t).2.2.length ≤ t.length := by
 obtain ⟨V, hV⟩ : ∃ V, tokV last c t = V := ⟨_, rfl⟩
 rw [hV] at h ⊢
 unfold tokV at hV
 split at hV
 · next hr =>
   have hd : ((c :: t).dropWhile isRg).length ≤ t.length := by rw [List.dropWhile_cons_of_pos hr]; exact drop_len _ _
   simp only at hV
   split at hV
   · subst hV; simp at h
   · split at hV
     · subst hV; exact ⟨by simp, hd⟩
     · subst hV; exact ⟨by simp, hd⟩
 split at hV
 · subst hV; exact ⟨by simp, Nat.le_refl _⟩
 split at hV
 · subst hV; exact ⟨by simp, Nat.le_refl _⟩
 split at hV
 · cases t with
   | nil => subst hV; cases last <;> simp [za5] at h
   | cons d t =>
     simp only at hV
     split at hV
     · subst hV; exact ⟨by simp, by simp⟩
     · have hx := (zcb [] (d :: t) [] (-1)).1
       split at hV
       · subst hV
         exact ⟨by simp, Nat.le_of_lt (hx ‹_›).2⟩
       · split at hV
         · subst hV; cases last <;> simp [za5] at h
         · subst hV; simp at h
 split at hV
 · cases t with
   | nil => subst hV; cases last <;> simp at h
   | cons d t =>
     simp only at hV
     split at hV
     · subst hV; exact ⟨by simp, by simp⟩
     · subst hV; simp at h
 split at hV
 · cases he : zaQ last 1 [] t with
   | none => rw [he] at hV; subst hV; cases last <;> simp [za5] at h
   | some y =>
     obtain ⟨x, r⟩ := y
     rw [he] at hV
     subst hV
     exact ⟨by simp, by have := textV_len last _ t (Nat.le_refl _) _ _ _ _ he; simp only; omega⟩
 split at hV
 · simp only at hV
   split at hV
   · subst hV; simp at h
   · split at hV
     · subst hV; simp at h
     · subst hV; exact ⟨by simp, drop_len _ _⟩
 · subst hV; simp at h
def nextF (bs : List UInt8) (f : Nat) (last : Bool) : Tk × Int × Int × Int :=
 match bs.drop f with
 | [] => ({ kind := 0 }, (f : Int), (f : Int), if last then 0 else 6)
 | c :: t => if (tokV last c t).1 = 0 then ((tokV last c t).2.1, (f : Int), (bs.length : Int) - ((tokV last c t).2.2.length : Int), 0) else ({ kind := 0 }, (f : Int), (f : Int), (tokV last c t).1)
theorem zcp {bs : List UInt8} {k : Int} (last : Bool) (h : 0 ≤ k) (h2 : k ≤ bs.length) : zaf bs k last = nextF bs (zaS bs k) last := by
 have h3 : ¬ (k < 0 ∨ (bs.length : Int) < k) := by omega
 unfold zaf
 rw [if_neg h3]
 show (match bs.drop (zaS bs k) with | [] => _ | c :: t => _) = _
 unfold nextF
 cases bs.drop (zaS bs k) <;> rfl
theorem zcP {bs : List UInt8} {f : Nat} (last : Bool) (h : bs.drop f = []) : nextF bs f last = ({ kind := 0 }, (f : Int), (f : Int), if last then 0 else 6) := by unfold nextF; rw [h]
theorem zbS {bs : List UInt8} {f : Nat} (last : Bool) {c : UInt8} {t : List UInt8} (h : bs.drop f = c :: t) : nextF bs f last = if (tokV last c t).1 = 0 then ((tokV last c t).2.1, (f : Int), (bs.length : Int) - ((tokV last c t).2.2.length : Int), 0) else ({ kind := 0 }, (f : Int), (f : Int), (tokV last c t).1) := by unfold nextF; rw [h]
theorem nextV_places {bs : List UInt8} {k : Int} (last : Bool) (h : 0 ≤ k) (h2 : k ≤ bs.length) :
   ((zaf bs k last).2.2.2 ≠ 0 → (zaf bs k last).1 = { kind := 0 } ∧ (zaf bs k last).2.1 = (zaf bs k last).2.2.1 ∧ k ≤ (zaf bs k last).2.1 ∧ (zaf bs k last).2.1 ≤ bs.length) ∧
   ((zaf bs k last).2.2.2 = 0 → (zaf bs k last).1.kind = 0 → last = true ∧ (zaf bs k last).2.1 = bs.length ∧ (zaf bs k last).2.2.1 = bs.length) ∧
   ((zaf bs k last).2.2.2 = 0 → (zaf bs k last).1.kind ≠ 0 → zaf bs (zaf bs k last).2.1 last = zaf bs k last ∧ k ≤ (zaf bs k last).2.1 ∧ (zaf bs k last).2.1 < (zaf bs k last).2.2.1 ∧ (zaf bs k last).2.2.1 ≤ bs.length) := by
 obtain ⟨hb1, hb2⟩ := zdT h h2
 have hi := skipV_idem h h2
 have hV := zcp (bs := bs) last h h2
 have hV2 := zcp (bs := bs) (k := (zaS bs k : Nat)) last (by omega) (by omega)
 rw [hi] at hV2
 generalize zaS bs k = f at *
 rw [hV]
 cases hd : bs.drop f with
 | nil =>
   have hn := zcP last hd
   rw [hn] at hV2 ⊢
   have hfl : f = bs.length := by have := List.drop_eq_nil_iff.1 hd; omega
   refine ⟨fun _ => ⟨rfl, rfl, hb1, by simp only; omega⟩, fun h0 _ => ⟨?_, by simp only; omega, by simp only; omega⟩, fun _ h => absurd rfl h⟩
   cases last
   · simp at h0
   · rfl
 | cons c t =>
   have hn := zbS last hd
   have hlen : f + (t.length + 1) = bs.length := by
     have := congrArg List.length hd
     rw [List.length_drop, List.length_cons] at this; omega
   by_cases h0 : (tokV last c t).1 = 0
   · obtain ⟨g1, g2⟩ := tokV_some last c t h0
     rw [if_pos h0] at hn
     rw [hn] at hV2 ⊢
     generalize tokV last c t = T at *
     obtain ⟨e, x, r⟩ := T
     simp only at g1 g2 hV2 ⊢
     exact ⟨fun h => absurd rfl h, fun _ h => absurd h g1, fun _ _ => ⟨hV2, hb1, by omega, by omega⟩⟩
   · rw [if_neg h0] at hn
     rw [hn]
     exact ⟨fun _ => ⟨rfl, rfl, hb1, by simp only; omega⟩, fun h => absurd h h0, fun h => absurd h h0⟩
theorem nextV_gen {l : List UInt8} (u : List UInt8) (la : Bool) {k : Int} (h : 0 ≤ k) (hk : k ≤ l.length) (h6 : (zaf l k false).2.2.2 ≠ 6) : zaf (l ++ u) k la = zaf l k false := by
 obtain ⟨hb1, hb2⟩ := zdT h hk
 have hV := zcp (bs := l) false h hk
 have hV2 := zcp (bs := l ++ u) la h (by rw [List.length_append]; omega)
 by_cases hl : zaS l k = l.length
 · exfalso; apply h6
   rw [hV, hl, zcP false (by simp)]
   rfl
 · have hkl : k < l.length := by omega
   have e : zaS l k = k.toNat + zaU false (l.drop k.toNat) := by
     unfold zaS; rw [if_neg (by omega), if_neg (by omega)]
   have e2 : zaS (l ++ u) k = zaS l k := by
     rw [e]; unfold zaS
     rw [if_neg (by omega), if_neg (by rw [List.length_append]; omega), List.drop_append_of_le_length (by omega), zcu _ _ _ (by rw [List.length_drop]; omega)]
   rw [e2] at hV2
   rw [hV] at h6
   rw [hV, hV2]
   clear hV hV2 e e2
   generalize zaS l k = f at *
   cases hd : l.drop f with
   | nil => have := List.drop_eq_nil_iff.1 hd; omega
   | cons c t =>
     have hd2 : (l ++ u).drop f = c :: (t ++ u) := by rw [List.drop_append_of_le_length (by omega), hd]; rfl
     have hn := zbS false hd
     rw [zbS la hd2, hn]
     rw [hn] at h6
     obtain ⟨g1, g2⟩ := tokV_more la c t u
     by_cases h0 : (tokV false c t).1 = 0
     · rw [g1 h0, if_pos rfl, if_pos h0]
       simp only
       rw [List.length_append, List.length_append]
       congr 3; omega
     · rw [if_neg h0] at h6
       have g3 := g2 h0 h6
       rw [if_neg (by rw [g3]; exact h0), if_neg h0, g3]
theorem nextV_stays {bs : List UInt8} {n : Nat} {k : Int} (last : Bool) (h : 0 ≤ k) (h2 : k ≤ n) (hn : n ≤ bs.length) (h6 : (zaf (bs.take n) k false).2.2.2 ≠ 6) : zaf bs k last = zaf (bs.take n) k false ∧ zaf (bs.take n) k true = zaf (bs.take n) k false := by
 have hk : k ≤ (bs.take n).length := by rw [List.length_take]; omega
 refine ⟨?_, ?_⟩
 · have := nextV_gen (l := bs.take n) (bs.drop n) last h hk h6
   rwa [List.take_append_drop] at this
 · have := nextV_gen (l := bs.take n) [] true h hk h6
   rwa [List.append_nil] at this
inductive PV where
 | mk (kind n : Int) (s : List UInt8) (l : List PV)
def PV.kind : PV → Int | .mk k _ _ _ => k
def PV.n : PV → Int | .mk _ n _ _ => n
def PV.s : PV → List UInt8 | .mk _ _ s _ => s
def PV.l : PV → List PV | .mk _ _ _ l => l
def PV.none : PV := .mk 0 0 [] []
instance : Inhabited PV := ⟨PV.none⟩
structure Lv where
 dict : Bool
 l : List PV
def zcd (v : Lv) : Bool := v.dict && v.l.length % 2 == 0
def topW : List Lv → Bool
 | [] => false
 | v :: _ => zcd v
def zay (t : Tk) : Bool := t.kind == 1 && t.vk == 2
def moreV (e : Int) : Int := if e = 6 then 6 else 0
def tkV (t : Tk) : PV := .mk t.vk t.vn t.vs []
def refV (bs : List UInt8) (last : Bool) (at_ : Int) (v : PV) : PV × Int × Int :=
 let g := zaf bs at_ last
 if g.2.2.2 ≠ 0 ∨ zay g.1 = false then (v, at_, moreV g.2.2.2) else
 let r := zaf bs g.2.2.1 last
 if r.2.2.2 ≠ 0 ∨ r.1.kind ≠ 6 ∨ r.1.s ≠ [82] then (v, at_, moreV r.2.2.2) else
 if v.n < 1 ∨ 4096 < v.n ∨ g.1.vn ≠ 0 then (v, at_, 26) else (.mk 8 v.n [] [], r.2.2.1, 0)
def zdK (w : List UInt8) : Option PV :=
 if w = [116, 114, 117, 101] then some (.mk 1 1 [] []) else if w = [102, 97, 108, 115, 101] then some (.mk 1 0 [] []) else if w = [110, 117, 108, 108] then some PV.none else none
def zar (bs : List UInt8) (last : Bool) (st : List Lv) (at_ : Int) (t : Tk) : PV × Int × Int :=
 if topW st = true ∧ (t.kind ≠ 1 ∨ t.vk ≠ 5) then (PV.none, at_, 11)
 else if t.kind = 6 then (match zdK t.s with | none => (PV.none, at_, 11) | some v => (v, at_, 0))
 else if zay t = true then refV bs last at_ (tkV t)
 else (tkV t, at_, 0)
def zbv (st : List Lv) (dict : Bool) : List Lv × Int := if topW st = true then (st, 11) else if 64 ≤ st.length then (st, 15) else ({ dict := dict, l := [] } :: st, 0)
def twoV : List PV → List (PV × PV)
 | a :: b :: l => (a, b) :: twoV l
 | _ => []
def zbM : List (PV × PV) → List PV
 | [] => []
 | (a, b) :: l => a :: b :: zbM l
def sLt : List UInt8 → List UInt8 → Bool
 | [], [] => false
 | [], _ :: _ => true
 | _ :: _, [] => false
 | a :: l, b :: m => if a.toNat < b.toNat then true else if b.toNat < a.toNat then false else sLt l m
def insV (x : PV × PV) : List (PV × PV) → List (PV × PV)
 | [] => [x]
 | y :: l => if sLt y.1.s x.1.s then y :: insV x l else x :: y :: l
def zc5 : List (PV × PV) → List (PV × PV)
 | [] => []
 | x :: l => insV x (zc5 l)
def zbq : List (PV × PV) → Bool
 | x :: y :: l => x.1.s == y.1.s || zbq (y :: l)
 | _ => false
def zb7 (l : List PV) : Option (List PV) := if zbq (zc5 (twoV l)) = true then none else some (zbM (zc5 (twoV l)))
def zbe (st : List Lv) (dict : Bool) : PV × List Lv × Int :=
 match st with
 | [] => (PV.none, st, 11)
 | v :: rest =>
   if v.dict ≠ dict ∨ (dict = true ∧ zcd v = false) then (PV.none, st, 11)
   else if dict = false then (.mk 6 0 [] v.l, rest, 0)
   else match zb7 v.l with
     | none => (PV.none, st, 16)
     | some l => (.mk 7 0 [] l, rest, 0)
def zaA (bs : List UInt8) (last : Bool) (st : List Lv) (at_ : Int) (t : Tk) : Option PV × List Lv × Int × Int :=
 if t.kind = 0 then (none, st, at_, 10)
 else if t.kind = 2 ∨ t.kind = 4 then (none, (zbv st (t.kind == 4)).1, at_, (zbv st (t.kind == 4)).2)
 else if t.kind = 3 ∨ t.kind = 5 then
   (let r := zbe st (t.kind == 5)
    if r.2.2 = 0 then (some r.1, r.2.1, at_, 0) else (none, r.2.1, at_, r.2.2))
 else
   (let r := zar bs last st at_ t
    if r.2.2 ≠ 0 then (none, st, r.2.1, r.2.2) else if 64 ≤ st.length then (none, st, r.2.1, 15) else (some r.1, st, r.2.1, 0))
def valO (bs : List UInt8) (last : Bool) : Nat → List Lv → Int → Option (PV × Int × Int)
 | 0, _, _ => none
 | g + 1, st, at_ =>
   let t := zaf bs at_ last
   if t.2.2.2 ≠ 0 then some (PV.none, 0, t.2.2.2) else
   match zaA bs last st t.2.2.1 t.1 with
   | (v, st2, at2, e) =>
     if e ≠ 0 then some (PV.none, 0, e) else
     match v with
     | none => valO bs last g st2 at2
     | some x => match st2 with
       | [] => some (x, at2, 0)
       | top :: rest => valO bs last g ({ top with l := top.l ++ [x] } :: rest) at2
theorem zaK {bs : List UInt8} {k : Int} (last : Bool) (h : 0 ≤ k) (h2 : k ≤ bs.length) : k ≤ (zaf bs k last).2.2.1 ∧ (zaf bs k last).2.2.1 ≤ bs.length := by
 rw [zcp last h h2]
 have hs := zdT h h2
 cases hd : bs.drop (zaS bs k) with
 | nil => rw [zcP last hd]; exact ⟨hs.1, by have := hs.2; show ((zaS bs k : Nat) : Int) ≤ _; omega⟩
 | cons c t =>
   rw [zbS last hd]
   have hl : (bs.drop (zaS bs k)).length = t.length + 1 := by rw [hd]; rfl
   rw [List.length_drop] at hl
   split
   · rename_i h0
     have := (tokV_some last c t h0).2
     exact ⟨by show k ≤ (bs.length : Int) - _; omega, by show (bs.length : Int) - _ ≤ _; omega⟩
   · exact ⟨hs.1, by have := hs.2; show ((zaS bs k : Nat) : Int) ≤ _; omega⟩
structure Same3 (bs : List UInt8) (n : Nat) (last : Bool) (k : Int) : Prop where
 a : zaf bs k last = zaf (bs.take n) k false
 b : zaf (bs.take n) k true = zaf (bs.take n) k false
 lo : k ≤ (zaf (bs.take n) k false).2.2.1
 hi : (zaf (bs.take n) k false).2.2.1 ≤ n
theorem same3 {bs : List UInt8} {n : Nat} (last : Bool) {k : Int} (h : 0 ≤ k) (h2 : k ≤ n) (hn : n ≤ bs.length) (h6 : (zaf (bs.take n) k false).2.2.2 ≠ 6) : Same3 bs n last k := by
 obtain ⟨p, q⟩ := nextV_stays last h h2 hn h6
 have hl : (bs.take n).length = n := by rw [List.length_take]; omega
 obtain ⟨r, s⟩ := zaK (bs := bs.take n) (k := k) false h (by omega)
 exact ⟨p, q, r, by omega⟩
theorem refV_stays {bs : List UInt8} {n : Nat} (last : Bool) {k : Int} (h : 0 ≤ k) (h2 : k ≤ n) (hn : n ≤ bs.length) (v : PV) (h6 : (refV (bs.take n) false k v).2.2 ≠ 6) :
   refV bs last k v = refV (bs.take n) false k v ∧ refV (bs.take n) true k v = refV (bs.take n) false k v ∧ k ≤ (refV (bs.take n) false k v).2.1 ∧ (refV (bs.take n) false k v).2.1 ≤ n := by
 unfold refV at h6 ⊢
 simp only at h6 ⊢
 by_cases hg6 : (zaf (bs.take n) k false).2.2.2 = 6
 · rw [if_pos (.inl (by rw [hg6]; decide)), hg6] at h6
   exact absurd rfl h6
 · have g := same3 last h h2 hn hg6
   rw [g.a, g.b]
   by_cases hc : (zaf (bs.take n) k false).2.2.2 ≠ 0 ∨ zay (zaf (bs.take n) k false).1 = false
   · simp only [if_pos hc]
     exact ⟨by trivial, by trivial, Int.le_refl _, h2⟩
   · simp only [if_neg hc] at h6 ⊢
     by_cases hr6 : (zaf (bs.take n) (zaf (bs.take n) k false).2.2.1 false).2.2.2 = 6
     · rw [if_pos (.inl (by rw [hr6]; decide)), hr6] at h6
       exact absurd rfl h6
     · have r := same3 (n := n) last (k := (zaf (bs.take n) k false).2.2.1) (by have := g.lo; omega) g.hi hn hr6
       rw [r.a, r.b]
       refine ⟨rfl, rfl, ?_⟩
       split
       · exact ⟨Int.le_refl _, h2⟩
       · split
         · exact ⟨Int.le_refl _, h2⟩
         · have h3 := r.lo; have h4 := g.lo; exact ⟨Int.le_trans h4 h3, r.hi⟩
theorem zfk {bs : List UInt8} {n : Nat} (last : Bool) (st : List Lv) {k : Int} (h : 0 ≤ k) (h2 : k ≤ n) (hn : n ≤ bs.length) (t : Tk) (h6 : (zar (bs.take n) false st k t).2.2 ≠ 6) :
   zar bs last st k t = zar (bs.take n) false st k t ∧ zar (bs.take n) true st k t = zar (bs.take n) false st k t ∧ k ≤ (zar (bs.take n) false st k t).2.1 ∧ (zar (bs.take n) false st k t).2.1 ≤ n := by
 unfold zar at h6 ⊢
 split
 · exact ⟨by trivial, by trivial, Int.le_refl _, h2⟩
 · rename_i q1
   rw [if_neg q1] at h6
   split
   · split
     · exact ⟨by trivial, by trivial, Int.le_refl _, h2⟩
     · exact ⟨by trivial, by trivial, Int.le_refl _, h2⟩
   · rename_i q2
     rw [if_neg q2] at h6
     split
     · rename_i q3
       rw [if_pos q3] at h6
       exact refV_stays last h h2 hn _ h6
     · exact ⟨by trivial, by trivial, Int.le_refl _, h2⟩
theorem stepV_stays {bs : List UInt8} {n : Nat} (last : Bool) (st : List Lv) {k : Int} (h : 0 ≤ k) (h2 : k ≤ n) (hn : n ≤ bs.length) (t : Tk) (h6 : (zaA (bs.take n) false st k t).2.2.2 ≠ 6) :
   zaA bs last st k t = zaA (bs.take n) false st k t ∧ zaA (bs.take n) true st k t = zaA (bs.take n) false st k t ∧ k ≤ (zaA (bs.take n) false st k t).2.2.1 ∧ (zaA (bs.take n) false st k t).2.2.1 ≤ n := by
 unfold zaA at h6 ⊢
 split
 · exact ⟨by trivial, by trivial, Int.le_refl _, h2⟩
 · rename_i q1
   rw [if_neg q1] at h6
   split
   · exact ⟨by trivial, by trivial, Int.le_refl _, h2⟩
   · rename_i q2
     rw [if_neg q2] at h6
     split
     · simp only
       split
       · exact ⟨by trivial, by trivial, Int.le_refl _, h2⟩
       · exact ⟨by trivial, by trivial, Int.le_refl _, h2⟩
     · rename_i q3
       rw [if_neg q3] at h6
       simp only at h6 ⊢
       have h7 : (zar (bs.take n) false st k t).2.2 ≠ 6 := by
         intro e
         rw [if_pos (by rw [e]; decide)] at h6
         exact h6 e
       obtain ⟨r1, r2, r3, r4⟩ := zfk last st h h2 hn t h7
       rw [r1, r2]
       refine ⟨rfl, rfl, ?_⟩
       split
       · exact ⟨r3, r4⟩
       · split
         · exact ⟨r3, r4⟩
         · exact ⟨r3, r4⟩
theorem zdl {bs : List UInt8} {n : Nat} (last : Bool) (hn : n ≤ bs.length) : ∀ (g : Nat) (st : List Lv) (k : Int) (V : PV × Int × Int), 0 ≤ k → k ≤ n → valO (bs.take n) false g st k = some V → V.2.2 ≠ 6 → valO bs last g st k = some V ∧ valO (bs.take n) true g st k = some V
 | 0, _, _, _, _, _, hV, _ => by cases hV
 | g + 1, st, k, V, h, h2, hV, h6 => by
   unfold valO at hV ⊢
   simp only at hV ⊢
   have ht6 : (zaf (bs.take n) k false).2.2.2 ≠ 6 := by
     intro e
     rw [if_pos (by rw [e]; decide), e] at hV
     cases hV
     exact h6 rfl
   have s := same3 last h h2 hn ht6
   rw [s.a, s.b]
   by_cases he : (zaf (bs.take n) k false).2.2.2 ≠ 0
   · simp only [if_pos he] at hV ⊢
     exact ⟨hV, hV⟩
   · simp only [if_neg he] at hV ⊢
     have hs6 : (zaA (bs.take n) false st (zaf (bs.take n) k false).2.2.1 (zaf (bs.take n) k false).1).2.2.2 ≠ 6 := by
       intro e
       rw [if_pos (by rw [e]; decide), e] at hV
       cases hV
       exact h6 rfl
     have hlo := s.lo
     obtain ⟨r1, r2, r3, r4⟩ := stepV_stays last st (k := (zaf (bs.take n) k false).2.2.1) (by omega) s.hi hn (zaf (bs.take n) k false).1 hs6
     rw [r1, r2]
     generalize zaA (bs.take n) false st (zaf (bs.take n) k false).2.2.1 (zaf (bs.take n) k false).1 = Z at *
     obtain ⟨v, st2, at2, e2⟩ := Z
     simp only at hV r3 r4 ⊢
     by_cases h0 : e2 ≠ 0
     · simp only [if_pos h0] at hV ⊢
       exact ⟨hV, hV⟩
     · simp only [if_neg h0] at hV ⊢
       cases v with
       | none => exact zdl last hn g st2 at2 V (by omega) r4 hV h6
       | some x =>
         cases st2 with
         | nil => exact ⟨hV, hV⟩
         | cons top rest => exact zdl last hn g _ at2 V (by omega) r4 hV h6
mutual
def zbJ : PV → Nat
 | .mk k _ _ l => if k = 6 ∨ k = 7 then 1 + zeG l else 1
def zeG : List PV → Nat
 | [] => 0
 | x :: l => max (zbJ x) (zeG l)
end
def ascV : List (PV × PV) → Bool
 | x :: y :: l => sLt x.1.s y.1.s && ascV (y :: l)
 | _ => true
def zdf : List PV → Bool
 | [] => true
 | [a] => a.kind == 5
 | a :: _ :: l => a.kind == 5 && zdf l
def ownC : PV → Int
 | .mk k n s l =>
   if k = 0 then (if n = 0 ∧ s = [] ∧ l = [] then 0 else 2)
   else if k = 1 then (if (n = 0 ∨ n = 1) ∧ s = [] ∧ l = [] then 0 else 2)
   else if k = 2 ∨ k = 3 then (if s = [] ∧ l = [] then zbx k n true else 2)
   else if k = 4 then (if n = 0 ∧ l = [] then 0 else 2)
   else if k = 5 then (if 127 < s.length ∨ (0 : UInt8) ∈ s then 17 else if n = 0 ∧ l = [] then 0 else 2)
   else if k = 6 then (if n = 0 ∧ s = [] then 0 else 2)
   else if k = 7 then (if n ≠ 0 ∨ s ≠ [] ∨ l.length % 2 ≠ 0 then 2 else if zdf l = false then 2 else if ascV (twoV l) = true then 0 else 16)
   else if k = 8 then (if 1 ≤ n ∧ n ≤ 4096 ∧ s = [] ∧ l = [] then 0 else 2)
   else 2
mutual
def zbs : PV → Int
 | .mk k n s l => if ownC (.mk k n s l) ≠ 0 then ownC (.mk k n s l) else if k = 6 ∨ k = 7 then firstL l else 0
def firstL : List PV → Int
 | [] => 0
 | x :: l => if zbs x ≠ 0 then zbs x else firstL l
end
theorem zeL {n : Nat} : ∀ l : List PV, (∀ x ∈ l, zbJ x ≤ n) → zeG l ≤ n
 | [], _ => by simp [zeG]
 | x :: l, h => by
   have h1 := h x (List.mem_cons_self)
   have h2 := zeL l fun y hy => h y (List.mem_cons_of_mem _ hy)
   simp only [zeG]; omega
theorem zdd : ∀ l : List PV, (∀ x ∈ l, zbs x = 0) → firstL l = 0
 | [], _ => rfl
 | x :: l, h => by
   simp only [firstL]
   rw [if_neg (by simp [h x (List.mem_cons_self)])]
   exact zdd l fun y hy => h y (List.mem_cons_of_mem _ hy)
theorem zch : ∀ a b : List UInt8, sLt a b = false → a ≠ b → sLt b a = true
 | [], [], _, h => absurd rfl h
 | [], _ :: _, h, _ => by simp [sLt] at h
 | _ :: _, [], _, _ => by simp [sLt]
 | x :: a, y :: b, h, hn => by
   simp only [sLt] at h ⊢
   by_cases h1 : x.toNat < y.toNat
   · rw [if_pos h1] at h; cases h
   · rw [if_neg h1] at h
     by_cases h2 : y.toNat < x.toNat
     · rw [if_pos h2]
     · rw [if_neg h2] at h ⊢
       rw [if_neg h1]
       have hxy : x = y := UInt8.toNat_inj.1 (by omega)
       subst hxy
       exact zch a b h fun e => hn (by rw [e])
def zev : List (PV × PV) → Prop
 | x :: y :: l => sLt y.1.s x.1.s = false ∧ zev (y :: l)
 | _ => True
theorem sLt_as : ∀ a b : List UInt8, sLt a b = true → sLt b a = false
 | [], [], h => by simp [sLt] at h
 | [], _ :: _, _ => by simp [sLt]
 | _ :: _, [], h => by simp [sLt] at h
 | x :: a, y :: b, h => by
   simp only [sLt] at h ⊢
   by_cases h1 : x.toNat < y.toNat
   · rw [if_neg (by omega), if_pos h1]
   · rw [if_neg h1] at h
     by_cases h2 : y.toNat < x.toNat
     · rw [if_pos h2] at h; cases h
     · rw [if_neg h2] at h
       rw [if_neg h2, if_neg h1]
       exact sLt_as a b h
theorem ins_head (x : PV × PV) : ∀ l, ∃ z t, insV x l = z :: t ∧ (z = x ∨ ∃ t', l = z :: t')
 | [] => ⟨x, [], rfl, .inl rfl⟩
 | y :: l => by
   simp only [insV]
   split
   · exact ⟨y, _, rfl, .inr ⟨l, rfl⟩⟩
   · exact ⟨x, _, rfl, .inl rfl⟩
theorem zeC {x : PV × PV} {l : List (PV × PV)} (h : zev l) (hh : ∀ z t, l = z :: t → sLt z.1.s x.1.s = false) : zev (x :: l) := by
 cases l with
 | nil => trivial
 | cons y t => exact ⟨hh y t rfl, h⟩
theorem notGt_tail {x : PV × PV} {l : List (PV × PV)} (h : zev (x :: l)) : zev l := by
 cases l with
 | nil => trivial
 | cons y t => exact h.2
theorem ins_notGt (x : PV × PV) : ∀ l, zev l → zev (insV x l)
 | [], _ => trivial
 | y :: l, h => by
   simp only [insV]
   split
   · rename_i hy
     refine zeC (ins_notGt x l (notGt_tail h)) fun z t hz => ?_
     obtain ⟨z', t', e1, e2⟩ := ins_head x l
     rw [e1] at hz
     have hzz : z' = z := (List.cons.inj hz).1
     rcases e2 with e2 | ⟨t2, e2⟩
     · rw [← hzz, e2]; exact sLt_as _ _ hy
     · rw [← hzz]; subst e2; exact h.1
   · rename_i hy
     exact zeC h fun z t hz => by
       have : y = z := (List.cons.inj hz).1
       rw [← this]
       simpa using hy
theorem zcs : ∀ l, zev (zc5 l)
 | [] => trivial
 | x :: l => ins_notGt x _ (zcs l)
theorem asc_of : ∀ l, zev l → zbq l = false → ascV l = true
 | [], _, _ => rfl
 | [_], _, _ => rfl
 | x :: y :: l, h, ht => by
   simp only [zbq, Bool.or_eq_false_iff, beq_eq_false_iff_ne] at ht
   simp only [ascV, Bool.and_eq_true]
   exact ⟨zch _ _ h.1 (fun e => ht.1 e.symm), asc_of (y :: l) h.2 ht.2⟩
theorem ins_perm (x : PV × PV) : ∀ l, (insV x l).Perm (x :: l)
 | [] => List.Perm.refl _
 | y :: l => by
   simp only [insV]
   split
   · exact ((ins_perm x l).cons y).trans (List.Perm.swap x y l)
   · exact List.Perm.refl _
theorem zeg : ∀ l, (zc5 l).Perm l
 | [] => List.Perm.refl _
 | x :: l => (ins_perm x _).trans ((zeg l).cons x)
theorem flat_two : ∀ p, twoV (zbM p) = p
 | [] => rfl
 | (a, b) :: l => by simp only [zbM, twoV]; rw [flat_two l]
theorem zfo : ∀ l : List PV, l.length % 2 = 0 → zbM (twoV l) = l
 | [], _ => rfl
 | [_], h => by simp at h
 | a :: b :: l, h => by simp only [twoV, zbM]; rw [zfo l (by simp at h; omega)]
theorem flat_len : ∀ p, (zbM p).length % 2 = 0
 | [] => rfl
 | (a, b) :: l => by have := flat_len l; simp only [zbM, List.length_cons]; omega
theorem zfz {x : PV} : ∀ p, x ∈ zbM p ↔ ∃ q ∈ p, x = q.1 ∨ x = q.2
 | [] => by simp [zbM]
 | (a, b) :: l => by
   simp only [zbM, List.mem_cons, zfz l]
   constructor
   · rintro (h | h | ⟨q, hq, h⟩)
     · exact ⟨(a, b), .inl rfl, .inl h⟩
     · exact ⟨(a, b), .inl rfl, .inr h⟩
     · exact ⟨q, .inr hq, h⟩
   · rintro ⟨q, rfl | hq, h⟩
     · exact h.elim .inl (fun h => .inr (.inl h))
     · exact .inr (.inr ⟨q, hq, h⟩)
theorem zdc : ∀ p : List (PV × PV), zdf (zbM p) = p.all fun q => q.1.kind == 5
 | [] => rfl
 | (a, b) :: l => by simp only [zbM, zdf, List.all_cons]; rw [zdc l]
theorem zeF : ∀ (l : List PV) (x : PV), zdf l = true → (l.length % 2 = 0 → x.kind = 5) → zdf (l ++ [x]) = true
 | [], x, _, h => by simpa [zdf] using h rfl
 | [a], x, h, _ => by simpa [zdf] using h
 | a :: b :: l, x, h, hx => by
   simp only [zdf, Bool.and_eq_true] at h
   simp only [List.cons_append, zdf, Bool.and_eq_true]
   exact ⟨h.1, zeF l x h.2 fun h2 => hx (by simp; omega)⟩
theorem pairs_ok {l l2 : List PV} (he : l.length % 2 = 0) (hn : zdf l = true) (h : zb7 l = some l2) : l2.length % 2 = 0 ∧ zdf l2 = true ∧ ascV (twoV l2) = true ∧ ∀ x ∈ l2, x ∈ l := by
 unfold zb7 at h
 split at h
 · cases h
 · rename_i ht
   cases h
   have hp := zeg (twoV l)
   refine ⟨flat_len _, ?_, ?_, fun x hx => ?_⟩
   · rw [zdc, List.all_eq_true]
     intro q hq
     have h1 := zdc (twoV l)
     rw [zfo l he, hn] at h1
     exact List.all_eq_true.1 h1.symm q (hp.mem_iff.1 hq)
   · rw [flat_two]
     exact asc_of _ (zcs _) (by simpa using ht)
   · obtain ⟨q, hq, h1⟩ := (zfz _).1 hx
     rw [← zfo l he]
     exact (zfz _).2 ⟨q, hp.mem_iff.1 hq, h1⟩
def lvOk (d : Nat) (v : Lv) : Prop := (∀ x ∈ v.l, zbs x = 0 ∧ zbJ x + d ≤ 64) ∧ (v.dict = true → zdf v.l = true)
def stOk : List Lv → Prop
 | [] => True
 | v :: rest => lvOk (rest.length + 1) v ∧ rest.length + 1 ≤ 64 ∧ topW rest = false ∧ stOk rest
theorem tk_depth {v : PV} (h : v.kind ≠ 6) (h2 : v.kind ≠ 7) : zbJ v = 1 := by
 obtain ⟨k, n, s, l⟩ := v
 simp only [zbJ]
 rw [if_neg (by rintro (e | e); exact h e; exact h2 e)]
theorem first_own {v : PV} (h : ownC v = 0) (h6 : v.kind ≠ 6) (h7 : v.kind ≠ 7) : zbs v = 0 := by
 obtain ⟨k, n, s, l⟩ := v
 simp only [zbs]
 rw [if_neg (by simp [h]), if_neg (by rintro (e | e); exact h6 e; exact h7 e)]
def tkOk (t : Tk) : Prop := 0 ≤ t.kind ∧ t.kind ≤ 6 ∧ (t.kind = 1 → ownC (tkV t) = 0 ∧ t.vk ≠ 6 ∧ t.vk ≠ 7)
theorem tkn {t : Tk} (n : Nat) (e : t.kind = n) (h : n ≤ 6) (h1 : n ≠ 1) : tkOk t := ⟨by omega, by omega, fun h2 => by omega⟩
theorem tk1 {t : Tk} (e : t.kind = 1) (ho : ownC (tkV t) = 0) (h6 : t.vk ≠ 6) (h7 : t.vk ≠ 7) : tkOk t := ⟨by omega, by omega, fun _ => ⟨ho, h6, h7⟩⟩
theorem own_num {k n : Int} (hk : k = 2 ∨ k = 3) (hc : zbx k n true = 0) : ownC (.mk k n [] []) = 0 := by
 simp only [ownC]
 rw [if_neg (by omega), if_neg (by omega), if_pos hk, if_pos ⟨by trivial, by trivial⟩]
 exact hc
theorem own_ref {n : Int} (h1 : 1 ≤ n) (h2 : n ≤ 4096) : ownC (.mk 8 n [] []) = 0 := by simp [ownC, h1, h2]
theorem word_ok {w : List UInt8} {v : PV} (h : zdK w = some v) : zbs v = 0 ∧ zbJ v = 1 := by
 unfold zdK at h
 split at h
 · cases h; decide
 · split at h
   · cases h; decide
   · split at h
     · cases h; decide
     · cases h
theorem nameV_ok {w o : List UInt8} (h : zes w = some o) : ¬ (127 < o.length ∨ (0 : UInt8) ∈ o) := by
 unfold zes at h
 split at h
 · cases h
 · split at h
   · cases h
   · rename_i hn
     cases h
     exact hn
theorem tokV_ok (last : Bool) (c : UInt8) (t : List UInt8) (h : (tokV last c t).1 = 0) : tkOk (tokV last c t).2.1 := by
 unfold tokV at h ⊢
 split
 · rename_i q0
   rw [if_pos q0] at h
   try simp only at h ⊢
   split
   · rename_i q1; rw [if_pos q1] at h; cases h
   · rename_i q1
     rw [if_neg q1] at h
     split
     · rename_i q2
       rw [if_pos q2] at h
       have hc := parseV_check _ h
       try simp only at hc
       have hk : (zaL ((c :: t).takeWhile isRg)).1 = 2 ∨ (zaL ((c :: t).takeWhile isRg)).1 = 3 := by
         unfold zbx at hc
         split at hc
         · rename_i hq
           rcases hq.2 with hq | hq
           · exact .inl hq.1
           · exact .inr hq.1
         · cases hc
       refine tk1 rfl ?_ ?_ ?_
       · exact own_num hk hc
       · show (zaL _).1 ≠ 6; omega
       · show (zaL _).1 ≠ 7; omega
     · exact (by first | exact tkn 0 rfl (by decide) (by decide) | exact tkn 2 rfl (by decide) (by decide) | exact tkn 3 rfl (by decide) (by decide) | exact tkn 4 rfl (by decide) (by decide) | exact tkn 5 rfl (by decide) (by decide) | exact tkn 6 rfl (by decide) (by decide))
 · rename_i q0
   rw [if_neg q0] at h
   split
   · exact (by first | exact tkn 0 rfl (by decide) (by decide) | exact tkn 2 rfl (by decide) (by decide) | exact tkn 3 rfl (by decide) (by decide) | exact tkn 4 rfl (by decide) (by decide) | exact tkn 5 rfl (by decide) (by decide) | exact tkn 6 rfl (by decide) (by decide))
   · rename_i q1
     rw [if_neg q1] at h
     split
     · exact (by first | exact tkn 0 rfl (by decide) (by decide) | exact tkn 2 rfl (by decide) (by decide) | exact tkn 3 rfl (by decide) (by decide) | exact tkn 4 rfl (by decide) (by decide) | exact tkn 5 rfl (by decide) (by decide) | exact tkn 6 rfl (by decide) (by decide))
     · rename_i q2
       rw [if_neg q2] at h
       split
       · split
         · exact (by first | exact tkn 0 rfl (by decide) (by decide) | exact tkn 2 rfl (by decide) (by decide) | exact tkn 3 rfl (by decide) (by decide) | exact tkn 4 rfl (by decide) (by decide) | exact tkn 5 rfl (by decide) (by decide) | exact tkn 6 rfl (by decide) (by decide))
         · split
           · exact (by first | exact tkn 0 rfl (by decide) (by decide) | exact tkn 2 rfl (by decide) (by decide) | exact tkn 3 rfl (by decide) (by decide) | exact tkn 4 rfl (by decide) (by decide) | exact tkn 5 rfl (by decide) (by decide) | exact tkn 6 rfl (by decide) (by decide))
           · simp only
             split
             · exact tk1 rfl (by show ownC (.mk 4 0 _ []) = 0; simp [ownC]) (by show (4 : Int) ≠ 6; decide) (by show (4 : Int) ≠ 7; decide)
             · split
               · exact (by first | exact tkn 0 rfl (by decide) (by decide) | exact tkn 2 rfl (by decide) (by decide) | exact tkn 3 rfl (by decide) (by decide) | exact tkn 4 rfl (by decide) (by decide) | exact tkn 5 rfl (by decide) (by decide) | exact tkn 6 rfl (by decide) (by decide))
               · exact (by first | exact tkn 0 rfl (by decide) (by decide) | exact tkn 2 rfl (by decide) (by decide) | exact tkn 3 rfl (by decide) (by decide) | exact tkn 4 rfl (by decide) (by decide) | exact tkn 5 rfl (by decide) (by decide) | exact tkn 6 rfl (by decide) (by decide))
       · rename_i q3
         rw [if_neg q3] at h
         split
         · split
           · exact (by first | exact tkn 0 rfl (by decide) (by decide) | exact tkn 2 rfl (by decide) (by decide) | exact tkn 3 rfl (by decide) (by decide) | exact tkn 4 rfl (by decide) (by decide) | exact tkn 5 rfl (by decide) (by decide) | exact tkn 6 rfl (by decide) (by decide))
           · split
             · exact (by first | exact tkn 0 rfl (by decide) (by decide) | exact tkn 2 rfl (by decide) (by decide) | exact tkn 3 rfl (by decide) (by decide) | exact tkn 4 rfl (by decide) (by decide) | exact tkn 5 rfl (by decide) (by decide) | exact tkn 6 rfl (by decide) (by decide))
             · exact (by first | exact tkn 0 rfl (by decide) (by decide) | exact tkn 2 rfl (by decide) (by decide) | exact tkn 3 rfl (by decide) (by decide) | exact tkn 4 rfl (by decide) (by decide) | exact tkn 5 rfl (by decide) (by decide) | exact tkn 6 rfl (by decide) (by decide))
         · rename_i q4
           rw [if_neg q4] at h
           split
           · split
             · exact (by first | exact tkn 0 rfl (by decide) (by decide) | exact tkn 2 rfl (by decide) (by decide) | exact tkn 3 rfl (by decide) (by decide) | exact tkn 4 rfl (by decide) (by decide) | exact tkn 5 rfl (by decide) (by decide) | exact tkn 6 rfl (by decide) (by decide))
             · exact tk1 rfl (by show ownC (.mk 4 0 _ []) = 0; simp [ownC]) (by show (4 : Int) ≠ 6; decide) (by show (4 : Int) ≠ 7; decide)
           · rename_i q5
             rw [if_neg q5] at h
             split
             · simp only
               split
               · exact (by first | exact tkn 0 rfl (by decide) (by decide) | exact tkn 2 rfl (by decide) (by decide) | exact tkn 3 rfl (by decide) (by decide) | exact tkn 4 rfl (by decide) (by decide) | exact tkn 5 rfl (by decide) (by decide) | exact tkn 6 rfl (by decide) (by decide))
               · split
                 · exact (by first | exact tkn 0 rfl (by decide) (by decide) | exact tkn 2 rfl (by decide) (by decide) | exact tkn 3 rfl (by decide) (by decide) | exact tkn 4 rfl (by decide) (by decide) | exact tkn 5 rfl (by decide) (by decide) | exact tkn 6 rfl (by decide) (by decide))
                 · rename_i o ho
                   have hn := nameV_ok ho
                   exact tk1 rfl (by show ownC (.mk 5 0 o []) = 0; simp only [ownC]; simp [hn]) (by show (5 : Int) ≠ 6; decide) (by show (5 : Int) ≠ 7; decide)
             · exact (by first | exact tkn 0 rfl (by decide) (by decide) | exact tkn 2 rfl (by decide) (by decide) | exact tkn 3 rfl (by decide) (by decide) | exact tkn 4 rfl (by decide) (by decide) | exact tkn 5 rfl (by decide) (by decide) | exact tkn 6 rfl (by decide) (by decide))
theorem zcN {bs : List UInt8} {k : Int} (last : Bool) (h : 0 ≤ k) (h2 : k ≤ bs.length) : tkOk (zaf bs k last).1 := by
 rw [zcp last h h2]
 cases hd : bs.drop (zaS bs k) with
 | nil => rw [zcP last hd]; exact (by first | exact tkn 0 rfl (by decide) (by decide) | exact tkn 2 rfl (by decide) (by decide) | exact tkn 3 rfl (by decide) (by decide) | exact tkn 4 rfl (by decide) (by decide) | exact tkn 5 rfl (by decide) (by decide) | exact tkn 6 rfl (by decide) (by decide))
 | cons c t =>
   rw [zbS last hd]
   split
   · rename_i h0; exact tokV_ok last c t h0
   · exact (by first | exact tkn 0 rfl (by decide) (by decide) | exact tkn 2 rfl (by decide) (by decide) | exact tkn 3 rfl (by decide) (by decide) | exact tkn 4 rfl (by decide) (by decide) | exact tkn 5 rfl (by decide) (by decide) | exact tkn 6 rfl (by decide) (by decide))
theorem zca {bs : List UInt8} {k : Int} {last : Bool} (h : 0 ≤ k) (h2 : k ≤ bs.length) (he : (zaf bs k last).2.2.2 = 0) (hk : (zaf bs k last).1.kind ≠ 0) : k < (zaf bs k last).2.2.1 := by
 have := (nextV_places last h h2).2.2 he hk
 omega
theorem refV_ok {bs : List UInt8} {last : Bool} {k : Int} (h : 0 ≤ k) (h2 : k ≤ bs.length) {v : PV} (hv : ownC v = 0) (hk : v.kind ≠ 6 ∧ v.kind ≠ 7) (he : (refV bs last k v).2.2 = 0) :
   ownC (refV bs last k v).1 = 0 ∧ (refV bs last k v).1.kind ≠ 6 ∧ (refV bs last k v).1.kind ≠ 7 ∧ k ≤ (refV bs last k v).2.1 ∧ (refV bs last k v).2.1 ≤ bs.length := by
 obtain ⟨g1, g2⟩ := zaK last h h2
 unfold refV at he ⊢
 simp only at he ⊢
 split
 · exact ⟨hv, hk.1, hk.2, Int.le_refl _, h2⟩
 · rename_i q1
   simp only [if_neg q1] at he
   obtain ⟨r1, r2⟩ := zaK (bs := bs) (k := (zaf bs k last).2.2.1) last (by omega) g2
   split
   · exact ⟨hv, hk.1, hk.2, Int.le_refl _, h2⟩
   · rename_i q2
     simp only [if_neg q2] at he
     split
     · rename_i q3; rw [if_pos q3] at he; cases he
     · rename_i q3
       refine ⟨?_, by show (8 : Int) ≠ 6; decide, by show (8 : Int) ≠ 7; decide, Int.le_trans g1 r1, r2⟩
       exact own_ref (by omega) (by omega)
theorem singleV_ok {bs : List UInt8} {last : Bool} {st : List Lv} {k : Int} (h : 0 ≤ k) (h2 : k ≤ bs.length) {t : Tk} (ht : tkOk t) (hk : t.kind = 1 ∨ t.kind = 6) (he : (zar bs last st k t).2.2 = 0) :
   zbs (zar bs last st k t).1 = 0 ∧ zbJ (zar bs last st k t).1 = 1 ∧ (topW st = true → (zar bs last st k t).1.kind = 5) ∧ k ≤ (zar bs last st k t).2.1 ∧ (zar bs last st k t).2.1 ≤ bs.length := by
 unfold zar at he ⊢
 split
 · rename_i q; rw [if_pos q] at he; cases he
 · rename_i q
   rw [if_neg q] at he
   split
   · rename_i q6
     rw [if_pos q6] at he
     have hw : ¬ topW st = true := fun e => q ⟨e, .inl (by rw [q6]; decide)⟩
     cases hwd : zdK t.s with
     | none => rw [hwd] at he; cases he
     | some v =>
       obtain ⟨z1, z2⟩ := word_ok hwd
       exact ⟨z1, z2, fun e => absurd e hw, Int.le_refl _, h2⟩
   · rename_i q6
     rw [if_neg q6] at he
     have h1 : t.kind = 1 := hk.resolve_right q6
     obtain ⟨o1, o2, o3⟩ := ht.2.2 h1
     split
     · rename_i qw
       rw [if_pos qw] at he
       obtain ⟨r1, r2, r3, r4, r5⟩ := refV_ok (last := last) h h2 o1 ⟨o2, o3⟩ he
       have hw : ¬ topW st = true := fun e => q ⟨e, .inr (by
         unfold zay at qw
         simp only [Bool.and_eq_true, beq_iff_eq] at qw
         rw [qw.2]; decide)⟩
       exact ⟨first_own r1 r2 r3, tk_depth r2 r3, fun e => absurd e hw, r4, r5⟩
     · refine ⟨first_own o1 o2 o3, tk_depth o2 o3, fun e => ?_, Int.le_refl _, h2⟩
       exact Decidable.byContradiction fun hn => q ⟨e, .inr hn⟩
theorem lv_snoc {d : Nat} {v : Lv} {x : PV} (h : lvOk d v) (hx : zbs x = 0 ∧ zbJ x + d ≤ 64) (hw : zcd v = true → x.kind = 5) : lvOk d { v with l := v.l ++ [x] } := by
 refine ⟨fun y hy => ?_, fun hd => zeF _ _ (h.2 hd) fun h2 => hw (by unfold zcd; rw [show v.dict = true from hd]; simp [h2])⟩
 rcases List.mem_append.1 hy with hy | hy
 · exact h.1 y hy
 · rw [List.mem_singleton.1 hy]; exact hx
theorem end_ok {st : List Lv} {dict : Bool} (h : stOk st) (he : (zbe st dict).2.2 = 0) :
   ∃ v rest, st = v :: rest ∧ (zbe st dict).2.1 = rest ∧ stOk rest ∧ zbs (zbe st dict).1 = 0 ∧ zbJ (zbe st dict).1 + rest.length ≤ 64 ∧ topW rest = false := by
 cases st with
 | nil => cases he
 | cons v rest =>
   obtain ⟨h1, h2, hw0, h3⟩ := h
   have hd : ∀ l : List PV, (∀ x ∈ l, x ∈ v.l) → 1 + zeG l + rest.length ≤ 64 := fun l hl => by
     have := zeL (n := 63 - rest.length) l fun x hx => by have := (h1.1 x (hl x hx)).2; omega
     omega
   refine ⟨v, rest, rfl, ?_⟩
   unfold zbe at he ⊢
   simp only at he ⊢
   by_cases q1 : v.dict ≠ dict ∨ (dict = true ∧ zcd v = false)
   · rw [if_pos q1] at he; cases he
   · rw [if_neg q1] at he ⊢
     by_cases q2 : dict = false
     · rw [if_pos q2]
       refine ⟨rfl, h3, ?_, ?_, hw0⟩
       · simp only [zbs]
         rw [if_neg (by simp [ownC]), if_pos (by simp)]
         exact zdd _ fun x hx => (h1.1 x hx).1
       · simp only [zbJ]
         rw [if_pos (by simp)]
         exact hd v.l fun _ h => h
     · rw [if_neg q2] at he ⊢
       have hdt : dict = true := by cases dict; exact absurd rfl q2; rfl
       have hvd : v.dict = true := Decidable.byContradiction fun hn => q1 (.inl (by rw [hdt]; exact hn))
       have hw : zcd v = true := Decidable.byContradiction fun hn => q1 (.inr ⟨hdt, by simpa using hn⟩)
       have hev : v.l.length % 2 = 0 := by
         unfold zcd at hw
         simp only [Bool.and_eq_true, beq_iff_eq] at hw
         exact hw.2
       cases hp : zb7 v.l with
       | none => rw [hp] at he; cases he
       | some l2 =>
         obtain ⟨p1, p2, p3, p4⟩ := pairs_ok hev (h1.2 hvd) hp
         refine ⟨rfl, h3, ?_, ?_, hw0⟩
         · simp only [zbs]
           rw [if_neg (by simp [ownC, p1, p2, p3]), if_pos (by simp)]
           exact zdd _ fun x hx => (h1.1 x (p4 x hx)).1
         · simp only [zbJ]
           rw [if_pos (by simp)]
           exact hd l2 p4
theorem valO_may {bs : List UInt8} {last : Bool} : ∀ (g : Nat) (st : List Lv) (k : Int) (V : PV × Int × Int), 0 ≤ k → k ≤ bs.length → stOk st → valO bs last g st k = some V →
   (V.2.2 = 0 → zbs V.1 = 0 ∧ zbJ V.1 ≤ 64 ∧ k < V.2.1 ∧ V.2.1 ≤ bs.length) ∧ (V.2.2 ≠ 0 → V.1 = PV.none ∧ V.2.1 = 0)
 | 0, _, _, _, _, _, _, hV => by cases hV
 | g + 1, st, k, V, h, h2, hs, hV => by
   unfold valO at hV
   simp only at hV
   by_cases he : (zaf bs k last).2.2.2 ≠ 0
   · rw [if_pos he] at hV
     cases hV
     exact ⟨fun e => absurd e he, fun _ => ⟨rfl, rfl⟩⟩
   · rw [if_neg he] at hV
     have he0 : (zaf bs k last).2.2.2 = 0 := by simpa using he
     obtain ⟨g1, g2⟩ := zaK last h h2
     have hok := zcN last h h2
     have hfar := zca h h2 he0
     generalize (zaf bs k last).2.2.1 = to at *
     generalize (zaf bs k last).1 = t at *
     have key : ∀ v st2 at2 e2, zaA bs last st to t = (v, st2, at2, e2) → e2 = 0 → t.kind ≠ 0 ∧ to ≤ at2 ∧ at2 ≤ bs.length ∧ stOk st2 ∧ (∀ x, v = some x → zbs x = 0 ∧ zbJ x + st2.length ≤ 64 ∧ (topW st2 = true → x.kind = 5)) := by
       intro v st2 at2 e2 hq e20
       subst e20
       unfold zaA at hq
       by_cases k0 : t.kind = 0
       · rw [if_pos k0] at hq; cases hq
       · rw [if_neg k0] at hq
         refine ⟨k0, ?_⟩
         by_cases k24 : t.kind = 2 ∨ t.kind = 4
         · rw [if_pos k24] at hq
           simp only [Prod.mk.injEq] at hq
           obtain ⟨rfl, q2, rfl, q4⟩ := hq
           refine ⟨Int.le_refl _, g2, ?_, fun x hx => by cases hx⟩
           unfold zbv at q2 q4
           by_cases b1 : topW st = true
           · rw [if_pos b1] at q4; cases q4
           · rw [if_neg b1] at q2 q4
             by_cases b2 : 64 ≤ st.length
             · rw [if_pos b2] at q4; cases q4
             · rw [if_neg b2] at q2
               rw [← q2]
               exact ⟨⟨fun x hx => (by cases hx), fun _ => rfl⟩, by omega, by simpa using b1, hs⟩
         · rw [if_neg k24] at hq
           by_cases k35 : t.kind = 3 ∨ t.kind = 5
           · rw [if_pos k35] at hq
             simp only at hq
             by_cases b1 : (zbe st (t.kind == 5)).2.2 = 0
             · rw [if_pos b1] at hq
               simp only [Prod.mk.injEq] at hq
               obtain ⟨rfl, rfl, rfl, -⟩ := hq
               obtain ⟨v0, rest, e1, e2, e3, e4, e5, e6⟩ := end_ok hs b1
               refine ⟨Int.le_refl _, g2, by rw [e2]; exact e3, fun x hx => ?_⟩
               cases hx
               rw [e2]
               exact ⟨e4, e5, fun hw => by rw [e6] at hw; cases hw⟩
             · rw [if_neg b1] at hq
               simp only [Prod.mk.injEq] at hq
               exact absurd hq.2.2.2 b1
           · rw [if_neg k35] at hq
             simp only at hq
             have hk16 : t.kind = 1 ∨ t.kind = 6 := by have := hok.1; have := hok.2.1; omega
             by_cases b1 : (zar bs last st to t).2.2 ≠ 0
             · rw [if_pos b1] at hq
               simp only [Prod.mk.injEq] at hq
               exact absurd hq.2.2.2 b1
             · rw [if_neg b1] at hq
               by_cases b2 : 64 ≤ st.length
               · rw [if_pos b2] at hq
                 simp only [Prod.mk.injEq] at hq
                 exact absurd hq.2.2.2 (by decide)
               · rw [if_neg b2] at hq
                 simp only [Prod.mk.injEq] at hq
                 obtain ⟨rfl, rfl, rfl, -⟩ := hq
                 obtain ⟨s1, s2, s3, s4, s5⟩ := singleV_ok (last := last) (st := st) (by omega) g2 hok hk16 (by simpa using b1)
                 exact ⟨s4, s5, hs, fun x hx => by cases hx; exact ⟨s1, by omega, s3⟩⟩
     generalize hZ : zaA bs last st to t = Z at hV key
     obtain ⟨v, st2, at2, e2⟩ := Z
     simp only at hV
     by_cases h0 : e2 ≠ 0
     · rw [if_pos h0] at hV
       cases hV
       exact ⟨fun e => absurd e h0, fun _ => ⟨rfl, rfl⟩⟩
     · rw [if_neg h0] at hV
       obtain ⟨k1, k2, k3, k4, k5⟩ := key v st2 at2 e2 rfl (by simpa using h0)
       have hkt := hfar k1
       have hrec : ∀ st3, stOk st3 → valO bs last g st3 at2 = some V → (V.2.2 = 0 → zbs V.1 = 0 ∧ zbJ V.1 ≤ 64 ∧ k < V.2.1 ∧ V.2.1 ≤ bs.length) ∧ (V.2.2 ≠ 0 → V.1 = PV.none ∧ V.2.1 = 0) := fun st3 hs3 hv3 => by
         obtain ⟨p1, p2⟩ := valO_may g st3 at2 V (by omega) k3 hs3 hv3
         exact ⟨fun e => by obtain ⟨z1, z2, z3, z4⟩ := p1 e; exact ⟨z1, z2, by omega, z4⟩, p2⟩
       cases v with
       | none => exact hrec st2 k4 hV
       | some x =>
         obtain ⟨x1, x2, x3⟩ := k5 x rfl
         cases st2 with
         | nil =>
           cases hV
           exact ⟨fun _ => ⟨x1, by simpa using x2, by show k < at2; omega, k3⟩, fun e => absurd rfl e⟩
         | cons top rest =>
           obtain ⟨z1, z2, zw, z3⟩ := k4
           exact hrec ({ top with l := top.l ++ [x] } :: rest) (show lvOk _ _ ∧ _ ∧ _ ∧ _ from ⟨lv_snoc z1 ⟨x1, by simp only [List.length_cons] at x2; omega⟩ (fun hw => x3 hw), z2, zw, z3⟩) hV
theorem refV_at {bs : List UInt8} {last : Bool} {k : Int} (h : 0 ≤ k) (h2 : k ≤ bs.length) (v : PV) : k ≤ (refV bs last k v).2.1 ∧ (refV bs last k v).2.1 ≤ bs.length := by
 obtain ⟨g1, g2⟩ := zaK last h h2
 unfold refV
 simp only
 split
 · exact ⟨Int.le_refl _, h2⟩
 · obtain ⟨r1, r2⟩ := zaK (bs := bs) (k := (zaf bs k last).2.2.1) last (by omega) g2
   split
   · exact ⟨Int.le_refl _, h2⟩
   · split
     · exact ⟨Int.le_refl _, h2⟩
     · exact ⟨Int.le_trans g1 r1, r2⟩
theorem singleV_at {bs : List UInt8} {last : Bool} {k : Int} (h : 0 ≤ k) (h2 : k ≤ bs.length) (st : List Lv) (t : Tk) : k ≤ (zar bs last st k t).2.1 ∧ (zar bs last st k t).2.1 ≤ bs.length := by
 unfold zar
 split
 · exact ⟨Int.le_refl _, h2⟩
 · split
   · split
     · exact ⟨Int.le_refl _, h2⟩
     · exact ⟨Int.le_refl _, h2⟩
   · split
     · exact refV_at h h2 _
     · exact ⟨Int.le_refl _, h2⟩
theorem stepV_at {bs : List UInt8} {last : Bool} {k : Int} (h : 0 ≤ k) (h2 : k ≤ bs.length) (st : List Lv) (t : Tk) : k ≤ (zaA bs last st k t).2.2.1 ∧ (zaA bs last st k t).2.2.1 ≤ bs.length := by
 unfold zaA
 split
 · exact ⟨Int.le_refl _, h2⟩
 · split
   · exact ⟨Int.le_refl _, h2⟩
   · split
     · simp only
       split
       · exact ⟨Int.le_refl _, h2⟩
       · exact ⟨Int.le_refl _, h2⟩
     · simp only
       have := singleV_at (last := last) h h2 st t
       split
       · exact this
       · split
         · exact this
         · exact this
theorem zeO {bs : List UInt8} {last : Bool} {k : Int} {st : List Lv} {t : Tk} (h : (zaA bs last st k t).2.2.2 = 0) : t.kind ≠ 0 := by
 intro e
 unfold zaA at h
 rw [if_pos e] at h
 cases h
theorem zef (bs : List UInt8) (last : Bool) : ∀ (g : Nat) (st : List Lv) (k : Int), 0 ≤ k → k ≤ bs.length → ((bs.length : Int) - k).toNat < g → ∃ V, valO bs last g st k = some V
 | 0, _, _, _, _, h => by omega
 | g + 1, st, k, h, h2, hg => by
   unfold valO
   simp only
   by_cases he : (zaf bs k last).2.2.2 ≠ 0
   · rw [if_pos he]; exact ⟨_, rfl⟩
   · rw [if_neg he]
     have he0 : (zaf bs k last).2.2.2 = 0 := by simpa using he
     obtain ⟨g1, g2⟩ := zaK last h h2
     have hfar := zca h h2 he0
     generalize (zaf bs k last).2.2.1 = to at *
     generalize (zaf bs k last).1 = t at *
     obtain ⟨s1, s2⟩ := stepV_at (bs := bs) (last := last) (k := to) (by omega) g2 st t
     have sk := zeO (bs := bs) (last := last) (k := to) (st := st) (t := t)
     generalize zaA bs last st to t = Z at *
     obtain ⟨v, st2, at2, e2⟩ := Z
     simp only at s1 s2 sk ⊢
     by_cases h0 : e2 ≠ 0
     · rw [if_pos h0]; exact ⟨_, rfl⟩
     · rw [if_neg h0]
       have hk := hfar (sk (by simpa using h0))
       cases v with
       | none => exact zef bs last g st2 at2 (by omega) s2 (by omega)
       | some x =>
         cases st2 with
         | nil => exact ⟨_, rfl⟩
         | cons top rest => exact zef bs last g _ at2 (by omega) s2 (by omega)
def insK (x : PV × PV) : List (PV × PV) → List (PV × PV)
 | [] => [x]
 | y :: l => if sLt x.1.s y.1.s then x :: y :: l else y :: insK x l
def hasK (s : List UInt8) (l : List (PV × PV)) : Bool := l.any fun y => y.1.s == s
def repK (x : PV × PV) : List (PV × PV) → List (PV × PV)
 | [] => []
 | y :: l => if y.1.s = x.1.s then (y.1, x.2) :: l else y :: repK x l
def putK (x : PV × PV) (l : List (PV × PV)) : List (PV × PV) := if hasK x.1.s l then repK x l else insK x l
def docS : List (PV × PV) → List (PV × PV) → Bool → List (PV × PV) × Bool
 | [], l, tw => (l, tw)
 | x :: p, l, tw => docS p (putK x l) (tw || hasK x.1.s l)
def ascP : List (PV × PV) → Prop
 | [] => True
 | x :: l => (∀ y ∈ l, sLt x.1.s y.1.s = true) ∧ ascP l
theorem sLt_tr : ∀ a b c : List UInt8, sLt a b = true → sLt b c = true → sLt a c = true
 | [], [], _, h, _ => by simp [sLt] at h
 | [], _ :: _, [], _, h => by simp [sLt] at h
 | [], _ :: _, _ :: _, _, _ => by simp [sLt]
 | _ :: _, [], _, h, _ => by simp [sLt] at h
 | _ :: _, _ :: _, [], _, h => by simp [sLt] at h
 | x :: a, y :: b, z :: c, h1, h2 => by
   simp only [sLt] at h1 h2 ⊢
   by_cases p1 : x.toNat < y.toNat
   · by_cases p2 : y.toNat < z.toNat
     · rw [if_pos (by omega)]
     · rw [if_neg p2] at h2
       by_cases p3 : z.toNat < y.toNat
       · rw [if_pos p3] at h2; cases h2
       · rw [if_pos (by omega)]
   · rw [if_neg p1] at h1
     by_cases p4 : y.toNat < x.toNat
     · rw [if_pos p4] at h1; cases h1
     · rw [if_neg p4] at h1
       by_cases p2 : y.toNat < z.toNat
       · rw [if_pos (by omega)]
       · rw [if_neg p2] at h2
         by_cases p3 : z.toNat < y.toNat
         · rw [if_pos p3] at h2; cases h2
         · rw [if_neg p3] at h2
           rw [if_neg (by omega), if_neg (by omega)]
           exact sLt_tr a b c h1 h2
theorem sLt_ir : ∀ a : List UInt8, sLt a a = false
 | [] => rfl
 | x :: a => by simp only [sLt]; rw [if_neg (by omega), if_neg (by omega)]; exact sLt_ir a
theorem zfi {x y : PV × PV} : ∀ l, y ∈ insK x l ↔ y = x ∨ y ∈ l
 | [] => by simp [insK]
 | z :: l => by
   simp only [insK]
   split
   · simp
   · rw [List.mem_cons, zfi l, List.mem_cons]
     constructor
     · rintro (h | h | h)
       · exact .inr (.inl h)
       · exact .inl h
       · exact .inr (.inr h)
     · rintro (h | h | h)
       · exact .inr (.inl h)
       · exact .inl h
       · exact .inr (.inr h)
theorem insK_perm (x : PV × PV) : ∀ l, (insK x l).Perm (x :: l)
 | [] => List.Perm.refl _
 | y :: l => by
   simp only [insK]
   split
   · exact List.Perm.refl _
   · exact ((insK_perm x l).cons y).trans (List.Perm.swap x y l)
theorem insK_asc {x : PV × PV} : ∀ l, ascP l → hasK x.1.s l = false → ascP (insK x l)
 | [], _, _ => ⟨fun y hy => (by cases hy), trivial⟩
 | y :: l, h, hh => by
   simp only [hasK, List.any_cons, Bool.or_eq_false_iff, beq_eq_false_iff_ne] at hh
   simp only [insK]
   split
   · rename_i hlt
     refine ⟨fun z hz => ?_, h⟩
     rcases List.mem_cons.1 hz with rfl | hz
     · exact hlt
     · exact sLt_tr _ _ _ hlt (h.1 z hz)
   · rename_i hlt
     have hyx : sLt y.1.s x.1.s = true := zch _ _ (by simpa using hlt) (fun e => hh.1 e.symm)
     refine ⟨fun z hz => ?_, insK_asc l h.2 hh.2⟩
     rcases (zfi l).1 hz with rfl | hz
     · exact hyx
     · exact h.1 z hz
theorem zeY : ∀ l m : List (PV × PV), ascP l → ascP m → l.Perm m → l = m
 | [], m, _, _, h => (List.Perm.nil_eq h).symm ▸ rfl
 | x :: l, [], _, _, h => absurd h.length_eq (by simp)
 | x :: l, y :: m, hl, hm, h => by
   have hxy : x = y := by
     have h1 : x ∈ y :: m := h.mem_iff.1 (List.mem_cons_self)
     have h2 : y ∈ x :: l := h.mem_iff.2 (List.mem_cons_self)
     rcases List.mem_cons.1 h1 with h1 | h1
     · exact h1
     · rcases List.mem_cons.1 h2 with h2 | h2
       · exact h2.symm
       · have a1 := hm.1 x h1
         have a2 := hl.1 y h2
         rw [sLt_as _ _ a1] at a2
         cases a2
   subst hxy
   rw [zeY l m hl.2 hm.2 ((List.perm_cons x).1 h)]
theorem zdb : ∀ l : List (PV × PV), zev l → zbq l = false → ascP l
 | [], _, _ => trivial
 | [x], _, _ => ⟨fun y hy => (by cases hy), trivial⟩
 | x :: y :: l, h, ht => by
   simp only [zbq, Bool.or_eq_false_iff, beq_eq_false_iff_ne] at ht
   have hr := zdb (y :: l) h.2 ht.2
   have hxy : sLt x.1.s y.1.s = true := zch _ _ h.1 (fun e => ht.1 e.symm)
   refine ⟨fun z hz => ?_, hr⟩
   rcases List.mem_cons.1 hz with rfl | hz
   · exact hxy
   · exact sLt_tr _ _ _ hxy (hr.1 z hz)
def zeq : List (PV × PV) → Prop
 | [] => True
 | x :: l => (∀ y ∈ l, y.1.s ≠ x.1.s) ∧ zeq l
theorem zbw {l m : List (PV × PV)} (h : l.Perm m) : zeq l → zeq m := by
 induction h with
 | nil => exact id
 | cons x h ih => exact fun ⟨h1, h2⟩ => ⟨fun y hy => h1 y (h.mem_iff.2 hy), ih h2⟩
 | swap x y l =>
   rintro ⟨h1, h2, h3⟩
   refine ⟨fun z hz => ?_, fun z hz => h1 z (List.mem_cons_of_mem _ hz), h3⟩
   rcases List.mem_cons.1 hz with rfl | hz
   · exact fun e => h1 x (List.mem_cons_self) e.symm
   · exact h2 z hz
 | trans _ _ ih1 ih2 => exact fun h => ih2 (ih1 h)
theorem zd5 : ∀ l : List (PV × PV), zbq l = true → ¬ zeq l
 | [], h, _ => by cases h
 | [_], h, _ => by cases h
 | x :: y :: l, h, hn => by
   simp only [zbq, Bool.or_eq_true, beq_iff_eq] at h
   rcases h with h | h
   · exact hn.1 y (List.mem_cons_self) h.symm
   · exact zd5 (y :: l) h hn.2
theorem zd2 : ∀ l : List (PV × PV), ascP l → zeq l
 | [], _ => trivial
 | x :: l, h => ⟨fun y hy e => (by have := h.1 y hy; rw [e, sLt_ir] at this; cases this), zd2 l h.2⟩
theorem hasK_no {s : List UInt8} {l : List (PV × PV)} : hasK s l = false ↔ ∀ y ∈ l, y.1.s ≠ s := by
 unfold hasK
 rw [List.any_eq_false]
 simp
theorem docS_tw : ∀ p l, (docS p l true).2 = true
 | [], _ => rfl
 | x :: p, l => by simp only [docS, Bool.true_or]; exact docS_tw p _
theorem docS_is : ∀ (p l : List (PV × PV)), ascP l → ((docS p l false).2 = false → ascP (docS p l false).1 ∧ (docS p l false).1.Perm (l ++ p)) ∧ ((docS p l false).2 = true → ¬ zeq (l ++ p))
 | [], l, h => ⟨fun _ => ⟨h, by simp [docS]⟩, fun e => by cases e⟩
 | x :: p, l, h => by
   simp only [docS, Bool.false_or]
   cases hk : hasK x.1.s l with
   | true =>
     refine ⟨fun e => ?_, fun _ hn => ?_⟩
     · rw [docS_tw] at e; cases e
     · have h1 := zbw (List.perm_middle) hn
       have h2 : hasK x.1.s l = false := hasK_no.2 fun y hy => h1.1 y (List.mem_append_left _ hy)
       rw [hk] at h2; cases h2
   | false =>
     have e1 : putK x l = insK x l := by unfold putK; rw [hk]; rfl
     rw [e1]
     obtain ⟨r1, r2⟩ := docS_is p (insK x l) (insK_asc l h hk)
     have hp : (insK x l ++ p).Perm (l ++ x :: p) := ((insK_perm x l).append_right p).trans (List.perm_middle.symm)
     exact ⟨fun e => ⟨(r1 e).1, (r1 e).2.trans hp⟩, fun e hn => r2 e (zbw hp.symm hn)⟩
theorem pairs_doc (l : List PV) : zb7 l = if (docS (twoV l) [] false).2 = true then none else some (zbM (docS (twoV l) [] false).1) := by
 obtain ⟨r1, r2⟩ := docS_is (twoV l) [] trivial
 have hp := zeg (twoV l)
 unfold zb7
 cases hd : (docS (twoV l) [] false).2 with
 | true =>
   have hn := r2 hd
   have ht : zbq (zc5 (twoV l)) = true := by
     cases h : zbq (zc5 (twoV l)) with
     | true => rfl
     | false => exact absurd (zbw hp (zd2 _ (zdb _ (zcs _) h))) hn
   rw [if_pos ht, if_pos rfl]
 | false =>
   obtain ⟨q1, q2⟩ := r1 hd
   have hn : zeq (twoV l) := zbw q2 (zd2 _ q1)
   have ht : zbq (zc5 (twoV l)) = false := by
     cases h : zbq (zc5 (twoV l)) with
     | false => rfl
     | true => exact absurd (zbw hp.symm hn) (zd5 _ h)
   rw [if_neg (by simp [ht]), if_neg (by simp)]
   rw [zeY _ _ (zdb _ (zcs _) ht) q1 (hp.trans q2.symm)]
theorem docS_snoc : ∀ (p : List (PV × PV)) (x : PV × PV) (l : List (PV × PV)) (tw : Bool), docS (p ++ [x]) l tw = (putK x (docS p l tw).1, (docS p l tw).2 || hasK x.1.s (docS p l tw).1)
 | [], _, _, _ => rfl
 | y :: p, x, l, tw => by simp only [List.cons_append, docS]; exact docS_snoc p x _ _
theorem two_snoc : ∀ (l : List PV) (a b : PV), l.length % 2 = 0 → twoV (l ++ [a, b]) = twoV l ++ [(a, b)]
 | [], _, _, _ => rfl
 | [_], _, _, h => by simp at h
 | x :: y :: l, a, b, h => by simp only [List.cons_append, twoV]; rw [two_snoc l a b (by simp at h; omega)]
end Go.Proofs.YtfafdeemfeaedaaGreat
