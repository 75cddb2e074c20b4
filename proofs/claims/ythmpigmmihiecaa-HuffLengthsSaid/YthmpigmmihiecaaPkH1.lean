/-
  Our texts HLenP to SymQ, in one.
-/
import Derived.Lib.Hide
import Derived.WalkKit
import Derived.WalkSpells
import Derived.WalkLawsBesides
import Derived.Sort.LotA
import Derived.Sort.Lot0
import Derived.Deep.Draws
import Derived.Test.YthmpigmmihiecaaProg
import Derived.Deep.AppendLies
import Derived.BigQuiet
import Derived.Deep.QuietTactic
set_option maxRecDepth 8000
set_option maxHeartbeats 8000000
namespace Go.Proofs.Ythmpigmmihiecaa
def roomW (x : Nat) : Nat := 32768 / 2 ^ x
def sumW : List Nat → Nat
 | [] => 0
 | x :: l => roomW x + sumW l
def inc1 (n : Nat) : List Nat → Option (List Nat)
 | [] => none
 | x :: l => if x = n then some ((n + 1) :: l) else (inc1 n l).map (x :: ·)
def incTop (L : List Nat) : Nat → Option (Nat × List Nat)
 | 0 => none
 | n + 1 => match inc1 (n + 1) L with
   | some M => some (n + 1, M)
   | none => incTop L n
def cutLoop (limit : Nat) : Nat → List Nat → Option (List Nat)
 | 0, _ => none
 | g + 1, L => if sumW L ≤ 32768 then some L else match incTop L (limit - 1) with
   | none => none
   | some x => cutLoop limit g x.2
def shrink : Nat → Nat → Nat × Nat
 | 0, room => (0, room)
 | 1, room => (1, room)
 | x + 2, room => if roomW (x + 2) ≤ room then shrink (x + 1) (room - roomW (x + 2)) else (x + 2, room)
def shrinkAll : List Nat → Nat → List Nat × Nat
 | [], room => ([], room)
 | x :: l, room => ((shrink x room).1 :: (shrinkAll l (shrink x room).2).1, (shrinkAll l (shrink x room).2).2)
def InL (limit : Nat) (L : List Nat) : Prop := ∀ x ∈ L, 1 ≤ x ∧ x ≤ limit
def slack (limit : Nat) : List Nat → Nat
 | [] => 0
 | x :: l => (limit - x) + slack limit l
theorem inc1_some {n limit : Nat} (hn : n < limit) (h1 : 1 ≤ n) : ∀ {L M : List Nat}, inc1 n L = some M → InL limit L → InL limit M ∧ M.length = L.length ∧ slack limit M < slack limit L
 | [], _, h, _ => by cases h
 | x :: l, M, h, hL => by
   simp only [inc1] at h
   split at h
   · rename_i e
     cases h
     subst e
     refine ⟨fun y hy => ?_, rfl, by simp only [slack]; omega⟩
     rcases List.mem_cons.1 hy with rfl | hy
     · omega
     · exact hL y (List.mem_cons_of_mem _ hy)
   · obtain ⟨M2, h2, rfl⟩ := Option.map_eq_some_iff.1 h
     obtain ⟨p1, p2, p3⟩ := inc1_some hn h1 h2 fun y hy => hL y (List.mem_cons_of_mem _ hy)
     refine ⟨fun y hy => ?_, by simp [p2], by simp only [slack]; omega⟩
     rcases List.mem_cons.1 hy with rfl | hy
     · exact hL y (List.mem_cons_self)
     · exact p1 y hy
theorem inc1_none {n : Nat} : ∀ {L : List Nat}, inc1 n L = none → ∀ x ∈ L, x ≠ n
 | [], _, x, hx => by cases hx
 | y :: l, h, x, hx => by
   simp only [inc1] at h
   split at h
   · cases h
   · rename_i e
     rcases List.mem_cons.1 hx with rfl | hx
     · exact e
     · exact inc1_none (Option.map_eq_none_iff.1 h) x hx
theorem incTop_some {limit : Nat} {L : List Nat} (hL : InL limit L) : ∀ {n : Nat} {x : Nat × List Nat}, n < limit → incTop L n = some x → InL limit x.2 ∧ x.2.length = L.length ∧ slack limit x.2 < slack limit L
 | 0, _, _, h => by cases h
 | n + 1, x, hn, h => by
   simp only [incTop] at h
   cases hq : inc1 (n + 1) L with
   | some M => rw [hq] at h; cases h; exact inc1_some hn (by omega) hq hL
   | none => rw [hq] at h; exact incTop_some hL (by omega) h
theorem incTop_none {L : List Nat} : ∀ {n : Nat}, incTop L n = none → ∀ x ∈ L, ¬ (1 ≤ x ∧ x ≤ n)
 | 0, _, x, _ => by omega
 | n + 1, h, x, hx => by
   simp only [incTop] at h
   cases hq : inc1 (n + 1) L with
   | some M => rw [hq] at h; cases h
   | none =>
     rw [hq] at h
     have h1 := inc1_none hq x hx
     have h2 := incTop_none h x hx
     omega
theorem sum_const {c : Nat} : ∀ {L : List Nat}, (∀ x ∈ L, x = c) → sumW L = L.length * roomW c
 | [], _ => by simp [sumW]
 | x :: l, h => by
   simp only [sumW, List.length_cons]
   rw [h x (List.mem_cons_self), sum_const fun y hy => h y (List.mem_cons_of_mem _ hy), Nat.add_mul]
   omega
theorem cutLoop_some {limit : Nat} (h1 : 1 ≤ limit) (h15 : limit ≤ 15) : ∀ (g : Nat) (L : List Nat), InL limit L → L.length ≤ 2 ^ limit → slack limit L < g → ∃ M, cutLoop limit g L = some M ∧ InL limit M ∧ M.length = L.length ∧ sumW M ≤ 32768
 | 0, _, _, _, h => by omega
 | g + 1, L, hL, hn, hg => by
   unfold cutLoop
   by_cases hs : sumW L ≤ 32768
   · rw [if_pos hs]; exact ⟨L, rfl, hL, rfl, hs⟩
   · rw [if_neg hs]
     cases hq : incTop L (limit - 1) with
     | none =>
       exfalso
       have hc : ∀ x ∈ L, x = limit := fun x hx => by
         have := incTop_none hq x hx
         have := hL x hx
         omega
       have h2 : 2 ^ limit * roomW limit = 32768 := by
         have : ∀ k : Fin 16, 2 ^ k.1 * roomW k.1 = 32768 := by decide
         exact this ⟨limit, by omega⟩
       rw [sum_const hc] at hs
       have h3 := Nat.mul_le_mul_right (roomW limit) hn
       omega
     | some x =>
       obtain ⟨p1, p2, p3⟩ := incTop_some hL (by omega) hq
       obtain ⟨M, q1, q2, q3, q4⟩ := cutLoop_some h1 h15 g x.2 p1 (by omega) (by omega)
       exact ⟨M, q1, q2, by omega, q4⟩
theorem roomW_half {x : Nat} (h : x + 2 ≤ 15) : roomW (x + 1) = 2 * roomW (x + 2) := by
 have : ∀ k : Fin 14, roomW (k.1 + 1) = 2 * roomW (k.1 + 2) := by decide
 exact this ⟨x, by omega⟩
theorem shrink_is : ∀ (x room : Nat), x ≤ 15 → roomW (shrink x room).1 + (shrink x room).2 = roomW x + room ∧ (1 ≤ x → 1 ≤ (shrink x room).1) ∧ (shrink x room).1 ≤ x ∧ (1 ≤ x → (shrink x room).1 = 1 ∨ (shrink x room).2 < roomW (shrink x room).1) ∧ (shrink x room).2 ≤ room
 | 0, room, _ => ⟨rfl, fun h => by omega, Nat.le_refl _, fun h => by omega, Nat.le_refl _⟩
 | 1, room, _ => ⟨rfl, fun _ => Nat.le_refl _, Nat.le_refl _, fun _ => .inl rfl, Nat.le_refl _⟩
 | x + 2, room, h => by
   simp only [shrink]
   split
   · rename_i hr
     obtain ⟨p1, p2, p3, p4, p5⟩ := shrink_is (x + 1) (room - roomW (x + 2)) (by omega)
     have hh := roomW_half h
     exact ⟨by omega, fun _ => p2 (by omega), by omega, fun _ => p4 (by omega), by omega⟩
   · rename_i hr
     exact ⟨rfl, fun _ => by omega, Nat.le_refl _, fun _ => .inr (by simp only; omega), Nat.le_refl _⟩
theorem all_is {limit : Nat} (h15 : limit ≤ 15) : ∀ (L : List Nat) (room : Nat), InL limit L → sumW (shrinkAll L room).1 + (shrinkAll L room).2 = sumW L + room ∧ InL limit (shrinkAll L room).1 ∧ (shrinkAll L room).1.length = L.length ∧ (shrinkAll L room).2 ≤ room ∧ ∀ x ∈ (shrinkAll L room).1, x = 1 ∨ (shrinkAll L room).2 < roomW x
 | [], room, _ => ⟨rfl, fun x hx => (by cases hx), rfl, Nat.le_refl _, fun x hx => (by cases hx)⟩
 | x :: l, room, h => by
   have hx := h x (List.mem_cons_self)
   obtain ⟨p1, p2, p3, p4, p5⟩ := shrink_is x room (by omega)
   obtain ⟨q1, q2, q3, q4, q5⟩ := all_is h15 l (shrink x room).2 fun y hy => h y (List.mem_cons_of_mem _ hy)
   simp only [shrinkAll, sumW]
   refine ⟨by omega, fun y hy => ?_, by simp [q3], by omega, fun y hy => ?_⟩
   · rcases List.mem_cons.1 hy with rfl | hy
     · exact ⟨p2 hx.1, by omega⟩
     · exact q2 y hy
   · rcases List.mem_cons.1 hy with rfl | hy
     · rcases p4 hx.1 with e | e
       · exact .inl e
       · exact .inr (by omega)
     · exact q5 y hy
theorem dvd_sum {m : Nat} : ∀ (L : List Nat), (∀ x ∈ L, x ≤ m) → m ≤ 15 → roomW m ∣ sumW L
 | [], _, _ => ⟨0, rfl⟩
 | x :: l, h, hm => by
   have h1 : roomW m ∣ roomW x := by
     have : ∀ (a b : Fin 16), b.1 ≤ a.1 → roomW a.1 ∣ roomW b.1 := by decide
     exact this ⟨m, by omega⟩ ⟨x, by have := h x (List.mem_cons_self); omega⟩ (h x (List.mem_cons_self))
   simp only [sumW]
   exact Nat.dvd_add h1 (dvd_sum l (fun y hy => h y (List.mem_cons_of_mem _ hy)) hm)
theorem max_in : ∀ (L : List Nat), L ≠ [] → ∃ m ∈ L, ∀ x ∈ L, x ≤ m
 | [], h => absurd rfl h
 | [x], _ => ⟨x, List.mem_cons_self, fun y hy => by rw [List.mem_singleton.1 hy]; exact Nat.le_refl _⟩
 | x :: y :: l, _ => by
   obtain ⟨m, h1, h2⟩ := max_in (y :: l) (by simp)
   by_cases hx : x ≤ m
   · exact ⟨m, List.mem_cons_of_mem _ h1, fun z hz => by
       rcases List.mem_cons.1 hz with rfl | hz
       · exact hx
       · exact h2 z hz⟩
   · exact ⟨x, List.mem_cons_self, fun z hz => by
       rcases List.mem_cons.1 hz with rfl | hz
       · exact Nat.le_refl _
       · have := h2 z hz; omega⟩
theorem complete_all {limit : Nat} (h15 : limit ≤ 15) {L : List Nat} (hL : InL limit L) (h2 : 2 ≤ L.length) (hs : sumW L ≤ 32768) : sumW (shrinkAll L (32768 - sumW L)).1 = 32768 := by
 obtain ⟨q1, q2, q3, -, q5⟩ := all_is h15 L (32768 - sumW L) hL
 generalize shrinkAll L (32768 - sumW L) = Z at *
 obtain ⟨M, room⟩ := Z
 simp only at q1 q2 q3 q5 ⊢
 have hne : M ≠ [] := fun e => by rw [e] at q3; simp at q3; omega
 obtain ⟨m, m1, m2⟩ := max_in M hne
 have hm := q2 m m1
 have hr : room = 0 := by
   rcases q5 m m1 with e | e
   · have hc : ∀ x ∈ M, x = 1 := fun x hx => by have := m2 x hx; have := q2 x hx; omega
     have hw := sum_const hc
     have h1 : roomW 1 = 16384 := by decide
     rw [h1] at hw
     have : 2 ≤ M.length := by omega
     omega
   · have d1 := dvd_sum M m2 (by omega)
     have d2 : roomW m ∣ 32768 := by
       have : ∀ a : Fin 16, roomW a.1 ∣ 32768 := by decide
       exact this ⟨m, by omega⟩
     have d3 : roomW m ∣ room := by
       have : room = 32768 - sumW M := by omega
       rw [this]
       exact Nat.dvd_sub d2 d1
     exact Nat.eq_zero_of_dvd_of_lt d3 e
 omega
def giveR : List Nat → List Nat → List Nat → List Nat
 | r :: R, d :: D, l => giveR R D (l.set r d)
 | _, _, l => l
theorem giveR_len : ∀ (R D l : List Nat), (giveR R D l).length = l.length
 | [], _, l => by cases ‹List Nat› <;> rfl
 | _ :: _, [], _ => rfl
 | r :: R, d :: D, l => by rw [giveR, giveR_len R D]; simp
theorem giveR_out : ∀ (R D l : List Nat) (k : Nat), k ∉ R → (giveR R D l).getD k 0 = l.getD k 0
 | [], D, l, k, _ => by cases D <;> rfl
 | r :: R, [], l, k, _ => rfl
 | r :: R, d :: D, l, k, h => by
   rw [List.mem_cons, not_or] at h
   rw [giveR, giveR_out R D _ k h.2]
   simp only [List.getD_eq_getElem?_getD]
   rw [List.getElem?_set_ne (fun e => h.1 e.symm)]
theorem giveR_in : ∀ (R D l : List Nat) (i : Nat), R.Nodup → D.length = R.length → (∀ r ∈ R, r < l.length) → (hi : i < R.length) → (giveR R D l).getD R[i] 0 = D.getD i 0
 | [], D, l, i, _, _, _, hi => absurd hi (Nat.not_lt_zero _)
 | r :: R, [], l, i, _, hD, _, _ => by simp at hD
 | r :: R, d :: D, l, 0, hn, hD, hl, hi => by
   rw [List.nodup_cons] at hn
   simp only [List.getElem_cons_zero]
   rw [giveR, giveR_out R D _ r hn.1]
   simp only [List.getD_eq_getElem?_getD]
   rw [List.getElem?_set_self (hl r (List.mem_cons_self ..))]
   rfl
 | r :: R, d :: D, l, i + 1, hn, hD, hl, hi => by
   rw [List.nodup_cons] at hn
   simp only [List.getElem_cons_succ]
   rw [giveR, giveR_in R D _ i hn.2 (by simpa using hD) (fun r hr => by rw [List.length_set]; exact hl r (List.mem_cons_of_mem _ hr)) (by simpa using hi)]
   simp
def takeW : List Nat → Nat
 | [] => 0
 | x :: l => (if x = 0 then 0 else roomW x) + takeW l
theorem takeW_set : ∀ (l : List Nat) (r d : Nat), r < l.length → l.getD r 0 = 0 → 0 < d → takeW (l.set r d) = takeW l + roomW d
 | [], _, _, h, _, _ => absurd h (Nat.not_lt_zero _)
 | x :: l, 0, d, _, h0, hd => by
   have : x = 0 := by simpa using h0
   subst this
   show (if d = 0 then 0 else roomW d) + takeW l = (if (0 : Nat) = 0 then 0 else roomW 0) + takeW l + roomW d
   rw [if_neg (by omega), if_pos rfl]; omega
 | x :: l, r + 1, d, h, h0, hd => by
   simp only [List.set_cons_succ, takeW]
   rw [takeW_set l r d (by simpa using h) (by simpa using h0) hd]; omega
theorem takeW_give : ∀ (R D l : List Nat), R.Nodup → D.length = R.length → (∀ r ∈ R, r < l.length) → (∀ r ∈ R, l.getD r 0 = 0) → (∀ d ∈ D, 0 < d) → takeW (giveR R D l) = takeW l + sumW D
 | [], D, l, _, hD, _, _, _ => by
   have : D = [] := List.eq_nil_of_length_eq_zero (by simpa using hD)
   subst this; rfl
 | r :: R, [], l, _, hD, _, _, _ => by simp at hD
 | r :: R, d :: D, l, hn, hD, hl, h0, hd => by
   rw [List.nodup_cons] at hn
   rw [giveR, takeW_give R D _ hn.2 (by simpa using hD) (fun q hq => by rw [List.length_set]; exact hl q (List.mem_cons_of_mem _ hq)) (fun q hq => by
     have hne : r ≠ q := fun e => hn.1 (e ▸ hq)
     simp only [List.getD_eq_getElem?_getD]
     rw [List.getElem?_set_ne hne, ← List.getD_eq_getElem?_getD]
     exact h0 q (List.mem_cons_of_mem _ hq)) (fun q hq => hd q (List.mem_cons_of_mem _ hq)),
     takeW_set l r d (hl r (List.mem_cons_self ..)) (h0 r (List.mem_cons_self ..)) (hd d (List.mem_cons_self ..))]
   simp only [sumW]; omega
theorem takeW_zero : ∀ n : Nat, takeW (List.replicate n 0) = 0
 | 0 => rfl
 | n + 1 => by rw [List.replicate_succ, takeW, takeW_zero n]; rfl
theorem give_ext {n : Nat} {R D L : List Nat} (hn : R.Nodup) (hr : ∀ r ∈ R, r < n) (hD : D.length = R.length) (hl : L.length = n)
   (h1 : ∀ i, (hi : i < R.length) → L.getD R[i] 0 = D.getD i 0) (h2 : ∀ k, k ∉ R → L.getD k 0 = 0) : L = giveR R D (List.replicate n 0) := by
 have hz : ∀ k, (List.replicate n 0).getD k 0 = 0 := fun k => by
   simp only [List.getD_eq_getElem?_getD]
   by_cases h : k < n
   · rw [List.getElem?_replicate, if_pos h]; rfl
   · rw [List.getElem?_replicate, if_neg h]; rfl
 have hll : (giveR R D (List.replicate n 0)).length = n := by rw [giveR_len]; simp
 have hp : ∀ k, L.getD k 0 = (giveR R D (List.replicate n 0)).getD k 0 := fun k => by
   by_cases hk : k ∈ R
   · obtain ⟨i, hi, rfl⟩ := List.mem_iff_getElem.1 hk
     rw [h1 i hi, giveR_in R D _ i hn hD (fun r hr' => by simpa using hr r hr') hi]
   · rw [h2 k hk, giveR_out R D _ k hk, hz]
 apply List.ext_getElem (by rw [hl, hll])
 intro k g1 g2
 have := hp k
 simp only [List.getD_eq_getElem?_getD, List.getElem?_eq_getElem g1, List.getElem?_eq_getElem g2, Option.getD_some] at this
 exact this
structure GoodL (counts : List Int) (most some : Nat) (L : List Nat) : Prop where
 len : L.length = counts.length
 pos : ∀ k, k < counts.length → (0 < L.getD k 0 ↔ 0 < counts.getD k 0)
 le : ∀ k, L.getD k 0 ≤ most
 one : some = 1 → ∀ k, L.getD k 0 ≤ 1
 mono : ∀ j k, j < counts.length → k < counts.length → 0 < counts.getD k 0 → counts.getD k 0 < counts.getD j 0 → L.getD j 0 ≤ L.getD k 0
 sum : takeW L ≤ 32768
 full : 2 ≤ some → takeW L = 32768
theorem good_give {counts : List Int} {most : Nat} {R D L : List Nat} (hn : R.Nodup) (hR : ∀ k, k ∈ R ↔ k < counts.length ∧ 0 < counts.getD k 0)
   (hS : ∀ i j, (hi : i < R.length) → (hj : j < R.length) → i < j → counts.getD R[i] 0 ≤ counts.getD R[j] 0)
   (hD : D.length = R.length) (hP : ∀ d ∈ D, 1 ≤ d ∧ d ≤ most) (hT : ∀ i j, i ≤ j → j < D.length → D.getD j 0 ≤ D.getD i 0)
   (hl : L.length = counts.length) (h1 : ∀ i, (hi : i < R.length) → L.getD R[i] 0 = D.getD i 0) (h2 : ∀ k, k ∉ R → L.getD k 0 = 0)
   (hs : sumW D ≤ 32768) (hf : 2 ≤ R.length → sumW D = 32768) (ho : R.length = 1 → ∀ d ∈ D, d ≤ 1) : GoodL counts most R.length L := by
 have hr : ∀ r ∈ R, r < counts.length := fun r h => ((hR r).1 h).1
 have hDi : ∀ i, (hi : i < R.length) → 1 ≤ D.getD i 0 ∧ D.getD i 0 ≤ most ∧ D.getD i 0 ∈ D := fun i hi => by
   have hg : D.getD i 0 = D[i]'(by omega) := by simp [List.getD_eq_getElem?_getD, List.getElem?_eq_getElem (show i < D.length by omega)]
   rw [hg]
   have hm := List.getElem_mem (l := D) (n := i) (by omega)
   exact ⟨(hP _ hm).1, (hP _ hm).2, hm⟩
 have htw : takeW L = sumW D := by
   rw [give_ext hn hr hD hl h1 h2, takeW_give R D _ hn hD (fun r h => by simpa using hr r h) (fun r _ => by
     simp only [List.getD_eq_getElem?_getD, List.getElem?_replicate]; split <;> rfl) (fun d h => (hP d h).1), takeW_zero]
   omega
 refine ⟨hl, fun k hk => ?_, fun k => ?_, fun h k => ?_, fun j k hj hk hk0 hjk => ?_, by rw [htw]; exact hs, fun h => by rw [htw]; exact hf h⟩
 · by_cases hm : k ∈ R
   · obtain ⟨i, hi, rfl⟩ := List.mem_iff_getElem.1 hm
     rw [h1 i hi]
     have := (hDi i hi).1
     have := ((hR _).1 hm).2
     omega
   · rw [h2 k hm]
     have : ¬ 0 < counts.getD k 0 := fun h => hm ((hR k).2 ⟨hk, h⟩)
     omega
 · by_cases hm : k ∈ R
   · obtain ⟨i, hi, rfl⟩ := List.mem_iff_getElem.1 hm
     rw [h1 i hi]
     exact (hDi i hi).2.1
   · rw [h2 k hm]; omega
 · by_cases hm : k ∈ R
   · obtain ⟨i, hi, rfl⟩ := List.mem_iff_getElem.1 hm
     rw [h1 i hi]
     exact ho h _ (hDi i hi).2.2
   · rw [h2 k hm]; omega
 · have mj : j ∈ R := (hR j).2 ⟨hj, by omega⟩
   have mk : k ∈ R := (hR k).2 ⟨hk, hk0⟩
   obtain ⟨a, ha, rfl⟩ := List.mem_iff_getElem.1 mj
   obtain ⟨b, hb, rfl⟩ := List.mem_iff_getElem.1 mk
   rw [h1 a ha, h1 b hb]
   refine hT b a ?_ (by omega)
   rcases Nat.lt_or_ge a b with h | h
   · have := hS a b ha hb h
     omega
   · exact h
theorem take_snoc {α : Type} (d : α) (l : List α) (k : Nat) (h : k < l.length) : l.take (k + 1) = l.take k ++ [l.getD k d] := by
 rw [List.take_succ_eq_append_getElem h]; simp [List.getD, h]
def hby (n : Int) : Int := 32768 / 2 ^ n.toNat
def hadd (s n : Int) : Int := if 0 < n then s + hby n else s
def hsum (l : List Int) : Int := l.foldl hadd 0
def hok (l : List Int) : Bool := l.all fun n => decide (0 ≤ n) && decide (n ≤ 15)
def roomV (l : List Int) : Int := if l.length = 0 ∨ 320 < l.length ∨ hok l = false then -1 else if 32768 < hsum l then -1 else hsum l
theorem hby_bd (n : Int) : 0 ≤ hby n ∧ hby n ≤ 32768 := by
 unfold hby
 have h : (0 : Int) < 2 ^ n.toNat := Int.pow_pos (by omega)
 exact ⟨Int.ediv_nonneg (by omega) (by omega), Int.ediv_le_self _ (by omega)⟩
theorem hsum_snoc (l : List Int) (x : Int) : hsum (l ++ [x]) = hadd (hsum l) x := by simp [hsum]
theorem hadd_bd (s n : Int) : s ≤ hadd s n ∧ hadd s n ≤ s + 32768 := by
 have := hby_bd n
 unfold hadd; split <;> omega
theorem foldl_hadd_bd (l : List Int) : ∀ s : Int, s ≤ l.foldl hadd s ∧ l.foldl hadd s ≤ s + 32768 * l.length := by
 induction l with
 | nil => intro s; simp
 | cons x l ih =>
   intro s
   have h1 := hadd_bd s x
   have h2 := ih (hadd s x)
   simp only [List.foldl_cons, List.length_cons]
   omega
theorem hsum_bd (l : List Int) : 0 ≤ hsum l ∧ hsum l ≤ 32768 * l.length := by
 have := foldl_hadd_bd l 0; unfold hsum; omega
theorem hok_snoc (l : List Int) (x : Int) : hok (l ++ [x]) = (hok l && (decide (0 ≤ x) && decide (x ≤ 15))) := by simp [hok]
theorem hok_not {l : List Int} {k : Nat} (hk : k < l.length) (h : l.getD k 0 < 0 ∨ 15 < l.getD k 0) : hok l = false := by
 simp only [hok, List.all_eq_false]
 refine ⟨l[k], List.getElem_mem _, ?_⟩
 simp [List.getD, hk] at h
 simp
 omega
theorem hok_mem {l : List Int} (h : hok l = true) : ∀ x ∈ l, 0 ≤ x ∧ x ≤ 15 := by
 simpa [hok] using h
theorem roomV_ok {l : List Int} (h : 0 ≤ roomV l) : l.length ≠ 0 ∧ l.length ≤ 320 ∧ hok l = true ∧ hsum l ≤ 32768 := by
 unfold roomV at h
 split at h
 · omega
 · rename_i h1
   split at h
   · omega
   · simp only [not_or] at h1
     exact ⟨h1.1, by omega, by simpa using h1.2.2, by omega⟩
theorem halve (j : Nat) : (32768 : Int) / 2 ^ (j + 1) = (32768 / 2 ^ j) / 2 := by
 rw [Int.pow_succ, Int.ediv_ediv_of_nonneg (Int.pow_nonneg (by omega))]
def cn (l : List Int) (m : Nat) : Int := if m = 0 then 0 else ((l.filter fun x => x == (m : Int)).length : Nat)
theorem cn_snoc (l : List Int) (x : Int) (m : Nat) (hx : 0 ≤ x) : cn (l ++ [x]) m = cn l m + if 0 < x ∧ m = x.toNat then 1 else 0 := by
 unfold cn
 by_cases hm : m = 0
 · subst hm; simp; omega
 · rw [if_neg hm, if_neg hm, List.filter_append]
   by_cases h : x = (m : Int)
   · subst h
     simp
     omega
   · have h2 : ¬ (0 < x ∧ m = x.toNat) := by omega
     simp [h, h2]
theorem cn_bd (l : List Int) (m : Nat) : 0 ≤ cn l m ∧ cn l m ≤ l.length := by
 unfold cn
 have := List.length_filter_le (fun x => x == (m : Int)) l
 split <;> omega
theorem cn_take_le (l : List Int) (k m : Nat) : cn (l.take k) m ≤ cn l m := by
 unfold cn
 split
 · omega
 · have := ((List.take_sublist k l).filter (fun x => x == (m : Int))).length_le
   omega
theorem cn_lt {l : List Int} {k m : Nat} (hk : k < l.length) (hm : 0 < m) (h : l.getD k 0 = (m : Int)) : cn (l.take k) m + 1 ≤ cn l m := by
 have h1 := cn_take_le l (k + 1) m
 rw [take_snoc 0 l k hk, cn_snoc _ _ _ (by omega), if_pos (by omega)] at h1
 exact h1
def fcode (c : Nat → Int) : Nat → Int
 | 0 => 0
 | n + 1 => (fcode c n + c n) * 2
theorem fcode_nonneg (c : Nat → Int) (h : ∀ m, 0 ≤ c m) : ∀ n, 0 ≤ fcode c n
 | 0 => by simp [fcode]
 | n + 1 => by have := fcode_nonneg c h n; have := h n; simp only [fcode]; omega
def weigh (c : Nat → Int) : Int := 16384 * c 1 + 8192 * c 2 + 4096 * c 3 + 2048 * c 4 + 1024 * c 5 + 512 * c 6 + 256 * c 7 + 128 * c 8 + 64 * c 9 + 32 * c 10 + 16 * c 11 + 8 * c 12 + 4 * c 13 + 2 * c 14 + c 15
theorem case15 {x : Int} (h0 : 0 < x) (h : x ≤ 15) : x = 1 ∨ x = 2 ∨ x = 3 ∨ x = 4 ∨ x = 5 ∨ x = 6 ∨ x = 7 ∨ x = 8 ∨ x = 9 ∨ x = 10 ∨ x = 11 ∨ x = 12 ∨ x = 13 ∨ x = 14 ∨ x = 15 := by omega
theorem weigh_snoc (l : List Int) (x : Int) (h0 : 0 ≤ x) (h : x ≤ 15) : weigh (cn (l ++ [x])) = weigh (cn l) + (if 0 < x then hby x else 0) := by
 unfold weigh
 simp only [cn_snoc l x _ h0]
 by_cases hp : 0 < x
 · rcases case15 hp h with rfl | rfl | rfl | rfl | rfl | rfl | rfl | rfl | rfl | rfl | rfl | rfl | rfl | rfl | rfl <;> simp [hby] <;> omega
 · simp [hp]
theorem hsum_weigh (l : List Int) (h : hok l = true) : hsum l = weigh (cn l) := by
 have key : ∀ k, k ≤ l.length → hsum (l.take k) = weigh (cn (l.take k)) := by
   intro k
   induction k with
   | zero => intro _; simp [hsum, weigh, cn]
   | succ k ih =>
     intro hk
     have hx := hok_mem h (l.getD k 0) (by simp [List.getD, show k < l.length by omega])
     rw [take_snoc 0 l k (by omega), hsum_snoc, weigh_snoc _ _ hx.1 hx.2, ih (by omega)]
     unfold hadd; split <;> omega
 have := key l.length (Nat.le_refl _)
 simpa using this
theorem fcode_weigh (c : Nat → Int) (h0 : c 0 = 0) (hc : ∀ m, 0 ≤ c m) (hw : weigh c ≤ 32768) (n : Nat) (hn : n ≤ 15) : (fcode c n + c n) * 2 ^ (15 - n) ≤ 32768 := by
 unfold weigh at hw
 have h1 := hc 1; have h2 := hc 2; have h3 := hc 3; have h4 := hc 4; have h5 := hc 5; have h6 := hc 6; have h7 := hc 7; have h8 := hc 8; have h9 := hc 9
 have h10 := hc 10; have h11 := hc 11; have h12 := hc 12; have h13 := hc 13; have h14 := hc 14; have h15 := hc 15
 rcases (by omega : n = 0 ∨ n = 1 ∨ n = 2 ∨ n = 3 ∨ n = 4 ∨ n = 5 ∨ n = 6 ∨ n = 7 ∨ n = 8 ∨ n = 9 ∨ n = 10 ∨ n = 11 ∨ n = 12 ∨ n = 13 ∨ n = 14 ∨ n = 15) with
   rfl | rfl | rfl | rfl | rfl | rfl | rfl | rfl | rfl | rfl | rfl | rfl | rfl | rfl | rfl | rfl <;> simp only [fcode, h0] <;> omega
theorem fcode_top {l : List Int} (h : 0 ≤ roomV l) (n : Nat) (hn : n ≤ 15) : 0 ≤ fcode (cn l) n ∧ fcode (cn l) n + cn l n ≤ 2 ^ n := by
 obtain ⟨_, _, h3, h4⟩ := roomV_ok h
 refine ⟨fcode_nonneg _ (fun m => (cn_bd l m).1) n, ?_⟩
 have h5 := fcode_weigh (cn l) (by simp [cn]) (fun m => (cn_bd l m).1) (by rw [← hsum_weigh l h3]; exact h4) n hn
 rcases (by omega : n = 0 ∨ n = 1 ∨ n = 2 ∨ n = 3 ∨ n = 4 ∨ n = 5 ∨ n = 6 ∨ n = 7 ∨ n = 8 ∨ n = 9 ∨ n = 10 ∨ n = 11 ∨ n = 12 ∨ n = 13 ∨ n = 14 ∨ n = 15) with
   rfl | rfl | rfl | rfl | rfl | rfl | rfl | rfl | rfl | rfl | rfl | rfl | rfl | rfl | rfl | rfl <;> omega
theorem pow_le_15 {n : Nat} (hn : n ≤ 15) : (2 : Int) ^ n ≤ 32768 := by
 rcases (by omega : n = 0 ∨ n = 1 ∨ n = 2 ∨ n = 3 ∨ n = 4 ∨ n = 5 ∨ n = 6 ∨ n = 7 ∨ n = 8 ∨ n = 9 ∨ n = 10 ∨ n = 11 ∨ n = 12 ∨ n = 13 ∨ n = 14 ∨ n = 15) with
   rfl | rfl | rfl | rfl | rfl | rfl | rfl | rfl | rfl | rfl | rfl | rfl | rfl | rfl | rfl | rfl <;> omega
def codeAt (l : List Int) (k : Nat) : Int := if 0 < l.getD k 0 then fcode (cn l) (l.getD k 0).toNat + cn (l.take k) (l.getD k 0).toNat else 0
theorem hby_room (n : Nat) : hby (n : Int) = (roomW n : Int) := by
 unfold hby roomW
 rw [Int.toNat_natCast, Int.natCast_ediv, Int.natCast_pow]
 rfl
theorem hfold_take : ∀ (L : List Nat) (s : Int), (L.map (fun n : Nat => (n : Int))).foldl hadd s = s + (takeW L : Int)
 | [], s => by simp [takeW]
 | x :: l, s => by
   rw [List.map_cons, List.foldl_cons, hfold_take l, takeW]
   unfold hadd
   by_cases h : x = 0
   · subst h; rw [if_neg (by omega), if_pos rfl]; omega
   · rw [if_pos (by omega), if_neg h, hby_room]; push_cast; omega
theorem hsum_takeW (L : List Nat) : hsum (L.map (fun n : Nat => (n : Int))) = (takeW L : Int) := by unfold hsum; rw [hfold_take]; omega
theorem room_good {counts : List Int} {most some : Nat} {L : List Nat} (h : GoodL counts most some L) (h0 : 1 ≤ counts.length) (h1 : counts.length ≤ 320) (hm : most ≤ 15) :
   roomV (L.map (fun n : Nat => (n : Int))) = (takeW L : Int) := by
 have hk : hok (L.map (fun n : Nat => (n : Int))) = true := by
   unfold hok
   rw [List.all_eq_true]
   intro x hx
   obtain ⟨n, hn, rfl⟩ := List.mem_map.1 hx
   obtain ⟨i, hi, rfl⟩ := List.mem_iff_getElem.1 hn
   have := h.le i
   simp only [List.getD_eq_getElem?_getD, List.getElem?_eq_getElem hi, Option.getD_some] at this
   simp; omega
 have hl := h.len
 unfold roomV
 rw [hk, hsum_takeW, List.length_map, if_neg (by rintro (h | h | h); omega; omega; cases h), if_neg (by have := h.sum; omega)]
theorem sumW_perm {L M : List Nat} (h : L.Perm M) : sumW L = sumW M := by
 induction h with
 | nil => rfl
 | cons x _ ih => simp only [sumW, ih]
 | swap x y l => simp only [sumW]; omega
 | trans _ _ ih1 ih2 => rw [ih1, ih2]
end Go.Proofs.Ythmpigmmihiecaa
namespace Go.Proofs.Ythmpigmmihiecaa
inductive HT where
 | leaf (s : Nat)
 | node (a b : HT)
namespace HT
def leaves : HT → List Nat
 | leaf s => [s]
 | node a b => a.leaves ++ b.leaves
def lay : HT → Nat → List Nat → List Nat
 | leaf s, d, l => l.set s (max 1 d)
 | node a b, d, l => b.lay (d + 1) (a.lay (d + 1) l)
theorem leaves_pos : ∀ t : HT, 1 ≤ t.leaves.length
 | leaf _ => Nat.le_refl _
 | node a b => by have := leaves_pos a; simp only [leaves, List.length_append]; omega
theorem lay_len : ∀ (t : HT) (d : Nat) (l : List Nat), (t.lay d l).length = l.length
 | leaf s, d, l => by simp [lay]
 | node a b, d, l => by rw [lay, lay_len b, lay_len a]
theorem lay_out : ∀ (t : HT) (d : Nat) (l : List Nat) (k : Nat), k ∉ t.leaves → (t.lay d l).getD k 0 = l.getD k 0
 | leaf s, d, l, k, h => by
   simp only [leaves, List.mem_singleton] at h
   simp only [lay, List.getD_eq_getElem?_getD]
   rw [List.getElem?_set_ne (fun e => h e.symm)]
 | node a b, d, l, k, h => by
   simp only [leaves, List.mem_append, not_or] at h
   rw [lay, lay_out b _ _ _ h.2, lay_out a _ _ _ h.1]
theorem lay_in : ∀ (t : HT) (d : Nat) (l : List Nat) (k : Nat), (∀ s ∈ t.leaves, s < l.length) → k ∈ t.leaves → 1 ≤ (t.lay d l).getD k 0 ∧ (t.lay d l).getD k 0 ≤ d + t.leaves.length
 | leaf s, d, l, k, hl, h => by
   simp only [leaves, List.mem_singleton] at h
   subst h
   have := hl k (by simp [leaves])
   simp only [lay, List.getD_eq_getElem?_getD]
   rw [List.getElem?_set_self this]
   simp only [Option.getD_some, leaves, List.length_singleton]
   omega
 | node a b, d, l, k, hl, h => by
   have ha : ∀ s ∈ a.leaves, s < l.length := fun s hs => hl s (by simp [leaves, hs])
   have hb : ∀ s ∈ b.leaves, s < (a.lay (d + 1) l).length := fun s hs => by rw [lay_len]; exact hl s (by simp [leaves, hs])
   have hpa := leaves_pos a
   have hpb := leaves_pos b
   simp only [leaves, List.length_append]
   by_cases hkb : k ∈ b.leaves
   · have := lay_in b (d + 1) (a.lay (d + 1) l) k hb hkb
     rw [lay]; omega
   · have hka : k ∈ a.leaves := by
       simp only [leaves, List.mem_append] at h
       exact h.resolve_right hkb
     have := lay_in a (d + 1) l k ha hka
     rw [lay, lay_out b _ _ _ hkb]; omega
end HT
end Go.Proofs.Ythmpigmmihiecaa
namespace Go.Proofs.Ythmpigmmihiecaa
def rowR (n : Nat) (R D : List Nat) : List Nat := giveR R D (List.replicate n 0)
theorem rowR_len (n : Nat) (R D : List Nat) : (rowR n R D).length = n := by unfold rowR; rw [giveR_len]; simp
theorem rowR_at {n : Nat} {R D : List Nat} (hn : R.Nodup) (hD : D.length = R.length) (hr : ∀ r ∈ R, r < n) {i : Nat} (hi : i < R.length) : (rowR n R D).getD (R.getD i 0) 0 = D.getD i 0 := by
 have := giveR_in R D (List.replicate n 0) i hn hD (fun r h => by simpa using hr r h) hi
 unfold rowR
 rw [← this, List.getD_eq_getElem?_getD (l := R), List.getElem?_eq_getElem hi]; rfl
theorem rowR_out {n : Nat} {R D : List Nat} {k : Nat} (h : k ∉ R) : (rowR n R D).getD k 0 = 0 := by
 unfold rowR
 rw [giveR_out R D _ k h]
 simp only [List.getD_eq_getElem?_getD, List.getElem?_replicate]
 split <;> rfl
theorem rowR_ext {n : Nat} {R D L : List Nat} (hn : R.Nodup) (hr : ∀ r ∈ R, r < n) (hD : D.length = R.length) (hl : L.length = n)
   (h1 : ∀ i, i < R.length → L.getD (R.getD i 0) 0 = D.getD i 0) (h2 : ∀ k, k ∉ R → L.getD k 0 = 0) : L = rowR n R D :=
 give_ext hn hr hD hl (fun i hi => by
   have := h1 i hi
   rwa [List.getD_eq_getElem?_getD (l := R), List.getElem?_eq_getElem hi, Option.getD_some] at this) h2
theorem getD_set (l : List Nat) (i k v : Nat) (h : i < l.length) : (l.set i v).getD k 0 = if k = i then v else l.getD k 0 := by
 simp only [List.getD_eq_getElem?_getD, List.getElem?_set]
 by_cases e : i = k
 · subst e; rw [if_pos rfl, if_pos h, if_pos rfl]; rfl
 · rw [if_neg e, if_neg (fun h => e h.symm)]
theorem nodup_getD {R : List Nat} (hn : R.Nodup) {i j : Nat} (hi : i < R.length) (hj : j < R.length) (h : R.getD i 0 = R.getD j 0) : i = j := by
 rw [List.getD_eq_getElem?_getD, List.getElem?_eq_getElem hi, List.getD_eq_getElem?_getD, List.getElem?_eq_getElem hj] at h
 have hp := List.pairwise_iff_getElem.1 hn
 rcases Nat.lt_trichotomy i j with e | e | e
 · exact absurd h (hp i j hi hj e)
 · exact e
 · exact absurd h.symm (hp j i hj hi e)
theorem rowR_set {n : Nat} {R D : List Nat} (hn : R.Nodup) (hr : ∀ r ∈ R, r < n) (hD : D.length = R.length) {i v : Nat} (hi : i < R.length) : (rowR n R D).set (R.getD i 0) v = rowR n R (D.set i v) := by
 have hm : R.getD i 0 ∈ R := by rw [List.getD_eq_getElem?_getD, List.getElem?_eq_getElem hi]; exact List.getElem_mem hi
 have hlt : R.getD i 0 < (rowR n R D).length := by rw [rowR_len]; exact hr _ hm
 refine rowR_ext hn hr (by rw [List.length_set, hD]) (by rw [List.length_set, rowR_len]) (fun j hj => ?_) (fun k hk => ?_)
 · rw [getD_set _ _ _ _ hlt, getD_set _ _ _ _ (by omega)]
   by_cases e : j = i
   · rw [if_pos (by rw [e]), if_pos e]
   · rw [if_neg (fun h => e (nodup_getD hn hj hi h)), if_neg e, rowR_at hn hD hr hj]
 · rw [getD_set _ _ _ _ hlt, if_neg (fun (h : k = R.getD i 0) => hk (h ▸ hm)), rowR_out hk]
theorem lay_row {n : Nat} {R : List Nat} {t : HT} (hn : R.Nodup) (hr : ∀ r ∈ R, r < n) (hp : t.leaves.Perm R) :
   ∃ D, D.length = R.length ∧ t.lay 0 (List.replicate n 0) = rowR n R D ∧ ∀ x ∈ D, 1 ≤ x ∧ x ≤ R.length := by
 have hl : t.leaves.length = R.length := hp.length_eq
 have hlt : ∀ s ∈ t.leaves, s < (List.replicate n 0).length := fun s hs => by simpa using hr s (hp.mem_iff.1 hs)
 refine ⟨R.map fun r => (t.lay 0 (List.replicate n 0)).getD r 0, by simp, ?_, fun x hx => ?_⟩
 · refine rowR_ext hn hr (by simp) (by rw [HT.lay_len]; simp) (fun i hi => ?_) (fun k hk => ?_)
   · rw [List.getD_eq_getElem?_getD (l := R.map _), List.getElem?_map, List.getD_eq_getElem?_getD (l := R), List.getElem?_eq_getElem hi]; rfl
   · rw [HT.lay_out _ _ _ _ (fun h => hk (hp.mem_iff.1 h))]
     simp only [List.getD_eq_getElem?_getD, List.getElem?_replicate]
     split <;> rfl
 · obtain ⟨r, hr2, rfl⟩ := List.mem_map.1 hx
   have := HT.lay_in t 0 (List.replicate n 0) r hlt (hp.mem_iff.2 hr2)
   rw [hl, Nat.zero_add] at this
   exact this
theorem rowR_perm {n : Nat} {R R2 D : List Nat} (hn : R.Nodup) (hr : ∀ r ∈ R, r < n) (hD : D.length = R.length) (hp : R2.Perm R) (h1 : ∀ x ∈ D, 1 ≤ x ∧ x ≤ R.length) :
   ∃ D2, D2.length = R2.length ∧ rowR n R D = rowR n R2 D2 ∧ ∀ x ∈ D2, 1 ≤ x ∧ x ≤ R2.length := by
 have hn2 : R2.Nodup := hp.nodup_iff.2 hn
 refine ⟨R2.map fun r => (rowR n R D).getD r 0, by simp, ?_, fun x hx => ?_⟩
 · refine rowR_ext hn2 (fun r h => hr r (hp.mem_iff.1 h)) (by simp) (rowR_len ..) (fun i hi => ?_) (fun k hk => rowR_out (fun h => hk (hp.mem_iff.2 h)))
   rw [List.getD_eq_getElem?_getD (l := R2.map _), List.getElem?_map, List.getD_eq_getElem?_getD (l := R2), List.getElem?_eq_getElem hi]; rfl
 · obtain ⟨r, hr2, rfl⟩ := List.mem_map.1 hx
   obtain ⟨i, hi, rfl⟩ := List.mem_iff_getElem.1 (hp.mem_iff.1 hr2)
   have e := rowR_at (n := n) hn hD hr hi
   rw [List.getD_eq_getElem?_getD (l := R), List.getElem?_eq_getElem hi, Option.getD_some] at e
   rw [e, List.getD_eq_getElem?_getD, List.getElem?_eq_getElem (by omega), Option.getD_some, hp.length_eq]
   exact h1 _ (List.getElem_mem _)
def cutV (limit g : Nat) (D : List Nat) : Option (List Nat) := (cutLoop limit g (D.map fun x => min x limit)).map fun M => (shrinkAll M.reverse (32768 - sumW M)).1.reverse
theorem slack_le (limit : Nat) : ∀ L : List Nat, slack limit L ≤ limit * L.length
 | [] => Nat.zero_le _
 | x :: l => by
   have := slack_le limit l
   simp only [slack, List.length_cons, Nat.mul_add]; omega
theorem cutV_good {limit g : Nat} {D : List Nat} (h1 : 1 ≤ limit) (h15 : limit ≤ 15) (hD : ∀ x ∈ D, 1 ≤ x) (h2 : 2 ≤ D.length) (hn : D.length ≤ 2 ^ limit) (hg : limit * D.length < g) :
   ∃ E, cutV limit g D = some E ∧ E.length = D.length ∧ (∀ x ∈ E, 1 ≤ x ∧ x ≤ limit) ∧ sumW E = 32768 := by
 have hin : InL limit (D.map fun x => min x limit) := fun x hx => by
   obtain ⟨y, hy, rfl⟩ := List.mem_map.1 hx
   have := hD y hy
   omega
 have hsl := slack_le limit (D.map fun x => min x limit)
 rw [List.length_map] at hsl
 obtain ⟨M, m1, m2, m3, m4⟩ := cutLoop_some h1 h15 g _ hin (by rw [List.length_map]; exact hn) (by omega)
 rw [List.length_map] at m3
 have hrev : InL limit M.reverse := fun x hx => m2 x (List.mem_reverse.1 hx)
 have hsr : sumW M.reverse = sumW M := sumW_perm M.reverse_perm
 obtain ⟨-, q2, q3, -, -⟩ := all_is h15 M.reverse (32768 - sumW M) hrev
 have hc := complete_all h15 (L := M.reverse) hrev (by rw [List.length_reverse]; omega) (by rw [hsr]; exact m4)
 rw [hsr] at hc
 refine ⟨_, by unfold cutV; rw [m1]; rfl, by rw [List.length_reverse, q3, List.length_reverse, m3], fun x hx => q2 x (List.mem_reverse.1 hx), ?_⟩
 rw [sumW_perm (List.reverse_perm _)]; exact hc
theorem rowR_good {counts : List Int} {most : Nat} {R D : List Nat} (hn : R.Nodup) (hR : ∀ k, k ∈ R ↔ k < counts.length ∧ 0 < counts.getD k 0)
   (hS : ∀ i j, (hi : i < R.length) → (hj : j < R.length) → i < j → counts.getD R[i] 0 ≤ counts.getD R[j] 0)
   (hD : D.length = R.length) (hP : ∀ d ∈ D, 1 ≤ d ∧ d ≤ most) (hT : ∀ i j, i ≤ j → j < D.length → D.getD j 0 ≤ D.getD i 0)
   (hs : sumW D ≤ 32768) (hf : 2 ≤ R.length → sumW D = 32768) (ho : R.length = 1 → ∀ d ∈ D, d ≤ 1) : GoodL counts most R.length (rowR counts.length R D) :=
 good_give hn hR hS hD hP hT (rowR_len ..) (fun i hi => by
   have := rowR_at (n := counts.length) hn hD (fun r h => ((hR r).1 h).1) hi
   rwa [List.getD_eq_getElem?_getD (l := R), List.getElem?_eq_getElem hi, Option.getD_some] at this) (fun k hk => rowR_out hk) hs hf ho
end Go.Proofs.Ythmpigmmihiecaa
namespace Go.Proofs.Ythmpigmmihiecaa
open Go.RowKit
def Row (w : World) (sz : Nat) (a : Option Addr) (n cap : Nat) (xs : List Value) : Prop :=
 xs.length = n * sz ∧ n ≤ cap ∧ cap ≤ maxLen ∧ (a = none → cap = 0) ∧
   (0 < n → ∃ b off, a = some ⟨b, off, none⟩ ∧ b < w.heap.size ∧ ∀ j u, xs[j]? = some u → w.cell? ⟨b, off + j, none⟩ = some u)
theorem cell?_keep {w w' : World} (hb : Below w.heap.size w w') {a : Addr} {v : Value} (h : w.cell? a = some v) : w'.cell? a = some v :=
 (hb.cell (World.block_lt_of_cell? w a h)).trans h
theorem Row.mono {w w' : World} {sz : Nat} {a : Option Addr} {n cap : Nat} {xs : List Value} (h : Row w sz a n cap xs) (hb : Below w.heap.size w w') : Row w' sz a n cap xs := by
 obtain ⟨h1, h2, h3, h4, h5⟩ := h
 refine ⟨h1, h2, h3, h4, fun hn => ?_⟩
 obtain ⟨b, off, ha, hlt, hc⟩ := h5 hn
 exact ⟨b, off, ha, Nat.lt_of_lt_of_le hlt hb.size, fun j u hj => cell?_keep hb (hc j u hj)⟩
theorem Row.i64 {w : World} {sz : Nat} {a : Option Addr} {n cap : Nat} {xs : List Value} (h : Row w sz a n cap xs) : (n : Int) ≤ 9223372036854775807 := by
 have := h.2.1; have := h.2.2.1; unfold maxLen at this; omega
theorem Row.at {α : Type} {enc : α → Value} (d : α) {w : World} {a : Option Addr} {n cap : Nat} {l : List α} (h : Row w 1 a n cap (l.map enc)) (k : Nat) (hk : k < n) :
   ∃ b off, a = some ⟨b, off, none⟩ ∧ b < w.heap.size ∧ ∀ k, k < n → w.cell? ⟨b, off + k, none⟩ = some (enc (l.getD k d)) := by
 obtain ⟨h1, h2, h3, h4, h5⟩ := h
 obtain ⟨b, off, rfl, hb, hc⟩ := h5 (by omega)
 refine ⟨b, off, rfl, hb, fun k hk => hc k _ ?_⟩
 simp at h1 ⊢
 have : k < l.length := by omega
 simp [this]
theorem Row.len1 {α : Type} {enc : α → Value} {w : World} {a : Option Addr} {n cap : Nat} {l : List α} (h : Row w 1 a n cap (l.map enc)) : l.length = n := by
 have := h.1; simpa using this
theorem Row.nil (w : World) (sz : Nat) : Row w sz none 0 0 [] := ⟨by simp, Nat.le_refl _, by simp [maxLen], fun _ => rfl, fun h => by omega⟩
theorem Row.of_owns {w : World} {base e sz : Nat} {v : Value} {n : Nat} {xs : List Value} (h : w.ownsRow base e sz v n xs) :
   ∃ a cap, v = .slice a n cap ∧ Row w sz a n cap xs ∧ ∀ x, a = some x → base ≤ x.block := by
 obtain ⟨h1, h2⟩ := h
 rcases h2 with ⟨rfl, rfl⟩ | ⟨g, cap, cur, rfl, hb, hg, hn, hm, hs, ht⟩
 · have : xs = [] := List.eq_nil_of_length_eq_zero (by simpa using h1)
   subst this
   exact ⟨none, 0, rfl, Row.nil w sz, fun x hx => by cases hx⟩
 · refine ⟨some ⟨g, 0, none⟩, cap, rfl, ⟨h1, hn, hm, fun h => (by cases h), fun _ => ⟨g, 0, rfl, (Array.getElem?_eq_some_iff.1 hg).1, fun j u hj => ?_⟩⟩, fun x hx => by cases hx; exact hb⟩
   rw [Nat.zero_add, cell_of_row w g j cur e (0, 0) hg]
   rw [← ht, List.getElem?_take] at hj
   split at hj
   · simpa using hj
   · cases hj
theorem Row.of_own {w : World} {base e sz : Nat} {a : Option Addr} {n m cap : Nat} {xs : List Value} (h : w.ownsRow base e sz (.slice a n cap) m xs) : n = m ∧ Row w sz a n cap xs := by
 obtain ⟨a', cap', hv, hr, _⟩ := Row.of_owns h
 simp only [Value.slice.injEq] at hv
 obtain ⟨rfl, rfl, rfl⟩ := hv
 exact ⟨rfl, hr⟩
theorem ownsRow_keep {w w' : World} {base e sz : Nat} {v : Value} {n : Nat} {xs : List Value} (h : w.ownsRow base e sz v n xs) (hb : Below w.heap.size w w') : w'.ownsRow base e sz v n xs := by
 obtain ⟨h1, h2⟩ := h
 refine ⟨h1, ?_⟩
 rcases h2 with h2 | ⟨g, cap, cur, hv, hg, hh, r⟩
 · exact .inl h2
 · exact .inr ⟨g, cap, cur, hv, hg, by rw [hb.block g (Array.getElem?_eq_some_iff.1 hh).1]; exact hh, r⟩
theorem ownsRow_base {w : World} {base base' e sz : Nat} {v : Value} {n : Nat} {xs : List Value} (h : w.ownsRow base e sz v n xs) (hb : base' ≤ base) : w.ownsRow base' e sz v n xs := by
 obtain ⟨h1, h2⟩ := h
 refine ⟨h1, ?_⟩
 rcases h2 with h2 | ⟨g, cap, cur, hv, hg, r⟩
 · exact .inl h2
 · exact .inr ⟨g, cap, cur, hv, by omega, r⟩
theorem block_keep {w w' : World} (hb : Below w.heap.size w w') {b : Nat} {o : Obj} (h : w.heap[b]? = some o) : w'.heap[b]? = some o := by
 rw [hb.block b (Array.getElem?_eq_some_iff.1 h).1]; exact h
structure ElemT (P : Program) (t e : TypeId) (z : Value) (size bytes : Nat) : Prop where
 und : P.underlying t = some (.slice e)
 info : (P.info? e).map (fun i => (i.zero, i.size, i.bytes)) = some (some z, size, bytes)
 cells : z.cells.size = size
 pos : 0 < size
theorem ret_int {k : IntKind} {a b : Int} (h : a = b) : Ending.returned (.int k a) = .returned (.int k b) := by rw [h]
theorem ret_bool {a b : Bool} (h : a = b) : Ending.returned (.bool a) = .returned (.bool b) := by rw [h]
theorem make_full {P : Program} {w : World} {ops : Array Oper} {rest : List Oper} {o : Oper} {a : Act} {Q : Exit → Act → World → Prop} {t e : TypeId} {z : Value} {size bytes : Nat} (T : ElemT P t e z size bytes)
   (hg : o.guard = none) (l c : Operand) (hop : o.op = Op.makeSlice t l c)
   (kl kc : IntKind) (L C : Int) (n : Nat) (hl : a.eval l = .int kl L) (hc : a.eval c = .int kc C) (hL : L = (n : Int)) (hC : C = (n : Int)) (b2 : bytes * n ≤ 281474976710656) (b3 : n ≤ maxLen)
   (hK : ∀ w', w'.ownsRow w.heap.size e size (.slice (some ⟨w.heap.size, 0, none⟩) n n) n (madeCells z.cells (n * size)).toList → Below w.heap.size w w' → wpList P ops Q rest (a.put o.dst (.slice (some ⟨w.heap.size, 0, none⟩) n n)) w') :
   wpList P ops Q (o :: rest) a w := by
 obtain ⟨i, hi, hz, hs, hb⟩ := info_parts T.info
 subst hb
 exact wpList_make_full w hg l c t hop w.heap.size e i z size T.und hi hz hs kl kc L C n hl hc hL hC b2 b3 (Nat.le_refl _)
   fun w' h1 h2 => hK w' h1 ((Below.refl _ _).grown h2 (Nat.le_refl _) (fun k hk => by cases hk))
def fl (n : Nat) (enc : Nat → Value) : List Value := (List.range n).map enc
theorem fl_length (n : Nat) (enc : Nat → Value) : (fl n enc).length = n := by simp [fl]
theorem fl_get {n : Nat} (enc : Nat → Value) {i : Nat} (h : i < n) : (fl n enc)[i]? = some (enc i) := by simp [fl, h]
theorem fl_set (n : Nat) (enc : Nat → Value) (i : Nat) (v : Value) : (fl n enc).set i v = fl n (fun j => if j = i then v else enc j) := by
 apply List.ext_getElem?
 intro j
 simp only [fl, List.getElem?_set, List.getElem?_map, List.length_map, List.length_range]
 by_cases hj : j < n
 · by_cases hi : i = j
   · subst hi; simp [hj]
   · simp [hi, hj, Ne.symm hi]
 · by_cases hi : i = j
   · subst hi; simp [hj]
   · simp [hi, hj]
theorem fl_congr {n : Nat} {f g : Nat → Value} (h : ∀ i, i < n → f i = g i) : fl n f = fl n g := by
 apply List.map_congr_left
 intro i hi
 exact h i (by simpa using hi)
theorem fl_replicate (n : Nat) (v : Value) : List.replicate n v = fl n (fun _ => v) := by
 apply List.ext_getElem?
 intro j
 by_cases hj : j < n <;> simp [fl, hj]
theorem heapA_new {w : World} {b : Nat} (o : Obj) (h : b = w.heap.size) : (w.alloc o).heap[b]? = some o := by subst h; exact heap_alloc_new w o
theorem heapA_old {w : World} {b : Nat} (o : Obj) {o' : Obj} (h : w.heap[b]? = some o') : (w.alloc o).heap[b]? = some o' := by
 rw [Below.heap_alloc w o b (Array.getElem?_eq_some_iff.1 h).1]; exact h
theorem sizeA (w : World) (o : Obj) : (w.alloc o).heap.size = w.heap.size + 1 := by
 show (w.heap.push o).size = _
 simp
theorem belowA (w : World) (o : Obj) : Below w.heap.size w (w.alloc o) := (Below.refl _ _).alloc (Nat.le_refl _) o
theorem belowA2 (w : World) (o o2 : Obj) : Below w.heap.size w ((w.alloc o).alloc o2) := (belowA w o).alloc (by rw [sizeA]; omega) o2
theorem belowA3 (w : World) (o o2 o3 : Obj) : Below w.heap.size w (((w.alloc o).alloc o2).alloc o3) := (belowA2 w o o2).alloc (by rw [sizeA, sizeA]; omega) o3
theorem below_setRow {B : Nat} {w0 w : World} (h : Below B w0 w) {g : Nat} (hg : B ≤ g) (cs : Array Value) : Below B w0 (w.setRow g cs) :=
 h.trans ⟨rfl, rfl, rfl, by simp, fun j hj => setRow_other _ _ _ _ (by omega)⟩
theorem blk_cell {w : World} {b n : Nat} {enc : Nat → Value} {t : TypeId} {fr : Nat × Nat} (h : w.heap[b]? = some (.cells (fl n enc).toArray t fr)) (i : Nat) (hi : i < n) : w.cell? ⟨b, i, none⟩ = some (enc i) := by
 rw [cell_of_row w b i _ t fr h]; simp [fl, hi]
theorem blk_free {w : World} {b : Nat} {cs : Array Value} {t : TypeId} (h : w.heap[b]? = some (.cells cs t (0, 0))) (i : Nat) : w.frozen? ⟨b, i, none⟩ = false := frozen_of_row w b i cs t h
theorem blk_set {w : World} {b n : Nat} {enc : Nat → Value} {t : TypeId} (h : w.heap[b]? = some (.cells (fl n enc).toArray t (0, 0))) (i : Nat) (v : Value) :
   (w.setCell ⟨b, i, none⟩ v).heap[b]? = some (.cells (fl n (fun j => if j = i then v else enc j)).toArray t (0, 0)) := by
 rw [heap_setCell_same w b i _ t v h, List.setIfInBounds_toArray, fl_set]
theorem blk_other {w : World} {b : Nat} {o : Obj} (h : w.heap[b]? = some o) {a : Addr} (ha : a.block ≠ b) (v : Value) : (w.setCell a v).heap[b]? = some o := by
 rw [heap_setCell_other w a b v (Ne.symm ha)]; exact h
theorem store_fresh {P : Program} {ops : Array Oper} {rest : List Oper} {o : Oper} {a : Act} {w0 : World} {Q : Exit → Act → World → Prop} (hgd : o.guard = none) (ty : TypeId) (x y : Operand) (ho : o.op = .store ty x y)
   (z : Array Value) (t : TypeId) (cells : Array Value) (hx : a.eval x = .pointer (some ⟨w0.heap.size, 0, none⟩)) (hy : a.eval y = .agg cells)
   (hi : (P.info? ty).map (·.size) = some cells.size) (hold : z.size = cells.size) (h1 : cells.all (·.oneCell') = true)
   (h : ∀ w', w'.heap[w0.heap.size]? = some (.cells cells t (0, 0)) → Below w0.heap.size w0 w' → w'.heap.size = w0.heap.size + 1 → wpList P ops Q rest (a.put o.dst undef) w') : wpList P ops Q (o :: rest) a (w0.alloc (.cells z t)) :=
 wpList_store_row hgd ty x y ho w0.heap.size cells hx hy t z (heapA_new _ rfl) hi hold h1
   (h _ (setRow_heap _ _ _ _ _ _ (heapA_new _ rfl)) (below_setRow (belowA w0 _) (Nat.le_refl _) _) (by rw [size_setRow, sizeA]))
theorem append_row {P : Program} {w : World} {ops : Array Oper} {rest : List Oper} {o : Oper} {a : Act} {Q : Exit → Act → World → Prop} {t e : TypeId} {z : Value} {size bytes : Nat} (T : ElemT P t e z size bytes)
   (hgd : o.guard = none) (s x : Operand) (ho : o.op = .call { callee := .builtin .append, args := #[s, x], argTypes := #[t, t] })
   (base : Nat) (v : Value) (n : Nat) (xs : List Value) (hs : a.eval s = v) (hown : w.ownsRow base e size v n xs)
   (ao : Option Addr) (m c : Nat) (news : List Value) (hx : a.eval x = .slice ao m c) (hr : Row w size ao m c news) (h1 : ∀ u ∈ news, u.oneCell' = true)
   (h63 : n + m ≤ maxLen) (hbytes : (n + m) * bytes ≤ 140737488355328) (hbase : base ≤ w.heap.size)
   (h : ∀ v' w', w'.ownsRow base e size v' (n + m) (xs ++ news) → w.grownBy w' v.ownBlock → (v' = .slice none 0 0 ↔ v = .slice none 0 0 ∧ m = 0) → wpList P ops Q rest (a.put o.dst v') w') : wpList P ops Q (o :: rest) a w := by
 obtain ⟨i, hi, hz, hs', hb⟩ := info_parts T.info
 subst hb
 obtain ⟨r1, r2, r3, r4, r5⟩ := hr
 cases ao with
 | some ad =>
   refine wpList_append_own w hgd s x t ho base e i z size i.bytes T.und hi hz hs' rfl T.cells T.pos v n xs hs hown ad m c news hx r1 (fun j u hj => ?_) h1 h63 hbytes hbase h
   by_cases hm : 0 < m
   · obtain ⟨b, off, hab, _, hc⟩ := r5 hm
     obtain rfl := Option.some.inj hab
     rw [Addr.add_lit]; exact hc j u hj
   · obtain rfl : m = 0 := by omega
     have : news = [] := List.eq_nil_of_length_eq_zero (by simpa using r1)
     subst this; simp at hj
 | none =>
   obtain rfl := r4 rfl
   obtain rfl : m = 0 := by omega
   have : news = [] := List.eq_nil_of_length_eq_zero (by simpa using r1)
   subst this
   refine wpList_plain hgd fun K hK => ?_
   have hrun := run_append_owned_none (P := P) w base t o.type e i size T.und hi v n xs hown
   unfold Oper.wp
   simp [execOp, ho, resolve, invoke, builtin, hs, hx, hrun, Result.andThen]
   exact hK _ _ (h v w (by simpa using hown) ⟨rfl, rfl, rfl, Nat.le_refl _, fun _ _ _ => rfl⟩ (by simp))
def NN (a : Option Addr) (v : Value) : Prop := a ≠ none → v ≠ .slice none 0 0
theorem below_grown {B : Nat} {w0 w w' : World} {row : Option Nat} (h : Below B w0 w) (hg : w.grownBy w' row) (hB : B ≤ w.heap.size) (hr : ∀ k, row = some k → B ≤ k) : Below B w0 w' := h.grown hg hB hr
theorem row_new1 (w : World) (x : Value) (e : TypeId) : Row (w.alloc (.cells #[x] e)) 1 (some ⟨w.heap.size, 0, none⟩) 1 1 [x] :=
 ⟨rfl, Nat.le_refl _, by simp [maxLen], fun h => (by cases h), fun _ => ⟨w.heap.size, 0, rfl, by rw [sizeA]; omega, fun j u hj => by
   rw [cell_of_row _ _ _ _ _ _ (heapA_new _ rfl)]
   rcases j with _ | j
   · simpa using hj
   · simp at hj⟩⟩
theorem one_mem {x : Value} (h : x.oneCell' = true) : ∀ u ∈ [x], u.oneCell' = true := by
 intro u hu; simp at hu; subst hu; exact h
theorem below_cell {B : Nat} {w w' : World} (h : Below B w w') {b o : Nat} {v : Value} (hb : b < B) (hc : w.cell? ⟨b, o, none⟩ = some v) : w'.cell? ⟨b, o, none⟩ = some v := (h.cell (p := ⟨b, o, none⟩) hb).trans hc
theorem Row.below {B : Nat} {w w' : World} {sz : Nat} {a : Option Addr} {n cap : Nat} {xs : List Value} (h : Row w sz a n cap xs) (hb : Below B w w') (ha : ∀ x, a = some x → x.block < B) : Row w' sz a n cap xs := by
 obtain ⟨h1, h2, h3, h4, h5⟩ := h
 refine ⟨h1, h2, h3, h4, fun hn => ?_⟩
 obtain ⟨b, off, ha', hlt, hc⟩ := h5 hn
 exact ⟨b, off, ha', Nat.lt_of_lt_of_le hlt hb.size, fun j u hj => below_cell hb (ha _ ha') (hc j u hj)⟩
theorem Row.lt {w : World} {sz : Nat} {a : Option Addr} {n cap : Nat} {xs : List Value} (h : Row w sz a n cap xs) (hn : 0 < n) : ∀ x, a = some x → x.block < w.heap.size := by
 obtain ⟨b, off, ha, hlt, _⟩ := h.2.2.2.2 hn
 intro x hx
 rw [ha] at hx; cases hx; exact hlt
theorem row_lit (w : World) (cs : Array Value) (e : TypeId) (hm : cs.size ≤ maxLen) : Row (w.alloc (.cells cs e)) 1 (some ⟨w.heap.size, 0, none⟩) cs.size cs.size cs.toList :=
 ⟨by simp, Nat.le_refl _, hm, fun h => (by cases h), fun _ => ⟨w.heap.size, 0, rfl, by rw [sizeA]; omega, fun j u hj => by
   rw [Nat.zero_add, cell_of_row _ _ _ _ _ _ (heapA_new _ rfl)]; simpa using hj⟩⟩
def NewAt (w : World) (v v' : Value) : Prop := ∀ b, v'.ownBlock = some b → v.ownBlock = some b ∨ w.heap.size ≤ b
theorem run_append_at {P : Program} (w : World) (base : Nat) (t ty e : TypeId) (i : TypeInfo) (z : Value) (size bytes : Nat) (ht : P.underlying t = some (.slice e)) (hi : P.info? e = some i) (hz : i.zero = some z)
   (hsize : i.size = size) (hby : i.bytes = bytes) (hzs : z.cells.size = size) (hsz : 0 < size)
   (v : Value) (n : Nat) (xs : List Value) (hown : w.ownsRow base e size v n xs)
   (a : Addr) (m c : Nat) (news : List Value) (hl : news.length = m * size) (hnews : ∀ j u, news[j]? = some u → w.cell? (a.add j) = some u) (h1 : ∀ u ∈ news, u.oneCell' = true)
   (h63 : n + m ≤ maxLen) (hbytes : (n + m) * bytes ≤ 140737488355328) (hbase : base ≤ w.heap.size) :
   ∃ v' w', (Builtin.append_ #[t, t] ty #[v, .slice (some a) m c]).run P w = .ok v' w' ∧ w'.ownsRow base e size v' (n + m) (xs ++ news) ∧ w.grownBy w' v.ownBlock ∧
     (v' = .slice none 0 0 ↔ v = .slice none 0 0 ∧ m = 0) ∧ NewAt w v v' := by
 obtain ⟨v', w', hr, h2, h3, h4⟩ := run_append_own (P := P) w base t ty e i z size bytes ht hi hz hsize hby hzs hsz v n xs hown a m c news hl hnews h1 h63 hbytes hbase
 refine ⟨v', w', hr, h2, h3, h4, ?_⟩
 have hsmall : n + m ≤ 9223372036854775807 := by simp only [maxLen] at h63; omega
 rcases hown.2 with ⟨rfl, hx⟩ | ⟨g, cap, cur, rfl, hbg, hg, hnc, hcm, hcs, htake⟩
 · obtain ⟨v2, w2, hr2, g2, _, _⟩ := run_append_own (P := P) w w.heap.size t ty e i z size bytes ht hi hz hsize hby hzs hsz _ n xs ⟨hown.1, .inl ⟨rfl, hx⟩⟩ a m c news hl hnews h1 h63 hbytes (Nat.le_refl _)
   rw [hr] at hr2
   simp only [Result.ok.injEq] at hr2
   obtain ⟨rfl, rfl⟩ := hr2
   exact fun b hb => .inr (g2.lt b hb).1
 · subst hsize hby
   by_cases hroom : n + m ≤ cap
   · have hfit : n * i.size + news.length ≤ cur.size := by rw [hl, hcs, ← Nat.add_mul]; exact Nat.mul_le_mul_right _ hroom
     have hr2 := run_append_room (P := P) w t ty e i ht hi g n cap cur hg a m c news hl hnews h1 hroom hfit
     rw [hr] at hr2
     simp only [Result.ok.injEq] at hr2
     obtain ⟨rfl, rfl⟩ := hr2
     exact fun b hb => .inl hb
   · have hr2 := run_append_grow (P := P) w t ty e i z ht hi hz ⟨g, 0, none⟩ n cap xs hown.1 (hown.cells (g := g) rfl) a m c news hl hnews (by omega) (by omega) (growslice_fits (by omega) hbytes)
     rw [hr] at hr2
     simp only [Result.ok.injEq] at hr2
     obtain ⟨rfl, rfl⟩ := hr2
     intro b hb
     simp [Value.ownBlock] at hb
     right; omega
theorem append_at {P : Program} {w : World} {ops : Array Oper} {rest : List Oper} {o : Oper} {a : Act} {Q : Exit → Act → World → Prop} {t e : TypeId} {z : Value} {size bytes : Nat} (T : ElemT P t e z size bytes)
   (hgd : o.guard = none) (s x : Operand) (ho : o.op = .call { callee := .builtin .append, args := #[s, x], argTypes := #[t, t] })
   (base : Nat) (v : Value) (n : Nat) (xs : List Value) (hs : a.eval s = v) (hown : w.ownsRow base e size v n xs)
   (ao : Option Addr) (m c : Nat) (news : List Value) (hx : a.eval x = .slice ao m c) (hr : Row w size ao m c news) (h1 : ∀ u ∈ news, u.oneCell' = true)
   (h63 : n + m ≤ maxLen) (hbytes : (n + m) * bytes ≤ 140737488355328) (hbase : base ≤ w.heap.size)
   (h : ∀ v' w', w'.ownsRow base e size v' (n + m) (xs ++ news) → w.grownBy w' v.ownBlock → NewAt w v v' → wpList P ops Q rest (a.put o.dst v') w') : wpList P ops Q (o :: rest) a w := by
 obtain ⟨i, hi, hz, hs', hb⟩ := info_parts T.info
 subst hb
 obtain ⟨r1, r2, r3, r4, r5⟩ := hr
 cases ao with
 | some ad =>
   refine wpList_plain hgd fun K hK => ?_
   obtain ⟨v', w', hrun, g2, g3, _, g5⟩ := run_append_at (P := P) w base t o.type e i z size i.bytes T.und hi hz hs' rfl T.cells T.pos v n xs hown ad m c news r1 (fun j u hj => by
     by_cases hm : 0 < m
     · obtain ⟨b, off, hab, _, hc⟩ := r5 hm
       obtain rfl := Option.some.inj hab
       rw [Addr.add_lit]; exact hc j u hj
     · obtain rfl : m = 0 := by omega
       have : news = [] := List.eq_nil_of_length_eq_zero (by simpa using r1)
       subst this; simp at hj) h1 h63 hbytes hbase
   unfold Oper.wp
   simp [execOp, ho, resolve, invoke, builtin, hs, hx, hrun, Result.andThen]
   exact hK _ _ (h v' w' g2 g3 g5)
 | none =>
   obtain rfl := r4 rfl
   obtain rfl : m = 0 := by omega
   have : news = [] := List.eq_nil_of_length_eq_zero (by simpa using r1)
   subst this
   refine wpList_plain hgd fun K hK => ?_
   have hrun := run_append_owned_none (P := P) w base t o.type e i size T.und hi v n xs hown
   unfold Oper.wp
   simp [execOp, ho, resolve, invoke, builtin, hs, hx, hrun, Result.andThen]
   exact hK _ _ (h v w (by simpa using hown) ⟨rfl, rfl, rfl, Nat.le_refl _, fun _ _ _ => rfl⟩ (fun b hb => .inl hb))
structure Keeps (S : Nat → Prop) (w w' : World) : Prop where
 os : w'.os = w.os
 tape : w'.tape = w.tape
 output : w'.output = w.output
 size : w.heap.size ≤ w'.heap.size
 block : ∀ b, b < w.heap.size → ¬ S b → w'.heap[b]? = w.heap[b]?
theorem Keeps.refl (S : Nat → Prop) (w : World) : Keeps S w w := ⟨rfl, rfl, rfl, Nat.le_refl _, fun _ _ _ => rfl⟩
theorem Keeps.trans {S S' : Nat → Prop} {a b c : World} (h : Keeps S a b) (k : Keeps S' b c) (hS : ∀ x, S' x → S x ∨ a.heap.size ≤ x) : Keeps S a c :=
 ⟨k.os.trans h.os, k.tape.trans h.tape, k.output.trans h.output, Nat.le_trans h.size k.size, fun x hx hn => (k.block x (Nat.lt_of_lt_of_le hx h.size) (fun e => (hS x e).elim hn (fun h => by omega))).trans (h.block x hx hn)⟩
theorem Keeps.of_grown {S : Nat → Prop} {w w' : World} {row : Option Nat} (h : w.grownBy w' row) (hr : ∀ k, row = some k → S k) : Keeps S w w' :=
 ⟨h.os, h.tape, h.output, h.size, fun b hb hn => h.block b hb (fun e => hn (hr b e.symm))⟩
theorem Keeps.below {S : Nat → Prop} {w w' : World} {B : Nat} (h : Keeps S w w') (hB : B ≤ w.heap.size) (hS : ∀ b, S b → B ≤ b) : Below B w w' :=
 ⟨h.os, h.tape, h.output, h.size, fun b hb => h.block b (by omega) (fun e => by have := hS b e; omega)⟩
theorem Keeps.cell {S : Nat → Prop} {w w' : World} (h : Keeps S w w') {b o : Nat} {v : Value} (hc : w.cell? ⟨b, o, none⟩ = some v) (hn : ¬ S b) : w'.cell? ⟨b, o, none⟩ = some v := by
 have hlt : b < w.heap.size := World.block_lt_of_cell? w _ hc
 rw [World.cell?_of_block (w := w) (a := ⟨b, o, none⟩) (h.block b hlt hn)]; exact hc
theorem Keeps.obj {S : Nat → Prop} {w w' : World} (h : Keeps S w w') {b : Nat} {o : Obj} (hc : w.heap[b]? = some o) (hn : ¬ S b) : w'.heap[b]? = some o := by
 rw [h.block b (Array.getElem?_eq_some_iff.1 hc).1 hn]; exact hc
theorem Row.keeps {S : Nat → Prop} {w w' : World} {sz : Nat} {a : Option Addr} {n cap : Nat} {xs : List Value} (h : Row w sz a n cap xs) (hk : Keeps S w w') (hne : ∀ x, a = some x → ¬ S x.block) : Row w' sz a n cap xs := by
 obtain ⟨h1, h2, h3, h4, h5⟩ := h
 refine ⟨h1, h2, h3, h4, fun hn => ?_⟩
 obtain ⟨b, off, ha, hlt, hc⟩ := h5 hn
 exact ⟨b, off, ha, Nat.lt_of_lt_of_le hlt hk.size, fun j u hj => hk.cell (hc j u hj) (hne _ ha)⟩
theorem owns_keeps {S : Nat → Prop} {w w' : World} {base e sz : Nat} {v : Value} {n : Nat} {xs : List Value} (h : w.ownsRow base e sz v n xs) (hk : Keeps S w w') (hne : ∀ b, v.ownBlock = some b → ¬ S b) : w'.ownsRow base e sz v n xs := by
 obtain ⟨h1, h2⟩ := h
 refine ⟨h1, ?_⟩
 rcases h2 with h2 | ⟨g, cap, cur, hv, hg, hh, r⟩
 · exact .inl h2
 · exact .inr ⟨g, cap, cur, hv, hg, hk.obj hh (hne g (by rw [hv]; rfl)), r⟩
theorem Keeps.weaken {S S' : Nat → Prop} {w w' : World} (h : Keeps S w w') (hS : ∀ b, S b → S' b) : Keeps S' w w' := ⟨h.os, h.tape, h.output, h.size, fun b hb hn => h.block b hb (fun e => hn (hS b e))⟩
theorem Keeps.drewN {S : Nat → Prop} {w w' : World} (h : Keeps S w w') (q : Nat) : Keeps S w (w'.drewN q) := ⟨h.os, h.tape, h.output, h.size, h.block⟩
theorem Keeps.alloc {S : Nat → Prop} {w w' : World} (h : Keeps S w w') (o : Obj) : Keeps S w (w'.alloc o) :=
 ⟨h.os, h.tape, h.output, by rw [sizeA]; have := h.size; omega, fun b hb hn => (Below.heap_alloc w' o b (Nat.lt_of_lt_of_le hb h.size)).trans (h.block b hb hn)⟩
theorem Keeps.setCell {S : Nat → Prop} {w w' : World} (h : Keeps S w w') {a : Addr} (ha : S a.block ∨ w.heap.size ≤ a.block) (v : Value) : Keeps S w (w'.setCell a v) :=
 ⟨h.os, h.tape, h.output, by simpa [World.setCell] using h.size, fun b hb hn => (heap_setCell_other w' a b v (fun e => by rcases ha with h1 | h1; exact hn (e ▸ h1); omega)).trans (h.block b hb hn)⟩
theorem Keeps.grown {S : Nat → Prop} {w w' w2 : World} {row : Option Nat} (h : Keeps S w w') (hg : w'.grownBy w2 row) (hr : ∀ k, row = some k → S k ∨ w.heap.size ≤ k) : Keeps S w w2 :=
 h.trans (Keeps.of_grown (S := fun k => row = some k) hg fun _ hk => hk) hr
def IsHT (w : World) (S : Nat → Prop) : HT → Nat → Nat → Prop
 | .leaf s, p, c => S p ∧ w.heap[p]? = some (.cells #[.int .i64 c, .int .i64 s, .pointer none, .pointer none] 44 (0, 0))
 | .node a b, p, c => S p ∧ ∃ pa pb ca cb, w.heap[p]? = some (.cells #[.int .i64 c, .int .i64 0, .pointer (some ⟨pa, 0, none⟩), .pointer (some ⟨pb, 0, none⟩)] 44 (0, 0)) ∧ IsHT w S a pa ca ∧ IsHT w S b pb cb
theorem IsHT.keep {w w' : World} {S T : Nat → Prop} (hk : Keeps T w w') (hT : ∀ b, S b → ¬ T b) : ∀ {t : HT} {p c : Nat}, IsHT w S t p c → IsHT w' S t p c
 | .leaf _, p, _, h => ⟨h.1, hk.obj h.2 (hT p h.1)⟩
 | .node _ _, p, _, ⟨h, pa, pb, ca, cb, h1, h2, h3⟩ => ⟨h, pa, pb, ca, cb, hk.obj h1 (hT p h), IsHT.keep hk hT h2, IsHT.keep hk hT h3⟩
theorem IsHT.weaken {w : World} {S S' : Nat → Prop} (hS : ∀ b, S b → S' b) : ∀ {t : HT} {p c : Nat}, IsHT w S t p c → IsHT w S' t p c
 | .leaf _, p, _, h => ⟨hS p h.1, h.2⟩
 | .node _ _, p, _, ⟨h, pa, pb, ca, cb, h1, h2, h3⟩ => ⟨hS p h, pa, pb, ca, cb, h1, IsHT.weaken hS h2, IsHT.weaken hS h3⟩
theorem IsHT.top {w : World} {S : Nat → Prop} : ∀ {t : HT} {p c : Nat}, IsHT w S t p c → S p ∧ p < w.heap.size ∧ w.cell? ⟨p, 0, none⟩ = some (.int .i64 c)
 | .leaf _, p, _, h => ⟨h.1, (Array.getElem?_eq_some_iff.1 h.2).1, by rw [cell_of_row w p 0 _ _ _ h.2]; rfl⟩
 | .node _ _, p, _, ⟨h, _, _, _, _, h1, _, _⟩ => ⟨h, (Array.getElem?_eq_some_iff.1 h1).1, by rw [cell_of_row w p 0 _ _ _ h1]; rfl⟩
def natV (L : List Nat) : List Value := L.map fun n : Nat => Value.int .i64 n
def OutR (w : World) (bo : Nat) (L : List Nat) : Prop := w.heap[bo]? = some (.cells (natV L).toArray 3 (0, 0))
theorem natV_len (L : List Nat) : (natV L).length = L.length := by simp [natV]
theorem natV_at {L : List Nat} {k : Nat} (h : k < L.length) : (natV L)[k]? = some (.int .i64 (L.getD k 0 : Nat)) := by
 unfold natV
 rw [List.getElem?_map, List.getElem?_eq_getElem h, List.getD_eq_getElem?_getD, List.getElem?_eq_getElem h]; rfl
theorem OutR.cell {w : World} {bo : Nat} {L : List Nat} (h : OutR w bo L) {k : Nat} (hk : k < L.length) : w.cell? ⟨bo, k, none⟩ = some (.int .i64 (L.getD k 0 : Nat)) := by
 rw [cell_of_row w bo k _ _ _ h, List.getElem?_toArray, natV_at hk]
theorem OutR.free {w : World} {bo : Nat} {L : List Nat} (h : OutR w bo L) (k : Nat) : w.frozen? ⟨bo, k, none⟩ = false := frozen_of_row w bo k _ _ h
theorem OutR.lt {w : World} {bo : Nat} {L : List Nat} (h : OutR w bo L) : bo < w.heap.size := (Array.getElem?_eq_some_iff.1 h).1
theorem OutR.set {w : World} {bo : Nat} {L : List Nat} (h : OutR w bo L) (k v : Nat) : OutR (w.setCell ⟨bo, k, none⟩ (.int .i64 v)) bo (L.set k v) := by
 unfold OutR
 rw [heap_setCell_same w bo k _ _ _ h, List.setIfInBounds_toArray]
 unfold natV
 rw [List.map_set]
theorem OutR.keep {w w' : World} {bo : Nat} {L : List Nat} {T : Nat → Prop} (h : OutR w bo L) (hk : Keeps T w w') (hT : ¬ T bo) : OutR w' bo L := hk.obj h hT
theorem OutR.drewN {w : World} {bo : Nat} {L : List Nat} (h : OutR w bo L) (q : Nat) : OutR (w.drewN q) bo L := h
theorem OutR.row {w : World} {bo : Nat} {L : List Nat} (h : OutR w bo L) (hl : L.length ≤ maxLen) : Row w 1 (some ⟨bo, 0, none⟩) L.length L.length (natV L) :=
 ⟨by rw [natV_len, Nat.mul_one], Nat.le_refl _, hl, fun e => (by cases e), fun _ => ⟨bo, 0, rfl, h.lt, fun j u hj => by
   rw [Nat.zero_add, cell_of_row w bo j _ _ _ h, List.getElem?_toArray]; exact hj⟩⟩
end Go.Proofs.Ythmpigmmihiecaa
namespace Go.Proofs.Ythmpigmmihiecaa
open Go.RowKit Go.Sort
structure SB {α : Type} (enc : α → Value) (w0 : World) (g : Nat) (t : TypeId) (rest : List Value) (d : Array α) (w : World) : Prop where
 grown : w0.grownBy w (some g)
 blk : w.heap[g]? = some (.cells (d.toList.map enc ++ rest).toArray t (0, 0))
section
variable {α : Type} {enc : α → Value} {w0 w : World} {g : Nat} {t : TypeId} {rest : List Value} {d : Array α}
theorem SB.cell [Inhabited α] (h : SB enc w0 g t rest d w) (i : Nat) (hi : i < d.size) : w.cell? ⟨g, i, none⟩ = some (enc d[i]!) := by
 rw [cell_of_row w g i _ t (0, 0) h.blk]
 simp [List.getElem?_append, hi]
theorem SB.free (h : SB enc w0 g t rest d w) (i : Nat) : w.frozen? ⟨g, i, none⟩ = false := frozen_of_row w g i _ t h.blk
theorem SB.drewN (h : SB enc w0 g t rest d w) (n : Nat) : SB enc w0 g t rest d (w.drewN n) := ⟨⟨h.grown.os, h.grown.tape, h.grown.output, h.grown.size, h.grown.block⟩, h.blk⟩
theorem grownBy_setCell {w0 w : World} {g i : Nat} (h : w0.grownBy w (some g)) (v : Value) : w0.grownBy (w.setCell ⟨g, i, none⟩ v) (some g) :=
 ⟨h.os, h.tape, h.output, by simp [World.setCell]; exact h.size, fun k hk hne => by rw [heap_setCell_other w ⟨g, i, none⟩ k v (fun e => hne (by simp [e]))]; exact h.block k hk hne⟩
theorem grownBy_trans {a b c : World} {row : Option Nat} (h : a.grownBy b row) (k : b.grownBy c row) : a.grownBy c row :=
 ⟨k.os.trans h.os, k.tape.trans h.tape, k.output.trans h.output, Nat.le_trans h.size k.size, fun i hi hne => (k.block i (Nat.lt_of_lt_of_le hi h.size) hne).trans (h.block i hi hne)⟩
theorem grownBy_refl (w : World) (row : Option Nat) : w.grownBy w row := ⟨rfl, rfl, rfl, Nat.le_refl _, fun _ _ _ => rfl⟩
theorem grownBy_drewN {w0 w : World} {row : Option Nat} (h : w0.grownBy w row) (n : Nat) : w0.grownBy (w.drewN n) row := ⟨h.os, h.tape, h.output, h.size, h.block⟩
theorem SB.set (h : SB enc w0 g t rest d w) (i : Nat) (hi : i < d.size) (x : α) : SB enc w0 g t rest (d.setIfInBounds i x) (w.setCell ⟨g, i, none⟩ (enc x)) := by
 refine ⟨grownBy_setCell h.grown _, ?_⟩
 rw [heap_setCell_same w g i _ t _ h.blk, List.setIfInBounds_toArray, List.set_append]
 simp [hi, List.map_set]
theorem SB.swp [Inhabited α] (h : SB enc w0 g t rest d w) (i j : Nat) (hi : i < d.size) (hj : j < d.size) (q : Nat) :
   SB enc w0 g t rest (swp d i j) (((w.drewN q).setCell ⟨g, i, none⟩ (enc d[j]!)).setCell ⟨g, j, none⟩ (enc d[i]!)) :=
 ((h.drewN q).set i hi _).set j (by simpa using hj) _
theorem SB.row (h : SB enc w0 g t rest d w) {cap : Nat} (h1 : d.size ≤ cap) (h2 : cap ≤ maxLen) : Row w 1 (some ⟨g, 0, none⟩) d.size cap (d.toList.map enc) := by
 refine ⟨by simp, h1, h2, fun e => (by cases e), fun _ => ⟨g, 0, rfl, (Array.getElem?_eq_some_iff.1 h.blk).1, fun j u hj => ?_⟩⟩
 rw [Nat.zero_add, cell_of_row w g j _ t (0, 0) h.blk]
 have hjl := (List.getElem?_eq_some_iff.1 hj).1
 rw [List.getElem?_toArray, List.getElem?_append_left hjl]; exact hj
theorem SB.start {cs : Array Value} {n : Nat} (hb : w.heap[g]? = some (.cells cs t (0, 0))) (hx : cs.toList.take n = d.toList.map enc) : SB enc w g t (cs.toList.drop n) d w :=
 ⟨⟨rfl, rfl, rfl, Nat.le_refl _, fun _ _ _ => rfl⟩, by rw [← hx, List.take_append_drop]; exact hb⟩
end
structure CmpQ {α : Type} (P : Program) (f : FuncId) (cb : Array Value) (enc : α → Value) (cf : α → α → Int) (D : α → Prop) (w0 : World) (g : Nat) : Prop where
 enters : ∀ args w, (callFunc f args).run P w = .ok (.enter f args) w
 calls : ∀ W, w0.grownBy W (some g) → ∀ x y, D x → D y → Calls P f (#[enc x, enc y] ++ cb) W fun e w' => e = .returned (.int .i64 (cf x y)) ∧ ∃ q, w' = W.drewN q
def ltOf {α : Type} (cf : α → α → Int) (x y : α) : Bool := decide (cf x y < 0)
section
variable {α : Type} [Inhabited α] (lt : α → α → Bool)
theorem inner_go (a j : Nat) (d : Array α) (hj : a < j) (hl : lt d[j]! d[j - 1]! = true) : insInner lt a j d = insInner lt a (j - 1) (swp d j (j - 1)) := by
 rcases j with _ | k
 · omega
 · have h1 : (decide (k + 1 > a) && lt d[k + 1]! d[k]!) = true := by simp only [Nat.add_sub_cancel] at hl; simp [hl, hj]
   rw [insInner, if_pos h1]; rfl
theorem inner_stop (a j : Nat) (d : Array α) (h : j ≤ a ∨ lt d[j]! d[j - 1]! = false) : insInner lt a j d = d := by
 rcases j with _ | k
 · rfl
 · rw [insInner, if_neg]
   simp only [Nat.add_sub_cancel] at h
   rcases h with h | h
   · simp; omega
   · simp [h]
theorem outer_go (a b i : Nat) (d : Array α) (h : i < b) : insOuter lt a b i d = insOuter lt a b (i + 1) (insInner lt a i d) := by rw [insOuter, if_pos h]
theorem outer_stop (a b i : Nat) (d : Array α) (h : ¬ i < b) : insOuter lt a b i d = d := by rw [insOuter, if_neg h]
end
end Go.Proofs.Ythmpigmmihiecaa
namespace Go.Proofs.Ythmpigmmihiecaa
open Go.RowKit
set_option maxRecDepth 20000 in
theorem depths_any {S : Nat → Prop} {bo : Nat} (hbo : ¬ S bo) : ∀ (t : HT) (p c d : Nat) (L : List Nat) (w : World), IsHT w S t p c → OutR w bo L → (∀ s ∈ t.leaves, s < L.length) → d + t.leaves.length ≤ 1000000 → L.length ≤ 1000000 →
   Calls Try.prog 13 #[.pointer (some ⟨p, 0, none⟩), .int .i64 d, .slice (some ⟨bo, 0, none⟩) L.length L.length] w fun e w' => e = .returned (.tuple #[]) ∧ OutR w' bo (t.lay d L) ∧ Keeps (fun b => b = bo) w w' := by
 intro t
 induction t with
 | leaf s =>
   intro p c d L w h hO hs hd hL
   have c1 : w.cell? ⟨p, 1, none⟩ = some (.int .i64 s) := by rw [cell_of_row w p 1 _ _ _ h.2]; rfl
   have c2 : w.cell? ⟨p, 2, none⟩ = some (.pointer none) := by rw [cell_of_row w p 2 _ _ _ h.2]; rfl
   have hsl : s < L.length := hs s (by simp [HT.leaves])
   have o1 := hO.cell hsl
   have o2 := hO.free s
   have HO := Lib.hid hO
   have hm : max (1 : Int) (d : Int) = ((max 1 d : Nat) : Int) := by omega
   have hsi : (s : Int) < (L.length : Int) := by omega
   clear h hO hs
   go_enter Try.func13, Try.ntmps13
   go_wp2
   all_goals refine bodyPost_ret (results_none rfl _ _ _) rfl ?_
   · have e : (d : Int) = ((max 1 d : Nat) : Int) := by omega
     rw [e]
     exact ⟨rfl, HO.out.set s (max 1 d), (Keeps.refl (fun b => b = bo) w).setCell (a := ⟨bo, s, none⟩) (.inl rfl) _⟩
   · have e : (1 : Int) = ((max 1 d : Nat) : Int) := by omega
     rw [e]
     exact ⟨rfl, HO.out.set s (max 1 d), (Keeps.refl (fun b => b = bo) w).setCell (a := ⟨bo, s, none⟩) (.inl rfl) _⟩
 | node a b iha ihb =>
   intro p c d L w h hO hs hd hL
   obtain ⟨hp, pa, pb, ca, cb, h1, ha, hb⟩ := h
   have c2 : w.cell? ⟨p, 2, none⟩ = some (.pointer (some ⟨pa, 0, none⟩)) := by rw [cell_of_row w p 2 _ _ _ h1]; rfl
   have c3 : w.cell? ⟨p, 3, none⟩ = some (.pointer (some ⟨pb, 0, none⟩)) := by rw [cell_of_row w p 3 _ _ _ h1]; rfl
   have hpa := HT.leaves_pos a
   have hpb := HT.leaves_pos b
   simp only [HT.leaves, List.length_append] at hd
   have HA := Lib.hid (iha pa ca (d + 1) L w ha hO (fun s h => hs s (by simp [HT.leaves, h])) (by omega) hL)
   have hl2 := HT.lay_len a (d + 1) L
   have HB := Lib.hid (fun (W : World) (hk : Keeps (fun b => b = bo) w W) (hO : OutR W bo (a.lay (d + 1) L)) => ihb pb cb (d + 1) (a.lay (d + 1) L) W (hb.keep hk (fun x hx e => hbo (e ▸ hx))) hO (fun s h => by rw [hl2]; exact hs s (by simp [HT.leaves, h])) (by omega) (by rw [hl2]; exact hL))
   rw [hl2] at HB
   have hpbo : ¬ p = bo := fun e => hbo (e ▸ hp)
   obtain ⟨d1, hd1⟩ : ∃ d1, d1 = d + 1 := ⟨_, rfl⟩
   rw [← hd1] at HA HB
   have i1 : IntKind.i64.wrap ((d : Int) + 1) = (d1 : Int) := by rw [IntWalk.i64_in _ (by omega)]; omega
   have HD1 := Lib.hid hd1
   have HP := Lib.hid h1
   clear h1 ha hb hO hs hl2 hd1 iha ihb
   go_enter Try.func13, Try.ntmps13
   go_wp2_with fail
   refine HA.out.mono ?_
   rintro e w2 ⟨rfl, hO2, hk2⟩
   have c3b := hk2.cell c3 hpbo
   have HB2 := Lib.hid (HB.out w2 hk2 hO2)
   clear HA HB c2 c3
   go_wp2_with fail
   refine HB2.out.mono ?_
   rintro e w3 ⟨rfl, hO3, hk3⟩
   go_wp2_with fail
   go_end0
   rw [HD1.out] at hO3
   exact ⟨rfl, hO3, hk2.trans hk3 (fun _ h => .inl h)⟩
def OwnO (w : World) (base : Nat) (e : TypeId) (v : Value) (xs : List Value) : Prop :=
 ∃ g o cap cur, v = .slice (some ⟨g, o, none⟩) xs.length cap ∧ base ≤ g ∧ w.heap[g]? = some (.cells cur e (0, 0)) ∧ xs.length ≤ cap ∧ o + cap ≤ maxLen ∧ o + cap ≤ cur.size ∧ (cur.toList.drop o).take xs.length = xs
theorem OwnO.of {w : World} {base e : Nat} {v : Value} {n : Nat} {xs : List Value} (h : w.ownsRow base e 1 v n xs) (hn : 0 < n) : OwnO w base e v xs := by
 obtain ⟨h1, h2⟩ := h
 rw [Nat.mul_one] at h1
 rcases h2 with ⟨-, h0⟩ | ⟨g, cap, cur, hv, hb, hg, hc, hm, hs, ht⟩
 · omega
 · rw [Nat.mul_one] at hs ht
   subst h1
   exact ⟨g, 0, cap, cur, hv, hb, hg, hc, by omega, by omega, by rw [List.drop_zero]; exact ht⟩
theorem OwnO.keep {w w' : World} {base e : Nat} {v : Value} {xs : List Value} {S : Nat → Prop} (h : OwnO w base e v xs) (hk : Keeps S w w') (hS : ∀ b, v.ownBlock = some b → ¬ S b) : OwnO w' base e v xs := by
 obtain ⟨g, o, cap, cur, rfl, hb, hg, r⟩ := h
 exact ⟨g, o, cap, cur, rfl, hb, hk.obj hg (hS g rfl), r⟩
theorem OwnO.lt {w : World} {base e : Nat} {v : Value} {xs : List Value} (h : OwnO w base e v xs) : ∀ b, v.ownBlock = some b → base ≤ b ∧ b < w.heap.size := by
 obtain ⟨g, o, cap, cur, rfl, hb, hg, -⟩ := h
 intro b h
 simp [Value.ownBlock] at h
 subst h
 exact ⟨hb, (Array.getElem?_eq_some_iff.1 hg).1⟩
theorem OwnO.row {w : World} {base e : Nat} {v : Value} {xs : List Value} (h : OwnO w base e v xs) : ∃ g o cap, v = .slice (some ⟨g, o, none⟩) xs.length cap ∧ Row w 1 (some ⟨g, o, none⟩) xs.length cap xs ∧ base ≤ g ∧ g < w.heap.size := by
 obtain ⟨g, o, cap, cur, rfl, hb, hg, hc, hm, hs, ht⟩ := h
 refine ⟨g, o, cap, rfl, ⟨by rw [Nat.mul_one], hc, by omega, fun e => (by cases e), fun _ => ⟨g, o, rfl, (Array.getElem?_eq_some_iff.1 hg).1, fun j u hj => ?_⟩⟩, hb, (Array.getElem?_eq_some_iff.1 hg).1⟩
 rw [cell_of_row w g _ _ e (0, 0) hg]
 rw [← ht, List.getElem?_take] at hj
 split at hj
 · rw [List.getElem?_drop] at hj
   rw [← Array.getElem?_toList]; exact hj
 · cases hj
theorem run_append_off {P : Program} (w : World) (t ty e : TypeId) (i : TypeInfo) (ht : P.underlying t = some (.slice e)) (hi : P.info? e = some i) (h1i : i.size = 1)
   (g o sLen sCap : Nat) (cur : Array Value) (hg : w.heap[g]? = some (.cells cur e (0, 0)))
   (a : Addr) (c : Nat) (u : Value) (hu : w.cell? a = some u) (h1 : u.oneCell' = true) (hroom : sLen + 1 ≤ sCap) (hfit : o + sLen + 1 ≤ cur.size) :
   (Builtin.append_ #[t, t] ty #[.slice (some ⟨g, o, none⟩) sLen sCap, .slice (some a) 1 c]).run P w =
     .ok (.slice (some ⟨g, o, none⟩) (sLen + 1) sCap) (w.setRow g (cur.toList.take (o + sLen) ++ [u] ++ cur.toList.drop (o + sLen + 1)).toArray) := by
 have hadd : a.add 0 = a := by cases a; unfold Addr.add; split <;> simp_all
 have hf := run_firstCells_some (P := P) w i.size 1 a 1 c [u] (by rw [h1i]; rfl) (fun j v hj => by
   obtain ⟨rfl, rfl⟩ : j = 0 ∧ v = u := by
     cases j with
     | zero => simp at hj; exact ⟨rfl, hj.symm⟩
     | succ j => simp at hj
   rw [hadd]; exact hu)
 have hst := run_storeCells_at P g (o + sLen) e [u] 0 cur w hg (by simpa using hfit) (fun v hv => by rw [List.mem_singleton.1 hv]; exact h1)
 simp only [Nat.add_zero, List.length_singleton] at hst
 rw [h1i] at hf
 simp only [List.append_assoc, List.singleton_append] at hst ⊢
 simp [Builtin.append_, run_underlying ht, sizeOf, typeInfo, hi, Builtin.lenOf, hroom, hf, Addr.add_lit, hst, h1i]
theorem wp_append_off {P : Program} {w : World} {o : Oper} {a : Act} {K : Act → World → Prop} {Q : Exit → Act → World → Prop} {t e : TypeId} {z : Value} {bytes : Nat} (T : ElemT P t e z 1 bytes)
   (s x : Operand) (ho : o.op = .call { callee := .builtin .append, args := #[s, x], argTypes := #[t, t] })
   (base : Nat) (v : Value) (xs : List Value) (hs : a.eval s = v) (hown : OwnO w base e v xs)
   (ad : Addr) (c : Nat) (u : Value) (hx : a.eval x = .slice (some ad) 1 c) (hu : w.cell? ad = some u) (h1 : u.oneCell' = true)
   (h63 : xs.length + 1 ≤ maxLen) (hbytes : (xs.length + 1) * bytes ≤ 140737488355328) (hbase : base ≤ w.heap.size)
   (h : ∀ g off cap w', OwnO w' base e (.slice (some ⟨g, off, none⟩) (xs.length + 1) cap) (xs ++ [u]) → w.grownBy w' v.ownBlock → v.ownBlock = some g ∨ w.heap.size ≤ g → (∀ b k y, w.cell? ⟨b, k, none⟩ = some y → (∀ g o n c, v = .slice (some ⟨g, o, none⟩) n c → b ≠ g ∨ k < o + n ∨ c ≤ n) → w'.cell? ⟨b, k, none⟩ = some y) → K (a.put o.dst (.slice (some ⟨g, off, none⟩) (xs.length + 1) cap)) w') : o.wp P a w K Q := by
 obtain ⟨i, hi, hz, hs', hb⟩ := info_parts T.info
 subst hb
 have hrow := hown.row
 obtain ⟨g, off, cap, cur, rfl, hbg, hg, hnc, hcm, hcs, htk⟩ := hown
 have hadd : ad.add 0 = ad := by cases ad; unfold Addr.add; split <;> simp_all
 by_cases hroom : xs.length + 1 ≤ cap
 · have hrun := run_append_off (P := P) w t o.type e i T.und hi hs' g off xs.length cap cur hg ad c u hu h1 hroom (by omega)
   unfold Oper.wp
   simp [execOp, ho, resolve, invoke, builtin, hs, hx, hrun, Result.andThen]
   refine h g off cap _ ⟨g, off, cap, (cur.toList.take (off + xs.length) ++ u :: cur.toList.drop (off + xs.length + 1)).toArray, by simp, hbg, ?_, by simpa using hroom, hcm, ?_, ?_⟩ ?_ (.inl rfl) (fun b k y hy hc => ?_)
   · exact setRow_heap w g _ _ e (0, 0) hg
   · simp; omega
   · rw [List.toList_toArray, List.drop_append_of_le_length (by simp; omega), List.length_append, List.length_singleton]
     rw [List.drop_take, show off + xs.length - off = xs.length from by omega, htk]
     rw [show xs ++ u :: cur.toList.drop (off + xs.length + 1) = (xs ++ [u]) ++ cur.toList.drop (off + xs.length + 1) from by simp, List.take_left' (by simp)]
   · exact ⟨rfl, rfl, rfl, by simp [World.setRow], fun k hk hne => setRow_other w g k _ (fun e => hne (by rw [e]; rfl))⟩
   · by_cases hbg : b = g
     · subst hbg
       have hk : k < off + xs.length := by
         rcases hc b off xs.length cap rfl with h1 | h1 | h1
         · exact (h1 rfl).elim
         · exact h1
         · omega
       rw [cell_of_row w b k _ e (0, 0) hg] at hy
       rw [cell_of_row _ b k _ e (0, 0) (setRow_heap w b _ _ e (0, 0) hg)]
       have hkc : k < cur.size := by omega
       rw [List.getElem?_toArray, List.getElem?_append_left (by simp; omega), List.getElem?_take_of_lt hk, Array.getElem?_toList]
       exact hy
     · rw [World.cell?_of_block (w := w) (a := ⟨b, k, none⟩) (setRow_other w g b _ hbg)]
       exact hy
 · have hgrow := run_append_grow (P := P) w t o.type e i z T.und hi hz ⟨g, off, none⟩ xs.length cap xs (by rw [hs', Nat.mul_one]) (fun j v hj => by
     obtain ⟨g2, o2, cap2, e2, hr, -, -⟩ := hrow
     simp only [Value.slice.injEq, Option.some.injEq, Addr.mk.injEq] at e2
     obtain ⟨⟨rfl, rfl, -⟩, -, rfl⟩ := e2
     have hlt : 0 < xs.length := by have := (List.getElem?_eq_some_iff.1 hj).1; omega
     obtain ⟨b, off2, hab, -, hcc⟩ := hr.2.2.2.2 hlt
     simp only [Option.some.injEq, Addr.mk.injEq, and_true] at hab
     obtain ⟨rfl, rfl⟩ := hab
     rw [Addr.add_lit]; exact hcc j v hj) ad 1 c [u] (by rw [hs']; rfl) (fun j v hj => by
     obtain ⟨rfl, rfl⟩ : j = 0 ∧ v = u := by
       cases j with
       | zero => simp at hj; exact ⟨rfl, hj.symm⟩
       | succ j => simp at hj
     rw [hadd]; exact hu) (by omega) (by simp only [maxLen] at h63; omega) (growslice_fits (by omega) hbytes)
   unfold Oper.wp
   simp [execOp, ho, resolve, invoke, builtin, hs, hx, hgrow, Result.andThen]
   have hge := grownCap_ge w (xs.length + 1) cap e
   have hle := grownCap_le_maxLen w (xs.length + 1) cap e h63
   refine h w.heap.size 0 (grownCap w (xs.length + 1) cap e) _ ⟨w.heap.size, 0, grownCap w (xs.length + 1) cap e, _, by simp, hbase, heap_alloc_new w.drew _, by simpa using hge, by omega, ?_, ?_⟩ ?_ (.inr (Nat.le_refl _)) (fun b k y hy _ => ?_)
   · simp [size_zeroCells, T.cells]; omega
   · rw [List.drop_zero]
     simp only [Array.toList_append, List.append_assoc]
     rw [← List.append_assoc, List.take_left' (by simp)]
   · exact ⟨rfl, rfl, rfl, by rw [sizeA]; exact Nat.le_succ _, fun k hk _ => Below.heap_alloc w.drew _ k (show k < w.drew.heap.size from hk)⟩
   · have hlt := World.block_lt_of_cell? w _ hy
     rw [World.cell?_of_block (w := w) (a := ⟨b, k, none⟩) (Below.heap_alloc w.drew _ b (show b < w.drew.heap.size from hlt))]
     exact hy
theorem step_append_off {P : Program} {w : World} {ops : Array Oper} {o : Oper} {a : Act} {K : Act → World → Prop} {Q : Exit → Act → World → Prop} {E : Prop} {t e : TypeId} {z : Value} {bytes : Nat} (T : ElemT P t e z 1 bytes)
   (hgd : o.guard = none) (s x : Operand) (ho : o.op = .call { callee := .builtin .append, args := #[s, x], argTypes := #[t, t] })
   (base : Nat) (v : Value) (xs : List Value) (hs : a.eval s = v) (hown : OwnO w base e v xs)
   (ad : Addr) (c : Nat) (u : Value) (hx : a.eval x = .slice (some ad) 1 c) (hu : w.cell? ad = some u) (h1 : u.oneCell' = true)
   (h63 : xs.length + 1 ≤ maxLen) (hbytes : (xs.length + 1) * bytes ≤ 140737488355328) (hbase : base ≤ w.heap.size)
   (h : ∀ g off cap w', OwnO w' base e (.slice (some ⟨g, off, none⟩) (xs.length + 1) cap) (xs ++ [u]) → w.grownBy w' v.ownBlock → v.ownBlock = some g ∨ w.heap.size ≤ g → (∀ b k y, w.cell? ⟨b, k, none⟩ = some y → (∀ g o n c, v = .slice (some ⟨g, o, none⟩) n c → b ≠ g ∨ k < o + n ∨ c ≤ n) → w'.cell? ⟨b, k, none⟩ = some y) → K (a.put o.dst (.slice (some ⟨g, off, none⟩) (xs.length + 1) cap)) w') :
   if Region.wanted o (yielded ops a.tmps) = true then Oper.wp P o a w K Q else E := by
 have hw : Region.wanted o (yielded ops a.tmps) = true := by simp [Region.wanted, hgd]
 rw [if_pos hw]
 exact wp_append_off T s x ho base v xs hs hown ad c u hx hu h1 h63 hbytes hbase h
theorem OwnO.drop2i {w : World} {base e g o n cap : Nat} {x y : Value} {xs : List Value} (h : OwnO w base e (.slice (some ⟨g, o, none⟩) n cap) (x :: y :: xs)) : OwnO w base e (.slice (if cap = 2 then some ⟨g, o, none⟩ else some ⟨g, o + 2, none⟩) (n - 2) (cap - 2)) xs := by
 obtain ⟨g', o', cap', cur, hv, hb, hg, hc, hm, hs, ht⟩ := h
 simp only [Value.slice.injEq, Option.some.injEq, Addr.mk.injEq, and_true] at hv
 obtain ⟨⟨rfl, rfl⟩, rfl, rfl⟩ := hv
 simp only [List.length_cons] at hc ht ⊢
 by_cases h2 : cap = 2
 · subst h2
   have : xs = [] := List.eq_nil_of_length_eq_zero (by omega)
   subst this
   rw [if_pos rfl]
   exact ⟨g, o, 0, cur, by simp, hb, hg, by simp, by omega, by omega, by simp⟩
 · rw [if_neg h2]
   refine ⟨g, o + 2, cap - 2, cur, by simp, hb, hg, by omega, by omega, by omega, ?_⟩
   have := congrArg (List.drop 2) ht
   rw [List.drop_take, List.drop_drop] at this
   simpa using this
end Go.Proofs.Ythmpigmmihiecaa
namespace Go.Proofs.Ythmpigmmihiecaa
open Go.RowKit Go.Sort
variable {α : Type} [Inhabited α]
theorem inner_eq (lt1 lt2 : α → α → Bool) (a : Nat) : ∀ (j : Nat) (d : Array α), j < d.size → (∀ p, a ≤ p → p < j → lt1 d[j]! d[p]! = lt2 d[j]! d[p]!) → insInner lt1 a j d = insInner lt2 a j d
 | 0, d, _, _ => rfl
 | j + 1, d, hj, h => by
   rw [insInner, insInner]
   by_cases hja : j + 1 > a
   · rw [h j (by omega) (by omega)]
     have ih := inner_eq lt1 lt2 a j (swp d (j + 1) j) (by rw [size_swp]; omega) (fun p hp hpj => by
       rw [swp_right d (j + 1) j (by omega), swp_other d (j + 1) j p (by omega) (by omega)]
       exact h p hp (by omega))
     rw [ih]
   · simp [hja]
theorem outer_eq (lt1 lt2 : α → α → Bool) (hS : SWO lt2) (a b : Nat) (d0 : Array α) (hb : b ≤ d0.size) (h : ∀ p q, a ≤ p → p < q → q < b → lt1 d0[q]! d0[p]! = lt2 d0[q]! d0[p]!) :
   ∀ (n i : Nat) (d : Array α), b - i = n → a < i → PermIn a i d0 d → SortedIn lt2 a i d → insOuter lt1 a b i d = insOuter lt2 a b i d
 | 0, i, d, hn, _, _, _ => by rw [outer_stop _ _ _ _ _ (by omega), outer_stop _ _ _ _ _ (by omega)]
 | n + 1, i, d, hn, hai, hP, hs => by
   have hib : i < b := by omega
   have e : insInner lt1 a i d = insInner lt2 a i d := inner_eq lt1 lt2 a i d (by rw [hP.1]; omega) (fun p hp hpi => by
     rw [hP.2.1 i (by omega)]
     exact permIn_all d0 d a i (fun x => lt1 d0[i]! x = lt2 d0[i]! x) (by omega) hP (fun q hq hqi => h q i hq hqi hib) p hp hpi)
   have h1 := insInner_spec hS swp_permIn permIn_refl permIn_trans a b i hib i d (by omega) (Nat.le_refl _) (by rw [hP.1]; exact hb) ⟨fun p q hap hpq hqi _ hq => hs p q hap hpq (by omega), fun q h1 h2 => by omega⟩
   rw [outer_go _ _ _ _ _ hib, outer_go _ _ _ _ _ hib, e]
   have hP1 := insInner_spec hS swp_permIn permIn_refl permIn_trans a (i + 1) i (by omega) i d (by omega) (Nat.le_refl _) (by rw [hP.1]; omega) ⟨fun p q hap hpq hqi _ hq => hs p q hap hpq (by omega), fun q h1 h2 => by omega⟩
   refine outer_eq lt1 lt2 hS a b d0 hb h n (i + 1) _ (by omega) (by omega) (permIn_trans _ _ _ _ _ (permIn_mono d0 d a i a (i + 1) (by omega) (by omega) (by omega) hP) hP1.1) hP1.2
theorem ins_stable (lt1 lt2 : α → α → Bool) (hS : SWO lt2) (a b : Nat) (d : Array α) (hab : a ≤ b) (hb : b ≤ d.size) (h : ∀ p q, a ≤ p → p < q → q < b → lt1 d[q]! d[p]! = lt2 d[q]! d[p]!) :
   PermIn a b d (Sort.insertionSort lt1 d a b) ∧ SortedIn lt2 a b (Sort.insertionSort lt1 d a b) := by
 have e : Sort.insertionSort lt1 d a b = Sort.insertionSort lt2 d a b := by
   unfold Sort.insertionSort
   by_cases hb2 : a + 1 ≤ b
   · exact outer_eq lt1 lt2 hS a b d hb h _ (a + 1) d rfl (by omega) (permIn_refl _ _ _) (fun i j h1 h2 h3 => by omega)
   · rw [outer_stop _ _ _ _ _ (by omega), outer_stop _ _ _ _ _ (by omega)]
 rw [e]
 exact insertionSort_holds hS d a b hab hb
variable {α : Type} [Inhabited α]
def swR (d : Array α) (a b n k : Nat) : α := if a ≤ k ∧ k < a + n then d[k - a + b]! else if b ≤ k ∧ k < b + n then d[k - b + a]! else d[k]!
theorem swR_zero (d : Array α) (a b k : Nat) : swR d a b 0 k = d[k]! := by
 unfold swR
 rw [if_neg (by omega), if_neg (by omega)]
theorem swR_step (d R : Array α) (a b n i : Nat) (hi : i < n) (hab : a + n ≤ b) (hb : b + n ≤ R.size) (hR : ∀ k, R[k]! = swR d a b i k) (k : Nat) : (swp R (a + i) (b + i))[k]! = swR d a b (i + 1) k := by
 by_cases h1 : k = a + i
 · subst h1
   rw [swp_left _ _ _ (by omega) (by omega), hR]
   unfold swR
   rw [if_neg (by omega), if_neg (by omega), if_pos (by omega)]
   exact congrArg (fun i => d[i]!) (by omega)
 · by_cases h2 : k = b + i
   · subst h2
     rw [swp_right _ _ _ (by omega), hR]
     unfold swR
     rw [if_neg (by omega), if_neg (by omega), if_neg (by omega), if_pos (by omega)]
     exact congrArg (fun i => d[i]!) (by omega)
   · rw [swp_other _ _ _ _ h1 h2, hR]
     unfold swR
     repeat' split
     all_goals first
       | rfl
       | (exfalso; omega)
def rotF (d : Array α) (a m b k : Nat) : α := if a ≤ k ∧ k < a + (b - m) then d[k + (m - a)]! else if a + (b - m) ≤ k ∧ k < b then d[k - (b - m)]! else d[k]!
theorem rot_gt (d R : Array α) (m i j : Nat) (hij : j < i) (him : i ≤ m) (hR : ∀ k, R[k]! = swR d (m - i) m j k) (k : Nat) : rotF R (m - (i - j)) m (m + j) k = rotF d (m - i) m (m + j) k := by
 unfold rotF
 simp only [hR, swR]
 repeat' split
 all_goals first
   | (exfalso; omega)
   | exact congrArg (fun i => d[i]!) (by omega)
theorem rot_lt (d R : Array α) (m i j : Nat) (hij : i < j) (him : i ≤ m) (hR : ∀ k, R[k]! = swR d (m - i) (m + j - i) i k) (k : Nat) : rotF R (m - i) m (m + (j - i)) k = rotF d (m - i) m (m + j) k := by
 unfold rotF
 simp only [hR, swR]
 repeat' split
 all_goals first
   | (exfalso; omega)
   | exact congrArg (fun i => d[i]!) (by omega)
theorem rot_eq (d R : Array α) (m i : Nat) (him : i ≤ m) (hR : ∀ k, R[k]! = swR d (m - i) m i k) (k : Nat) : R[k]! = rotF d (m - i) m (m + i) k := by
 unfold rotF
 simp only [hR, swR]
 repeat' split
 all_goals first
   | (exfalso; omega)
   | exact congrArg (fun i => d[i]!) (by omega)
variable {lt : α → α → Bool}
omit [Inhabited α] in
theorem chain3 (hS : SWO lt) {y u v x : α} (h1 : lt y u = false) (h2 : lt u v = false) (h3 : lt v x = false) : lt y x = false := hS.ntrans _ _ _ (hS.ntrans _ _ _ h1 h2) h3
theorem sorted_le (hS : SWO lt) {a b i j : Nat} {d : Array α} (h : SortedIn lt a b d) (hai : a ≤ i) (hij : i ≤ j) (hjb : j < b) : lt d[j]! d[i]! = false := by
 rcases Nat.lt_or_eq_of_le hij with h1 | h1
 · exact h i j hai h1 hjb
 · subst h1; exact hS.irrefl _
def Agree (lt1 lt : α → α → Bool) (d : Array α) (a m b : Nat) : Prop := ∀ p q, a ≤ p → p < m → m ≤ q → q < b → lt1 d[q]! d[p]! = lt d[q]! d[p]!
theorem merge_done (hS : SWO lt) (d R R1 R2 : Array α) (a m b s e : Nat) (has : a ≤ s) (hsm : s ≤ m) (hme : m ≤ e) (heb : e ≤ b) (hb : b ≤ d.size) (hsz : R.size = d.size)
   (h1 : SortedIn lt a m d) (h2 : SortedIn lt m b d) (hR : ∀ k, R[k]! = rotF d s m e k)
   (H1 : a < s → e < b → lt d[e]! d[s - 1]! = false) (H2 : s < m → m < e → lt d[s]! d[e - 1]! = false)
   (p1 : PermIn a (s + (e - m)) R R1) (s1 : SortedIn lt a (s + (e - m)) R1) (p2 : PermIn (s + (e - m)) b R1 R2) (s2 : SortedIn lt (s + (e - m)) b R2) : SortedIn lt a b R2 := by
 have hmid : s + (e - m) ≤ b := by omega
 have lowx : ∀ k, a ≤ k → k < s + (e - m) → (∃ q, a ≤ q ∧ q < s ∧ R[k]! = d[q]!) ∨ (∃ q, m ≤ q ∧ q < e ∧ R[k]! = d[q]!) := by
   intro k hk1 hk2
   rw [hR, rotF]
   by_cases hks : k < s
   · left; exact ⟨k, hk1, hks, by rw [if_neg (by omega), if_neg (by omega)]⟩
   · right; exact ⟨k + (m - s), by omega, by omega, by rw [if_pos (by omega)]⟩
 have upx : ∀ k, s + (e - m) ≤ k → k < b → (∃ q, s ≤ q ∧ q < m ∧ R[k]! = d[q]!) ∨ (∃ q, e ≤ q ∧ q < b ∧ R[k]! = d[q]!) := by
   intro k hk1 hk2
   rw [hR, rotF]
   by_cases hke : k < e
   · left; exact ⟨k - (e - m), by omega, by omega, by rw [if_neg (by omega), if_pos (by omega)]⟩
   · right; exact ⟨k, by omega, hk2, by rw [if_neg (by omega), if_neg (by omega)]⟩
 have cross : ∀ i j, a ≤ i → i < s + (e - m) → s + (e - m) ≤ j → j < b → lt R[j]! R[i]! = false := by
   intro i j hi1 hi2 hj1 hj2
   rcases lowx i hi1 hi2 with ⟨q, q1, q2, hq⟩ | ⟨q, q1, q2, hq⟩ <;> rcases upx j hj1 hj2 with ⟨r, r1, r2, hr⟩ | ⟨r, r1, r2, hr⟩ <;> rw [hq, hr]
   · exact sorted_le hS h1 q1 (by omega) r2
   · exact chain3 hS (sorted_le hS h2 (by omega) r1 r2) (H1 (by omega) (by omega)) (sorted_le hS h1 q1 (by omega) (by omega))
   · exact chain3 hS (sorted_le hS h1 (by omega) r1 r2) (H2 (by omega) (by omega)) (sorted_le hS h2 q1 (by omega) (by omega))
   · exact sorted_le hS h2 q1 (by omega) r2
 have l1 : ∀ i, a ≤ i → i < s + (e - m) → ∀ j, s + (e - m) ≤ j → j < b → lt R[j]! R1[i]! = false := fun i hi1 hi2 j hj1 hj2 =>
   permIn_all R R1 a (s + (e - m)) (fun x => lt R[j]! x = false) (by omega) p1 (fun i h1 h2 => cross i j h1 h2 hj1 hj2) i hi1 hi2
 have l2 : ∀ i, a ≤ i → i < s + (e - m) → ∀ j, s + (e - m) ≤ j → j < b → lt R1[j]! R1[i]! = false := fun i hi1 hi2 j hj1 hj2 => by
   rw [p1.2.1 j (by omega)]; exact l1 i hi1 hi2 j hj1 hj2
 have l3 : ∀ i, a ≤ i → i < s + (e - m) → ∀ j, s + (e - m) ≤ j → j < b → lt R2[j]! R1[i]! = false := fun i hi1 hi2 =>
   permIn_all R1 R2 (s + (e - m)) b (fun x => lt x R1[i]! = false) (by rw [p1.1]; omega) p2 (fun j h1 h2 => l2 i hi1 hi2 j h1 h2)
 intro i j hai hij hjb
 by_cases hj : j < s + (e - m)
 · rw [p2.2.1 i (by omega), p2.2.1 j (by omega)]; exact s1 i j hai hij hj
 · by_cases hi : i < s + (e - m)
   · rw [p2.2.1 i (by omega)]; exact l3 i hai hi j (by omega) hjb
   · exact s2 i j (by omega) hij hjb
theorem left_done (hS : SWO lt) (d R : Array α) (a b i : Nat) (hi : a + 1 ≤ i) (hib : i ≤ b) (h2 : SortedIn lt (a + 1) b d) (hlt : ∀ q, a + 1 ≤ q → q < i → lt d[q]! d[a]! = true) (hge : ∀ q, i ≤ q → q < b → lt d[q]! d[a]! = false)
   (hR : ∀ k, R[k]! = if a ≤ k ∧ k < i - 1 then d[k + 1]! else if k = i - 1 then d[a]! else d[k]!) : SortedIn lt a b R := by
 intro p q hap hpq hqb
 rw [hR p, hR q]
 have asym : ∀ x y, lt x y = true → lt y x = false := fun x y h => by
   cases h2 : lt y x with
   | false => rfl
   | true => have := hS.trans _ _ _ h h2; rw [hS.irrefl] at this; cases this
 by_cases c1 : q < i - 1
 · rw [if_pos (by omega), if_pos (by omega)]; exact h2 _ _ (by omega) (by omega) (by omega)
 · by_cases c2 : q = i - 1
   · rw [if_neg (by omega), if_pos c2, if_pos (by omega)]
     exact asym _ _ (hlt _ (by omega) (by omega))
   · rw [if_neg (by omega), if_neg c2]
     by_cases c3 : p < i - 1
     · rw [if_pos (by omega)]; exact h2 _ _ (by omega) (by omega) hqb
     · by_cases c4 : p = i - 1
       · rw [if_neg (by omega), if_pos c4]; exact hge q (by omega) hqb
       · rw [if_neg (by omega), if_neg c4]; exact h2 _ _ (by omega) hpq hqb
theorem right_done (hS : SWO lt) (d R : Array α) (a m i : Nat) (hai : a ≤ i) (him : i ≤ m) (h1 : SortedIn lt a m d) (hge : ∀ q, a ≤ q → q < i → lt d[m]! d[q]! = false) (hlt : ∀ q, i ≤ q → q < m → lt d[m]! d[q]! = true)
   (hR : ∀ k, R[k]! = if i < k ∧ k ≤ m then d[k - 1]! else if k = i then d[m]! else d[k]!) : SortedIn lt a (m + 1) R := by
 intro p q hap hpq hqb
 rw [hR p, hR q]
 have asym : ∀ x y, lt x y = true → lt y x = false := fun x y h => by
   cases h2 : lt y x with
   | false => rfl
   | true => have := hS.trans _ _ _ h h2; rw [hS.irrefl] at this; cases this
 by_cases c1 : i < q
 · rw [if_pos (by omega)]
   by_cases c2 : i < p
   · rw [if_pos (by omega)]; exact h1 _ _ (by omega) (by omega) (by omega)
   · by_cases c3 : p = i
     · rw [if_neg (by omega), if_pos c3]; exact asym _ _ (hlt _ (by omega) (by omega))
     · rw [if_neg (by omega), if_neg c3]; exact h1 _ _ hap (by omega) (by omega)
 · by_cases c2 : q = i
   · rw [if_neg (by omega), if_pos c2, if_neg (by omega), if_neg (by omega)]; exact hge _ hap (by omega)
   · rw [if_neg (by omega), if_neg c2, if_neg (by omega), if_neg (by omega)]; exact h1 _ _ hap hpq (by omega)
theorem low_all (hS : SWO lt) {d : Array α} {m b h : Nat} {x : α} (hs : SortedIn lt m b d) (hh : h < b) (hx : lt d[h]! x = true) : ∀ q, m ≤ q → q ≤ h → lt d[q]! x = true := by
 intro q h1 h2
 cases hq : lt d[q]! x with
 | true => rfl
 | false => have := hS.ntrans _ _ _ (sorted_le hS hs h1 h2 hh) hq; rw [hx] at this; cases this
theorem high_all (hS : SWO lt) {d : Array α} {m b h : Nat} {x : α} (hs : SortedIn lt m b d) (hm : m ≤ h) (hx : lt d[h]! x = false) : ∀ q, h ≤ q → q < b → lt d[q]! x = false :=
 fun _ h1 h2 => hS.ntrans _ _ _ (sorted_le hS hs hm h1 h2) hx
theorem low_all' (hS : SWO lt) {d : Array α} {a m h : Nat} {x : α} (hs : SortedIn lt a m d) (hh : h < m) (hx : lt x d[h]! = false) : ∀ q, a ≤ q → q ≤ h → lt x d[q]! = false :=
 fun _ h1 h2 => hS.ntrans _ _ _ hx (sorted_le hS hs h1 h2 hh)
theorem high_all' (hS : SWO lt) {d : Array α} {a m h : Nat} {x : α} (hs : SortedIn lt a m d) (hm : a ≤ h) (hx : lt x d[h]! = true) : ∀ q, h ≤ q → q < m → lt x d[q]! = true := by
 intro q h1 h2
 cases hq : lt x d[q]! with
 | true => rfl
 | false => have := hS.ntrans _ _ _ hq (sorted_le hS hs hm h1 h2); rw [hx] at this; cases this
structure SBo {α : Type} (enc : α → Value) (w0 : World) (g : Nat) (t : TypeId) (rest pre : List Value) (o : Nat) (d : Array α) (w : World) : Prop where
 grown : w0.grownBy w (some g)
 blk : w.heap[g]? = some (.cells (pre ++ (d.toList.map enc ++ rest)).toArray t (0, 0))
 len : pre.length = o
section
variable {α : Type} {enc : α → Value} {w0 w : World} {g : Nat} {t : TypeId} {rest pre : List Value} {o : Nat} {d : Array α}
theorem SBo.cell [Inhabited α] (h : SBo enc w0 g t rest pre o d w) (i : Nat) (hi : i < d.size) : w.cell? ⟨g, o + i, none⟩ = some (enc d[i]!) := by
 rw [cell_of_row w g _ _ t (0, 0) h.blk]
 have hl := h.len
 rw [List.getElem?_toArray, List.getElem?_append_right (by omega), show o + i - pre.length = i by omega]
 simp [List.getElem?_append, hi]
theorem SBo.free (h : SBo enc w0 g t rest pre o d w) (i : Nat) : w.frozen? ⟨g, o + i, none⟩ = false := frozen_of_row w g _ _ t h.blk
theorem SBo.drewN (h : SBo enc w0 g t rest pre o d w) (n : Nat) : SBo enc w0 g t rest pre o d (w.drewN n) := ⟨⟨h.grown.os, h.grown.tape, h.grown.output, h.grown.size, h.grown.block⟩, h.blk, h.len⟩
theorem SBo.set (h : SBo enc w0 g t rest pre o d w) (i : Nat) (hi : i < d.size) (x : α) : SBo enc w0 g t rest pre o (d.setIfInBounds i x) (w.setCell ⟨g, o + i, none⟩ (enc x)) := by
 refine ⟨grownBy_setCell h.grown _, ?_, h.len⟩
 have hl := h.len
 rw [heap_setCell_same w g _ _ t _ h.blk, List.setIfInBounds_toArray, List.set_append_right _ _ (by omega), show o + i - pre.length = i by omega, List.set_append]
 simp [hi, List.map_set]
theorem SBo.swp [Inhabited α] (h : SBo enc w0 g t rest pre o d w) (i j : Nat) (hi : i < d.size) (hj : j < d.size) (q : Nat) :
   SBo enc w0 g t rest pre o (swp d i j) (((w.drewN q).setCell ⟨g, o + i, none⟩ (enc d[j]!)).setCell ⟨g, o + j, none⟩ (enc d[i]!)) :=
 ((h.drewN q).set i hi _).set j (by simpa using hj) _
end
theorem swapR_anyN {α : Type} [Inhabited α] (enc : α → Value) (hE : ∀ x, ∃ n, enc x = .pointer n) (F : Value) (g cap a b n : Nat) (rest pre : List Value) (o : Nat) (d : Array α) (w0 w : World)
   (hS : SBo enc w0 g 42 rest pre o d w) (hab : a + n ≤ b) (hb : b + n ≤ d.size) (hsz : d.size < 4611686018427387904) :
   Calls Try.prog 66 #[.slice (some ⟨g, o, none⟩) d.size cap, .int .i64 a, .int .i64 b, .int .i64 n, F] w fun e w' => e = .returned (.tuple #[]) ∧ ∃ R : Array α, R.size = d.size ∧ SBo enc w0 g 42 rest pre o R w' ∧ (∀ k, R[k]! = swR d a b n k) ∧ PermIn a (b + n) d R := by
 have HS := Lib.hid hS
 clear hS
 go_enter Try.func66, Try.ntmps66
 go_wp2
 go_loopw [10] (fun vi wr => ∃ (i : Nat) (dk : Array α), vi = .int .i64 i ∧ i ≤ n ∧ dk.size = d.size ∧ Hid (SBo enc w0 g 42 rest pre o dk wr) ∧ Hid (∀ k, dk[k]! = swR d a b i k) ∧ Hid (PermIn a (b + n) d dk)) (fun vi _ => n - (intOf vi).toNat)
 case atStart => exact ⟨0, d, rfl, by omega, rfl, HS, Lib.hid (fun k => (swR_zero d a b k).symm), Lib.hid (permIn_refl _ _ _)⟩
 case round =>
   obtain ⟨i, dk, rfl, hin, hsk, HSk, HR, HP⟩ := hrel
   clear HS
   by_cases hlt : i < n
   · have hc1 := HSk.out.cell (a + i) (by omega)
     have hc2 := HSk.out.cell (b + i) (by omega)
     have hf1 := HSk.out.free (a + i)
     have hf2 := HSk.out.free (b + i)
     obtain ⟨X, hX⟩ : ∃ X, X = dk[a + i]! := ⟨_, rfl⟩
     obtain ⟨Y, hY⟩ : ∃ Y, Y = dk[b + i]! := ⟨_, rfl⟩
     rw [← hX] at hc1
     rw [← hY] at hc2
     have HX := Lib.hid hX
     have HY := Lib.hid hY
     obtain ⟨x, hx⟩ := hE X
     obtain ⟨y, hy⟩ := hE Y
     rw [hx] at hc1
     rw [hy] at hc2
     have HEx := Lib.hid hx
     have HEy := Lib.hid hy
     clear hx hy hX hY
     have hj1 : ((a : Int) + (i : Int)).toNat = a + i := by omega
     have hj2 : ((b : Int) + (i : Int)).toNat = b + i := by omega
     have hb1 : (a : Int) + (i : Int) < (d.size : Int) := by omega
     have hb2 : (b : Int) + (i : Int) < (d.size : Int) := by omega
     go_wp2
     go_region
     all_goals go_wp2
     go_roundw
     case rel =>
       refine ⟨i + 1, swp dk (a + i) (b + i), by go_num, by omega, by rw [size_swp]; exact hsk, ?_, Lib.hid (swR_step d dk a b n i hlt hab (by omega) HR.out), Lib.hid (permIn_trans _ _ _ _ _ HP.out (swp_permIn dk a (b + n) (a + i) (b + i) (by omega) (by omega) (by omega) (by omega) (by omega)))⟩
       have hw := HSk.out.swp (a + i) (b + i) (by omega) (by omega) 1
       rw [← HX.out, ← HY.out, HEx.out, HEy.out] at hw
       exact Lib.hid hw
     case measure => simp [intOf]; omega
   · obtain rfl : n = i := by omega
     go_wp2
     go_end0
     exact ⟨rfl, dk, hsk, HSk.out, HR.out, HP.out⟩
theorem rot_anyN {α : Type} [Inhabited α] (enc : α → Value) (hE : ∀ x, ∃ n, enc x = .pointer n) (F : Value) (g cap a m b : Nat) (rest pre : List Value) (o : Nat) (d : Array α) (w0 w : World)
   (hS : SBo enc w0 g 42 rest pre o d w) (ham : a < m) (hmb : m < b) (hb : b ≤ d.size) (hsz : d.size < 4611686018427387904) :
   Calls Try.prog 59 #[.slice (some ⟨g, o, none⟩) d.size cap, .int .i64 a, .int .i64 m, .int .i64 b, F] w fun e w' => e = .returned (.tuple #[]) ∧ ∃ R : Array α, R.size = d.size ∧ SBo enc w0 g 42 rest pre o R w' ∧ (∀ k, R[k]! = rotF d a m b k) ∧ PermIn a b d R := by
 have HS := Lib.hid hS
 clear hS
 go_enter Try.func59, Try.ntmps59
 go_wp2
 go_loopw [10, 11] (fun vi vj wr => ∃ (i j : Nat) (dk : Array α), vi = .int .i64 i ∧ vj = .int .i64 j ∧ 0 < i ∧ 0 < j ∧ i ≤ m - a ∧ j ≤ b - m ∧ dk.size = d.size ∧ Hid (SBo enc w0 g 42 rest pre o dk wr) ∧ Hid (∀ k, rotF dk (m - i) m (m + j) k = rotF d a m b k) ∧ Hid (PermIn a b d dk)) (fun vi vj _ => (intOf vi).toNat + (intOf vj).toNat)
 case atStart => exact ⟨m - a, b - m, d, by go_num, by go_num, by omega, by omega, by omega, by omega, rfl, HS, Lib.hid (fun k => by rw [show m - (m - a) = a from by omega, show m + (b - m) = b from by omega]), Lib.hid (permIn_refl _ _ _)⟩
 case round =>
   obtain ⟨i, j, dk, rfl, rfl, hi, hj, him, hjm, hsk, HSk, HR, HP⟩ := hrel
   clear HS
   have hmi : ((m - i : Nat) : Int) = (m : Int) - i := by omega
   by_cases hgt : j < i
   · have hsw := swapR_anyN enc hE F g cap (m - i) m j rest pre o dk w0 wr HSk.out (by omega) (by omega) (by omega)
     rw [hmi, hsk] at hsw
     have HSW := Lib.hid hsw
     have hne : ((i : Int) == (j : Int)) = false := by rw [beq_eq_false_iff_ne]; omega
     clear hsw
     go_wp2_with (go_at_call 66; refine HSW.out.mono ?_; rintro e w2 ⟨rfl, R, hRs, hRB, hRk, hRP⟩; have HB2 := Lib.hid hRB; have HK2 := Lib.hid hRk; have HP2 := Lib.hid hRP; clear hRB hRk hRP)
     go_roundw
     case rel => exact ⟨i - j, j, R, by go_num, rfl, by omega, by omega, by omega, by omega, hRs, HB2, Lib.hid (fun k => by rw [rot_gt dk R m i j hgt (by omega) HK2.out k]; exact HR.out k), Lib.hid (permIn_trans _ _ _ _ _ HP.out (permIn_mono dk R (m - i) (m + j) a b (by omega) (by omega) (by omega) HP2.out))⟩
     case measure => simp [intOf]; omega
   · by_cases hlt : i < j
     · have hsw := swapR_anyN enc hE F g cap (m - i) (m + j - i) i rest pre o dk w0 wr HSk.out (by omega) (by omega) (by omega)
       rw [hmi, hsk, show ((m + j - i : Nat) : Int) = (m : Int) + j - i from by omega] at hsw
       have HSW := Lib.hid hsw
       have hne : ((i : Int) == (j : Int)) = false := by rw [beq_eq_false_iff_ne]; omega
       clear hsw
       go_wp2_with (go_at_call 66; refine HSW.out.mono ?_; rintro e w2 ⟨rfl, R, hRs, hRB, hRk, hRP⟩; have HB2 := Lib.hid hRB; have HK2 := Lib.hid hRk; have HP2 := Lib.hid hRP; clear hRB hRk hRP)
       go_roundw
       case rel => exact ⟨i, j - i, R, rfl, by go_num, by omega, by omega, by omega, by omega, hRs, HB2, Lib.hid (fun k => by rw [rot_lt dk R m i j hlt (by omega) HK2.out k]; exact HR.out k), Lib.hid (permIn_trans _ _ _ _ _ HP.out (permIn_mono dk R (m - i) (m + j - i + i) a b (by omega) (by omega) (by omega) HP2.out))⟩
       case measure => simp [intOf]; omega
     · obtain rfl : i = j := by omega
       have hsw := swapR_anyN enc hE F g cap (m - i) m i rest pre o dk w0 wr HSk.out (by omega) (by omega) (by omega)
       rw [hmi, hsk] at hsw
       have HSW := Lib.hid hsw
       clear hsw
       go_wp2_with (go_at_call 66; refine HSW.out.mono ?_; rintro e w2 ⟨rfl, R, hRs, hRB, hRk, hRP⟩; have HB2 := Lib.hid hRB; have HK2 := Lib.hid hRk; have HP2 := Lib.hid hRP; clear hRB hRk hRP)
       go_end0
       exact ⟨rfl, R, hRs, HB2.out, fun k => by rw [rot_eq dk R m i (by omega) HK2.out k]; exact HR.out k, permIn_trans _ _ _ _ _ HP.out (permIn_mono dk R (m - i) (m + i) a b (by omega) (by omega) (by omega) HP2.out)⟩
variable {α : Type} [Inhabited α]
def shlF (d : Array α) (a k q : Nat) : α := if a ≤ q ∧ q < k then d[q + 1]! else if q = k then d[a]! else d[q]!
theorem shlF_zero (d : Array α) (a q : Nat) : shlF d a a q = d[q]! := by
 unfold shlF
 rw [if_neg (by omega)]
 split
 · rename_i h; rw [h]
 · rfl
theorem shlF_step (d R : Array α) (a k : Nat) (hak : a ≤ k) (hk : k + 1 < R.size) (hR : ∀ q, R[q]! = shlF d a k q) (q : Nat) : (swp R k (k + 1))[q]! = shlF d a (k + 1) q := by
 by_cases h1 : q = k
 · subst h1
   rw [swp_left _ _ _ (by omega) (by omega), hR]
   unfold shlF
   rw [if_neg (by omega), if_neg (by omega), if_pos (by omega)]
 · by_cases h2 : q = k + 1
   · subst h2
     rw [swp_right _ _ _ (by omega), hR]
     unfold shlF
     rw [if_neg (by omega), if_pos rfl, if_neg (by omega), if_pos rfl]
   · rw [swp_other _ _ _ _ h1 h2, hR]
     unfold shlF
     repeat' split
     all_goals first
       | rfl
       | (exfalso; omega)
def shrF (d : Array α) (m k q : Nat) : α := if k < q ∧ q ≤ m then d[q - 1]! else if q = k then d[m]! else d[q]!
theorem shrF_zero (d : Array α) (m q : Nat) : shrF d m m q = d[q]! := by
 unfold shrF
 rw [if_neg (by omega)]
 split
 · rename_i h; rw [h]
 · rfl
theorem shrF_step (d R : Array α) (m k : Nat) (hkm : k + 1 ≤ m) (hk : k + 1 < R.size) (hR : ∀ q, R[q]! = shrF d m (k + 1) q) (q : Nat) : (swp R (k + 1) k)[q]! = shrF d m k q := by
 by_cases h1 : q = k + 1
 · subst h1
   rw [swp_left _ _ _ (by omega) (by omega), hR]
   unfold shrF
   rw [if_neg (by omega), if_neg (by omega), if_pos (by omega)]
   exact congrArg (fun i => d[i]!) (by omega)
 · by_cases h2 : q = k
   · subst h2
     rw [swp_right _ _ _ (by omega), hR]
     unfold shrF
     rw [if_neg (by omega), if_pos rfl, if_neg (by omega), if_pos rfl]
   · rw [swp_other _ _ _ _ h1 h2, hR]
     unfold shrF
     repeat' split
     all_goals first
       | rfl
       | (exfalso; omega)
theorem rot_none (d : Array α) (s m e : Nat) (hsm : s ≤ m) (hme : m ≤ e) (h : s = m ∨ m = e) (k : Nat) : d[k]! = rotF d s m e k := by
 unfold rotF
 repeat' split
 all_goals first
   | rfl
   | (exfalso; omega)
   | exact congrArg (fun i => d[i]!) (by omega)
variable {lt lt1 : α → α → Bool}
theorem sorted_of {d R : Array α} {a b f : Nat} (lo hi : Nat) (h : SortedIn lt a b d) (hlo : a ≤ f) (hhi : f + (hi - lo) ≤ b) (hR : ∀ k, lo ≤ k → k < hi → R[k]! = d[f + (k - lo)]!) : SortedIn lt lo hi R := fun i j h1 h2 h3 => by
 rw [hR i h1 (by omega), hR j (by omega) h3]
 exact h _ _ (by omega) (by omega) (by omega)
section
variable {d R : Array α} {a m b s e : Nat} (hR : ∀ k, R[k]! = rotF d s m e k) (has : a ≤ s) (hsm : s ≤ m) (hme : m ≤ e) (heb : e ≤ b) (h1 : SortedIn lt a m d) (h2 : SortedIn lt m b d)
include hR in
theorem part1 (k : Nat) (h : k < s) : R[k]! = d[k]! := by
 rw [hR, rotF, if_neg (by omega), if_neg (by omega)]
include hR hsm in
theorem part2 (k : Nat) (h1 : s ≤ k) (h2 : k < s + (e - m)) : R[k]! = d[m + (k - s)]! := by
 rw [hR, rotF, if_pos (by omega)]
 exact congrArg (fun i => d[i]!) (by omega)
include hR in
theorem part3 (k : Nat) (h1 : s + (e - m) ≤ k) (h2 : k < e) : R[k]! = d[s + (k - (s + (e - m)))]! := by
 rw [hR, rotF, if_neg (by omega), if_pos (by omega)]
 exact congrArg (fun i => d[i]!) (by omega)
include hR hsm hme in
theorem part4 (k : Nat) (h1 : e ≤ k) : R[k]! = d[k]! := by
 rw [hR, rotF, if_neg (by omega), if_neg (by omega)]
include hR has hsm h1 in
theorem sp1 : SortedIn lt a s R := sorted_of (f := a) a s h1 (Nat.le_refl _) (by omega) (fun k h3 h4 => by rw [part1 hR k h4]; exact congrArg (fun i => d[i]!) (by omega))
include hR hsm hme heb h2 in
theorem sp2 : SortedIn lt s (s + (e - m)) R := sorted_of (f := m) _ _ h2 (Nat.le_refl _) (by omega) (fun k h3 h4 => part2 hR hsm k h3 h4)
include hR has hsm hme h1 in
theorem sp3 : SortedIn lt (s + (e - m)) e R := sorted_of (f := s) _ _ h1 has (by omega) (fun k h3 h4 => part3 hR k h3 h4)
include hR hsm hme heb h2 in
theorem sp4 : SortedIn lt e b R := sorted_of (f := e) e b h2 hme (by omega) (fun k h3 _ => by rw [part4 hR hsm hme k h3]; exact congrArg (fun i => d[i]!) (by omega))
include hR hsm hme heb in
theorem agree_lo (hA : Agree lt1 lt d a m b) : Agree lt1 lt R a s (s + (e - m)) := fun p q h3 h4 h5 h6 => by
 rw [part1 hR p h4, part2 hR hsm q h5 h6]
 exact hA _ _ h3 (by omega) (by omega) (by omega)
include hR has hsm hme in
theorem agree_hi (hA : Agree lt1 lt d a m b) : Agree lt1 lt R (s + (e - m)) e b := fun p q h3 h4 h5 h6 => by
 rw [part3 hR p h3 h4, part4 hR hsm hme q h5]
 exact hA _ _ (by omega) (by omega) (by omega) h6
include hR has hsm hme heb h1 h2 in
theorem skip_lo (h : s = a ∨ s = s + (e - m)) : SortedIn lt a (s + (e - m)) R := by
 rcases h with h | h
 · have := sp2 hR hsm hme heb h2; rw [h] at this ⊢; exact this
 · rw [← h]; exact sp1 hR has hsm h1
include hR has hsm hme heb h1 h2 in
theorem skip_hi (h : e = s + (e - m) ∨ e = b) : SortedIn lt (s + (e - m)) b R := by
 rcases h with h | h
 · rw [← h]; exact sp4 hR hsm hme heb h2
 · have := sp3 hR has hsm hme h1; rw [h] at this ⊢; exact this
end
theorem sorted_congr {d R : Array α} {a b : Nat} (h : SortedIn lt a b d) (hR : ∀ k, a ≤ k → k < b → R[k]! = d[k]!) : SortedIn lt a b R := fun i j h1 h2 h3 => by
 rw [hR i h1 (by omega), hR j (by omega) h3]; exact h i j h1 h2 h3
theorem agree_congr {d R : Array α} {a m b : Nat} (h : Agree lt1 lt d a m b) (hR : ∀ k, a ≤ k → k < b → R[k]! = d[k]!) : Agree lt1 lt R a m b := fun p q h1 h2 h3 h4 => by
 rw [hR p h1 (by omega), hR q (by omega) h4]; exact h p q h1 h2 h3 h4
theorem all_perm {d R : Array α} {a b : Nat} (D : α → Prop) (hb : b ≤ d.size) (hP : PermIn a b d R) (hD : ∀ i, i < d.size → D d[i]!) (i : Nat) (hi : i < R.size) : D R[i]! := by
 by_cases h : a ≤ i ∧ i < b
 · exact permIn_all d R a b D hb hP (fun k _ h2 => hD k (by omega)) i h.1 h.2
 · rw [hP.2.1 i (by omega)]; exact hD i (by rw [← hP.1]; exact hi)
end Go.Proofs.Ythmpigmmihiecaa
