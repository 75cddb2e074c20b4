/-
  Our texts SortP to Sym2, in one.
-/
import Derived.Test.YtngjbhejfojpbaaGreatPkK1
import Derived.Test.YtngjbhejfojpbaaGreatProg
import Derived.Deep.RegionHeld3
import Derived.BigQuiet
import Derived.Deep.QuietTactic
set_option maxRecDepth 8000
set_option maxHeartbeats 8000000
namespace Go.Proofs.YtngjbhejfojpbaaGreat
open Go.RowKit Go.Sort
variable {α : Type} [Inhabited α]
theorem inner_eq (lt1 lt2 : α → α → Bool) (a : Nat) : ∀ (j : Nat) (d : Array α), j < d.size → (∀ p, a ≤ p → p < j → lt1 d[j]! d[p]! = lt2 d[j]! d[p]!) → insInner lt1 a j d = insInner lt2 a j d
 | 0, d, _, _ => rfl
 | j + 1, d, hj, h => by
   rw [insInner, insInner]
   by_cases hja : j + 1 > a
   · rw [h j (by omega) (by omega)]
     have ih := inner_eq lt1 lt2 a j (swp d (j + 1) j) (by rw [size_swp]; omega) (fun p hp hpj => by
       rw [swp_right d (j + 1) j (by omega), swp_other d (j + 1) j p (by omega) (by omega)]
       exact h p hp (by omega))
     rw [ih]
   · simp [hja]
theorem outer_eq (lt1 lt2 : α → α → Bool) (hS : SWO lt2) (a b : Nat) (d0 : Array α) (hb : b ≤ d0.size) (h : ∀ p q, a ≤ p → p < q → q < b → lt1 d0[q]! d0[p]! = lt2 d0[q]! d0[p]!) :
   ∀ (n i : Nat) (d : Array α), b - i = n → a < i → PermIn a i d0 d → SortedIn lt2 a i d → insOuter lt1 a b i d = insOuter lt2 a b i d
 | 0, i, d, hn, _, _, _ => by rw [zbo _ _ _ _ _ (by omega), zbo _ _ _ _ _ (by omega)]
 | n + 1, i, d, hn, hai, hP, hs => by
   have hib : i < b := by omega
   have e : insInner lt1 a i d = insInner lt2 a i d := inner_eq lt1 lt2 a i d (by rw [hP.1]; omega) (fun p hp hpi => by
     rw [hP.2.1 i (by omega)]
     exact permIn_all d0 d a i (fun x => lt1 d0[i]! x = lt2 d0[i]! x) (by omega) hP (fun q hq hqi => h q i hq hqi hib) p hp hpi)
   have h1 := insInner_spec hS swp_permIn permIn_refl permIn_trans a b i hib i d (by omega) (Nat.le_refl _) (by rw [hP.1]; exact hb) ⟨fun p q hap hpq hqi _ hq => hs p q hap hpq (by omega), fun q h1 h2 => by omega⟩
   rw [zch _ _ _ _ _ hib, zch _ _ _ _ _ hib, e]
   have hP1 := insInner_spec hS swp_permIn permIn_refl permIn_trans a (i + 1) i (by omega) i d (by omega) (Nat.le_refl _) (by rw [hP.1]; omega) ⟨fun p q hap hpq hqi _ hq => hs p q hap hpq (by omega), fun q h1 h2 => by omega⟩
   refine outer_eq lt1 lt2 hS a b d0 hb h n (i + 1) _ (by omega) (by omega) (permIn_trans _ _ _ _ _ (permIn_mono d0 d a i a (i + 1) (by omega) (by omega) (by omega) hP) hP1.1) hP1.2
theorem zcc (lt1 lt2 : α → α → Bool) (hS : SWO lt2) (a b : Nat) (d : Array α) (hab : a ≤ b) (hb : b ≤ d.size) (h : ∀ p q, a ≤ p → p < q → q < b → lt1 d[q]! d[p]! = lt2 d[q]! d[p]!) :
   PermIn a b d (Sort.insertionSort lt1 d a b) ∧ SortedIn lt2 a b (Sort.insertionSort lt1 d a b) := by
 have e : Sort.insertionSort lt1 d a b = Sort.insertionSort lt2 d a b := by
   unfold Sort.insertionSort
   by_cases hb2 : a + 1 ≤ b
   · exact outer_eq lt1 lt2 hS a b d hb h _ (a + 1) d rfl (by omega) (permIn_refl _ _ _) (fun i j h1 h2 h3 => by omega)
   · rw [zbo _ _ _ _ _ (by omega), zbo _ _ _ _ _ (by omega)]
 rw [e]
 exact insertionSort_holds hS d a b hab hb
end Go.Proofs.YtngjbhejfojpbaaGreat
namespace Go.Proofs.YtngjbhejfojpbaaGreat
open Go.RowKit Go.Sort
theorem stable_nil (fv : Value) (w : World) : Calls Tryz.prog 61 #[.slice none 0 0, fv] w fun e w' => e = .returned (.tuple #[]) ∧ w = w' := by
 go_enter Tryz.func61, Tryz.ntmps61
 go_wp2
 refine wp_loop_once ?_
 go_wp2
 refine wp_loop_once ?_
 go_wp2
 go_end0
 go_wp2
 refine wp_loop_once ?_
 go_wp2
 go_end0
 go_wp2
 go_end0
 exact ⟨rfl, rfl⟩
end Go.Proofs.YtngjbhejfojpbaaGreat
namespace Go.Proofs.YtngjbhejfojpbaaGreat
open Go.Sort
def ats (l : List Int) : Nat → Int
 | 0 => 0
 | n + 1 => ats l n + cn l n
theorem zcf (l : List Int) (n : Nat) : ∀ m, n ≤ m → ats l n ≤ ats l m
 | 0, h => by obtain rfl : n = 0 := by omega
              exact Int.le_refl _
 | m + 1, h => by
   by_cases e : n = m + 1
   · subst e; exact Int.le_refl _
   · have := zcf l n m (by omega)
     have := (zdg l m).1
     simp only [ats]; omega
theorem ats_nonneg (l : List Int) (n : Nat) : 0 ≤ ats l n := zcf l 0 n (Nat.zero_le _)
def zcD (l : List Int) (n : Nat) : Bool := l.any fun x => decide ((n : Int) ≤ x)
theorem cn_pos {l : List Int} {m : Nat} (hm : 0 < m) (h : (m : Int) ∈ l) : 1 ≤ cn l m := by
 obtain ⟨k, hk, he⟩ := List.mem_iff_getElem.1 h
 have := cn_lt (l := l) (k := k) (m := m) hk hm (by simp [List.getD, hk, he])
 have := (zdg (l.take k) m).1
 omega
theorem cn_zero {l : List Int} {m : Nat} (h : ¬ (m : Int) ∈ l) : cn l m = 0 := by
 unfold cn
 split
 · rfl
 · have : l.filter (fun x => x == (m : Int)) = [] := by
     rw [List.filter_eq_nil_iff]
     intro x hx
     simp
     intro e; subst e; exact h hx
   simp [this]
theorem ats_long {l : List Int} (hok1 : hok l = true) {n : Nat} (hn : 1 ≤ n) (hn2 : n ≤ 16) : (ats l n = ats l 16) ↔ zcD l n = false := by
 constructor
 · intro h
   rw [zcD, List.any_eq_false]
   intro x hx
   have hx15 := za4 hok1 x hx
   simp
   refine Int.not_le.1 fun hnx => ?_
   have hp := cn_pos (l := l) (m := x.toNat) (by omega) (by rw [Int.toNat_of_nonneg hx15.1]; exact hx)
   have h1 := zcf l n x.toNat (by omega)
   have h2 := zcf l (x.toNat + 1) 16 (by omega)
   rw [show ats l (x.toNat + 1) = ats l x.toNat + cn l x.toNat from rfl] at h2
   omega
 · intro h
   rw [zcD, List.any_eq_false] at h
   have key : ∀ m, n ≤ m → m ≤ 16 → ats l m = ats l n := by
     intro m
     induction m with
     | zero => intro h1 _; obtain rfl : n = 0 := by omega
               rfl
     | succ m ih =>
       intro h1 h2
       by_cases e : n = m + 1
       · subst e; rfl
       · simp only [ats]
         rw [ih (by omega) (by omega), cn_zero (fun hm => by have := h _ hm; simp at this; omega)]
         omega
   exact (key 16 hn2 (Nat.le_refl _)).symm
def zbw (l : List Int) (n : Nat) (x : Int) : Option Nat := (List.range l.length).find? fun k => l.getD k 0 == (n : Int) && zav l k == x
theorem zcG {l : List Int} {n : Nat} (hn : 0 < n) : ∀ (N : Nat), N ≤ l.length → ∀ r : Int, 0 ≤ r → r < cn (l.take N) n → ∃ k, k < N ∧ l.getD k 0 = (n : Int) ∧ cn (l.take k) n = r
 | 0, _, r, h0, h => by simp [cn] at h; omega
 | N + 1, hN, r, h0, h => by
   rw [zaR 0 l N (by omega)] at h
   by_cases he : l.getD N 0 = (n : Int)
   · rw [zbH _ _ _ (by omega), if_pos (by omega)] at h
     by_cases hr : r < cn (l.take N) n
     · obtain ⟨k, hk, h1, h2⟩ := zcG hn N (by omega) r h0 hr
       exact ⟨k, by omega, h1, h2⟩
     · exact ⟨N, by omega, he, by omega⟩
   · have hr : r < cn (l.take N) n := by
       have e : cn (l.take N ++ [l.getD N 0]) n = cn (l.take N) n := by
         unfold cn
         rw [if_neg (by omega), if_neg (by omega), List.filter_append]
         have : ¬ (l.getD N 0 == (n : Int)) = true := by simpa using he
         simp only [List.getD] at this
         simp [this]
       omega
     obtain ⟨k, hk, h1, h2⟩ := zcG hn N (by omega) r h0 hr
     exact ⟨k, by omega, h1, h2⟩
theorem cn_take_mono (l : List Int) (n : Nat) {j k : Nat} (h : j ≤ k) : cn (l.take j) n ≤ cn (l.take k) n := by
 have := zda (l.take k) j n
 rwa [List.take_take, Nat.min_eq_left h] at this
theorem findSym_some {l : List Int} {n : Nat} {x : Int} (hn : 0 < n) (h0 : zaw (cn l) n ≤ x) (h1 : x - zaw (cn l) n < cn l n) :
   ∃ k, zbw l n x = some k ∧ k < l.length ∧ l.getD k 0 = (n : Int) ∧ cn (l.take k) n = x - zaw (cn l) n := by
 obtain ⟨k, hk, hl, hc⟩ := zcG (l := l) hn l.length (Nat.le_refl _) (x - zaw (cn l) n) (by omega) (by rw [List.take_length]; exact h1)
 have hkx : zav l k = x := by unfold zav; rw [if_pos (by omega), hl]; simp only [Int.toNat_natCast]; omega
 have hs : (zbw l n x).isSome := by
   rw [zbw, List.find?_isSome]
   exact ⟨k, by simpa using hk, by simp only [hl, hkx]; simp⟩
 obtain ⟨k', hk'⟩ := Option.isSome_iff_exists.1 hs
 have hp := List.find?_some hk'
 have hm := List.mem_of_find?_eq_some hk'
 simp only [Bool.and_eq_true, beq_iff_eq] at hp
 have hc' : cn (l.take k') n = x - zaw (cn l) n := by
   have := hp.2
   unfold zav at this
   rw [if_pos (by omega), hp.1] at this
   simp only [Int.toNat_natCast] at this
   omega
 exact ⟨k', hk', by simpa using hm, hp.1, hc'⟩
theorem findSym_none {l : List Int} {n : Nat} {x : Int} (hn : 0 < n) (h : ¬ (zaw (cn l) n ≤ x ∧ x - zaw (cn l) n < cn l n)) : zbw l n x = none := by
 rw [zbw, List.find?_eq_none]
 intro k hk
 simp only [Bool.and_eq_true, beq_iff_eq, not_and]
 intro hl hc
 apply h
 have hkl : k < l.length := by simpa using hk
 have h1 := cn_lt hkl hn hl
 have h2 := (zdg (l.take k) n).1
 unfold zav at hc
 rw [if_pos (by omega), hl] at hc
 simp only [Int.toNat_natCast] at hc
 omega
def valN (f : Nat → Bool) : Nat → Nat
 | 0 => 0
 | n + 1 => 2 * valN f n + if f n then 1 else 0
theorem valN_lt (f : Nat → Bool) : ∀ n, valN f n < 2 ^ n
 | 0 => by simp [valN]
 | n + 1 => by have := valN_lt f n; simp only [valN, Nat.pow_succ]; split <;> omega
def zbr (l : List Int) (f : Nat → Bool) (left : Nat) : Nat → Nat → Nat × Nat × Int
 | 0, n => (0, n - 1, 13)
 | fuel + 1, n =>
   if zcD l n = false then (0, n - 1, 13) else
   if left < n then (0, n - 1, 10) else
   match zbw l n (valN f n) with
   | some k => (k, n, 0)
   | none => zbr l f left fuel (n + 1)
def zc7 (l : List Int) (f : Nat → Bool) (left : Nat) : Nat × Nat × Int := zbr l f left 15 1
structure SrtOf (l srt : List Int) : Prop where
 len : (srt.length : Int) = ats l 16
 at_ : ∀ k, k < l.length → 0 < l.getD k 0 → srt.getD (ats l (l.getD k 0).toNat + cn (l.take k) (l.getD k 0).toNat).toNat 0 = (k : Int)
def zad (l : List Int) (N : Nat) : List Int := ((List.range N).filter fun k => decide (0 < l.getD k 0)).map fun (k : Nat) => (k : Int)
theorem zct (l : List Int) (N : Nat) : zad l (N + 1) = zad l N ++ if 0 < l.getD N 0 then [(N : Int)] else [] := by
 unfold zad
 rw [List.range_succ, List.filter_append, List.map_append]
 by_cases h : 0 < l.getD N 0
 · simp only [if_pos h]; simp only [List.getD] at h; simp [h]
 · simp only [if_neg h]; simp only [List.getD] at h; simp [h]
def zbb (l : List Int) (x y : Int) : Bool := decide (l.getD x.toNat 0 < l.getD y.toNat 0) || (decide (l.getD x.toNat 0 = l.getD y.toNat 0) && decide (x < y))
theorem zbM (l : List Int) : SWO (zbb l) := by
 refine ⟨fun x => ?_, fun x y z h1 h2 => ?_, fun x y z h1 h2 => ?_⟩
 · simp [zbb]
 · simp only [zbb, Bool.or_eq_true, Bool.and_eq_true, decide_eq_true_eq] at *; omega
 · simp only [zbb, Bool.or_eq_false_iff, Bool.and_eq_false_iff, decide_eq_false_iff_not] at *; omega
theorem zck {l : List Int} {N : Nat} {x : Int} : x ∈ zad l N ↔ ∃ k : Nat, k < N ∧ 0 < l.getD k 0 ∧ x = (k : Int) := by
 simp only [zad, List.mem_map, List.mem_filter, List.mem_range, decide_eq_true_eq]
 constructor
 · rintro ⟨k, ⟨h1, h2⟩, rfl⟩; exact ⟨k, h1, h2, rfl⟩
 · rintro ⟨k, h1, h2, rfl⟩; exact ⟨k, ⟨h1, h2⟩, rfl⟩
theorem zeZ (l : List Int) (x : Int) (hx : 0 ≤ x) : ∀ L : Nat, ats (l ++ [x]) L = ats l L + if 0 < x ∧ x < (L : Int) then 1 else 0
 | 0 => by simp [ats]; omega
 | L + 1 => by
   simp only [ats]
   rw [zeZ l x hx L, zbH l x L hx]
   by_cases h1 : 0 < x ∧ x < (L : Int)
   · rw [if_pos h1, if_neg (by omega), if_pos (by omega)]; omega
   · by_cases h2 : 0 < x ∧ L = x.toNat
     · rw [if_neg h1, if_pos h2, if_pos (by omega)]; omega
     · rw [if_neg h1, if_neg h2, if_neg (by omega)]; omega
theorem cnt1 (X Y : Int) (b : Bool) : (((if (decide (X < Y) || decide (X = Y) && b) = true then 1 else 0 : Nat)) : Int) = if X < Y ∨ (X = Y ∧ b = true) then 1 else 0 := by
 by_cases h : X < Y
 · simp [h]
 · by_cases h' : X = Y <;> cases b <;> simp [h, h']
theorem count_one (l : List Int) (N k : Nat) : [(N : Int)].countP (fun y => zbb l y (k : Int)) = if (decide (l.getD N 0 < l.getD k 0) || decide (l.getD N 0 = l.getD k 0) && decide ((N : Int) < (k : Int))) = true then 1 else 0 := by
 rw [List.countP_cons, List.countP_nil, Nat.zero_add]; rfl
theorem zdM {l : List Int} (hok1 : hok l = true) (k : Nat) (hk : k < l.length) (hp : 0 < l.getD k 0) : ∀ N, N ≤ l.length →
   (((zad l N).countP fun y => zbb l y (k : Int) : Nat) : Int) = ats (l.take N) (l.getD k 0).toNat + cn (l.take (min N k)) (l.getD k 0).toNat
 | 0, _ => by
   have e : ats (l.take 0) (l.getD k 0).toNat = 0 := by
     have : ∀ L, ats ([] : List Int) L = 0 := by intro L; induction L with
       | zero => rfl
       | succ L ih => simp [ats, ih, cn]
     simpa using this _
   rw [e]; simp [zad, cn]
 | N + 1, hN => by
   have ih := zdM hok1 k hk hp N (by omega)
   have hx := za4 hok1 (l.getD N 0) (by simp [List.getD, show N < l.length by omega])
   rw [zct, List.countP_append, zaR 0 l N (by omega), zeZ _ _ hx.1]
   push_cast
   rw [ih]
   by_cases hNk : N < k
   · have e1 : min (N + 1) k = N + 1 := by omega
     have e2 : min N k = N := by omega
     rw [e1, e2, zaR 0 l N (by omega), zbH _ _ _ hx.1]
     by_cases hpos : 0 < l.getD N 0
     · rw [if_pos hpos]
       have e3 : (([(N : Int)].countP fun y => zbb l y (k : Int) : Nat) : Int) = if l.getD N 0 < l.getD k 0 ∨ l.getD N 0 = l.getD k 0 then 1 else 0 := by
         rw [count_one, cnt1]; simp [hNk]
       rw [e3]
       by_cases h : l.getD N 0 < l.getD k 0
       · rw [if_pos (.inl h), if_pos (by omega), if_neg (by omega)]; omega
       · by_cases h' : l.getD N 0 = l.getD k 0
         · rw [if_pos (.inr h'), if_neg (by omega), if_pos (by omega)]; omega
         · rw [if_neg (by omega), if_neg (by omega), if_neg (by omega)]; omega
     · rw [if_neg hpos, if_neg (by omega), if_neg (by omega)]; simp
   · have e1 : min (N + 1) k = k := by omega
     have e2 : min N k = k := by omega
     rw [e1, e2]
     by_cases hpos : 0 < l.getD N 0
     · rw [if_pos hpos]
       have e3 : (([(N : Int)].countP fun y => zbb l y (k : Int) : Nat) : Int) = if l.getD N 0 < l.getD k 0 then 1 else 0 := by
         rw [count_one, cnt1]; simp [hNk]
       rw [e3]
       by_cases h : l.getD N 0 < l.getD k 0
       · rw [if_pos h, if_pos (by omega)]; omega
       · rw [if_neg h, if_neg (by omega)]; omega
     · rw [if_neg hpos, if_neg (by omega)]; simp
theorem zbV {l : List Int} (hok1 : hok l = true) : ∀ N, N ≤ l.length → ((zad l N).length : Int) = ats (l.take N) 16
 | 0, _ => by simp [zad, ats, cn]
 | N + 1, hN => by
   have hx := za4 hok1 (l.getD N 0) (by simp [List.getD, show N < l.length by omega])
   rw [zct, List.length_append, zaR 0 l N (by omega), zeZ _ _ hx.1]
   push_cast
   rw [zbV hok1 N (by omega)]
   by_cases hpos : 0 < l.getD N 0
   · rw [if_pos hpos, if_pos (by omega)]; simp
   · rw [if_neg hpos, if_neg (by omega)]; simp
theorem zcH {α : Type} (p : α → Bool) : ∀ (R : List α) (i : Nat), i ≤ R.length → (∀ j (h : j < R.length), p R[j] = decide (j < i)) → R.countP p = i
 | [], i, h, _ => by simp at h; simp [h]
 | x :: R, 0, _, hp => by
   rw [List.countP_eq_zero]
   intro y hy
   obtain ⟨j, hj, rfl⟩ := List.mem_iff_getElem.1 hy
   rw [hp j hj]; simp
 | x :: R, i + 1, h, hp => by
   have h0 := hp 0 (by simp)
   simp only [List.getElem_cons_zero] at h0
   rw [List.countP_cons_of_pos (by rw [h0]; simp), zcH p R i (by simpa using h) (fun j hj => by
     have := hp (j + 1) (by simpa using hj)
     simpa using this)]
theorem srt_of {l : List Int} (hok1 : hok l = true) (R : Array Int) (hP : PermIn 0 (zad l l.length).length (zad l l.length).toArray R) (hS : SortedIn (zbb l) 0 (zad l l.length).length R) : SrtOf l R.toList := by
 obtain ⟨hsz, _, hperm⟩ := hP
 have hsz' : R.size = (zad l l.length).length := by simpa using hsz
 have hperm' : R.toList.Perm (zad l l.length) := by
   have e1 : R.extract 0 (zad l l.length).length = R := by rw [← hsz']; simp
   have e2 : (zad l l.length).toArray.extract 0 (zad l l.length).length = (zad l l.length).toArray := by simp
   rw [e1, e2] at hperm
   simpa using hperm
 have hnd : (zad l l.length).Nodup := by
   unfold zad
   refine List.Pairwise.map _ (R := fun a b : Nat => a ≠ b) (fun a b h e => h (by omega)) ?_
   exact List.Pairwise.filter _ List.nodup_range
 have hnd' : R.toList.Nodup := hperm'.symm.nodup hnd
 have hstrict : ∀ i j (hi : i < R.toList.length) (hj : j < R.toList.length), i < j → zbb l R.toList[i] R.toList[j] = true := by
   intro i j hi hj hij
   have h1 := hS i j (Nat.zero_le _) hij (by rw [← hsz']; simpa using hj)
   have hi' : i < R.size := by simpa using hi
   have hj' : j < R.size := by simpa using hj
   simp only [getElem!_pos, hi', hj'] at h1
   have hne : R.toList[i] ≠ R.toList[j] := fun e => by
     have := (List.getElem_inj hnd').1 e
     omega
   simp only [Array.getElem_toList] at hne ⊢
   simp only [zbb, Bool.or_eq_false_iff, Bool.and_eq_false_iff, decide_eq_false_iff_not] at h1
   simp only [zbb, Bool.or_eq_true, Bool.and_eq_true, decide_eq_true_eq]
   omega
 refine ⟨?_, fun k hk hp => ?_⟩
 · rw [hperm'.length_eq, zbV hok1 _ (Nat.le_refl _), List.take_length]
 · have hmem : (k : Int) ∈ R.toList := hperm'.mem_iff.2 (zck.2 ⟨k, hk, hp, rfl⟩)
   obtain ⟨i, hi, he⟩ := List.mem_iff_getElem.1 hmem
   have hc := zcH (fun y => zbb l y (k : Int)) R.toList i (by omega) (fun j hj => by
     by_cases hji : j < i
     · have := hstrict j i hj hi hji
       rw [he] at this
       simpa [hji] using this
     · by_cases e : j = i
       · subst e; rw [he]; simp [(zbM l).irrefl]
       · have h1 := hstrict i j hi hj (by omega)
         rw [he] at h1
         have h2 : zbb l R.toList[j] (k : Int) = false := by
           cases h3 : zbb l R.toList[j] (k : Int) with
           | false => rfl
           | true => have := (zbM l).trans _ _ _ h1 h3; rw [(zbM l).irrefl] at this; cases this
         rw [h2]; simp [hji])
   rw [hperm'.countP_eq] at hc
   have hcount := zdM hok1 k hk hp l.length (Nat.le_refl _)
   rw [hc, List.take_length, Nat.min_eq_right (by omega)] at hcount
   have e : (ats l (l.getD k 0).toNat + cn (l.take k) (l.getD k 0).toNat).toNat = i := by omega
   rw [e, ← List.getElem_eq_getD (h := hi), he]
end Go.Proofs.YtngjbhejfojpbaaGreat
namespace Go.Proofs.YtngjbhejfojpbaaGreat
open Go.RowKit
def cmpI (x y : Int) : Int := if x < y then -1 else if y < x then 1 else 0
theorem zc8 (x : Int) (w : World) : Calls Tryz.prog 80 #[.int .i64 x] w fun e w' => e = .returned (.bool false) ∧ w = w' := by
 go_enter Tryz.func80, Tryz.ntmps80
 go_wp2
 go_ret
 exact ⟨ret_bool (by simp), rfl⟩
theorem zdA (x y : Int) (w : World) : Calls Tryz.prog 63 #[.int .i64 x, .int .i64 y] w fun e w' => e = .returned (.int .i64 (cmpI x y)) ∧ w = w' := by
 have hv : cmpI x y = if x < y then -1 else if y < x then 1 else 0 := rfl
 have HV := Lib.hid hv
 clear hv
 by_cases h1 : x < y
 · go_enter Tryz.func63, Tryz.ntmps63
   go_wp2_with (go_at_call 80; refine (zc8 _ _).mono ?_; rintro e w' ⟨rfl, rfl⟩)
   go_ret
   exact ⟨zaK (by rw [HV.out, if_pos h1]), rfl⟩
 · by_cases h2 : y < x
   · go_enter Tryz.func63, Tryz.ntmps63
     go_wp2_with (go_at_call 80; refine (zc8 _ _).mono ?_; rintro e w' ⟨rfl, rfl⟩)
     go_ret
     exact ⟨zaK (by rw [HV.out, if_neg (by omega), if_pos h2]), rfl⟩
   · go_enter Tryz.func63, Tryz.ntmps63
     go_wp2_with (go_at_call 80; refine (zc8 _ _).mono ?_; rintro e w' ⟨rfl, rfl⟩)
     go_ret
     exact ⟨zaK (by rw [HV.out, if_neg (by omega), if_neg (by omega)]), rfl⟩
end Go.Proofs.YtngjbhejfojpbaaGreat
namespace Go.Proofs.YtngjbhejfojpbaaGreat
open Go.RowKit Go.Sort
def cfL (l : List Int) (x y : Int) : Int := cmpI (l.getD x.toNat 0) (l.getD y.toNat 0)
theorem cmpNew_any (bx : Nat) (a : Option Addr) (n cap : Nat) (l : List Int) (x y : Nat) (w : World) (hb : w.cell? ⟨bx, 0, none⟩ = some (.slice a n cap)) (hr : Row w 1 a n cap (l.map (Value.int .i64))) (hx : x < n) (hy : y < n) :
   Calls Tryz.prog 62 #[.int .i64 x, .int .i64 y, .pointer (some ⟨bx, 0, none⟩)] w fun e w' => e = .returned (.int .i64 (cfL l x y)) ∧ ∃ q, w' = w.drewN q := by
 have hm := hr.i64
 have hv : cfL l x y = cmpI (l.getD x 0) (l.getD y 0) := rfl
 have HV := Lib.hid hv
 clear hv
 obtain ⟨b, off, rfl, hblt, hc⟩ := hr.at 0 x hx
 have hcx := hc x hx
 have hcy := hc y hy
 generalize l.getD x 0 = X at *
 generalize l.getD y 0 = Y at *
 clear hc hr
 go_enter Tryz.func62, Tryz.ntmps62
 go_wp2
 go_quiet ((go_at_call 63; exact zcU (zdA _ _ _)))
 go_wp2
 go_ret
 exact ⟨zaK HV.out.symm, _, rfl⟩
def zeO (N : Nat) : Prop :=
 ∀ (cf : Int → Int → Int) (lt2 : Int → Int → Bool) (D : Int → Prop) (f : FuncId) (cb : Array Value) (g cap : Nat) (rest : List Value) (d : Array Int) (w0 w : World), SWO lt2 →
   CmpQ Tryz.prog f cb (Value.int .i64) cf D w0 g → SB (Value.int .i64) w0 g 3 rest d w → (∀ i, i < d.size → D d[i]!) → (∀ p q, p < q → q < d.size → ltOf cf d[q]! d[p]! = lt2 d[q]! d[p]!) → d.size ≤ N →
   Calls Tryz.prog 61 #[.slice (some ⟨g, 0, none⟩) d.size cap, .func (.func f) #[] cb] w fun e w' => e = .returned (.tuple #[]) ∧ ∃ R, SB (Value.int .i64) w0 g 3 rest R w' ∧ PermIn 0 d.size d R ∧ SortedIn lt2 0 d.size R
def tbV (L C S : Value) (l : List Int) (i : Nat) : Value := if i = 0 then L else if i = 1 then C else if i = 18 then S else cnV l (i - 2)
structure IsTb (w : World) (Bl : Nat → Prop) (p : Nat) (l : List Int) : Prop where
 ex : ∃ aL cL aC cC aS cS srt, w.heap[p]? = some (.cells (fl 19 (tbV (.slice aL l.length cL) (.slice aC l.length cC) (.slice aS srt.length cS) l)).toArray 111 (0, 0)) ∧
   Row w 1 aL l.length cL (l.map (Value.int .i64)) ∧ Row w 1 aC l.length cC (fl l.length (cdV l l.length)) ∧ Row w 1 aS srt.length cS (srt.map (Value.int .i64)) ∧ SrtOf l srt ∧
   (∀ x, aL = some x → Bl x.block) ∧ (∀ x, aC = some x → Bl x.block) ∧ (∀ x, aS = some x → Bl x.block) ∧ aL ≠ none
 room : 0 ≤ zax l
 own : Bl p
theorem zdT (l : List Int) (N : Nat) : (zad l N).Pairwise (· < ·) := by
 unfold zad
 refine List.Pairwise.map _ (R := fun a b : Nat => a < b) (fun a b h => by omega) ?_
 exact List.Pairwise.filter _ List.pairwise_lt_range
theorem zdY {xs : List Int} {i : Nat} (h : i < xs.toArray.size) : xs.toArray[i]! = xs[i]'(by simpa using h) := by
 rw [getElem!_pos xs.toArray i h]; simp
theorem sym_agree (l : List Int) (N p q : Nat) (hpq : p < q) (hq : q < (zad l N).toArray.size) :
   ltOf (cfL l) (zad l N).toArray[q]! (zad l N).toArray[p]! = zbb l (zad l N).toArray[q]! (zad l N).toArray[p]! := by
 have hp : p < (zad l N).toArray.size := by omega
 have h := List.pairwise_iff_getElem.1 (zdT l N) p q (by simpa using hp) (by simpa using hq) hpq
 rw [zdY hq, zdY hp]
 generalize (zad l N)[p]'(by simpa using hp) = x at *
 generalize (zad l N)[q]'(by simpa using hq) = y at *
 unfold ltOf cfL zbb cmpI
 have hyx : decide (y < x) = false := by simp; omega
 rw [hyx, Bool.and_false, Bool.or_false]
 by_cases h1 : l.getD y.toNat 0 < l.getD x.toNat 0
 · rw [if_pos h1]; simp only [List.getD] at h1; simp [h1]
 · rw [if_neg h1]
   by_cases h2 : l.getD x.toNat 0 < l.getD y.toNat 0
   · rw [if_pos h2]; simp only [List.getD] at h1; simp [h1]
   · rw [if_neg h2]; simp only [List.getD] at h1; simp [h1]
theorem counted_lit (a : Option Addr) (n cap : Nat) (l : List Int) (w : World) (hr : Row w 1 a n cap (l.map (Value.int .i64))) (hok1 : hok l = true) :
   Calls Tryz.prog 60 #[.slice a n cap] w fun e w' => e = .returned (.agg #[.int .i64 (cn l 0), .int .i64 (cn l 1), .int .i64 (cn l 2), .int .i64 (cn l 3), .int .i64 (cn l 4), .int .i64 (cn l 5), .int .i64 (cn l 6), .int .i64 (cn l 7), .int .i64 (cn l 8), .int .i64 (cn l 9), .int .i64 (cn l 10), .int .i64 (cn l 11), .int .i64 (cn l 12), .int .i64 (cn l 13), .int .i64 (cn l 14), .int .i64 (cn l 15)]) ∧ Below w.heap.size w w' :=
 zej a n cap l w hr hok1
theorem zeI (N : Nat) (hst : zeO N) (a : Option Addr) (n cap : Nat) (l : List Int) (w : World) (hr : Row w 1 a n cap (l.map (Value.int .i64))) (hroom : 0 ≤ zax l) (hN : n ≤ N) (ha : a ≠ none) :
   Calls Tryz.prog 35 #[.slice a n cap] w fun e w' => ∃ p, e = .returned (.tuple #[.pointer (some ⟨p, 0, none⟩), .int .i64 0]) ∧ IsTb w' (fun b => w.heap.size ≤ b ∧ b < w'.heap.size) p l ∧ Below w.heap.size w w' := by
 have hm := hr.i64
 have hl := hr.len1
 have hok1 := (zar hroom).2.2.1
 have hlen := (zar hroom).2.1
 have hn : n ≤ 320 := by omega
 have h1c : ∀ u ∈ l.map (Value.int .i64), u.oneCell' = true := ints_oneCell _ _
 have HL := Lib.hid hl
 have HR := Lib.hid hroom
 have HOK := Lib.hid hok1
 have HRow := Lib.hid hr
 clear hl hroom hok1 hr
 go_enter Tryz.func35, Tryz.ntmps35
 go_wp2_with fail
 have hbx : (w.alloc (.cells #[.slice a n cap] 59)).heap[w.heap.size]? = some (.cells #[.slice a n cap] 59 (0, 0)) := zah _ rfl
 have hb0 := zam w (.cells #[.slice a n cap] 59)
 have hr0 := HRow.out.mono hb0
 have hs0 := zae w (.cells #[.slice a n cap] 59)
 generalize w.alloc (.cells #[.slice a n cap] 59) = w0 at *
 refine (codes_ok a n cap l w0 hr0 HR.out).mono ?_
 rintro e w1 ⟨vC, rfl, hC1, hb1⟩
 obtain ⟨aC, cC, rfl, _, _⟩ := Row.of_owns hC1
 have hbx1 := zbm hb1 hbx
 have hr1 := hr0.mono hb1
 have hbw1 := hb0.trans (hb1.mono (by omega))
 have hs1 := hb1.size
 clear hbx hr0 hb0 hb1
 have HC1 := Lib.hid (zaD hC1 (show w.heap.size ≤ w0.heap.size by omega))
 have HBX1 := Lib.hid hbx1
 have HR1 := Lib.hid hr1
 have HBW1 := Lib.hid hbw1
 have hbs : w.heap.size < w1.heap.size := by omega
 clear hC1 hbx1 hr1 hbw1 hs0 hs1
 go_wp2
 have hc1 : w1.cell? ⟨w.heap.size, 0, none⟩ = some (.slice a n cap) := by rw [cell_of_row w1 _ 0 _ _ _ HBX1.out]; rfl
 go_region_held3 (fun w' => w'.cell? ⟨w.heap.size, 0, none⟩ = some (.slice a n cap)) (first | assumption | exact hc1 | exact cell?_keep (zam _ _) (by assumption)) (first
   | (go_at_call 59; refine (cloneI a n cap _ _ (HR1.out.mono (by exact Below.drew (Below.refl _ _))) h1c (by omega)).mono ?_; rintro e w2 ⟨vL, rfl, hL2, hb2, hnn⟩; obtain ⟨aL, cL, rfl, _, _⟩ := Row.of_owns hL2; have hc2 := cell?_keep hb2 (show w1.drew.cell? ⟨w.heap.size, 0, none⟩ = some (.slice a n cap) from hc1); have hr2 := (HR1.out.mono (show Below w1.heap.size w1 w1.drew from Below.drew (Below.refl _ _))).mono hb2)
   | (go_at_call 60; refine (counted_lit a n cap l _ (by assumption) HOK.out).mono ?_; rintro e w3 ⟨rfl, hb3⟩; have hc3 := cell?_keep hb3 hc2))
 have hb23 : Below w1.heap.size w1 w3 := ((Below.refl w1.heap.size w1).drew.trans hb2).trans (hb3.mono hb2.size)
 have hs3 := hb23.size
 have hLlt : ∀ x, aL = some x → x.block < w3.heap.size := fun x hx => by have := (hL2.lt x.block (by simp [Value.ownBlock, hx])).2; have := hb3.size; omega
 have hClt : ∀ x, aC = some x → x.block < w3.heap.size := fun x hx => by have := (HC1.out.lt x.block (by simp [Value.ownBlock, hx])).2; omega
 have HLLT := Lib.hid hLlt
 have HCLT := Lib.hid hClt
 clear hLlt hClt
 have hT : (w3.alloc (.cells (fl 19 (tbV (.slice aL n cL) (.slice aC n cC) (.slice none 0 0) l)).toArray 111)).heap[w3.heap.size]? = some (.cells (fl 19 (tbV (.slice aL n cL) (.slice aC n cC) (.slice none 0 0) l)).toArray 111 (0, 0)) := zah _ rfl
 have hlit : (fl 19 (tbV (.slice aL n cL) (.slice aC n cC) (.slice none 0 0) l)).toArray = #[.slice aL n cL, .slice aC n cC, .int .i64 (cn l 0), .int .i64 (cn l 1), .int .i64 (cn l 2), .int .i64 (cn l 3), .int .i64 (cn l 4), .int .i64 (cn l 5), .int .i64 (cn l 6), .int .i64 (cn l 7), .int .i64 (cn l 8), .int .i64 (cn l 9), .int .i64 (cn l 10), .int .i64 (cn l 11), .int .i64 (cn l 12), .int .i64 (cn l 13), .int .i64 (cn l 14), .int .i64 (cn l 15), .slice none 0 0] := rfl
 rw [hlit] at hT
 have hb4 := zam w3 (.cells #[.slice aL n cL, .slice aC n cC, .int .i64 (cn l 0), .int .i64 (cn l 1), .int .i64 (cn l 2), .int .i64 (cn l 3), .int .i64 (cn l 4), .int .i64 (cn l 5), .int .i64 (cn l 6), .int .i64 (cn l 7), .int .i64 (cn l 8), .int .i64 (cn l 9), .int .i64 (cn l 10), .int .i64 (cn l 11), .int .i64 (cn l 12), .int .i64 (cn l 13), .int .i64 (cn l 14), .int .i64 (cn l 15), .slice none 0 0] 111)
 have hs4 := zae w3 (.cells #[.slice aL n cL, .slice aC n cC, .int .i64 (cn l 0), .int .i64 (cn l 1), .int .i64 (cn l 2), .int .i64 (cn l 3), .int .i64 (cn l 4), .int .i64 (cn l 5), .int .i64 (cn l 6), .int .i64 (cn l 7), .int .i64 (cn l 8), .int .i64 (cn l 9), .int .i64 (cn l 10), .int .i64 (cn l 11), .int .i64 (cn l 12), .int .i64 (cn l 13), .int .i64 (cn l 14), .int .i64 (cn l 15), .slice none 0 0] 111)
 generalize (w3.alloc (.cells #[.slice aL n cL, .slice aC n cC, .int .i64 (cn l 0), .int .i64 (cn l 1), .int .i64 (cn l 2), .int .i64 (cn l 3), .int .i64 (cn l 4), .int .i64 (cn l 5), .int .i64 (cn l 6), .int .i64 (cn l 7), .int .i64 (cn l 8), .int .i64 (cn l 9), .int .i64 (cn l 10), .int .i64 (cn l 11), .int .i64 (cn l 12), .int .i64 (cn l 13), .int .i64 (cn l 14), .int .i64 (cn l 15), .slice none 0 0] 111)) = w4 at *
 rw [← hlit] at hT
 clear hlit
 have hbox := cell?_keep hb4 hc3
 have hrow4 := (hr2.mono hb3).mono hb4
 have hL4 := zaf (zaf hL2 hb3) hb4
 have hC4 := zaf (zaf HC1.out hb23) hb4
 have hbw4 := (HBW1.out.trans (hb23.mono (by omega))).trans (hb4.mono (by omega))
 have hT1 : w1.heap.size ≤ w3.heap.size := hs3
 generalize w3.heap.size = T at *
 have HBOX := Lib.hid hbox
 have HROW := Lib.hid hrow4
 have HL4 := Lib.hid hL4
 have HC4 := Lib.hid hC4
 have HBW4 := Lib.hid hbw4
 have HT := Lib.hid hT
 have HS4 := Lib.hid hs4
 have HNN := Lib.hid hnn
 clear hb2 hL2 hnn hc2 hr2 hb3 hc3 hb23 hs3 hT hb4 hs4 hbox hrow4 hL4 hC4 hbw4 HC1 HBX1 HR1 HBW1 hc1
 have hbox2 := HBOX.out
 have haT : ∀ x, a = some x → x.block < T := fun x hx => Nat.lt_of_lt_of_le (HRow.out.lt (by have := (zar HR.out).1; have := HL.out; omega) x hx) (by omega)
 have HAT := Lib.hid haT
 clear haT
 have h0n : 0 < n := by have := (zar HR.out).1; have := HL.out; omega
 go_wp2
 go_loopw [26] (fun i wr => ∃ (k : Nat) (S : Value), k ≤ n ∧ i = .int .i64 k ∧ Hid (wr.heap[T]? = some (.cells (fl 19 (tbV (.slice aL n cL) (.slice aC n cC) S l)).toArray 111 (0, 0))) ∧
     Hid (wr.ownsRow (T + 1) 3 1 S (zad l k).length ((zad l k).map (Value.int .i64))) ∧ Hid (Below T w4 wr)) (fun i _ => n - (intOf i).toNat)
 case atStart => exact ⟨0, .slice none 0 0, by omega, rfl, HT, Lib.hid (World.ownsRow_nil _ _ _ _), Lib.hid (Below.refl _ _)⟩
 case round =>
   obtain ⟨k, S, hk, rfl, HTk, HSk, HBk⟩ := hrel
   by_cases hlt : k < n
   · obtain ⟨b, off, rfl, hblt, hc⟩ := (HROW.out.below HBk.out HAT.out).at 0 k hlt
     have hck := hc k hlt
     have hkl : k < l.length := by rw [HL.out]; exact hlt
     have hcT := zai HTk.out 18 (by omega)
     have hfT := zaI HTk.out 18
     have hx15 := (za4 HOK.out) (l.getD k 0) (by simp [List.getD, hkl])
     have hsy := zct l k
     obtain ⟨aS, cS, rfl, hSr, hSb⟩ := Row.of_owns HSk.out
     have hlenS : (zad l k).length ≤ k := by unfold zad; rw [List.length_map]; exact Nat.le_trans (List.length_filter_le _ _) (by simp)
     obtain ⟨x, hx⟩ : ∃ x, x = l.getD k 0 := ⟨_, rfl⟩
     rw [← hx] at hck hx15 hsy
     have HSY := Lib.hid hsy
     have hszr := HBk.out.size
     have hneS : (Value.slice aS (zad l k).length cS).ownBlock ≠ some T := fun h => by have := (HSk.out.lt T h).1; omega
     have HNES := Lib.hid hneS
     have HSB := Lib.hid hSb
     clear hneS hSb
     clear hc hx hsy hSr
     have hTs : T < wr.heap.size := (Array.getElem?_eq_some_iff.1 HTk.out).1
     unfold tbV at hcT
     simp only [Nat.reduceEqDiff, if_false, if_true] at hcT
     by_cases hp : 0 < x
     · go_wp2_with (at_builtin; refine zan ETI rfl (.tmp 37) (.tmp 39) rfl (T + 1) (Value.slice aS (zad l k).length cS) (zad l k).length _ rfl (HSk.out.alloc _) _ 1 _ _ rfl (zbl _ _ _) (zb5 rfl) (by unfold maxLen; omega) (by omega) (by have := HS4.out; rw [zae]; omega) ?_; intro v' w5 hO5 hg5 hnil5; obtain ⟨aS', cS', rfl, _, hSb'⟩ := Row.of_owns hO5; have HO5 := Lib.hid hO5; have HG5 := Lib.hid hg5; have hT5 : w5.heap[T]? = _ := (hg5.block T (by rw [zae]; omega) (fun e => HNES.out e.symm)).trans ((Below.heap_alloc wr _ T hTs).trans HTk.out); have hcT5 := zai hT5 18 (by omega); have hfT5 := zaI hT5 18; unfold tbV at hcT5; simp only [Nat.reduceEqDiff, if_false, if_true] at hcT5; have HT5 := Lib.hid hT5; clear hO5 hg5 hnil5 hT5)
       go_roundw
       case rel =>
         refine ⟨k + 1, Value.slice aS' ((zad l k).length + 1) cS', by omega, by go_num, ?_, ?_, ?_⟩
         · refine Lib.hid ?_
           rw [zaG HT5.out]
           exact congrArg (fun x => some (Obj.cells (List.toArray x) _ _)) (zal fun i _ => by
             unfold tbV
             by_cases h0 : i = 0
             · subst h0; simp
             · by_cases h1 : i = 1
               · subst h1; simp
               · by_cases h18 : i = 18 <;> simp [h0, h1, h18])
         · refine Lib.hid ?_
           rw [HSY.out, if_pos hp, List.length_append, List.map_append]
           refine zbO HO5.out (fun h => ?_) _
           have := (HO5.out.lt T h).1
           omega
         · exact Lib.hid (((HBk.out.alloc (by omega) _).grown HG5.out (by rw [zae]; omega) (fun q hq => by have := (HSk.out.lt q hq).1; omega)).setCell (by simp) _)
       case measure => simp [intOf]; omega
     · go_wp2
       go_roundw
       case rel =>
         refine ⟨k + 1, _, by omega, by go_num, HTk, ?_, HBk⟩
         rw [HSY.out, if_neg hp, List.append_nil]
         exact HSk
       case measure => simp [intOf]; omega
   · obtain rfl : k = n := by omega
     have hkl := HL.out
     have hcT := zai HTk.out 18 (by omega)
     unfold tbV at hcT
     simp only [Nat.reduceEqDiff, if_false, if_true] at hcT
     have hLr := (Row.of_own (zaf HL4.out (Below.refl _ _))).2
     have HKL := Lib.hid hkl
     clear hkl
     have done_ : ∀ (aS : Option Addr) (cS : Nat) (R : List Int) (w6 : World), w6.heap[T]? = some (.cells (fl 19 (tbV (.slice aL k cL) (.slice aC k cC) (.slice aS R.length cS) l)).toArray 111 (0, 0)) → Below T w4 w6 → Row w6 1 aS R.length cS (R.map (Value.int .i64)) → SrtOf l R → (∀ x, aS = some x → T < x.block ∧ x.block < w6.heap.size) →
         ∃ p, (Value.pointer (some ⟨T, 0, none⟩)) = .pointer (some ⟨p, 0, none⟩) ∧ IsTb w6 (fun b => w.heap.size ≤ b ∧ b < w6.heap.size) p l ∧ Below w.heap.size w w6 := by
       intro aS cS R w6 h1 h2 h3 h4 h5
       obtain ⟨aL', cL', eL, hrL, hbL⟩ := Row.of_owns HL4.out
       obtain ⟨aC', cC', eC, hrC, hbC⟩ := Row.of_owns HC4.out
       simp only [Value.slice.injEq] at eL eC
       obtain ⟨rfl, -, rfl⟩ := eL
       obtain ⟨rfl, -, rfl⟩ := eC
       have hkl := HKL.out
       subst hkl
       have hsz6 : T + 1 ≤ w6.heap.size := by have := h2.size; have := HS4.out; omega
       refine ⟨T, rfl, ⟨⟨aL, cL, aC, cC, aS, cS, R, h1, hrL.below h2 HLLT.out, hrC.below h2 HCLT.out, h3, h4, fun x hx => ?_, fun x hx => ?_, fun x hx => ?_, fun e => ?_⟩, HR.out, ?_⟩, HBW4.out.trans (h2.mono (by omega))⟩
       · have h6 : w1.heap.size ≤ x.block := hbL x hx
         have h7 := HLLT.out x hx
         exact ⟨by omega, by omega⟩
       · have h7 := HCLT.out x hx
         exact ⟨hbC x hx, by omega⟩
       · have h6 := h5 x hx
         exact ⟨by omega, h6.2⟩
       · have := hrL.2.2.2.1 e
         have := hrL.2.1
         omega
       · show w.heap.size ≤ T ∧ T < w6.heap.size
         omega
     have DONE := Lib.hid done_
     clear done_
     have hbox3 : wr.cell? ⟨w.heap.size, 0, none⟩ = some (.slice a k cap) := zag HBk.out (by omega) HBOX.out
     have hrowk := HROW.out.below HBk.out HAT.out
     have HROWK := Lib.hid hrowk
     clear hrowk
     rcases HSk.out.2 with ⟨hnil, hzero⟩ | ⟨g, cp, cur, hSv, hgT, hgb, hle, hcpm, hcur, htk⟩
     · subst hnil
       have hsl : zad l k = [] := List.eq_nil_of_length_eq_zero hzero
       have HSL := Lib.hid hsl
       have HZ := Lib.hid hzero
       clear hsl hzero
       go_wp2_with (go_at_call 61; refine (stable_nil _ _).mono ?_; rintro e w6 ⟨rfl, rfl⟩)
       go_ret2
       have hkl := HKL.out
       have hsrt : SrtOf l [] := srt_of HOK.out #[] (by rw [hkl, HSL.out]; exact permIn_refl _ _ _) (by intro i j _ h1 h2; rw [hkl, HSL.out] at h2; simp at h2)
       obtain ⟨p, e1, e2, e3⟩ := DONE.out none 0 [] wr HTk.out HBk.out (Row.nil _ _) hsrt (fun x hx => by cases hx)
       exact ⟨p, congrArg (fun v => Ending.returned (.tuple #[v, .int .i64 0])) e1, e2, e3⟩
     · subst hSv
       have hsb : SB (Value.int .i64) wr g 3 (cur.toList.drop (zad l k).length) (zad l k).toArray wr := SB.start hgb (by simpa using htk)
       have hgw : g < wr.heap.size := (Array.getElem?_eq_some_iff.1 hgb).1
       have hC : CmpQ Tryz.prog 62 #[.pointer (some ⟨w.heap.size, 0, none⟩)] (Value.int .i64) (cfL l) (fun x => ∃ q : Nat, q < k ∧ x = (q : Int)) wr g := by
         refine ⟨fun _ _ => by kernel_rfl, fun W hG x y hx hy => ?_⟩
         obtain ⟨qx, hqx, rfl⟩ := hx
         obtain ⟨qy, hqy, rfl⟩ := hy
         exact cmpNew_any w.heap.size a k cap l qx qy W (hG.cell hbox3 (by simp; omega)) (HROWK.out.kept hG (fun x hx => by have := HAT.out x hx; omega)) hqx hqy
       have hstb := hst (cfL l) (zbb l) _ 62 _ g cp _ (zad l k).toArray wr wr (zbM l) hC hsb (fun i hi => by
         rw [zdY hi]
         obtain ⟨q, h1, _, h2⟩ := zck.1 (List.getElem_mem (by simpa using hi))
         exact ⟨q, h1, h2⟩) (fun p q h1 h2 => sym_agree l k p q h1 h2) (by
         have : (zad l k).length ≤ k := by unfold zad; rw [List.length_map]; exact Nat.le_trans (List.length_filter_le _ _) (by simp)
         simp; omega)
       have HSTB := Lib.hid hstb
       clear hst hC hsb hstb hgb hcur htk
       go_wp2_with (go_at_call 61; refine HSTB.out.mono ?_; rintro e w6 ⟨rfl, R, hSB, hP, hSo⟩)
       go_ret2
       have hkl := HKL.out
       have hRs : R.size = (zad l k).length := by simpa using hP.1
       have hsrt : SrtOf l R.toList := srt_of HOK.out R (by rw [hkl]; simpa using hP) (by rw [hkl]; simpa using hSo)
       have hTw : T < wr.heap.size := (Array.getElem?_eq_some_iff.1 HTk.out).1
       have hT6 : w6.heap[T]? = _ := (hSB.grown.block T hTw (by simp; omega)).trans HTk.out
       have hlen : R.toList.length = (zad l k).length := by simpa using hRs
       obtain ⟨p, e1, e2, e3⟩ := DONE.out (some ⟨g, 0, none⟩) cp R.toList w6 (by rw [hT6, hlen]) (HBk.out.grown hSB.grown (by omega) (fun q hq => by cases hq; omega)) (by
         have hrow := hSB.row (cap := cp) (by omega) hcpm
         simpa using hrow) hsrt (fun x hx => by cases hx; exact ⟨hgT, Nat.lt_of_lt_of_le hgw hSB.grown.size⟩)
       exact ⟨p, congrArg (fun v => Ending.returned (.tuple #[v, .int .i64 0])) e1, e2, e3⟩
theorem new_bad (a : Option Addr) (n cap : Nat) (l : List Int) (w : World) (hr : Row w 1 a n cap (l.map (Value.int .i64))) (hroom : zax l < 0) :
   Calls Tryz.prog 35 #[.slice a n cap] w fun e w' => e = .returned (.tuple #[.pointer none, .int .i64 13]) ∧ Below w.heap.size w w' := by
 have hr0 := hr.mono (zam w (.cells #[.slice a n cap] 59))
 have HR0 := Lib.hid hr0
 clear hr0
 go_enter Tryz.func35, Tryz.ntmps35
 go_wp2_with (go_at_call 58; refine (codes_bad a n cap l _ HR0.out hroom).mono ?_; rintro e w' ⟨rfl, rfl⟩)
 go_ret2
 exact ⟨rfl, zam _ _⟩
theorem tdead_any (Bl : Nat → Prop) (p : Nat) (l : List Int) (w : World) (h : IsTb w Bl p l) :
   Calls Tryz.prog 73 #[.pointer (some ⟨p, 0, none⟩)] w fun e w' => e = .returned (.bool false) ∧ w = w' := by
 obtain ⟨⟨aL, cL, aC, cC, aS, cS, srt, hT, hL, hC, hS, hso, b1, b2, b3, hnn⟩, hroom, hp⟩ := h
 have hc := zai hT 0 (by omega)
 unfold tbV at hc
 simp only [if_true] at hc
 obtain ⟨x, rfl⟩ := Option.ne_none_iff_exists'.1 hnn
 have hnil := fun W : World => Lib.run_eql_slice_nil (P := Tryz.prog) W 59 3 (some x) l.length cL 0 0 Tryz.underlying59
 clear hT hL hC hS hso b1 b2 b3 hnn
 go_enter Tryz.func73, Tryz.ntmps73
 go_wp2
 go_ret
 exact ⟨rfl, rfl⟩
theorem IsTb.kept {w w' : World} {Bl : Nat → Prop} {p r : Nat} {l : List Int} (h : IsTb w Bl p l) (hg : w.grownBy w' (some r)) (hr : ¬ Bl r) : IsTb w' Bl p l := by
 obtain ⟨⟨aL, cL, aC, cC, aS, cS, srt, hT, hL, hC, hS, hso, b1, b2, b3, hnn⟩, hroom, hp⟩ := h
 have hpr : p ≠ r := fun e => hr (e ▸ hp)
 refine ⟨⟨aL, cL, aC, cC, aS, cS, srt, ?_, hL.kept hg (fun x hx e => hr (e ▸ b1 x hx)), hC.kept hg (fun x hx e => hr (e ▸ b2 x hx)), hS.kept hg (fun x hx e => hr (e ▸ b3 x hx)), hso, b1, b2, b3, hnn⟩, hroom, hp⟩
 rw [hg.block p (Array.getElem?_eq_some_iff.1 hT).1 (by simpa using hpr)]
 exact hT
theorem IsTb.mono {w w' : World} {Bl : Nat → Prop} {p : Nat} {l : List Int} (h : IsTb w Bl p l) (hb : Below w.heap.size w w') : IsTb w' Bl p l := by
 obtain ⟨⟨aL, cL, aC, cC, aS, cS, srt, hT, hL, hC, hS, hso, b1, b2, b3, hnn⟩, hroom, hp⟩ := h
 exact ⟨⟨aL, cL, aC, cC, aS, cS, srt, zbm hb hT, hL.mono hb, hC.mono hb, hS.mono hb, hso, b1, b2, b3, hnn⟩, hroom, hp⟩
theorem IsTb.weaken {w : World} {Bl Bl' : Nat → Prop} {p : Nat} {l : List Int} (h : IsTb w Bl p l) (hB : ∀ b, Bl b → Bl' b) : IsTb w Bl' p l := by
 obtain ⟨⟨aL, cL, aC, cC, aS, cS, srt, hT, hL, hC, hS, hso, b1, b2, b3, hnn⟩, hroom, hp⟩ := h
 exact ⟨⟨aL, cL, aC, cC, aS, cS, srt, hT, hL, hC, hS, hso, fun x hx => hB _ (b1 x hx), fun x hx => hB _ (b2 x hx), fun x hx => hB _ (b3 x hx), hnn⟩, hroom, hB _ hp⟩
theorem getV_one (f : Nat → Bool) (high : Bool) : getV f high 1 1 = if f 0 then 1 else 0 := by
 cases high <;> simp [getV, zbf]
theorem get_cut (r n : Nat) (bs : List UInt8) (high : Bool) (at_ : Nat) (w : World) (h : IsRd w r bs high at_) (hn : n ≤ 32) (hgt : 8 * bs.length < at_ + n) :
   Calls Tryz.prog 48 #[.pointer (some ⟨r, 0, none⟩), .int .i64 n] w fun e w' => e = .returned (.tuple #[.int .u32 0, .int .i64 10]) ∧ ∃ q, w' = w.drewN q := by
 have hdead := zb6 r bs high at_ w h
 have hleft := left_any r bs high at_ w h
 have hle := h.le
 have hN : decide (8 * bs.length - at_ < n) = true := by simp; omega
 have hN1 : decide ((n : Int) < 0) = false := by simp
 have hN2 : decide (32 < (n : Int)) = false := by simp; omega
 have HD := Lib.hid hdead
 have HL := Lib.hid hleft
 clear hdead hleft h
 go_enter Tryz.func48, Tryz.ntmps48
 go_wp2_with (first
   | (go_at_call 31; refine HD.out.mono ?_; rintro e w' ⟨rfl, rfl⟩)
   | (go_at_call 74; refine HL.out.mono ?_; rintro e w' ⟨rfl, q1, rfl⟩))
 go_ret2
 exact ⟨rfl, _, rfl⟩
theorem zei (a : Nat) (ha : a < 4611686018427387904) : (BitVec.ofInt 64 (a : Int)).toNat = a := by
 rw [BitVec.ofInt_natCast, BitVec.toNat_ofNat]; exact Nat.mod_eq_of_lt (by omega)
theorem i64_or_nat (a b : Nat) (ha : a < 4611686018427387904) (hb : b < 4611686018427387904) : bits .or .i64 (a : Int) (b : Int) = ((a ||| b : Nat) : Int) := by
 have hx : a ||| b < 2 ^ 62 := Nat.or_lt_two_pow (by omega) (by omega)
 show IntKind.i64.wrap ((BitVec.ofInt 64 (a : Int) ||| BitVec.ofInt 64 (b : Int)).toNat : Int) = _
 rw [BitVec.toNat_or, zei a ha, zei b hb, IntKind.wrap_i64]
 omega
theorem or_shl (v x : Nat) (hv : v < 65536) (hx : x < 2) : bits .or .i64 ((v : Int) * 2) (x : Int) = (v : Int) * 2 + x := by
 have e : ((v : Int) * 2) = ((v * 2 : Nat) : Int) := by omega
 rw [e, i64_or_nat _ _ (by omega) (by omega), nat_join 1 (v * 2) x (by omega) (by omega)]
 omega
theorem get_one (r : Nat) (bs : List UInt8) (high : Bool) (at_ : Nat) (w : World) (h : IsRd w r bs high at_) (b : Bool) (hb : zaF bs high at_ = b) (hle2 : at_ + 1 ≤ 8 * bs.length) :
   Calls Tryz.prog 48 #[.pointer (some ⟨r, 0, none⟩), .int .i64 1] w fun e w' => e = .returned (.tuple #[.int .u32 (if b then 1 else 0), .int .i64 0]) ∧ IsRd w' r bs high (at_ + 1) ∧ w.grownBy w' (some r) :=
 (get_ok r 1 bs high at_ w h (by omega) hle2).mono fun e w' ⟨he, h1, h2⟩ => ⟨by rw [he, getV_one]; simp only [Nat.add_zero, hb]; cases b <;> rfl, h1, h2⟩
theorem tget_any (Bl : Nat → Prop) (p r : Nat) (l : List Int) (bs : List UInt8) (high : Bool) (at_ : Nat) (w : World) (hT : IsTb w Bl p l) (hR : IsRd w r bs high at_) (hrp : ¬ Bl r) :
   Calls Tryz.prog 76 #[.pointer (some ⟨p, 0, none⟩), .pointer (some ⟨r, 0, none⟩)] w fun e w' =>
     e = .returned (.tuple #[.int .i64 ((zc7 l (fun k => zaF bs high (at_ + k)) (8 * bs.length - at_)).1 : Nat), .int .i64 (zc7 l (fun k => zaF bs high (at_ + k)) (8 * bs.length - at_)).2.2]) ∧
     IsRd w' r bs high (at_ + (zc7 l (fun k => zaF bs high (at_ + k)) (8 * bs.length - at_)).2.1) ∧ w.grownBy w' (some r) := by
 obtain ⟨V, hV⟩ : ∃ V, V = zc7 l (fun k => zaF bs high (at_ + k)) (8 * bs.length - at_) := ⟨_, rfl⟩
 rw [← hV]
 have HV := Lib.hid hV
 have hdead := tdead_any Bl p l w hT
 have HD := Lib.hid hdead
 have HRd := Lib.hid hR
 have hroom := Lib.hid hT.room
 have hlen := (zar hT.room).2.1
 have hok1 := Lib.hid (zar hT.room).2.2.1
 obtain ⟨⟨aL, cL, aC, cC, aS, cS, srt, hTb, hL, hC, hS, hso, b1, b2, b3, hnn⟩, -, hpB⟩ := hT
 have hpr : p ≠ r := fun e => hrp (e ▸ hpB)
 have hSr : ∀ x, aS = some x → x.block ≠ r := fun x hx e => hrp (e ▸ b3 x hx)
 have hcn : ∀ W, w.grownBy W (some r) → ∀ m, 1 ≤ m → m ≤ 15 → W.cell? ⟨p, 2 + m, none⟩ = some (.int .i64 (cn l m)) := fun W hW m h1 h2 => by
   have hc := zai hTb (2 + m) (by omega)
   unfold tbV at hc
   rw [if_neg (by omega), if_neg (by omega), if_neg (by omega), Nat.add_sub_cancel_left] at hc
   exact hW.cell hc (by simpa using hpr)
 have hsl : ∀ W, w.grownBy W (some r) → W.cell? ⟨p, 18, none⟩ = some (.slice aS srt.length cS) := fun W hW => by
   have hc := zai hTb 18 (by omega)
   unfold tbV at hc
   simp only [Nat.reduceEqDiff, if_false, if_true] at hc
   exact hW.cell hc (by simpa using hpr)
 have hsle := Lib.hid hso.len
 have HCN := Lib.hid hcn
 have HSL := Lib.hid hsl
 have HSO := Lib.hid hso
 have HS := Lib.hid hS
 have HSR := Lib.hid hSr
 have hsrtl : srt.length ≤ 320 := by
   have h1 := hso.len
   have h2 := zbV hok1.out l.length (Nat.le_refl _)
   rw [List.take_length] at h2
   have h3 : (zad l l.length).length ≤ l.length := by unfold zad; rw [List.length_map]; exact Nat.le_trans (List.length_filter_le _ _) (by simp)
   omega
 clear hcn hsl hso hTb hL hC hS b1 b2 b3 hnn hpB hR hdead hrp hV hSr
 have hle := HRd.out.le
 go_enter Tryz.func76, Tryz.ntmps76
 go_wp2
 go_step3
 go_wp2_with (go_at_call 73; refine HD.out.mono ?_; rintro e w' ⟨rfl, rfl⟩)
 go_step3
 go_wp2
 go_loopw [6, 7, 8, 9] (fun cd fs at2 i wr => ∃ j : Nat, j ≤ 15 ∧ j ≤ 8 * bs.length - at_ ∧ i = .int .i64 (j + 1 : Nat) ∧ cd = .int .i64 (valN (fun k => zaF bs high (at_ + k)) j : Nat) ∧ fs = .int .i64 (zaw (cn l) j + cn l j) ∧ at2 = .int .i64 (ats l (j + 1)) ∧
     Hid (zaw (cn l) j + cn l j ≤ (valN (fun k => zaF bs high (at_ + k)) j : Nat)) ∧ Hid (V = zbr l (fun k => zaF bs high (at_ + k)) (8 * bs.length - at_) (15 - j) (j + 1)) ∧ Hid (IsRd wr r bs high (at_ + j)) ∧ Hid (w.grownBy wr (some r))) (fun _ _ _ i _ => 17 - (intOf i).toNat)
 case atStart => exact ⟨0, by omega, by omega, rfl, rfl, by simp [zaw, cn], by simp [ats, cn], Lib.hid (by simp [zaw, cn, valN]), HV, HRd, ⟨rfl, rfl, rfl, Nat.le_refl _, fun _ _ _ => rfl⟩⟩
 case round =>
   obtain ⟨j, hj, hjl, rfl, rfl, rfl, rfl, HF, HVj, HRj, HG⟩ := hrel
   by_cases hlt : j < 15
   · have hfuel : 15 - j = (15 - (j + 1)) + 1 := by omega
     have hgo := HVj.out
     rw [hfuel, zbr] at hgo
     have hslr := HSL.out wr HG.out
     have hcnr := HCN.out wr HG.out (j + 1) (by omega) (by omega)
     have hal := ats_long hok1.out (n := j + 1) (by omega) (by omega)
     have hamono := zcf l (j + 1) 16 (by omega)
     have hann := ats_nonneg l (j + 1)
     have hft := zbN hroom.out (j + 1) (by omega)
     have hpw := zcR (n := j + 1) (by omega)
     have hv1 := valN_lt (fun k => zaF bs high (at_ + k)) j
     have hpj : 2 ^ j ≤ 16384 := Nat.pow_le_pow_right (n := 2) (by omega) (by omega : j ≤ 14)
     have hfj := zbN hroom.out j (by omega)
     have hcb := zdg l (j + 1)
     have hcbj := zdg l j
     have hso1 := hsle.out
     clear hfuel
     by_cases hlong : zcD l (j + 1) = false
     · rw [if_pos hlong] at hgo
       have heq : (ats l (j + 1) == (srt.length : Int)) = true := by rw [beq_iff_eq]; have := hal.2 hlong; omega
       have HGO := Lib.hid hgo
       clear hgo hal
       go_wp2
       try rw [Exit.noGoto_ret]
       go_ret2
       rw [HGO.out]
       exact ⟨rfl, HRj.out, HG.out⟩
     · rw [if_neg hlong] at hgo
       have hne : ¬ ats l (j + 1) = ats l 16 := fun e => hlong (hal.1 e)
       have heq : (ats l (j + 1) == (srt.length : Int)) = false := by rw [beq_eq_false_iff_ne]; omega
       clear hal
       by_cases hcut : 8 * bs.length - at_ < j + 1
       · rw [if_pos hcut] at hgo
         have HGO := Lib.hid hgo
         have hcc := get_cut r 1 bs high (at_ + j) wr HRj.out (by omega) (by omega)
         have HCC := Lib.hid hcc
         clear hgo hcc
         go_wp2_with (go_at_call 48; refine HCC.out.mono ?_; rintro e w2 ⟨rfl, q, rfl⟩)
         try rw [Exit.noGoto_ret]
         go_ret2
         rw [HGO.out]
         exact ⟨rfl, ⟨by obtain ⟨a, c, h1, h2, h3⟩ := HRj.out.ex; exact ⟨a, c, h1, h2, h3⟩, HRj.out.le, HRj.out.small⟩, zbW HG.out q⟩
       · rw [if_neg hcut] at hgo
         have hval : valN (fun k => zaF bs high (at_ + k)) (j + 1) = 2 * valN (fun k => zaF bs high (at_ + k)) j + if zaF bs high (at_ + j) then 1 else 0 := rfl
         have hf0 := HF.out
         obtain ⟨b, hb⟩ : ∃ b, b = zaF bs high (at_ + j) := ⟨_, rfl⟩
         rw [← hb] at hval
         have hget := get_one r bs high (at_ + j) wr HRj.out b hb.symm (by omega)
         obtain ⟨v, hv⟩ : ∃ v, v = valN (fun k => zaF bs high (at_ + k)) j := ⟨_, rfl⟩
         rw [← hv] at hval hv1 hf0
         obtain ⟨v', hv'⟩ : ∃ v', v' = valN (fun k => zaF bs high (at_ + k)) (j + 1) := ⟨_, rfl⟩
         rw [← hv'] at hval hgo
         rw [show valN (fun k => zaF bs high (at_ + k)) j = v from hv.symm] at *
         obtain ⟨c, hc0, hc1, hget', hor, hv'b⟩ : ∃ c : Int, 0 ≤ c ∧ c ≤ 1 ∧ (Calls Tryz.prog 48 #[.pointer (some ⟨r, 0, none⟩), .int .i64 1] wr fun e w' => e = .returned (.tuple #[.int .u32 c, .int .i64 0]) ∧ IsRd w' r bs high (at_ + j + 1) ∧ wr.grownBy w' (some r)) ∧
             bits .or .i64 ((v : Int) * 2) c = (v : Int) * 2 + c ∧ (v' : Int) = (v : Int) * 2 + c := by
           cases b
           · exact ⟨0, by omega, by omega, hget, or_shl v 0 (by omega) (by omega), by rw [hval]; simp; omega⟩
           · exact ⟨1, by omega, by omega, hget, or_shl v 1 (by omega) (by omega), by rw [hval]; simp; omega⟩
         have HGET := Lib.hid hget'
         have HV' := Lib.hid hv'
         clear hget hget' hb hval hv' hv b
         have hfs : zaw (cn l) (j + 1) = (zaw (cn l) j + cn l j) * 2 := rfl
         have hfl : zaw (cn l) (j + 1) ≤ (v' : Int) := by rw [hv'b, hfs]; omega
         by_cases hin : (v' : Int) - zaw (cn l) (j + 1) < cn l (j + 1)
         · obtain ⟨k, hfk, hkl, hk1, hk2⟩ := findSym_some (by omega) hfl hin
           rw [hfk] at hgo
           simp only at hgo
           have hsat := HSO.out.at_ k hkl (by omega)
           rw [hk1, Int.toNat_natCast, hk2] at hsat
           have hbnd := zcf l (j + 2) 16 (by omega)
           rw [show ats l (j + 2) = ats l (j + 1) + cn l (j + 1) from rfl] at hbnd
           have hidx : (ats l (j + 1) + ((v' : Int) - zaw (cn l) (j + 1))).toNat < srt.length := by omega
           have hidx2 : (ats l (j + 1) + ((v : Int) * 2 + c) - (zaw (cn l) j + cn l j) * 2).toNat = (ats l (j + 1) + ((v' : Int) - zaw (cn l) (j + 1))).toNat := by
             rw [hv'b, hfs]; congr 1; omega
           have hin2 : (v : Int) * 2 + c - (zaw (cn l) j + cn l j) * 2 < cn l (j + 1) := by omega
           have hlow : 0 ≤ ats l (j + 1) + ((v : Int) * 2 + c) - (zaw (cn l) j + cn l j) * 2 := by omega
           have hupp : ats l (j + 1) + ((v : Int) * 2 + c) - (zaw (cn l) j + cn l j) * 2 < (srt.length : Int) := by omega
           obtain ⟨sb, so, hsa, hsb, hscc⟩ := HS.out.at 0 _ hidx
           have hscell := hscc _ hidx
           rw [hsat, ← hidx2] at hscell
           have hsbr : sb ≠ r := HSR.out _ hsa
           have HGO := Lib.hid hgo
           have HSCELL := Lib.hid hscell
           subst hsa
           clear hgo hfk hk2 hsat hscc hscell hfs hfl hin hidx hidx2 hv'b hbnd
           go_wp2_with (go_at_call 48; refine HGET.out.mono ?_; rintro e w2 ⟨rfl, hR2, hG2⟩; have hGG := zcK HG.out hG2; have hcn2 := HCN.out w2 hGG (j + 1) (by omega) (by omega); have hsl2 := HSL.out w2 hGG; have hsc2 := hGG.cell HSCELL.out (by simpa using hsbr); have HR2 := Lib.hid hR2; have HGG := Lib.hid hGG; clear hR2 hG2 hGG)
           try rw [Exit.noGoto_ret]
           go_ret2
           rw [HGO.out]
           exact ⟨rfl, by simpa [Nat.add_assoc] using HR2.out, HGG.out⟩
         · rw [findSym_none (by omega) (fun h => hin h.2)] at hgo
           simp only at hgo
           have hin2 : cn l (j + 1) ≤ (v : Int) * 2 + c - (zaw (cn l) j + cn l j) * 2 := by omega
           have hhead : zaw (cn l) (j + 1) + cn l (j + 1) ≤ (v' : Int) := by omega
           have HGO := Lib.hid hgo
           have HFS := Lib.hid hfs
           have HVB := Lib.hid hv'b
           have HHEAD := Lib.hid hhead
           clear hgo hfs hfl hin hv'b hhead
           go_wp2_with (go_at_call 48; refine HGET.out.mono ?_; rintro e w2 ⟨rfl, hR2, hG2⟩; have hGG := zcK HG.out hG2; have hcn2 := HCN.out w2 hGG (j + 1) (by omega) (by omega); have hsl2 := HSL.out w2 hGG; have HR2 := Lib.hid hR2; have HGG := Lib.hid hGG; clear hR2 hG2 hGG)
           go_roundw
           case rel =>
             refine ⟨j + 1, by omega, by omega, by go_num, ?_, ?_, ?_, ?_, ?_, by simpa [Nat.add_assoc] using HR2, HGG⟩
             · rw [← HV'.out, HVB.out]
             · rw [HFS.out]
             · rfl
             · rw [← HV'.out]; exact HHEAD
             · exact Lib.hid HGO.out
           case measure => simp [intOf]; omega
   · obtain rfl : j = 15 := by omega
     have hgo := HVj.out
     simp only [Nat.sub_self, zbr] at hgo
     have HGO := Lib.hid hgo
     clear hgo
     go_wp2
     try rw [Exit.noGoto_ret]
     go_ret2
     rw [HGO.out]
     exact ⟨rfl, HRj.out, HG.out⟩
theorem read_any (a : Option Addr) (cap : Nat) (bs : List UInt8) (high : Bool) (w : World) (hr : Row w 1 a bs.length cap (bs.map fun b => Value.int .u8 b.toNat)) (hby : bs.length ≤ 140737488355328) :
   Calls Tryz.prog 15 #[.slice a bs.length cap, .bool high] w fun e w' => ∃ r, e = .returned (.pointer (some ⟨r, 0, none⟩)) ∧ IsRd w' r bs high 0 ∧ w.heap.size ≤ r ∧ Below w.heap.size w w' := by
 have hcl := cloneB a bs.length cap _ w hr (by intro u hu; simp at hu; obtain ⟨x, _, rfl⟩ := hu; rfl) (by omega)
 have HCL := Lib.hid hcl
 clear hcl hr
 generalize hn : bs.length = n at *
 have HN := Lib.hid hn
 clear hn
 go_enter Tryz.func15, Tryz.ntmps15
 go_wp2_with (go_at_call 23; refine HCL.out.mono ?_; rintro e w1 ⟨v, rfl, hO, hb, hnn⟩; obtain ⟨a1, c1, rfl, hr1, hb1⟩ := Row.of_owns hO; have HO := Lib.hid hO; have HB := Lib.hid hb; have HR1 := Lib.hid hr1; have HB1 := Lib.hid hb1; clear hO hb hnn hr1 hb1)
 go_ret
 have hn := HN.out
 subst hn
 refine ⟨w1.heap.size, rfl, ⟨⟨a1, c1, zah _ rfl, HR1.out.mono (zam _ _), fun x hx => ?_⟩, by omega, by omega⟩, HB.out.size, HB.out.alloc (by exact HB.out.size) _⟩
 have := (HO.out.lt x.block (by simp [Value.ownBlock, hx])).2
 omega
theorem zeF (c : Nat → Int) (hc : ∀ m, 0 ≤ c m) (n : Nat) : ∀ d, (zaw c n + c n) * 2 ^ (d + 1) ≤ zaw c (n + d + 1)
 | 0 => by simp only [zaw]; omega
 | d + 1 => by
   have h := zeF c hc n d
   have h2 := hc (n + d + 1)
   rw [show n + (d + 1) + 1 = (n + d + 1) + 1 from by omega, zaw, Int.pow_succ]
   have : (zaw c n + c n) * (2 ^ (d + 1) * 2) = ((zaw c n + c n) * 2 ^ (d + 1)) * 2 := by rw [Int.mul_assoc]
   rw [this]
   omega
theorem zen {l : List Int} (hroom : 0 ≤ zax l) {a b : Nat} (ha : a < l.length) (hb : b < l.length) (hab : a ≠ b) (hpos : 0 < l.getD a 0) (hle : l.getD a 0 ≤ l.getD b 0) :
   zav l b / 2 ^ (l.getD b 0 - l.getD a 0).toNat ≠ zav l a := by
 obtain ⟨_, _, hok1, _⟩ := zar hroom
 have hxa := za4 hok1 (l.getD a 0) (by simp [List.getD, ha])
 have hxb := za4 hok1 (l.getD b 0) (by simp [List.getD, hb])
 have ea : zav l a = zaw (cn l) (l.getD a 0).toNat + cn (l.take a) (l.getD a 0).toNat := by unfold zav; rw [if_pos hpos]
 have eb : zav l b = zaw (cn l) (l.getD b 0).toNat + cn (l.take b) (l.getD b 0).toNat := by unfold zav; rw [if_pos (by omega)]
 have hla := cn_lt (m := (l.getD a 0).toNat) ha (by omega) (by omega)
 by_cases heq : l.getD a 0 = l.getD b 0
 · have e0 : (l.getD b 0 - l.getD a 0).toNat = 0 := by omega
   rw [e0, ea, eb, ← heq]
   simp only [Int.pow_zero, Int.ediv_one]
   intro h
   have hlt : ∀ {i j : Nat}, i < j → j < l.length → l.getD i 0 = l.getD j 0 → l.getD i 0 = l.getD a 0 → cn (l.take i) (l.getD a 0).toNat < cn (l.take j) (l.getD a 0).toNat := by
     intro i j hij hj _ hi
     have h1 := cn_take_mono l (l.getD a 0).toNat (show i + 1 ≤ j by omega)
     rw [zaR 0 l i (by omega), zbH _ _ _ (by omega), hi, if_pos ⟨hpos, rfl⟩] at h1
     omega
   rcases Nat.lt_or_gt_of_ne hab with h1 | h1
   · have := hlt h1 hb heq rfl; omega
   · have := hlt h1 ha heq.symm heq.symm; omega
 · have hgrow := zeF (cn l) (fun m => (zdg l m).1) (l.getD a 0).toNat ((l.getD b 0).toNat - (l.getD a 0).toNat - 1)
   have e1 : (l.getD a 0).toNat + ((l.getD b 0).toNat - (l.getD a 0).toNat - 1) + 1 = (l.getD b 0).toNat := by omega
   have e2 : (l.getD b 0).toNat - (l.getD a 0).toNat - 1 + 1 = (l.getD b 0 - l.getD a 0).toNat := by omega
   rw [e1, e2] at hgrow
   have hp : (0 : Int) < 2 ^ (l.getD b 0 - l.getD a 0).toNat := Int.pow_pos (by omega)
   have hb0 := (zdg (l.take b) (l.getD b 0).toNat).1
   have hge : zaw (cn l) (l.getD a 0).toNat + cn l (l.getD a 0).toNat ≤ zav l b / 2 ^ (l.getD b 0 - l.getD a 0).toNat := by
     rw [Int.le_ediv_iff_mul_le hp, eb]
     omega
   rw [ea]
   omega
theorem valN_bits (x n : Nat) (f : Nat → Bool) (hx : x < 2 ^ n) (h : ∀ i, i < n → f i = x.testBit (n - 1 - i)) : ∀ m, m ≤ n → valN f m = x / 2 ^ (n - m)
 | 0, _ => by simp [valN, Nat.div_eq_of_lt hx]
 | m + 1, hm => by
   have e : n - m = (n - (m + 1)) + 1 := by omega
   rw [valN, valN_bits x n f hx h m (by omega), h m (by omega), e, Nat.pow_succ, ← Nat.div_div_eq_div_mul, show n - 1 - m = n - (m + 1) from by omega, Nat.testBit_eq_decide_div_mod_eq]
   generalize x / 2 ^ (n - (m + 1)) = y
   by_cases hy : y % 2 = 1
   · simp [hy]; omega
   · simp [hy]; omega
def lenN (l : List Int) (s : Nat) : Nat := (l.getD s 0).toNat
def codeB (l : List Int) (s i : Nat) : Bool := (zav l s).toNat.testBit (lenN l s - 1 - i)
def zaU (l : List Int) (s k : Nat) : List Bool := (List.range k).map (codeB l s)
theorem zap (l : List Int) (s k : Nat) : (zaU l s k).length = k := by simp [zaU]
theorem codeL_succ (l : List Int) (s k : Nat) : zaU l s (k + 1) = zaU l s k ++ [codeB l s k] := by simp [zaU, List.range_succ]
theorem codeL_get (l : List Int) (s k i : Nat) (h : i < k) : (zaU l s k).getD i false = codeB l s i := by simp [zaU, h]
theorem code_lt {l : List Int} (hroom : 0 ≤ zax l) {s : Nat} (hs : s < l.length) (hp : 0 < l.getD s 0) : (zav l s).toNat < 2 ^ lenN l s := by
 obtain ⟨_, _, hok1, _⟩ := zar hroom
 have hx := za4 hok1 (l.getD s 0) (by simp [List.getD, hs])
 have e : zav l s = zaw (cn l) (l.getD s 0).toNat + cn (l.take s) (l.getD s 0).toNat := by unfold zav; rw [if_pos hp]
 have h1 := cn_lt (m := (l.getD s 0).toNat) hs (by omega) (by omega)
 have h2 := zbN hroom (l.getD s 0).toNat (by omega)
 have h0 := zcT hroom s
 unfold lenN
 have h3 : ((zav l s).toNat : Int) < ((2 ^ (l.getD s 0).toNat : Nat) : Int) := by
   rw [Int.toNat_of_nonneg h0.1]
   simp only [Int.natCast_pow, Int.cast_ofNat_Int]
   omega
 exact_mod_cast h3
theorem findSym_code {l : List Int} (hroom : 0 ≤ zax l) {s : Nat} (hs : s < l.length) (hp : 0 < l.getD s 0) : zbw l (lenN l s) ((zav l s).toNat : Nat) = some s := by
 have h0 := zcT hroom s
 have hps : (l.getD s 0 == ((lenN l s : Nat) : Int) && zav l s == (((zav l s).toNat : Nat) : Int)) = true := by
   rw [Bool.and_eq_true, beq_iff_eq, beq_iff_eq]; unfold lenN; exact ⟨by omega, by omega⟩
 cases h : zbw l (lenN l s) ((zav l s).toNat : Nat) with
 | none =>
   rw [zbw, List.find?_eq_none] at h
   exact absurd hps (h s (by simpa using hs))
 | some k =>
   have hk := List.find?_some h
   have hkl : k < l.length := by simpa using List.mem_of_find?_eq_some h
   simp only [Bool.and_eq_true, beq_iff_eq] at hk
   by_cases e : k = s
   · rw [e]
   · exfalso
     have hl : l.getD k 0 = l.getD s 0 := by rw [hk.1, lenN]; omega
     have := zen hroom hkl hs e (by omega) (by omega)
     rw [hl] at this
     simp only [Int.sub_self, Int.toNat_zero, Int.pow_zero, Int.ediv_one] at this
     omega
theorem findSym_part {l : List Int} (hroom : 0 ≤ zax l) {s m : Nat} (hs : s < l.length) (hp : 0 < l.getD s 0) (hm0 : 0 < m) (hm : m < lenN l s) : zbw l m (((zav l s).toNat / 2 ^ (lenN l s - m) : Nat) : Int) = none := by
 have h0 := zcT hroom s
 rw [zbw, List.find?_eq_none]
 intro k hk
 have hkl : k < l.length := by simpa using hk
 simp only [Bool.and_eq_true, beq_iff_eq, not_and]
 intro hl hc
 unfold lenN at hm hc
 have hks : k ≠ s := fun e => by rw [e] at hl; omega
 have := zen hroom hkl hs hks (by omega) (by omega)
 rw [hl, show (l.getD s 0 - (m : Int)).toNat = (l.getD s 0).toNat - m from by omega] at this
 apply this
 rw [hc]
 simp only [Int.natCast_ediv, Int.natCast_pow, Int.cast_ofNat_Int]
 rw [Int.toNat_of_nonneg h0.1]
theorem zdI {l : List Int} (hroom : 0 ≤ zax l) {s : Nat} (hs : s < l.length) (hp : 0 < l.getD s 0) {f : Nat → Bool} {left : Nat} (hl : lenN l s ≤ left) (hf : ∀ i, i < lenN l s → f i = codeB l s i) :
   ∀ fuel m, 0 < m → m ≤ lenN l s → lenN l s < m + fuel → zbr l f left fuel m = (s, lenN l s, 0)
 | 0, m, h0, h1, h2 => by omega
 | fuel + 1, m, h0, h1, h2 => by
   have hlong : zcD l m = true := by
     unfold zcD
     rw [List.any_eq_true]
     exact ⟨l.getD s 0, by simp [List.getD, hs], by simp only [decide_eq_true_eq]; unfold lenN at h1; omega⟩
   have hv := valN_bits (zav l s).toNat (lenN l s) f (code_lt hroom hs hp) (fun i hi => hf i hi) m h1
   rw [zbr, if_neg (by rw [hlong]; simp), if_neg (by omega), hv]
   by_cases hm : m = lenN l s
   · subst hm
     rw [Nat.sub_self, Nat.pow_zero, Nat.div_one, findSym_code hroom hs hp]
   · rw [findSym_part hroom hs hp h0 (by omega)]
     exact zdI hroom hs hp hl hf fuel (m + 1) (by omega) (by omega) (by omega)
theorem take_code {l : List Int} (hroom : 0 ≤ zax l) {s : Nat} (hs : s < l.length) (hp : 0 < l.getD s 0) {f : Nat → Bool} {left : Nat} (hl : lenN l s ≤ left) (hf : ∀ i, i < lenN l s → f i = codeB l s i) : zc7 l f left = (s, lenN l s, 0) := by
 have hx := za4 (zar hroom).2.2.1 (l.getD s 0) (by simp [List.getD, hs])
 exact zdI hroom hs hp hl hf 15 1 (by omega) (by unfold lenN; omega) (by unfold lenN; omega)
def zcs (l : List Int) : List Nat → List Bool
 | [] => []
 | s :: ss => zaU l s (lenN l s) ++ zcs l ss
theorem zcZ (l : List Int) : ∀ a b, zcs l (a ++ b) = zcs l a ++ zcs l b
 | [], b => rfl
 | s :: a, b => by simp only [List.cons_append, zcs, zcZ l a b, List.append_assoc]
theorem bitsOf_snoc (l : List Int) (a : List Nat) (s : Nat) : zcs l (a ++ [s]) = zcs l a ++ zaU l s (lenN l s) := by rw [zcZ]; simp [zcs]
theorem IsTb.keeps {w w' : World} {Bl S : Nat → Prop} {p : Nat} {l : List Int} (h : IsTb w Bl p l) (hk : zaa S w w') (hS : ∀ b, Bl b → ¬ S b) : IsTb w' Bl p l := by
 obtain ⟨⟨aL, cL, aC, cC, aS, cS, srt, hT, hL, hC, hS2, hso, b1, b2, b3, hnn⟩, hroom, hp⟩ := h
 exact ⟨⟨aL, cL, aC, cC, aS, cS, srt, hk.obj hT (hS p hp), hL.keeps hk (fun x hx => hS _ (b1 x hx)), hC.keeps hk (fun x hx => hS _ (b2 x hx)), hS2.keeps hk (fun x hx => hS _ (b3 x hx)), hso, b1, b2, b3, hnn⟩, hroom, hp⟩
theorem bit_of (x u : Nat) (high : Bool) : putL (x / 2 ^ u % 2) high 1 1 = [x.testBit u] := by
 have ht : zbf 0 1 high = 0 := by unfold zbf; cases high <;> rfl
 simp only [putL, ht, List.nil_append]
 rw [Nat.testBit_eq_decide_div_mod_eq, Nat.testBit_eq_decide_div_mod_eq]
 simp
theorem and_one (x u : Nat) (hx : x < 4294967296) : bits .and .u32 ((x : Int) / 2 ^ u) 1 = ((x / 2 ^ u % 2 : Nat) : Int) := by
 have e : (x : Int) / 2 ^ u = ((x / 2 ^ u : Nat) : Int) := by simp only [Int.natCast_ediv, Int.natCast_pow, Int.cast_ofNat_Int]
 have hl : x / 2 ^ u < 4294967296 := Nat.lt_of_le_of_lt (Nat.div_le_self _ _) hx
 rw [e, show (1 : Int) = ((1 : Nat) : Int) from rfl, u32_and_nat _ 1 hl (by omega), Nat.and_one_is_mod]
structure PutFacts (W : World) (p : Nat) (bL oL bC oC n cL cC s : Nat) (x : Int) (m : Int) : Prop where
 c0 : W.cell? ⟨p, 0, none⟩ = some (.slice (some ⟨bL, oL, none⟩) n cL)
 c1 : W.cell? ⟨p, 1, none⟩ = some (.slice (some ⟨bC, oC, none⟩) n cC)
 l : W.cell? ⟨bL, oL + s, none⟩ = some (.int .i64 m)
 x : W.cell? ⟨bC, oC + s, none⟩ = some (.int .u32 x)
theorem put_facts {w : World} {Bl : Nat → Prop} {p : Nat} {l : List Int} (h : IsTb w Bl p l) (s : Nat) (hs : s < l.length) :
   ∃ bL oL bC oC cL cC, ∀ W S, zaa S w W → (∀ b, Bl b → ¬ S b) → PutFacts W p bL oL bC oC l.length cL cC s (zav l s) (l.getD s 0) := by
 obtain ⟨⟨aL, cL, aC, cC, aS, cS, srt, hT, hL, hC, hS, hso, b1, b2, b3, hnn⟩, hroom, hp⟩ := h
 obtain ⟨bL, oL, rfl, _, hcL⟩ := hL.at 0 s hs
 obtain ⟨bC, oC, rfl, _, hcC⟩ := Row.at (enc := id) (.bool false) (l := fl l.length (cdV l l.length)) (by simpa using hC) s hs
 refine ⟨bL, oL, bC, oC, cL, cC, fun W S hk hd => ?_⟩
 have k0 := zai hT 0 (by omega)
 have k1 := zai hT 1 (by omega)
 unfold tbV at k0 k1
 simp only [if_true, Nat.one_ne_zero, if_false] at k0 k1
 have k3 := hcC s hs
 rw [id, show (fl l.length (cdV l l.length)).getD s (.bool false) = .int .u32 (zav l s) from by simp [fl, hs, cdV]] at k3
 exact ⟨hk.cell k0 (hd p hp), hk.cell k1 (hd p hp), hk.cell (hcL s hs) (hd _ (b1 _ rfl)), hk.cell k3 (hd _ (b2 _ rfl))⟩
theorem tput_ok (Bl : Nat → Prop) (p wb s : Nat) (l : List Int) (high : Bool) (B : List Bool) (S : Nat → Prop) (w : World) (hT : IsTb w Bl p l) (h : WrQ w S wb high B) (hS : ∀ b, Bl b → ¬ S b) (hlt : B.length < 274877906944) (hs : s < l.length) (hp : 0 < l.getD s 0) :
   Calls Tryz.prog 46 #[.pointer (some ⟨p, 0, none⟩), .pointer (some ⟨wb, 0, none⟩), .int .i64 s] w fun e w' => e = .returned (.int .i64 0) ∧ zab w S wb high (B ++ zaU l s (lenN l s)) w' := by
 have HQ := Lib.hid h
 have hdead := tdead_any Bl p l w hT
 have HD := Lib.hid hdead
 have h15 := za4 (zar hT.room).2.2.1 (l.getD s 0) (by simp [List.getD, hs])
 have hcode := code_lt hT.room hs hp
 have hcb := zcT hT.room s
 obtain ⟨bL, oL, bC, oC, cL, cC, hpf⟩ := put_facts hT s hs
 obtain ⟨m, hm⟩ : ∃ m, m = lenN l s := ⟨_, rfl⟩
 obtain ⟨x, hx⟩ : ∃ x : Nat, x = (zav l s).toNat := ⟨_, rfl⟩
 have hcB : ∀ u j, u + 1 + j = m → codeB l s j = x.testBit u := by
   intro u j hj
   unfold codeB
   rw [← hx, ← hm, show m - 1 - j = u from by omega]
 have HCB := Lib.hid hcB
 rw [show zav l s = (x : Int) from by omega, show l.getD s 0 = (m : Int) from by rw [hm, lenN]; omega] at hpf
 have HPF := Lib.hid fun W hk => hpf W S hk hS
 have hx32 : x < 4294967296 := by omega
 rw [← hm]
 have hm0 : 0 < m := by rw [hm]; unfold lenN; omega
 have hm15 : m ≤ 15 := by rw [hm]; unfold lenN; omega
 have hf0 := hpf w S (zaa.refl _ _) hS
 obtain ⟨f0, f1, f2, f3⟩ := hf0
 have hN1 : decide ((s : Int) < 0) = false := by simp
 have hN2 : decide (l.length ≤ s) = false := by simp; omega
 have hmz : ((m : Int) == 0) = false := by rw [beq_eq_false_iff_ne]; omega
 have hll := (zar hT.room).2.1
 generalize l.length = n at *
 clear h hdead hT hS hpf hcB hm hx hcode hcb hp h15
 go_enter Tryz.func46, Tryz.ntmps46
 go_wp2_with (go_at_call 73; refine HD.out.mono ?_; rintro e w' ⟨rfl, rfl⟩)
 clear f0 f1 f2 f3
 go_loopw [7] (fun kv wr => ∃ (u j : Nat) (S' : Nat → Prop), kv = .int .i64 ((u : Int) - 1) ∧ u ≤ m ∧ Hid (u + j = m) ∧ Hid (WrQ wr S' wb high (B ++ zaU l s j)) ∧ Hid (zaa S w wr) ∧ Hid (∀ b, S' b → S b ∨ w.heap.size ≤ b)) (fun kv _ => (intOf kv + 1).toNat)
 case atStart => exact ⟨m, 0, S, by go_num, Nat.le_refl _, Lib.hid rfl, Lib.hid (by simpa [zaU] using HQ.out), Lib.hid (zaa.refl _ _), Lib.hid (fun b h => .inl h)⟩
 case round =>
   obtain ⟨u, j, S', rfl, hu, HU, HQk, HK, HS⟩ := hrel
   rcases u with _ | u
   · go_wp2
     go_ret
     have hj : j = m := by have := HU.out; omega
     subst hj
     exact ⟨rfl, S', HQk.out, HK.out, HS.out⟩
   · rw [show (((u + 1 : Nat) : Int) - 1) = (u : Int) from by omega]
     obtain ⟨f0, f1, f2, f3⟩ := HPF.out wr HK.out
     have hand := and_one x u hx32
     have hy2 : x / 2 ^ u % 2 < 2 := Nat.mod_lt _ (by omega)
     have hput := wput_any wb 1 (x / 2 ^ u % 2) high (B ++ zaU l s j) S' wr HQk.out (by have := HU.out; rw [List.length_append, zap]; omega) (by omega) (by omega)
     rw [bit_of, ← HCB.out u j (by have := HU.out; omega), List.append_assoc, ← codeL_succ] at hput
     generalize x / 2 ^ u % 2 = y at hput hand hy2
     have HP := Lib.hid hput
     clear hput
     go_wp2_with fail
     refine HP.out.mono ?_
     rintro e w2 ⟨rfl, S2, hQ2, hK2, hS2⟩
     have HQ2 := Lib.hid hQ2
     have HK2 := Lib.hid (HK.out.trans hK2 HS.out)
     have HS2 := Lib.hid (show ∀ b, S2 b → S b ∨ w.heap.size ≤ b from fun b hb => (hS2 b hb).elim (HS.out b) (fun h => .inr (Nat.le_trans HK.out.size h)))
     clear hQ2 hK2 hS2 f0 f1 f2 f3
     go_wp2
     go_roundw
     case rel => exact ⟨u, j + 1, S2, by go_num, by omega, Lib.hid (by have := HU.out; omega), HQ2, HK2, HS2⟩
     case measure => simp [intOf]
end Go.Proofs.YtngjbhejfojpbaaGreat
namespace Go.Proofs.YtngjbhejfojpbaaGreat
open Go.RowKit Go.Sort
variable {α : Type} [Inhabited α]
def swR (d : Array α) (a b n k : Nat) : α := if a ≤ k ∧ k < a + n then d[k - a + b]! else if b ≤ k ∧ k < b + n then d[k - b + a]! else d[k]!
theorem swR_zero (d : Array α) (a b k : Nat) : swR d a b 0 k = d[k]! := by
 unfold swR
 rw [if_neg (by omega), if_neg (by omega)]
theorem swR_step (d R : Array α) (a b n i : Nat) (hi : i < n) (hab : a + n ≤ b) (hb : b + n ≤ R.size) (hR : ∀ k, R[k]! = swR d a b i k) (k : Nat) : (swp R (a + i) (b + i))[k]! = swR d a b (i + 1) k := by
 by_cases h1 : k = a + i
 · subst h1
   rw [swp_left _ _ _ (by omega) (by omega), hR]
   unfold swR
   rw [if_neg (by omega), if_neg (by omega), if_pos (by omega)]
   exact congrArg (fun i => d[i]!) (by omega)
 · by_cases h2 : k = b + i
   · subst h2
     rw [swp_right _ _ _ (by omega), hR]
     unfold swR
     rw [if_neg (by omega), if_neg (by omega), if_neg (by omega), if_pos (by omega)]
     exact congrArg (fun i => d[i]!) (by omega)
   · rw [swp_other _ _ _ _ h1 h2, hR]
     unfold swR
     repeat' split
     all_goals first
       | rfl
       | (exfalso; omega)
def rotF (d : Array α) (a m b k : Nat) : α := if a ≤ k ∧ k < a + (b - m) then d[k + (m - a)]! else if a + (b - m) ≤ k ∧ k < b then d[k - (b - m)]! else d[k]!
theorem rot_gt (d R : Array α) (m i j : Nat) (hij : j < i) (him : i ≤ m) (hR : ∀ k, R[k]! = swR d (m - i) m j k) (k : Nat) : rotF R (m - (i - j)) m (m + j) k = rotF d (m - i) m (m + j) k := by
 unfold rotF
 simp only [hR, swR]
 repeat' split
 all_goals first
   | (exfalso; omega)
   | exact congrArg (fun i => d[i]!) (by omega)
theorem rot_lt (d R : Array α) (m i j : Nat) (hij : i < j) (him : i ≤ m) (hR : ∀ k, R[k]! = swR d (m - i) (m + j - i) i k) (k : Nat) : rotF R (m - i) m (m + (j - i)) k = rotF d (m - i) m (m + j) k := by
 unfold rotF
 simp only [hR, swR]
 repeat' split
 all_goals first
   | (exfalso; omega)
   | exact congrArg (fun i => d[i]!) (by omega)
theorem rot_eq (d R : Array α) (m i : Nat) (him : i ≤ m) (hR : ∀ k, R[k]! = swR d (m - i) m i k) (k : Nat) : R[k]! = rotF d (m - i) m (m + i) k := by
 unfold rotF
 simp only [hR, swR]
 repeat' split
 all_goals first
   | (exfalso; omega)
   | exact congrArg (fun i => d[i]!) (by omega)
variable {lt : α → α → Bool}
omit [Inhabited α] in
theorem chain3 (hS : SWO lt) {y u v x : α} (h1 : lt y u = false) (h2 : lt u v = false) (h3 : lt v x = false) : lt y x = false := hS.ntrans _ _ _ (hS.ntrans _ _ _ h1 h2) h3
theorem zaS (hS : SWO lt) {a b i j : Nat} {d : Array α} (h : SortedIn lt a b d) (hai : a ≤ i) (hij : i ≤ j) (hjb : j < b) : lt d[j]! d[i]! = false := by
 rcases Nat.lt_or_eq_of_le hij with h1 | h1
 · exact h i j hai h1 hjb
 · subst h1; exact hS.irrefl _
def zbP (lt1 lt : α → α → Bool) (d : Array α) (a m b : Nat) : Prop := ∀ p q, a ≤ p → p < m → m ≤ q → q < b → lt1 d[q]! d[p]! = lt d[q]! d[p]!
theorem zeP (hS : SWO lt) (d R R1 R2 : Array α) (a m b s e : Nat) (has : a ≤ s) (hsm : s ≤ m) (hme : m ≤ e) (heb : e ≤ b) (hb : b ≤ d.size) (hsz : R.size = d.size)
   (h1 : SortedIn lt a m d) (h2 : SortedIn lt m b d) (hR : ∀ k, R[k]! = rotF d s m e k)
   (H1 : a < s → e < b → lt d[e]! d[s - 1]! = false) (H2 : s < m → m < e → lt d[s]! d[e - 1]! = false)
   (p1 : PermIn a (s + (e - m)) R R1) (s1 : SortedIn lt a (s + (e - m)) R1) (p2 : PermIn (s + (e - m)) b R1 R2) (s2 : SortedIn lt (s + (e - m)) b R2) : SortedIn lt a b R2 := by
 have hmid : s + (e - m) ≤ b := by omega
 have lowx : ∀ k, a ≤ k → k < s + (e - m) → (∃ q, a ≤ q ∧ q < s ∧ R[k]! = d[q]!) ∨ (∃ q, m ≤ q ∧ q < e ∧ R[k]! = d[q]!) := by
   intro k hk1 hk2
   rw [hR, rotF]
   by_cases hks : k < s
   · left; exact ⟨k, hk1, hks, by rw [if_neg (by omega), if_neg (by omega)]⟩
   · right; exact ⟨k + (m - s), by omega, by omega, by rw [if_pos (by omega)]⟩
 have upx : ∀ k, s + (e - m) ≤ k → k < b → (∃ q, s ≤ q ∧ q < m ∧ R[k]! = d[q]!) ∨ (∃ q, e ≤ q ∧ q < b ∧ R[k]! = d[q]!) := by
   intro k hk1 hk2
   rw [hR, rotF]
   by_cases hke : k < e
   · left; exact ⟨k - (e - m), by omega, by omega, by rw [if_neg (by omega), if_pos (by omega)]⟩
   · right; exact ⟨k, by omega, hk2, by rw [if_neg (by omega), if_neg (by omega)]⟩
 have cross : ∀ i j, a ≤ i → i < s + (e - m) → s + (e - m) ≤ j → j < b → lt R[j]! R[i]! = false := by
   intro i j hi1 hi2 hj1 hj2
   rcases lowx i hi1 hi2 with ⟨q, q1, q2, hq⟩ | ⟨q, q1, q2, hq⟩ <;> rcases upx j hj1 hj2 with ⟨r, r1, r2, hr⟩ | ⟨r, r1, r2, hr⟩ <;> rw [hq, hr]
   · exact zaS hS h1 q1 (by omega) r2
   · exact chain3 hS (zaS hS h2 (by omega) r1 r2) (H1 (by omega) (by omega)) (zaS hS h1 q1 (by omega) (by omega))
   · exact chain3 hS (zaS hS h1 (by omega) r1 r2) (H2 (by omega) (by omega)) (zaS hS h2 q1 (by omega) (by omega))
   · exact zaS hS h2 q1 (by omega) r2
 have l1 : ∀ i, a ≤ i → i < s + (e - m) → ∀ j, s + (e - m) ≤ j → j < b → lt R[j]! R1[i]! = false := fun i hi1 hi2 j hj1 hj2 =>
   permIn_all R R1 a (s + (e - m)) (fun x => lt R[j]! x = false) (by omega) p1 (fun i h1 h2 => cross i j h1 h2 hj1 hj2) i hi1 hi2
 have l2 : ∀ i, a ≤ i → i < s + (e - m) → ∀ j, s + (e - m) ≤ j → j < b → lt R1[j]! R1[i]! = false := fun i hi1 hi2 j hj1 hj2 => by
   rw [p1.2.1 j (by omega)]; exact l1 i hi1 hi2 j hj1 hj2
 have l3 : ∀ i, a ≤ i → i < s + (e - m) → ∀ j, s + (e - m) ≤ j → j < b → lt R2[j]! R1[i]! = false := fun i hi1 hi2 =>
   permIn_all R1 R2 (s + (e - m)) b (fun x => lt x R1[i]! = false) (by rw [p1.1]; omega) p2 (fun j h1 h2 => l2 i hi1 hi2 j h1 h2)
 intro i j hai hij hjb
 by_cases hj : j < s + (e - m)
 · rw [p2.2.1 i (by omega), p2.2.1 j (by omega)]; exact s1 i j hai hij hj
 · by_cases hi : i < s + (e - m)
   · rw [p2.2.1 i (by omega)]; exact l3 i hai hi j (by omega) hjb
   · exact s2 i j (by omega) hij hjb
theorem left_done (hS : SWO lt) (d R : Array α) (a b i : Nat) (hi : a + 1 ≤ i) (hib : i ≤ b) (h2 : SortedIn lt (a + 1) b d) (hlt : ∀ q, a + 1 ≤ q → q < i → lt d[q]! d[a]! = true) (hge : ∀ q, i ≤ q → q < b → lt d[q]! d[a]! = false)
   (hR : ∀ k, R[k]! = if a ≤ k ∧ k < i - 1 then d[k + 1]! else if k = i - 1 then d[a]! else d[k]!) : SortedIn lt a b R := by
 intro p q hap hpq hqb
 rw [hR p, hR q]
 have asym : ∀ x y, lt x y = true → lt y x = false := fun x y h => by
   cases h2 : lt y x with
   | false => rfl
   | true => have := hS.trans _ _ _ h h2; rw [hS.irrefl] at this; cases this
 by_cases c1 : q < i - 1
 · rw [if_pos (by omega), if_pos (by omega)]; exact h2 _ _ (by omega) (by omega) (by omega)
 · by_cases c2 : q = i - 1
   · rw [if_neg (by omega), if_pos c2, if_pos (by omega)]
     exact asym _ _ (hlt _ (by omega) (by omega))
   · rw [if_neg (by omega), if_neg c2]
     by_cases c3 : p < i - 1
     · rw [if_pos (by omega)]; exact h2 _ _ (by omega) (by omega) hqb
     · by_cases c4 : p = i - 1
       · rw [if_neg (by omega), if_pos c4]; exact hge q (by omega) hqb
       · rw [if_neg (by omega), if_neg c4]; exact h2 _ _ (by omega) hpq hqb
theorem zey (hS : SWO lt) (d R : Array α) (a m i : Nat) (hai : a ≤ i) (him : i ≤ m) (h1 : SortedIn lt a m d) (hge : ∀ q, a ≤ q → q < i → lt d[m]! d[q]! = false) (hlt : ∀ q, i ≤ q → q < m → lt d[m]! d[q]! = true)
   (hR : ∀ k, R[k]! = if i < k ∧ k ≤ m then d[k - 1]! else if k = i then d[m]! else d[k]!) : SortedIn lt a (m + 1) R := by
 intro p q hap hpq hqb
 rw [hR p, hR q]
 have asym : ∀ x y, lt x y = true → lt y x = false := fun x y h => by
   cases h2 : lt y x with
   | false => rfl
   | true => have := hS.trans _ _ _ h h2; rw [hS.irrefl] at this; cases this
 by_cases c1 : i < q
 · rw [if_pos (by omega)]
   by_cases c2 : i < p
   · rw [if_pos (by omega)]; exact h1 _ _ (by omega) (by omega) (by omega)
   · by_cases c3 : p = i
     · rw [if_neg (by omega), if_pos c3]; exact asym _ _ (hlt _ (by omega) (by omega))
     · rw [if_neg (by omega), if_neg c3]; exact h1 _ _ hap (by omega) (by omega)
 · by_cases c2 : q = i
   · rw [if_neg (by omega), if_pos c2, if_neg (by omega), if_neg (by omega)]; exact hge _ hap (by omega)
   · rw [if_neg (by omega), if_neg c2, if_neg (by omega), if_neg (by omega)]; exact h1 _ _ hap hpq (by omega)
theorem low_all (hS : SWO lt) {d : Array α} {m b h : Nat} {x : α} (hs : SortedIn lt m b d) (hh : h < b) (hx : lt d[h]! x = true) : ∀ q, m ≤ q → q ≤ h → lt d[q]! x = true := by
 intro q h1 h2
 cases hq : lt d[q]! x with
 | true => rfl
 | false => have := hS.ntrans _ _ _ (zaS hS hs h1 h2 hh) hq; rw [hx] at this; cases this
theorem high_all (hS : SWO lt) {d : Array α} {m b h : Nat} {x : α} (hs : SortedIn lt m b d) (hm : m ≤ h) (hx : lt d[h]! x = false) : ∀ q, h ≤ q → q < b → lt d[q]! x = false :=
 fun _ h1 h2 => hS.ntrans _ _ _ (zaS hS hs hm h1 h2) hx
theorem low_all' (hS : SWO lt) {d : Array α} {a m h : Nat} {x : α} (hs : SortedIn lt a m d) (hh : h < m) (hx : lt x d[h]! = false) : ∀ q, a ≤ q → q ≤ h → lt x d[q]! = false :=
 fun _ h1 h2 => hS.ntrans _ _ _ hx (zaS hS hs h1 h2 hh)
theorem high_all' (hS : SWO lt) {d : Array α} {a m h : Nat} {x : α} (hs : SortedIn lt a m d) (hm : a ≤ h) (hx : lt x d[h]! = true) : ∀ q, h ≤ q → q < m → lt x d[q]! = true := by
 intro q h1 h2
 cases hq : lt x d[q]! with
 | true => rfl
 | false => have := hS.ntrans _ _ _ hq (zaS hS hs hm h1 h2); rw [hx] at this; cases this
end Go.Proofs.YtngjbhejfojpbaaGreat
namespace Go.Proofs.YtngjbhejfojpbaaGreat
open Go.RowKit Go.Sort
theorem zd4 {α : Type} [Inhabited α] (enc : α → Value) (hE : ∀ x, ∃ n, enc x = .int .i64 n) (F : Value) (g cap a b n : Nat) (rest : List Value) (d : Array α) (w0 w : World)
   (hS : SB enc w0 g 3 rest d w) (hab : a + n ≤ b) (hb : b + n ≤ d.size) (hsz : d.size < 4611686018427387904) :
   Calls Tryz.prog 100 #[.slice (some ⟨g, 0, none⟩) d.size cap, .int .i64 a, .int .i64 b, .int .i64 n, F] w fun e w' => e = .returned (.tuple #[]) ∧ ∃ R : Array α, R.size = d.size ∧ SB enc w0 g 3 rest R w' ∧ (∀ k, R[k]! = swR d a b n k) ∧ PermIn a (b + n) d R := by
 have HS := Lib.hid hS
 clear hS
 go_enter Tryz.func100, Tryz.ntmps100
 go_wp2
 go_loopw [10] (fun vi wr => ∃ (i : Nat) (dk : Array α), vi = .int .i64 i ∧ i ≤ n ∧ dk.size = d.size ∧ Hid (SB enc w0 g 3 rest dk wr) ∧ Hid (∀ k, dk[k]! = swR d a b i k) ∧ Hid (PermIn a (b + n) d dk)) (fun vi _ => n - (intOf vi).toNat)
 case atStart => exact ⟨0, d, rfl, by omega, rfl, HS, Lib.hid (fun k => (swR_zero d a b k).symm), Lib.hid (permIn_refl _ _ _)⟩
 case round =>
   obtain ⟨i, dk, rfl, hin, hsk, HSk, HR, HP⟩ := hrel
   clear HS
   by_cases hlt : i < n
   · have hc1 := HSk.out.cell (a + i) (by omega)
     have hc2 := HSk.out.cell (b + i) (by omega)
     have hf1 := HSk.out.free (a + i)
     have hf2 := HSk.out.free (b + i)
     obtain ⟨X, hX⟩ : ∃ X, X = dk[a + i]! := ⟨_, rfl⟩
     obtain ⟨Y, hY⟩ : ∃ Y, Y = dk[b + i]! := ⟨_, rfl⟩
     rw [← hX] at hc1
     rw [← hY] at hc2
     have HX := Lib.hid hX
     have HY := Lib.hid hY
     obtain ⟨x, hx⟩ := hE X
     obtain ⟨y, hy⟩ := hE Y
     rw [hx] at hc1
     rw [hy] at hc2
     have HEx := Lib.hid hx
     have HEy := Lib.hid hy
     clear hx hy hX hY
     have hj1 : ((a : Int) + (i : Int)).toNat = a + i := by omega
     have hj2 : ((b : Int) + (i : Int)).toNat = b + i := by omega
     have hb1 : (a : Int) + (i : Int) < (d.size : Int) := by omega
     have hb2 : (b : Int) + (i : Int) < (d.size : Int) := by omega
     go_wp2
     go_region
     all_goals go_wp2
     go_roundw
     case rel =>
       refine ⟨i + 1, swp dk (a + i) (b + i), by go_num, by omega, by rw [size_swp]; exact hsk, ?_, Lib.hid (swR_step d dk a b n i hlt hab (by omega) HR.out), Lib.hid (permIn_trans _ _ _ _ _ HP.out (swp_permIn dk a (b + n) (a + i) (b + i) (by omega) (by omega) (by omega) (by omega) (by omega)))⟩
       have hw := HSk.out.swp (a + i) (b + i) (by omega) (by omega) 1
       rw [← HX.out, ← HY.out, HEx.out, HEy.out] at hw
       exact Lib.hid hw
     case measure => simp [intOf]; omega
   · obtain rfl : n = i := by omega
     go_wp2
     go_end0
     exact ⟨rfl, dk, hsk, HSk.out, HR.out, HP.out⟩
theorem rot_any {α : Type} [Inhabited α] (enc : α → Value) (hE : ∀ x, ∃ n, enc x = .int .i64 n) (F : Value) (g cap a m b : Nat) (rest : List Value) (d : Array α) (w0 w : World)
   (hS : SB enc w0 g 3 rest d w) (ham : a < m) (hmb : m < b) (hb : b ≤ d.size) (hsz : d.size < 4611686018427387904) :
   Calls Tryz.prog 95 #[.slice (some ⟨g, 0, none⟩) d.size cap, .int .i64 a, .int .i64 m, .int .i64 b, F] w fun e w' => e = .returned (.tuple #[]) ∧ ∃ R : Array α, R.size = d.size ∧ SB enc w0 g 3 rest R w' ∧ (∀ k, R[k]! = rotF d a m b k) ∧ PermIn a b d R := by
 have HS := Lib.hid hS
 clear hS
 go_enter Tryz.func95, Tryz.ntmps95
 go_wp2
 go_loopw [10, 11] (fun vi vj wr => ∃ (i j : Nat) (dk : Array α), vi = .int .i64 i ∧ vj = .int .i64 j ∧ 0 < i ∧ 0 < j ∧ i ≤ m - a ∧ j ≤ b - m ∧ dk.size = d.size ∧ Hid (SB enc w0 g 3 rest dk wr) ∧ Hid (∀ k, rotF dk (m - i) m (m + j) k = rotF d a m b k) ∧ Hid (PermIn a b d dk)) (fun vi vj _ => (intOf vi).toNat + (intOf vj).toNat)
 case atStart => exact ⟨m - a, b - m, d, by go_num, by go_num, by omega, by omega, by omega, by omega, rfl, HS, Lib.hid (fun k => by rw [show m - (m - a) = a from by omega, show m + (b - m) = b from by omega]), Lib.hid (permIn_refl _ _ _)⟩
 case round =>
   obtain ⟨i, j, dk, rfl, rfl, hi, hj, him, hjm, hsk, HSk, HR, HP⟩ := hrel
   clear HS
   have hmi : ((m - i : Nat) : Int) = (m : Int) - i := by omega
   by_cases hgt : j < i
   · have hsw := zd4 enc hE F g cap (m - i) m j rest dk w0 wr HSk.out (by omega) (by omega) (by omega)
     rw [hmi, hsk] at hsw
     have HSW := Lib.hid hsw
     have hne : ((i : Int) == (j : Int)) = false := by rw [beq_eq_false_iff_ne]; omega
     clear hsw
     go_wp2_with (go_at_call 100; refine HSW.out.mono ?_; rintro e w2 ⟨rfl, R, hRs, hRB, hRk, hRP⟩; have HB2 := Lib.hid hRB; have HK2 := Lib.hid hRk; have HP2 := Lib.hid hRP; clear hRB hRk hRP)
     go_roundw
     case rel => exact ⟨i - j, j, R, by go_num, rfl, by omega, by omega, by omega, by omega, hRs, HB2, Lib.hid (fun k => by rw [rot_gt dk R m i j hgt (by omega) HK2.out k]; exact HR.out k), Lib.hid (permIn_trans _ _ _ _ _ HP.out (permIn_mono dk R (m - i) (m + j) a b (by omega) (by omega) (by omega) HP2.out))⟩
     case measure => simp [intOf]; omega
   · by_cases hlt : i < j
     · have hsw := zd4 enc hE F g cap (m - i) (m + j - i) i rest dk w0 wr HSk.out (by omega) (by omega) (by omega)
       rw [hmi, hsk, show ((m + j - i : Nat) : Int) = (m : Int) + j - i from by omega] at hsw
       have HSW := Lib.hid hsw
       have hne : ((i : Int) == (j : Int)) = false := by rw [beq_eq_false_iff_ne]; omega
       clear hsw
       go_wp2_with (go_at_call 100; refine HSW.out.mono ?_; rintro e w2 ⟨rfl, R, hRs, hRB, hRk, hRP⟩; have HB2 := Lib.hid hRB; have HK2 := Lib.hid hRk; have HP2 := Lib.hid hRP; clear hRB hRk hRP)
       go_roundw
       case rel => exact ⟨i, j - i, R, rfl, by go_num, by omega, by omega, by omega, by omega, hRs, HB2, Lib.hid (fun k => by rw [rot_lt dk R m i j hlt (by omega) HK2.out k]; exact HR.out k), Lib.hid (permIn_trans _ _ _ _ _ HP.out (permIn_mono dk R (m - i) (m + j - i + i) a b (by omega) (by omega) (by omega) HP2.out))⟩
       case measure => simp [intOf]; omega
     · obtain rfl : i = j := by omega
       have hsw := zd4 enc hE F g cap (m - i) m i rest dk w0 wr HSk.out (by omega) (by omega) (by omega)
       rw [hmi, hsk] at hsw
       have HSW := Lib.hid hsw
       clear hsw
       go_wp2_with (go_at_call 100; refine HSW.out.mono ?_; rintro e w2 ⟨rfl, R, hRs, hRB, hRk, hRP⟩; have HB2 := Lib.hid hRB; have HK2 := Lib.hid hRk; have HP2 := Lib.hid hRP; clear hRB hRk hRP)
       go_end0
       exact ⟨rfl, R, hRs, HB2.out, fun k => by rw [rot_eq dk R m i (by omega) HK2.out k]; exact HR.out k, permIn_trans _ _ _ _ _ HP.out (permIn_mono dk R (m - i) (m + i) a b (by omega) (by omega) (by omega) HP2.out)⟩
end Go.Proofs.YtngjbhejfojpbaaGreat
namespace Go.Proofs.YtngjbhejfojpbaaGreat
open Go.RowKit Go.Sort
variable {α : Type} [Inhabited α]
def shlF (d : Array α) (a k q : Nat) : α := if a ≤ q ∧ q < k then d[q + 1]! else if q = k then d[a]! else d[q]!
theorem shlF_zero (d : Array α) (a q : Nat) : shlF d a a q = d[q]! := by
 unfold shlF
 rw [if_neg (by omega)]
 split
 · rename_i h; rw [h]
 · rfl
theorem shlF_step (d R : Array α) (a k : Nat) (hak : a ≤ k) (hk : k + 1 < R.size) (hR : ∀ q, R[q]! = shlF d a k q) (q : Nat) : (swp R k (k + 1))[q]! = shlF d a (k + 1) q := by
 by_cases h1 : q = k
 · subst h1
   rw [swp_left _ _ _ (by omega) (by omega), hR]
   unfold shlF
   rw [if_neg (by omega), if_neg (by omega), if_pos (by omega)]
 · by_cases h2 : q = k + 1
   · subst h2
     rw [swp_right _ _ _ (by omega), hR]
     unfold shlF
     rw [if_neg (by omega), if_pos rfl, if_neg (by omega), if_pos rfl]
   · rw [swp_other _ _ _ _ h1 h2, hR]
     unfold shlF
     repeat' split
     all_goals first
       | rfl
       | (exfalso; omega)
def shrF (d : Array α) (m k q : Nat) : α := if k < q ∧ q ≤ m then d[q - 1]! else if q = k then d[m]! else d[q]!
theorem shrF_zero (d : Array α) (m q : Nat) : shrF d m m q = d[q]! := by
 unfold shrF
 rw [if_neg (by omega)]
 split
 · rename_i h; rw [h]
 · rfl
theorem shrF_step (d R : Array α) (m k : Nat) (hkm : k + 1 ≤ m) (hk : k + 1 < R.size) (hR : ∀ q, R[q]! = shrF d m (k + 1) q) (q : Nat) : (swp R (k + 1) k)[q]! = shrF d m k q := by
 by_cases h1 : q = k + 1
 · subst h1
   rw [swp_left _ _ _ (by omega) (by omega), hR]
   unfold shrF
   rw [if_neg (by omega), if_neg (by omega), if_pos (by omega)]
   exact congrArg (fun i => d[i]!) (by omega)
 · by_cases h2 : q = k
   · subst h2
     rw [swp_right _ _ _ (by omega), hR]
     unfold shrF
     rw [if_neg (by omega), if_pos rfl, if_neg (by omega), if_pos rfl]
   · rw [swp_other _ _ _ _ h1 h2, hR]
     unfold shrF
     repeat' split
     all_goals first
       | rfl
       | (exfalso; omega)
theorem zaW (d : Array α) (s m e : Nat) (hsm : s ≤ m) (hme : m ≤ e) (h : s = m ∨ m = e) (k : Nat) : d[k]! = rotF d s m e k := by
 unfold rotF
 repeat' split
 all_goals first
   | rfl
   | (exfalso; omega)
   | exact congrArg (fun i => d[i]!) (by omega)
variable {lt lt1 : α → α → Bool}
theorem zc6 {d R : Array α} {a b f : Nat} (lo hi : Nat) (h : SortedIn lt a b d) (hlo : a ≤ f) (hhi : f + (hi - lo) ≤ b) (hR : ∀ k, lo ≤ k → k < hi → R[k]! = d[f + (k - lo)]!) : SortedIn lt lo hi R := fun i j h1 h2 h3 => by
 rw [hR i h1 (by omega), hR j (by omega) h3]
 exact h _ _ (by omega) (by omega) (by omega)
section
variable {d R : Array α} {a m b s e : Nat} (hR : ∀ k, R[k]! = rotF d s m e k) (has : a ≤ s) (hsm : s ≤ m) (hme : m ≤ e) (heb : e ≤ b) (h1 : SortedIn lt a m d) (h2 : SortedIn lt m b d)
include hR in
theorem part1 (k : Nat) (h : k < s) : R[k]! = d[k]! := by
 rw [hR, rotF, if_neg (by omega), if_neg (by omega)]
include hR hsm in
theorem part2 (k : Nat) (h1 : s ≤ k) (h2 : k < s + (e - m)) : R[k]! = d[m + (k - s)]! := by
 rw [hR, rotF, if_pos (by omega)]
 exact congrArg (fun i => d[i]!) (by omega)
include hR in
theorem part3 (k : Nat) (h1 : s + (e - m) ≤ k) (h2 : k < e) : R[k]! = d[s + (k - (s + (e - m)))]! := by
 rw [hR, rotF, if_neg (by omega), if_pos (by omega)]
 exact congrArg (fun i => d[i]!) (by omega)
include hR hsm hme in
theorem part4 (k : Nat) (h1 : e ≤ k) : R[k]! = d[k]! := by
 rw [hR, rotF, if_neg (by omega), if_neg (by omega)]
include hR has hsm h1 in
theorem sp1 : SortedIn lt a s R := zc6 (f := a) a s h1 (Nat.le_refl _) (by omega) (fun k h3 h4 => by rw [part1 hR k h4]; exact congrArg (fun i => d[i]!) (by omega))
include hR hsm hme heb h2 in
theorem sp2 : SortedIn lt s (s + (e - m)) R := zc6 (f := m) _ _ h2 (Nat.le_refl _) (by omega) (fun k h3 h4 => part2 hR hsm k h3 h4)
include hR has hsm hme h1 in
theorem sp3 : SortedIn lt (s + (e - m)) e R := zc6 (f := s) _ _ h1 has (by omega) (fun k h3 h4 => part3 hR k h3 h4)
include hR hsm hme heb h2 in
theorem sp4 : SortedIn lt e b R := zc6 (f := e) e b h2 hme (by omega) (fun k h3 _ => by rw [part4 hR hsm hme k h3]; exact congrArg (fun i => d[i]!) (by omega))
include hR hsm hme heb in
theorem agree_lo (hA : zbP lt1 lt d a m b) : zbP lt1 lt R a s (s + (e - m)) := fun p q h3 h4 h5 h6 => by
 rw [part1 hR p h4, part2 hR hsm q h5 h6]
 exact hA _ _ h3 (by omega) (by omega) (by omega)
include hR has hsm hme in
theorem agree_hi (hA : zbP lt1 lt d a m b) : zbP lt1 lt R (s + (e - m)) e b := fun p q h3 h4 h5 h6 => by
 rw [part3 hR p h3 h4, part4 hR hsm hme q h5]
 exact hA _ _ (by omega) (by omega) (by omega) h6
include hR has hsm hme heb h1 h2 in
theorem skip_lo (h : s = a ∨ s = s + (e - m)) : SortedIn lt a (s + (e - m)) R := by
 rcases h with h | h
 · have := sp2 hR hsm hme heb h2; rw [h] at this ⊢; exact this
 · rw [← h]; exact sp1 hR has hsm h1
include hR has hsm hme heb h1 h2 in
theorem skip_hi (h : e = s + (e - m) ∨ e = b) : SortedIn lt (s + (e - m)) b R := by
 rcases h with h | h
 · rw [← h]; exact sp4 hR hsm hme heb h2
 · have := sp3 hR has hsm hme h1; rw [h] at this ⊢; exact this
end
theorem zaM {d R : Array α} {a b : Nat} (h : SortedIn lt a b d) (hR : ∀ k, a ≤ k → k < b → R[k]! = d[k]!) : SortedIn lt a b R := fun i j h1 h2 h3 => by
 rw [hR i h1 (by omega), hR j (by omega) h3]; exact h i j h1 h2 h3
theorem zd1 {d R : Array α} {a m b : Nat} (h : zbP lt1 lt d a m b) (hR : ∀ k, a ≤ k → k < b → R[k]! = d[k]!) : zbP lt1 lt R a m b := fun p q h1 h2 h3 h4 => by
 rw [hR p h1 (by omega), hR q (by omega) h4]; exact h p q h1 h2 h3 h4
theorem zba {d R : Array α} {a b : Nat} (D : α → Prop) (hb : b ≤ d.size) (hP : PermIn a b d R) (hD : ∀ i, i < d.size → D d[i]!) (i : Nat) (hi : i < R.size) : D R[i]! := by
 by_cases h : a ≤ i ∧ i < b
 · exact permIn_all d R a b D hb hP (fun k _ h2 => hD k (by omega)) i h.1 h.2
 · rw [hP.2.1 i (by omega)]; exact hD i (by rw [← hP.1]; exact hi)
end Go.Proofs.YtngjbhejfojpbaaGreat
namespace Go.Proofs.YtngjbhejfojpbaaGreat
open Go.RowKit Go.Sort
def zd2 {α : Type} [Inhabited α] (enc : α → Value) (lt : α → α → Bool) (g a b : Nat) (rest : List Value) (d : Array α) (w0 : World) (e : Ending) (w' : World) : Prop :=
 e = .returned (.tuple #[]) ∧ ∃ R : Array α, R.size = d.size ∧ SB enc w0 g 3 rest R w' ∧ PermIn a b d R ∧ SortedIn lt a b R
theorem sym_left {α : Type} [Inhabited α] (enc : α → Value) (hE : ∀ x, ∃ n, enc x = .int .i64 n) (cf : α → α → Int) (lt : α → α → Bool) (hL : SWO lt) (D : α → Prop) (f : FuncId) (cb : Array Value) (g cap a m b : Nat) (rest : List Value) (d : Array α) (w0 w : World)
   (hC : CmpQ Tryz.prog f cb enc cf D w0 g) (hS : SB enc w0 g 3 rest d w) (hD : ∀ i, i < d.size → D d[i]!) (hm : m = a + 1) (hmb : m < b) (hb : b ≤ d.size) (hsz : d.size < 4611686018427387904)
   (h2 : SortedIn lt m b d) (hA : zbP (ltOf cf) lt d a m b) :
   Calls Tryz.prog 88 #[.slice (some ⟨g, 0, none⟩) d.size cap, .int .i64 a, .int .i64 m, .int .i64 b, .func (.func f) #[] cb] w fun e w' => zd2 enc lt g a b rest d w0 e w' := by
 have eg := hC.enters
 have HC := Lib.hid hC
 have HS := Lib.hid hS
 have HD := Lib.hid hD
 have H2 := Lib.hid h2
 have HA := Lib.hid hA
 clear hC hS hD h2 hA
 have heq : ((m : Int) - (a : Int) == 1) = true := by rw [beq_iff_eq]; omega
 go_enter Tryz.func88, Tryz.ntmps88
 go_wp2
 go_loopw [10, 11] (fun vi vj wr => ∃ (i j : Nat), vi = .int .i64 i ∧ vj = .int .i64 j ∧ m ≤ i ∧ i ≤ j ∧ j ≤ b ∧ Hid (SB enc w0 g 3 rest d wr) ∧ Hid (∀ q, m ≤ q → q < i → lt d[q]! d[a]! = true) ∧ Hid (∀ q, j ≤ q → q < b → lt d[q]! d[a]! = false)) (fun vi vj _ => (intOf vj).toNat - (intOf vi).toNat)
 case atStart => exact ⟨m, b, rfl, rfl, Nat.le_refl _, by omega, Nat.le_refl _, HS, Lib.hid (fun q h1 h2 => by omega), Lib.hid (fun q h1 h2 => by omega)⟩
 case round =>
   obtain ⟨i, j, rfl, rfl, hai, hij, hjb, HSk, HLo, HHi⟩ := hrel
   clear HS
   by_cases hlt : i < j
   · obtain ⟨h, hh⟩ : ∃ h, h = (i + j) / 2 := ⟨_, rfl⟩
     have hc1 := HSk.out.cell h (by omega)
     have hc2 := HSk.out.cell a (by omega)
     have hcall := fun q => HC.out.calls (wr.drewN q) (HSk.out.drewN q).grown d[h]! d[a]! (HD.out h (by omega)) (HD.out a (by omega))
     have hag := HA.out a h (Nat.le_refl _) (by omega) (by omega) (by omega)
     obtain ⟨X, hX⟩ : ∃ X, X = d[h]! := ⟨_, rfl⟩
     obtain ⟨Y, hY⟩ : ∃ Y, Y = d[a]! := ⟨_, rfl⟩
     rw [← hX] at hc1 hcall hag
     rw [← hY] at hc2 hcall hag
     have HX := Lib.hid hX
     have HY := Lib.hid hY
     obtain ⟨x, hx⟩ := hE X
     obtain ⟨y, hy⟩ := hE Y
     rw [hx] at hc1 hcall
     rw [hy] at hc2 hcall
     have HCALL := Lib.hid hcall
     have HAG := Lib.hid hag
     clear hcall hx hy hX hY hag
     have hh1 : ((i : Int) + (j : Int)) / 2 = (h : Int) := by omega
     have hhb : (h : Int) < (d.size : Int) := by omega
     have hab : (a : Int) < (d.size : Int) := by omega
     have hhi : i ≤ h := by omega
     have hhj : h < j := by omega
     clear hh
     by_cases hcf : cf X Y < 0
     · have hl : lt X Y = true := by rw [← HAG.out]; simpa [ltOf] using hcf
       have HL := Lib.hid hl
       have hcf2 : cf X Y < 0 := hcf
       clear hl hcf
       go_wp2_with fail
       go_quiet ((refine Calls.quiet_of (HCALL.out _)))
       go_wp2
       go_roundw
       case rel => exact ⟨h + 1, j, by go_num, rfl, by omega, by omega, hjb, Lib.hid (HSk.out.drewN _), Lib.hid (fun q h3 h4 => low_all hL H2.out (by omega : h < b) (by rw [← HX.out, ← HY.out]; exact HL.out) q h3 (by omega)), HHi⟩
       case measure => simp [intOf]; omega
     · have hl : lt X Y = false := by rw [← HAG.out]; simpa [ltOf] using hcf
       have HL := Lib.hid hl
       have hcf2 : 0 ≤ cf X Y := by omega
       clear hl hcf
       go_wp2_with fail
       go_quiet ((refine Calls.quiet_of (HCALL.out _)))
       go_wp2
       go_roundw
       case rel => exact ⟨i, h, rfl, rfl, hai, hhi, by omega, Lib.hid (HSk.out.drewN _), HLo, Lib.hid (fun q h3 h4 => high_all hL H2.out (by omega) (by rw [← HX.out, ← HY.out]; exact HL.out) q h3 h4)⟩
       case measure => simp [intOf]; omega
   · obtain rfl : i = j := by omega
     go_wp2
     go_loopw [13] (fun vk wr2 => ∃ (k : Nat) (dk : Array α), vk = .int .i64 k ∧ a ≤ k ∧ k ≤ i - 1 ∧ dk.size = d.size ∧ Hid (SB enc w0 g 3 rest dk wr2) ∧ Hid (∀ q, dk[q]! = shlF d a k q) ∧ Hid (PermIn a b d dk)) (fun vk _ => i - (intOf vk).toNat)
     case atStart => exact ⟨a, d, rfl, Nat.le_refl _, by omega, rfl, HSk, Lib.hid (fun q => (shlF_zero d a q).symm), Lib.hid (permIn_refl _ _ _)⟩
     case round =>
       obtain ⟨k, dk, rfl, hak, hki, hsk, HSk2, HR, HP⟩ := hrel
       clear HSk
       by_cases hk : k < i - 1
       · have hc1 := HSk2.out.cell k (by omega)
         have hc2 := HSk2.out.cell (k + 1) (by omega)
         have hf1 := HSk2.out.free k
         have hf2 := HSk2.out.free (k + 1)
         obtain ⟨X, hX⟩ : ∃ X, X = dk[k]! := ⟨_, rfl⟩
         obtain ⟨Y, hY⟩ : ∃ Y, Y = dk[k + 1]! := ⟨_, rfl⟩
         rw [← hX] at hc1
         rw [← hY] at hc2
         have HX := Lib.hid hX
         have HY := Lib.hid hY
         obtain ⟨x, hx⟩ := hE X
         obtain ⟨y, hy⟩ := hE Y
         rw [hx] at hc1
         rw [hy] at hc2
         have HEx := Lib.hid hx
         have HEy := Lib.hid hy
         clear hx hy hX hY
         have hj1 : ((k : Int) + 1).toNat = k + 1 := by omega
         have hb1 : (k : Int) < (d.size : Int) := by omega
         have hb2 : (k : Int) + 1 < (d.size : Int) := by omega
         go_wp2
         go_region
         all_goals go_wp2
         go_roundw
         case rel =>
           refine ⟨k + 1, swp dk k (k + 1), by go_num, by omega, by omega, by rw [size_swp]; exact hsk, ?_, Lib.hid (shlF_step d dk a k hak (by omega) HR.out), Lib.hid (permIn_trans _ _ _ _ _ HP.out (swp_permIn dk a b k (k + 1) (by omega) (by omega) (by omega) (by omega) (by omega)))⟩
           have hw := HSk2.out.swp k (k + 1) (by omega) (by omega) 1
           rw [← HX.out, ← HY.out, HEx.out, HEy.out] at hw
           exact Lib.hid hw
         case measure => simp [intOf]; omega
       · obtain rfl : k = i - 1 := by omega
         go_wp2
         go_end0
         exact ⟨rfl, dk, hsk, HSk2.out, HP.out, left_done hL d dk a b i (by omega) hjb (by rw [← hm]; exact H2.out) (by rw [← hm]; exact HLo.out) HHi.out HR.out⟩
theorem sym_right {α : Type} [Inhabited α] (enc : α → Value) (hE : ∀ x, ∃ n, enc x = .int .i64 n) (cf : α → α → Int) (lt : α → α → Bool) (hL : SWO lt) (D : α → Prop) (f : FuncId) (cb : Array Value) (g cap a m b : Nat) (rest : List Value) (d : Array α) (w0 w : World)
   (hC : CmpQ Tryz.prog f cb enc cf D w0 g) (hS : SB enc w0 g 3 rest d w) (hD : ∀ i, i < d.size → D d[i]!) (ham : a + 1 < m) (hbm : b = m + 1) (hb : b ≤ d.size) (hsz : d.size < 4611686018427387904)
   (h1 : SortedIn lt a m d) (hA : zbP (ltOf cf) lt d a m b) :
   Calls Tryz.prog 88 #[.slice (some ⟨g, 0, none⟩) d.size cap, .int .i64 a, .int .i64 m, .int .i64 b, .func (.func f) #[] cb] w fun e w' => zd2 enc lt g a b rest d w0 e w' := by
 have eg := hC.enters
 have HC := Lib.hid hC
 have HS := Lib.hid hS
 have HD := Lib.hid hD
 have H1 := Lib.hid h1
 have HA := Lib.hid hA
 clear hC hS hD h1 hA
 have hne : ((m : Int) - (a : Int) == 1) = false := by rw [beq_eq_false_iff_ne]; omega
 have heq : ((b : Int) - (m : Int) == 1) = true := by rw [beq_iff_eq]; omega
 go_enter Tryz.func88, Tryz.ntmps88
 go_wp2
 go_loopw [14, 15] (fun vi vj wr => ∃ (i j : Nat), vi = .int .i64 i ∧ vj = .int .i64 j ∧ a ≤ i ∧ i ≤ j ∧ j ≤ m ∧ Hid (SB enc w0 g 3 rest d wr) ∧ Hid (∀ q, a ≤ q → q < i → lt d[m]! d[q]! = false) ∧ Hid (∀ q, j ≤ q → q < m → lt d[m]! d[q]! = true)) (fun vi vj _ => (intOf vj).toNat - (intOf vi).toNat)
 case atStart => exact ⟨a, m, rfl, rfl, Nat.le_refl _, by omega, Nat.le_refl _, HS, Lib.hid (fun q h1 h2 => by omega), Lib.hid (fun q h1 h2 => by omega)⟩
 case round =>
   obtain ⟨i, j, rfl, rfl, hai, hij, hjb, HSk, HLo, HHi⟩ := hrel
   clear HS
   by_cases hlt : i < j
   · obtain ⟨h, hh⟩ : ∃ h, h = (i + j) / 2 := ⟨_, rfl⟩
     have hc1 := HSk.out.cell m (by omega)
     have hc2 := HSk.out.cell h (by omega)
     have hcall := fun q => HC.out.calls (wr.drewN q) (HSk.out.drewN q).grown d[m]! d[h]! (HD.out m (by omega)) (HD.out h (by omega))
     have hag := HA.out h m (by omega) (by omega) (by omega) (by omega)
     obtain ⟨X, hX⟩ : ∃ X, X = d[m]! := ⟨_, rfl⟩
     obtain ⟨Y, hY⟩ : ∃ Y, Y = d[h]! := ⟨_, rfl⟩
     rw [← hX] at hc1 hcall hag
     rw [← hY] at hc2 hcall hag
     have HX := Lib.hid hX
     have HY := Lib.hid hY
     obtain ⟨x, hx⟩ := hE X
     obtain ⟨y, hy⟩ := hE Y
     rw [hx] at hc1 hcall
     rw [hy] at hc2 hcall
     have HCALL := Lib.hid hcall
     have HAG := Lib.hid hag
     clear hcall hx hy hX hY hag
     have hh1 : ((i : Int) + (j : Int)) / 2 = (h : Int) := by omega
     have hhb : (h : Int) < (d.size : Int) := by omega
     have hmd : (m : Int) < (d.size : Int) := by omega
     have hhi : i ≤ h := by omega
     have hhj : h < j := by omega
     clear hh
     by_cases hcf : cf X Y < 0
     · have hl : lt X Y = true := by rw [← HAG.out]; simpa [ltOf] using hcf
       have HL := Lib.hid hl
       have hcf2 : cf X Y < 0 := hcf
       have hcfB : decide (cf X Y < 0) = true := by rw [decide_eq_true_iff]; exact hcf
       clear hl hcf
       go_wp2_with fail
       go_quiet ((refine Calls.quiet_of (HCALL.out _)))
       go_wp2
       go_roundw
       case rel => exact ⟨i, h, rfl, rfl, hai, hhi, by omega, Lib.hid (HSk.out.drewN _), HLo, Lib.hid (fun q h3 h4 => high_all' hL H1.out (by omega) (by rw [← HX.out, ← HY.out]; exact HL.out) q h3 h4)⟩
       case measure => simp [intOf]; omega
     · have hl : lt X Y = false := by rw [← HAG.out]; simpa [ltOf] using hcf
       have HL := Lib.hid hl
       have hcf2 : 0 ≤ cf X Y := by omega
       have hcfB : decide (cf X Y < 0) = false := by rw [decide_eq_false_iff_not]; omega
       clear hl hcf
       go_wp2_with fail
       go_quiet ((refine Calls.quiet_of (HCALL.out _)))
       go_wp2
       go_roundw
       case rel => exact ⟨h + 1, j, by go_num, rfl, by omega, by omega, hjb, Lib.hid (HSk.out.drewN _), Lib.hid (fun q h3 h4 => low_all' hL H1.out (by omega : h < m) (by rw [← HX.out, ← HY.out]; exact HL.out) q h3 (by omega)), HHi⟩
       case measure => simp [intOf]; omega
   · obtain rfl : i = j := by omega
     go_wp2
     go_loopw [17] (fun vk wr2 => ∃ (k : Nat) (dk : Array α), vk = .int .i64 k ∧ i ≤ k ∧ k ≤ m ∧ dk.size = d.size ∧ Hid (SB enc w0 g 3 rest dk wr2) ∧ Hid (∀ q, dk[q]! = shrF d m k q) ∧ Hid (PermIn a b d dk)) (fun vk _ => (intOf vk).toNat)
     case atStart => exact ⟨m, d, rfl, hjb, Nat.le_refl _, rfl, HSk, Lib.hid (fun q => (shrF_zero d m q).symm), Lib.hid (permIn_refl _ _ _)⟩
     case round =>
       obtain ⟨k, dk, rfl, hik, hkm, hsk, HSk2, HR, HP⟩ := hrel
       clear HSk
       by_cases hk : i < k
       · obtain ⟨u, rfl⟩ : ∃ u, k = u + 1 := ⟨k - 1, by omega⟩
         have hc1 := HSk2.out.cell (u + 1) (by omega)
         have hc2 := HSk2.out.cell u (by omega)
         have hf1 := HSk2.out.free (u + 1)
         have hf2 := HSk2.out.free u
         obtain ⟨X, hX⟩ : ∃ X, X = dk[u + 1]! := ⟨_, rfl⟩
         obtain ⟨Y, hY⟩ : ∃ Y, Y = dk[u]! := ⟨_, rfl⟩
         rw [← hX] at hc1
         rw [← hY] at hc2
         have HX := Lib.hid hX
         have HY := Lib.hid hY
         obtain ⟨x, hx⟩ := hE X
         obtain ⟨y, hy⟩ := hE Y
         rw [hx] at hc1
         rw [hy] at hc2
         have HEx := Lib.hid hx
         have HEy := Lib.hid hy
         clear hx hy hX hY
         have hj1 : ((u : Int) + 1).toNat = u + 1 := by omega
         have hj2 : ((u : Int) + 1 - 1) = u := by omega
         have hb1 : (u : Int) < (d.size : Int) := by omega
         have hb2 : (u : Int) + 1 < (d.size : Int) := by omega
         go_wp2
         go_region
         all_goals go_wp2
         go_roundw
         case rel =>
           refine ⟨u, swp dk (u + 1) u, by go_num, by omega, by omega, by rw [size_swp]; exact hsk, ?_, Lib.hid (shrF_step d dk m u (by omega) (by omega) HR.out), Lib.hid (permIn_trans _ _ _ _ _ HP.out (swp_permIn dk a b (u + 1) u (by omega) (by omega) (by omega) (by omega) (by omega)))⟩
           have hw := HSk2.out.swp (u + 1) u (by omega) (by omega) 1
           rw [← HX.out, ← HY.out, HEx.out, HEy.out] at hw
           exact Lib.hid hw
         case measure => simp [intOf]
       · obtain rfl : i = k := by omega
         go_wp2
         go_end0
         refine ⟨rfl, dk, hsk, HSk2.out, HP.out, ?_⟩
         rw [hbm]
         exact zey hL d dk a m i hai hjb H1.out HLo.out HHi.out HR.out
end Go.Proofs.YtngjbhejfojpbaaGreat
