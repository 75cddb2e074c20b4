/-
  Plain mathematics of a table of codes: the symbols in the order of their codes, and what the next bits say.
-/
import Derived.Test.YtlmdgaajkjbpgaaHuffM
import Derived.Test.YtlmdgaajkjbpgaaSortP
namespace Go.Proofs.Ytlmdgaajkjbpgaa
open Go.Sort

/-- How many codes are shorter than n bits. -/
def ats (l : List Int) : Nat → Int
  | 0 => 0
  | n + 1 => ats l n + cn l n

theorem ats_mono (l : List Int) (n : Nat) : ∀ m, n ≤ m → ats l n ≤ ats l m
  | 0, h => by obtain rfl : n = 0 := by omega
               exact Int.le_refl _
  | m + 1, h => by
    by_cases e : n = m + 1
    · subst e; exact Int.le_refl _
    · have := ats_mono l n m (by omega)
      have := (cn_bd l m).1
      simp only [ats]; omega
theorem ats_nonneg (l : List Int) (n : Nat) : 0 ≤ ats l n := ats_mono l 0 n (Nat.zero_le _)

def hasLong (l : List Int) (n : Nat) : Bool := l.any fun x => decide ((n : Int) ≤ x)

theorem cn_pos {l : List Int} {m : Nat} (hm : 0 < m) (h : (m : Int) ∈ l) : 1 ≤ cn l m := by
  obtain ⟨k, hk, he⟩ := List.mem_iff_getElem.1 h
  have := cn_lt (l := l) (k := k) (m := m) hk hm (by simp [List.getD, hk, he])
  have := (cn_bd (l.take k) m).1
  omega
theorem cn_zero {l : List Int} {m : Nat} (h : ¬ (m : Int) ∈ l) : cn l m = 0 := by
  unfold cn
  split
  · rfl
  · have : l.filter (fun x => x == (m : Int)) = [] := by
      rw [List.filter_eq_nil_iff]
      intro x hx
      simp
      intro e; subst e; exact h hx
    simp [this]

theorem ats_long {l : List Int} (hok1 : hok l = true) {n : Nat} (hn : 1 ≤ n) (hn2 : n ≤ 16) : (ats l n = ats l 16) ↔ hasLong l n = false := by
  constructor
  · intro h
    rw [hasLong, List.any_eq_false]
    intro x hx
    have hx15 := hok_mem hok1 x hx
    simp
    refine Int.not_le.1 fun hnx => ?_
    have hp := cn_pos (l := l) (m := x.toNat) (by omega) (by rw [Int.toNat_of_nonneg hx15.1]; exact hx)
    have h1 := ats_mono l n x.toNat (by omega)
    have h2 := ats_mono l (x.toNat + 1) 16 (by omega)
    rw [show ats l (x.toNat + 1) = ats l x.toNat + cn l x.toNat from rfl] at h2
    omega
  · intro h
    rw [hasLong, List.any_eq_false] at h
    have key : ∀ m, n ≤ m → m ≤ 16 → ats l m = ats l n := by
      intro m
      induction m with
      | zero => intro h1 _; obtain rfl : n = 0 := by omega
                rfl
      | succ m ih =>
        intro h1 h2
        by_cases e : n = m + 1
        · subst e; rfl
        · simp only [ats]
          rw [ih (by omega) (by omega), cn_zero (fun hm => by have := h _ hm; simp at this; omega)]
          omega
    exact (key 16 hn2 (Nat.le_refl _)).symm

/-- The symbol of n bits whose code is x. -/
def findSym (l : List Int) (n : Nat) (x : Int) : Option Nat := (List.range l.length).find? fun k => l.getD k 0 == (n : Int) && codeAt l k == x

theorem rank_exists {l : List Int} {n : Nat} (hn : 0 < n) : ∀ (N : Nat), N ≤ l.length → ∀ r : Int, 0 ≤ r → r < cn (l.take N) n → ∃ k, k < N ∧ l.getD k 0 = (n : Int) ∧ cn (l.take k) n = r
  | 0, _, r, h0, h => by simp [cn] at h; omega
  | N + 1, hN, r, h0, h => by
    rw [take_snoc 0 l N (by omega)] at h
    by_cases he : l.getD N 0 = (n : Int)
    · rw [cn_snoc _ _ _ (by omega), if_pos (by omega)] at h
      by_cases hr : r < cn (l.take N) n
      · obtain ⟨k, hk, h1, h2⟩ := rank_exists hn N (by omega) r h0 hr
        exact ⟨k, by omega, h1, h2⟩
      · exact ⟨N, by omega, he, by omega⟩
    · have hr : r < cn (l.take N) n := by
        have e : cn (l.take N ++ [l.getD N 0]) n = cn (l.take N) n := by
          unfold cn
          rw [if_neg (by omega), if_neg (by omega), List.filter_append]
          have : ¬ (l.getD N 0 == (n : Int)) = true := by simpa using he
          simp only [List.getD] at this
          simp [this]
        omega
      obtain ⟨k, hk, h1, h2⟩ := rank_exists hn N (by omega) r h0 hr
      exact ⟨k, by omega, h1, h2⟩

theorem cn_take_mono (l : List Int) (n : Nat) {j k : Nat} (h : j ≤ k) : cn (l.take j) n ≤ cn (l.take k) n := by
  have := cn_take_le (l.take k) j n
  rwa [List.take_take, Nat.min_eq_left h] at this

theorem findSym_some {l : List Int} {n : Nat} {x : Int} (hn : 0 < n) (h0 : fcode (cn l) n ≤ x) (h1 : x - fcode (cn l) n < cn l n) :
    ∃ k, findSym l n x = some k ∧ k < l.length ∧ l.getD k 0 = (n : Int) ∧ cn (l.take k) n = x - fcode (cn l) n := by
  obtain ⟨k, hk, hl, hc⟩ := rank_exists (l := l) hn l.length (Nat.le_refl _) (x - fcode (cn l) n) (by omega) (by rw [List.take_length]; exact h1)
  have hkx : codeAt l k = x := by unfold codeAt; rw [if_pos (by omega), hl]; simp only [Int.toNat_natCast]; omega
  have hs : (findSym l n x).isSome := by
    rw [findSym, List.find?_isSome]
    exact ⟨k, by simpa using hk, by simp only [hl, hkx]; simp⟩
  obtain ⟨k', hk'⟩ := Option.isSome_iff_exists.1 hs
  have hp := List.find?_some hk'
  have hm := List.mem_of_find?_eq_some hk'
  simp only [Bool.and_eq_true, beq_iff_eq] at hp
  have hc' : cn (l.take k') n = x - fcode (cn l) n := by
    have := hp.2
    unfold codeAt at this
    rw [if_pos (by omega), hp.1] at this
    simp only [Int.toNat_natCast] at this
    omega
  exact ⟨k', hk', by simpa using hm, hp.1, hc'⟩

theorem findSym_none {l : List Int} {n : Nat} {x : Int} (hn : 0 < n) (h : ¬ (fcode (cn l) n ≤ x ∧ x - fcode (cn l) n < cn l n)) : findSym l n x = none := by
  rw [findSym, List.find?_eq_none]
  intro k hk
  simp only [Bool.and_eq_true, beq_iff_eq, not_and]
  intro hl hc
  apply h
  have hkl : k < l.length := by simpa using hk
  have h1 := cn_lt hkl hn hl
  have h2 := (cn_bd (l.take k) n).1
  unfold codeAt at hc
  rw [if_pos (by omega), hl] at hc
  simp only [Int.toNat_natCast] at hc
  omega

/-- The number of the first n bits, the first one highest. -/
def valN (f : Nat → Bool) : Nat → Nat
  | 0 => 0
  | n + 1 => 2 * valN f n + if f n then 1 else 0

theorem valN_lt (f : Nat → Bool) : ∀ n, valN f n < 2 ^ n
  | 0 => by simp [valN]
  | n + 1 => by have := valN_lt f n; simp only [valN, Nat.pow_succ]; split <;> omega

/-- P4.2: the symbol, how many bits are taken, the error; from length n on. -/
def takeGo (l : List Int) (f : Nat → Bool) (left : Nat) : Nat → Nat → Nat × Nat × Int
  | 0, n => (0, n - 1, 13)
  | fuel + 1, n =>
    if hasLong l n = false then (0, n - 1, 13) else
    if left < n then (0, n - 1, 10) else
    match findSym l n (valN f n) with
    | some k => (k, n, 0)
    | none => takeGo l f left fuel (n + 1)
def takeV (l : List Int) (f : Nat → Bool) (left : Nat) : Nat × Nat × Int := takeGo l f left 15 1

/-- A table's symbols, in the order of their codes. -/
structure SrtOf (l srt : List Int) : Prop where
  len : (srt.length : Int) = ats l 16
  at_ : ∀ k, k < l.length → 0 < l.getD k 0 → srt.getD (ats l (l.getD k 0).toNat + cn (l.take k) (l.getD k 0).toNat).toNat 0 = (k : Int)

/-- The symbols that have a code, in the order of their numbers. -/
def symsTo (l : List Int) (N : Nat) : List Int := ((List.range N).filter fun k => decide (0 < l.getD k 0)).map fun (k : Nat) => (k : Int)

theorem symsTo_succ (l : List Int) (N : Nat) : symsTo l (N + 1) = symsTo l N ++ if 0 < l.getD N 0 then [(N : Int)] else [] := by
  unfold symsTo
  rw [List.range_succ, List.filter_append, List.map_append]
  by_cases h : 0 < l.getD N 0
  · simp only [if_pos h]; simp only [List.getD] at h; simp [h]
  · simp only [if_neg h]; simp only [List.getD] at h; simp [h]

/-- The order by length, then by number. -/
def symLt (l : List Int) (x y : Int) : Bool := decide (l.getD x.toNat 0 < l.getD y.toNat 0) || (decide (l.getD x.toNat 0 = l.getD y.toNat 0) && decide (x < y))

theorem symLt_swo (l : List Int) : SWO (symLt l) := by
  refine ⟨fun x => ?_, fun x y z h1 h2 => ?_, fun x y z h1 h2 => ?_⟩
  · simp [symLt]
  · simp only [symLt, Bool.or_eq_true, Bool.and_eq_true, decide_eq_true_eq] at *; omega
  · simp only [symLt, Bool.or_eq_false_iff, Bool.and_eq_false_iff, decide_eq_false_iff_not] at *; omega

theorem mem_symsTo {l : List Int} {N : Nat} {x : Int} : x ∈ symsTo l N ↔ ∃ k : Nat, k < N ∧ 0 < l.getD k 0 ∧ x = (k : Int) := by
  simp only [symsTo, List.mem_map, List.mem_filter, List.mem_range, decide_eq_true_eq]
  constructor
  · rintro ⟨k, ⟨h1, h2⟩, rfl⟩; exact ⟨k, h1, h2, rfl⟩
  · rintro ⟨k, h1, h2, rfl⟩; exact ⟨k, ⟨h1, h2⟩, rfl⟩

/-- The length below L and above 0. -/
def atsTo (l : List Int) (N L : Nat) : Int := ats (l.take N) L

theorem ats_snoc (l : List Int) (x : Int) (hx : 0 ≤ x) : ∀ L : Nat, ats (l ++ [x]) L = ats l L + if 0 < x ∧ x < (L : Int) then 1 else 0
  | 0 => by simp [ats]; omega
  | L + 1 => by
    simp only [ats]
    rw [ats_snoc l x hx L, cn_snoc l x L hx]
    by_cases h1 : 0 < x ∧ x < (L : Int)
    · rw [if_pos h1, if_neg (by omega), if_pos (by omega)]; omega
    · by_cases h2 : 0 < x ∧ L = x.toNat
      · rw [if_neg h1, if_pos h2, if_pos (by omega)]; omega
      · rw [if_neg h1, if_neg h2, if_neg (by omega)]; omega

theorem cnt1 (X Y : Int) (b : Bool) : (((if (decide (X < Y) || decide (X = Y) && b) = true then 1 else 0 : Nat)) : Int) = if X < Y ∨ (X = Y ∧ b = true) then 1 else 0 := by
  by_cases h : X < Y
  · simp [h]
  · by_cases h' : X = Y <;> cases b <;> simp [h, h']
theorem count_one (l : List Int) (N k : Nat) : [(N : Int)].countP (fun y => symLt l y (k : Int)) = if (decide (l.getD N 0 < l.getD k 0) || decide (l.getD N 0 = l.getD k 0) && decide ((N : Int) < (k : Int))) = true then 1 else 0 := by
  rw [List.countP_cons, List.countP_nil, Nat.zero_add]; rfl

theorem count_symLt {l : List Int} (hok1 : hok l = true) (k : Nat) (hk : k < l.length) (hp : 0 < l.getD k 0) : ∀ N, N ≤ l.length →
    (((symsTo l N).countP fun y => symLt l y (k : Int) : Nat) : Int) = ats (l.take N) (l.getD k 0).toNat + cn (l.take (min N k)) (l.getD k 0).toNat
  | 0, _ => by
    have e : ats (l.take 0) (l.getD k 0).toNat = 0 := by
      have : ∀ L, ats ([] : List Int) L = 0 := by intro L; induction L with
        | zero => rfl
        | succ L ih => simp [ats, ih, cn]
      simpa using this _
    rw [e]; simp [symsTo, cn]
  | N + 1, hN => by
    have ih := count_symLt hok1 k hk hp N (by omega)
    have hx := hok_mem hok1 (l.getD N 0) (by simp [List.getD, show N < l.length by omega])
    rw [symsTo_succ, List.countP_append, take_snoc 0 l N (by omega), ats_snoc _ _ hx.1]
    push_cast
    rw [ih]
    by_cases hNk : N < k
    · have e1 : min (N + 1) k = N + 1 := by omega
      have e2 : min N k = N := by omega
      rw [e1, e2, take_snoc 0 l N (by omega), cn_snoc _ _ _ hx.1]
      by_cases hpos : 0 < l.getD N 0
      · rw [if_pos hpos]
        have e3 : (([(N : Int)].countP fun y => symLt l y (k : Int) : Nat) : Int) = if l.getD N 0 < l.getD k 0 ∨ l.getD N 0 = l.getD k 0 then 1 else 0 := by
          rw [count_one, cnt1]; simp [hNk]
        rw [e3]
        by_cases h : l.getD N 0 < l.getD k 0
        · rw [if_pos (.inl h), if_pos (by omega), if_neg (by omega)]; omega
        · by_cases h' : l.getD N 0 = l.getD k 0
          · rw [if_pos (.inr h'), if_neg (by omega), if_pos (by omega)]; omega
          · rw [if_neg (by omega), if_neg (by omega), if_neg (by omega)]; omega
      · rw [if_neg hpos, if_neg (by omega), if_neg (by omega)]; simp
    · have e1 : min (N + 1) k = k := by omega
      have e2 : min N k = k := by omega
      rw [e1, e2]
      by_cases hpos : 0 < l.getD N 0
      · rw [if_pos hpos]
        have e3 : (([(N : Int)].countP fun y => symLt l y (k : Int) : Nat) : Int) = if l.getD N 0 < l.getD k 0 then 1 else 0 := by
          rw [count_one, cnt1]; simp [hNk]
        rw [e3]
        by_cases h : l.getD N 0 < l.getD k 0
        · rw [if_pos h, if_pos (by omega)]; omega
        · rw [if_neg h, if_neg (by omega)]; omega
      · rw [if_neg hpos, if_neg (by omega)]; simp

theorem length_symsTo {l : List Int} (hok1 : hok l = true) : ∀ N, N ≤ l.length → ((symsTo l N).length : Int) = ats (l.take N) 16
  | 0, _ => by simp [symsTo, ats, cn]
  | N + 1, hN => by
    have hx := hok_mem hok1 (l.getD N 0) (by simp [List.getD, show N < l.length by omega])
    rw [symsTo_succ, List.length_append, take_snoc 0 l N (by omega), ats_snoc _ _ hx.1]
    push_cast
    rw [length_symsTo hok1 N (by omega)]
    by_cases hpos : 0 < l.getD N 0
    · rw [if_pos hpos, if_pos (by omega)]; simp
    · rw [if_neg hpos, if_neg (by omega)]; simp

/-- Where an element of a strictly sorted list stands. -/
theorem countP_sorted {α : Type} (p : α → Bool) : ∀ (R : List α) (i : Nat), i ≤ R.length → (∀ j (h : j < R.length), p R[j] = decide (j < i)) → R.countP p = i
  | [], i, h, _ => by simp at h; simp [h]
  | x :: R, 0, _, hp => by
    rw [List.countP_eq_zero]
    intro y hy
    obtain ⟨j, hj, rfl⟩ := List.mem_iff_getElem.1 hy
    rw [hp j hj]; simp
  | x :: R, i + 1, h, hp => by
    have h0 := hp 0 (by simp)
    simp only [List.getElem_cons_zero] at h0
    rw [List.countP_cons_of_pos (by rw [h0]; simp), countP_sorted p R i (by simpa using h) (fun j hj => by
      have := hp (j + 1) (by simpa using hj)
      simpa using this)]

theorem srt_of {l : List Int} (hok1 : hok l = true) (R : Array Int) (hP : PermIn 0 (symsTo l l.length).length (symsTo l l.length).toArray R) (hS : SortedIn (symLt l) 0 (symsTo l l.length).length R) : SrtOf l R.toList := by
  obtain ⟨hsz, _, hperm⟩ := hP
  have hsz' : R.size = (symsTo l l.length).length := by simpa using hsz
  have hperm' : R.toList.Perm (symsTo l l.length) := by
    have e1 : R.extract 0 (symsTo l l.length).length = R := by rw [← hsz']; simp
    have e2 : (symsTo l l.length).toArray.extract 0 (symsTo l l.length).length = (symsTo l l.length).toArray := by simp
    rw [e1, e2] at hperm
    simpa using hperm
  have hnd : (symsTo l l.length).Nodup := by
    unfold symsTo
    refine List.Pairwise.map _ (R := fun a b : Nat => a ≠ b) (fun a b h e => h (by omega)) ?_
    exact List.Pairwise.filter _ List.nodup_range
  have hnd' : R.toList.Nodup := hperm'.symm.nodup hnd
  have hstrict : ∀ i j (hi : i < R.toList.length) (hj : j < R.toList.length), i < j → symLt l R.toList[i] R.toList[j] = true := by
    intro i j hi hj hij
    have h1 := hS i j (Nat.zero_le _) hij (by rw [← hsz']; simpa using hj)
    have hi' : i < R.size := by simpa using hi
    have hj' : j < R.size := by simpa using hj
    simp only [getElem!_pos, hi', hj'] at h1
    have hne : R.toList[i] ≠ R.toList[j] := fun e => by
      have := (List.getElem_inj hnd').1 e
      omega
    simp only [Array.getElem_toList] at hne ⊢
    simp only [symLt, Bool.or_eq_false_iff, Bool.and_eq_false_iff, decide_eq_false_iff_not] at h1
    simp only [symLt, Bool.or_eq_true, Bool.and_eq_true, decide_eq_true_eq]
    omega
  refine ⟨?_, fun k hk hp => ?_⟩
  · rw [hperm'.length_eq, length_symsTo hok1 _ (Nat.le_refl _), List.take_length]
  · have hmem : (k : Int) ∈ R.toList := hperm'.mem_iff.2 (mem_symsTo.2 ⟨k, hk, hp, rfl⟩)
    obtain ⟨i, hi, he⟩ := List.mem_iff_getElem.1 hmem
    have hc := countP_sorted (fun y => symLt l y (k : Int)) R.toList i (by omega) (fun j hj => by
      by_cases hji : j < i
      · have := hstrict j i hj hi hji
        rw [he] at this
        simpa [hji] using this
      · by_cases e : j = i
        · subst e; rw [he]; simp [(symLt_swo l).irrefl]
        · have h1 := hstrict i j hi hj (by omega)
          rw [he] at h1
          have h2 : symLt l R.toList[j] (k : Int) = false := by
            cases h3 : symLt l R.toList[j] (k : Int) with
            | false => rfl
            | true => have := (symLt_swo l).trans _ _ _ h1 h3; rw [(symLt_swo l).irrefl] at this; cases this
          rw [h2]; simp [hji])
    rw [hperm'.countP_eq] at hc
    have hcount := count_symLt hok1 k hk hp l.length (Nat.le_refl _)
    rw [hc, List.take_length, Nat.min_eq_right (by omega)] at hcount
    have e : (ats l (l.getD k 0).toNat + cn (l.take k) (l.getD k 0).toNat).toNat = i := by omega
    rw [e, ← List.getElem_eq_getD (h := hi), he]
end Go.Proofs.Ytlmdgaajkjbpgaa
