/-
  Our texts HuffT to Huff3, in one.
-/
import Derived.Test.YtlmdgaajkjbpgaaPkI1
import Derived.Test.YtlmdgaajkjbpgaaProg
/-
  Plain mathematics of a table of codes: the symbols in the order of their codes, and what the next bits say.
-/
namespace Go.Proofs.Ytlmdgaajkjbpgaa
open Go.Sort

/-- How many codes are shorter than n bits. -/
def ats (l : List Int) : Nat → Int
  | 0 => 0
  | n + 1 => ats l n + cn l n

theorem ats_mono (l : List Int) (n : Nat) : ∀ m, n ≤ m → ats l n ≤ ats l m
  | 0, h => by obtain rfl : n = 0 := by omega
               exact Int.le_refl _
  | m + 1, h => by
    by_cases e : n = m + 1
    · subst e; exact Int.le_refl _
    · have := ats_mono l n m (by omega)
      have := (cn_bd l m).1
      simp only [ats]; omega
theorem ats_nonneg (l : List Int) (n : Nat) : 0 ≤ ats l n := ats_mono l 0 n (Nat.zero_le _)

def hasLong (l : List Int) (n : Nat) : Bool := l.any fun x => decide ((n : Int) ≤ x)

theorem cn_pos {l : List Int} {m : Nat} (hm : 0 < m) (h : (m : Int) ∈ l) : 1 ≤ cn l m := by
  obtain ⟨k, hk, he⟩ := List.mem_iff_getElem.1 h
  have := cn_lt (l := l) (k := k) (m := m) hk hm (by simp [List.getD, hk, he])
  have := (cn_bd (l.take k) m).1
  omega
theorem cn_zero {l : List Int} {m : Nat} (h : ¬ (m : Int) ∈ l) : cn l m = 0 := by
  unfold cn
  split
  · rfl
  · have : l.filter (fun x => x == (m : Int)) = [] := by
      rw [List.filter_eq_nil_iff]
      intro x hx
      simp
      intro e; subst e; exact h hx
    simp [this]

theorem ats_long {l : List Int} (hok1 : hok l = true) {n : Nat} (hn : 1 ≤ n) (hn2 : n ≤ 16) : (ats l n = ats l 16) ↔ hasLong l n = false := by
  constructor
  · intro h
    rw [hasLong, List.any_eq_false]
    intro x hx
    have hx15 := hok_mem hok1 x hx
    simp
    refine Int.not_le.1 fun hnx => ?_
    have hp := cn_pos (l := l) (m := x.toNat) (by omega) (by rw [Int.toNat_of_nonneg hx15.1]; exact hx)
    have h1 := ats_mono l n x.toNat (by omega)
    have h2 := ats_mono l (x.toNat + 1) 16 (by omega)
    rw [show ats l (x.toNat + 1) = ats l x.toNat + cn l x.toNat from rfl] at h2
    omega
  · intro h
    rw [hasLong, List.any_eq_false] at h
    have key : ∀ m, n ≤ m → m ≤ 16 → ats l m = ats l n := by
      intro m
      induction m with
      | zero => intro h1 _; obtain rfl : n = 0 := by omega
                rfl
      | succ m ih =>
        intro h1 h2
        by_cases e : n = m + 1
        · subst e; rfl
        · simp only [ats]
          rw [ih (by omega) (by omega), cn_zero (fun hm => by have := h _ hm; simp at this; omega)]
          omega
    exact (key 16 hn2 (Nat.le_refl _)).symm

/-- The symbol of n bits whose code is x. -/
def findSym (l : List Int) (n : Nat) (x : Int) : Option Nat := (List.range l.length).find? fun k => l.getD k 0 == (n : Int) && codeAt l k == x

theorem rank_exists {l : List Int} {n : Nat} (hn : 0 < n) : ∀ (N : Nat), N ≤ l.length → ∀ r : Int, 0 ≤ r → r < cn (l.take N) n → ∃ k, k < N ∧ l.getD k 0 = (n : Int) ∧ cn (l.take k) n = r
  | 0, _, r, h0, h => by simp [cn] at h; omega
  | N + 1, hN, r, h0, h => by
    rw [take_snoc 0 l N (by omega)] at h
    by_cases he : l.getD N 0 = (n : Int)
    · rw [cn_snoc _ _ _ (by omega), if_pos (by omega)] at h
      by_cases hr : r < cn (l.take N) n
      · obtain ⟨k, hk, h1, h2⟩ := rank_exists hn N (by omega) r h0 hr
        exact ⟨k, by omega, h1, h2⟩
      · exact ⟨N, by omega, he, by omega⟩
    · have hr : r < cn (l.take N) n := by
        have e : cn (l.take N ++ [l.getD N 0]) n = cn (l.take N) n := by
          unfold cn
          rw [if_neg (by omega), if_neg (by omega), List.filter_append]
          have : ¬ (l.getD N 0 == (n : Int)) = true := by simpa using he
          simp only [List.getD] at this
          simp [this]
        omega
      obtain ⟨k, hk, h1, h2⟩ := rank_exists hn N (by omega) r h0 hr
      exact ⟨k, by omega, h1, h2⟩

theorem cn_take_mono (l : List Int) (n : Nat) {j k : Nat} (h : j ≤ k) : cn (l.take j) n ≤ cn (l.take k) n := by
  have := cn_take_le (l.take k) j n
  rwa [List.take_take, Nat.min_eq_left h] at this

theorem findSym_some {l : List Int} {n : Nat} {x : Int} (hn : 0 < n) (h0 : fcode (cn l) n ≤ x) (h1 : x - fcode (cn l) n < cn l n) :
    ∃ k, findSym l n x = some k ∧ k < l.length ∧ l.getD k 0 = (n : Int) ∧ cn (l.take k) n = x - fcode (cn l) n := by
  obtain ⟨k, hk, hl, hc⟩ := rank_exists (l := l) hn l.length (Nat.le_refl _) (x - fcode (cn l) n) (by omega) (by rw [List.take_length]; exact h1)
  have hkx : codeAt l k = x := by unfold codeAt; rw [if_pos (by omega), hl]; simp only [Int.toNat_natCast]; omega
  have hs : (findSym l n x).isSome := by
    rw [findSym, List.find?_isSome]
    exact ⟨k, by simpa using hk, by simp only [hl, hkx]; simp⟩
  obtain ⟨k', hk'⟩ := Option.isSome_iff_exists.1 hs
  have hp := List.find?_some hk'
  have hm := List.mem_of_find?_eq_some hk'
  simp only [Bool.and_eq_true, beq_iff_eq] at hp
  have hc' : cn (l.take k') n = x - fcode (cn l) n := by
    have := hp.2
    unfold codeAt at this
    rw [if_pos (by omega), hp.1] at this
    simp only [Int.toNat_natCast] at this
    omega
  exact ⟨k', hk', by simpa using hm, hp.1, hc'⟩

theorem findSym_none {l : List Int} {n : Nat} {x : Int} (hn : 0 < n) (h : ¬ (fcode (cn l) n ≤ x ∧ x - fcode (cn l) n < cn l n)) : findSym l n x = none := by
  rw [findSym, List.find?_eq_none]
  intro k hk
  simp only [Bool.and_eq_true, beq_iff_eq, not_and]
  intro hl hc
  apply h
  have hkl : k < l.length := by simpa using hk
  have h1 := cn_lt hkl hn hl
  have h2 := (cn_bd (l.take k) n).1
  unfold codeAt at hc
  rw [if_pos (by omega), hl] at hc
  simp only [Int.toNat_natCast] at hc
  omega

/-- The number of the first n bits, the first one highest. -/
def valN (f : Nat → Bool) : Nat → Nat
  | 0 => 0
  | n + 1 => 2 * valN f n + if f n then 1 else 0

theorem valN_lt (f : Nat → Bool) : ∀ n, valN f n < 2 ^ n
  | 0 => by simp [valN]
  | n + 1 => by have := valN_lt f n; simp only [valN, Nat.pow_succ]; split <;> omega

/-- P4.2: the symbol, how many bits are taken, the error; from length n on. -/
def takeGo (l : List Int) (f : Nat → Bool) (left : Nat) : Nat → Nat → Nat × Nat × Int
  | 0, n => (0, n - 1, 13)
  | fuel + 1, n =>
    if hasLong l n = false then (0, n - 1, 13) else
    if left < n then (0, n - 1, 10) else
    match findSym l n (valN f n) with
    | some k => (k, n, 0)
    | none => takeGo l f left fuel (n + 1)
def takeV (l : List Int) (f : Nat → Bool) (left : Nat) : Nat × Nat × Int := takeGo l f left 15 1

/-- A table's symbols, in the order of their codes. -/
structure SrtOf (l srt : List Int) : Prop where
  len : (srt.length : Int) = ats l 16
  at_ : ∀ k, k < l.length → 0 < l.getD k 0 → srt.getD (ats l (l.getD k 0).toNat + cn (l.take k) (l.getD k 0).toNat).toNat 0 = (k : Int)

/-- The symbols that have a code, in the order of their numbers. -/
def symsTo (l : List Int) (N : Nat) : List Int := ((List.range N).filter fun k => decide (0 < l.getD k 0)).map fun (k : Nat) => (k : Int)

theorem symsTo_succ (l : List Int) (N : Nat) : symsTo l (N + 1) = symsTo l N ++ if 0 < l.getD N 0 then [(N : Int)] else [] := by
  unfold symsTo
  rw [List.range_succ, List.filter_append, List.map_append]
  by_cases h : 0 < l.getD N 0
  · simp only [if_pos h]; simp only [List.getD] at h; simp [h]
  · simp only [if_neg h]; simp only [List.getD] at h; simp [h]

/-- The order by length, then by number. -/
def symLt (l : List Int) (x y : Int) : Bool := decide (l.getD x.toNat 0 < l.getD y.toNat 0) || (decide (l.getD x.toNat 0 = l.getD y.toNat 0) && decide (x < y))

theorem symLt_swo (l : List Int) : SWO (symLt l) := by
  refine ⟨fun x => ?_, fun x y z h1 h2 => ?_, fun x y z h1 h2 => ?_⟩
  · simp [symLt]
  · simp only [symLt, Bool.or_eq_true, Bool.and_eq_true, decide_eq_true_eq] at *; omega
  · simp only [symLt, Bool.or_eq_false_iff, Bool.and_eq_false_iff, decide_eq_false_iff_not] at *; omega

theorem mem_symsTo {l : List Int} {N : Nat} {x : Int} : x ∈ symsTo l N ↔ ∃ k : Nat, k < N ∧ 0 < l.getD k 0 ∧ x = (k : Int) := by
  simp only [symsTo, List.mem_map, List.mem_filter, List.mem_range, decide_eq_true_eq]
  constructor
  · rintro ⟨k, ⟨h1, h2⟩, rfl⟩; exact ⟨k, h1, h2, rfl⟩
  · rintro ⟨k, h1, h2, rfl⟩; exact ⟨k, ⟨h1, h2⟩, rfl⟩

/-- The length below L and above 0. -/
def atsTo (l : List Int) (N L : Nat) : Int := ats (l.take N) L

theorem ats_snoc (l : List Int) (x : Int) (hx : 0 ≤ x) : ∀ L : Nat, ats (l ++ [x]) L = ats l L + if 0 < x ∧ x < (L : Int) then 1 else 0
  | 0 => by simp [ats]; omega
  | L + 1 => by
    simp only [ats]
    rw [ats_snoc l x hx L, cn_snoc l x L hx]
    by_cases h1 : 0 < x ∧ x < (L : Int)
    · rw [if_pos h1, if_neg (by omega), if_pos (by omega)]; omega
    · by_cases h2 : 0 < x ∧ L = x.toNat
      · rw [if_neg h1, if_pos h2, if_pos (by omega)]; omega
      · rw [if_neg h1, if_neg h2, if_neg (by omega)]; omega

theorem cnt1 (X Y : Int) (b : Bool) : (((if (decide (X < Y) || decide (X = Y) && b) = true then 1 else 0 : Nat)) : Int) = if X < Y ∨ (X = Y ∧ b = true) then 1 else 0 := by
  by_cases h : X < Y
  · simp [h]
  · by_cases h' : X = Y <;> cases b <;> simp [h, h']
theorem count_one (l : List Int) (N k : Nat) : [(N : Int)].countP (fun y => symLt l y (k : Int)) = if (decide (l.getD N 0 < l.getD k 0) || decide (l.getD N 0 = l.getD k 0) && decide ((N : Int) < (k : Int))) = true then 1 else 0 := by
  rw [List.countP_cons, List.countP_nil, Nat.zero_add]; rfl

theorem count_symLt {l : List Int} (hok1 : hok l = true) (k : Nat) (hk : k < l.length) (hp : 0 < l.getD k 0) : ∀ N, N ≤ l.length →
    (((symsTo l N).countP fun y => symLt l y (k : Int) : Nat) : Int) = ats (l.take N) (l.getD k 0).toNat + cn (l.take (min N k)) (l.getD k 0).toNat
  | 0, _ => by
    have e : ats (l.take 0) (l.getD k 0).toNat = 0 := by
      have : ∀ L, ats ([] : List Int) L = 0 := by intro L; induction L with
        | zero => rfl
        | succ L ih => simp [ats, ih, cn]
      simpa using this _
    rw [e]; simp [symsTo, cn]
  | N + 1, hN => by
    have ih := count_symLt hok1 k hk hp N (by omega)
    have hx := hok_mem hok1 (l.getD N 0) (by simp [List.getD, show N < l.length by omega])
    rw [symsTo_succ, List.countP_append, take_snoc 0 l N (by omega), ats_snoc _ _ hx.1]
    push_cast
    rw [ih]
    by_cases hNk : N < k
    · have e1 : min (N + 1) k = N + 1 := by omega
      have e2 : min N k = N := by omega
      rw [e1, e2, take_snoc 0 l N (by omega), cn_snoc _ _ _ hx.1]
      by_cases hpos : 0 < l.getD N 0
      · rw [if_pos hpos]
        have e3 : (([(N : Int)].countP fun y => symLt l y (k : Int) : Nat) : Int) = if l.getD N 0 < l.getD k 0 ∨ l.getD N 0 = l.getD k 0 then 1 else 0 := by
          rw [count_one, cnt1]; simp [hNk]
        rw [e3]
        by_cases h : l.getD N 0 < l.getD k 0
        · rw [if_pos (.inl h), if_pos (by omega), if_neg (by omega)]; omega
        · by_cases h' : l.getD N 0 = l.getD k 0
          · rw [if_pos (.inr h'), if_neg (by omega), if_pos (by omega)]; omega
          · rw [if_neg (by omega), if_neg (by omega), if_neg (by omega)]; omega
      · rw [if_neg hpos, if_neg (by omega), if_neg (by omega)]; simp
    · have e1 : min (N + 1) k = k := by omega
      have e2 : min N k = k := by omega
      rw [e1, e2]
      by_cases hpos : 0 < l.getD N 0
      · rw [if_pos hpos]
        have e3 : (([(N : Int)].countP fun y => symLt l y (k : Int) : Nat) : Int) = if l.getD N 0 < l.getD k 0 then 1 else 0 := by
          rw [count_one, cnt1]; simp [hNk]
        rw [e3]
        by_cases h : l.getD N 0 < l.getD k 0
        · rw [if_pos h, if_pos (by omega)]; omega
        · rw [if_neg h, if_neg (by omega)]; omega
      · rw [if_neg hpos, if_neg (by omega)]; simp

theorem length_symsTo {l : List Int} (hok1 : hok l = true) : ∀ N, N ≤ l.length → ((symsTo l N).length : Int) = ats (l.take N) 16
  | 0, _ => by simp [symsTo, ats, cn]
  | N + 1, hN => by
    have hx := hok_mem hok1 (l.getD N 0) (by simp [List.getD, show N < l.length by omega])
    rw [symsTo_succ, List.length_append, take_snoc 0 l N (by omega), ats_snoc _ _ hx.1]
    push_cast
    rw [length_symsTo hok1 N (by omega)]
    by_cases hpos : 0 < l.getD N 0
    · rw [if_pos hpos, if_pos (by omega)]; simp
    · rw [if_neg hpos, if_neg (by omega)]; simp

/-- Where an element of a strictly sorted list stands. -/
theorem countP_sorted {α : Type} (p : α → Bool) : ∀ (R : List α) (i : Nat), i ≤ R.length → (∀ j (h : j < R.length), p R[j] = decide (j < i)) → R.countP p = i
  | [], i, h, _ => by simp at h; simp [h]
  | x :: R, 0, _, hp => by
    rw [List.countP_eq_zero]
    intro y hy
    obtain ⟨j, hj, rfl⟩ := List.mem_iff_getElem.1 hy
    rw [hp j hj]; simp
  | x :: R, i + 1, h, hp => by
    have h0 := hp 0 (by simp)
    simp only [List.getElem_cons_zero] at h0
    rw [List.countP_cons_of_pos (by rw [h0]; simp), countP_sorted p R i (by simpa using h) (fun j hj => by
      have := hp (j + 1) (by simpa using hj)
      simpa using this)]

theorem srt_of {l : List Int} (hok1 : hok l = true) (R : Array Int) (hP : PermIn 0 (symsTo l l.length).length (symsTo l l.length).toArray R) (hS : SortedIn (symLt l) 0 (symsTo l l.length).length R) : SrtOf l R.toList := by
  obtain ⟨hsz, _, hperm⟩ := hP
  have hsz' : R.size = (symsTo l l.length).length := by simpa using hsz
  have hperm' : R.toList.Perm (symsTo l l.length) := by
    have e1 : R.extract 0 (symsTo l l.length).length = R := by rw [← hsz']; simp
    have e2 : (symsTo l l.length).toArray.extract 0 (symsTo l l.length).length = (symsTo l l.length).toArray := by simp
    rw [e1, e2] at hperm
    simpa using hperm
  have hnd : (symsTo l l.length).Nodup := by
    unfold symsTo
    refine List.Pairwise.map _ (R := fun a b : Nat => a ≠ b) (fun a b h e => h (by omega)) ?_
    exact List.Pairwise.filter _ List.nodup_range
  have hnd' : R.toList.Nodup := hperm'.symm.nodup hnd
  have hstrict : ∀ i j (hi : i < R.toList.length) (hj : j < R.toList.length), i < j → symLt l R.toList[i] R.toList[j] = true := by
    intro i j hi hj hij
    have h1 := hS i j (Nat.zero_le _) hij (by rw [← hsz']; simpa using hj)
    have hi' : i < R.size := by simpa using hi
    have hj' : j < R.size := by simpa using hj
    simp only [getElem!_pos, hi', hj'] at h1
    have hne : R.toList[i] ≠ R.toList[j] := fun e => by
      have := (List.getElem_inj hnd').1 e
      omega
    simp only [Array.getElem_toList] at hne ⊢
    simp only [symLt, Bool.or_eq_false_iff, Bool.and_eq_false_iff, decide_eq_false_iff_not] at h1
    simp only [symLt, Bool.or_eq_true, Bool.and_eq_true, decide_eq_true_eq]
    omega
  refine ⟨?_, fun k hk hp => ?_⟩
  · rw [hperm'.length_eq, length_symsTo hok1 _ (Nat.le_refl _), List.take_length]
  · have hmem : (k : Int) ∈ R.toList := hperm'.mem_iff.2 (mem_symsTo.2 ⟨k, hk, hp, rfl⟩)
    obtain ⟨i, hi, he⟩ := List.mem_iff_getElem.1 hmem
    have hc := countP_sorted (fun y => symLt l y (k : Int)) R.toList i (by omega) (fun j hj => by
      by_cases hji : j < i
      · have := hstrict j i hj hi hji
        rw [he] at this
        simpa [hji] using this
      · by_cases e : j = i
        · subst e; rw [he]; simp [(symLt_swo l).irrefl]
        · have h1 := hstrict i j hi hj (by omega)
          rw [he] at h1
          have h2 : symLt l R.toList[j] (k : Int) = false := by
            cases h3 : symLt l R.toList[j] (k : Int) with
            | false => rfl
            | true => have := (symLt_swo l).trans _ _ _ h1 h3; rw [(symLt_swo l).irrefl] at this; cases this
          rw [h2]; simp [hji])
    rw [hperm'.countP_eq] at hc
    have hcount := count_symLt hok1 k hk hp l.length (Nat.le_refl _)
    rw [hc, List.take_length, Nat.min_eq_right (by omega)] at hcount
    have e : (ats l (l.getD k 0).toNat + cn (l.take k) (l.getD k 0).toNat).toNat = i := by omega
    rw [e, ← List.getElem_eq_getD (h := hi), he]
end Go.Proofs.Ytlmdgaajkjbpgaa
/-
  Walks of layer 4: kraft and room take the same room; Complete and May ask it.
-/
namespace Go.Proofs.Ytlmdgaajkjbpgaa
open Go.RowKit

theorem kraft_end {l : List Int} {n : Nat} (hl : l.length = n) (h1 : ¬ (n : Int) < 1) (h2 : ¬ 320 < (n : Int)) (hok1 : hok (l.take n) = true) :
    roomV l = if 32768 < hsum (l.take n) then -1 else hsum (l.take n) := by
  subst hl
  rw [List.take_length] at hok1 ⊢
  unfold roomV
  rw [if_neg (by rintro (h | h | h) <;> first | omega | simp_all)]

set_option maxHeartbeats 400000 in
theorem kraft_any (a : Option Addr) (n cap : Nat) (l : List Int) (w : World) (hr : Row w 1 a n cap (l.map (Value.int .i64))) :
    Calls Try.prog 64 #[.slice a n cap] w fun e w' => e = .returned (.int .i64 (roomV l)) ∧ w = w' := by
  have hm := hr.i64
  have hl := hr.len1
  by_cases h1 : (n : Int) < 1
  · have hv : roomV l = -1 := by unfold roomV; rw [if_pos (by omega)]
    have HV := Lib.hid hv; clear hv
    go_enter Try.func64, Try.ntmps64
    go_wp2
    go_ret
    exact ⟨ret_int HV.out.symm, rfl⟩
  by_cases h2 : 320 < (n : Int)
  · have hv : roomV l = -1 := by unfold roomV; rw [if_pos (by omega)]
    have HV := Lib.hid hv; clear hv
    go_enter Try.func64, Try.ntmps64
    go_wp2
    go_ret
    exact ⟨ret_int HV.out.symm, rfl⟩
  have HL := Lib.hid hl; clear hl
  go_enter Try.func64, Try.ntmps64
  go_wp2
  go_loop [3, 16] (fun s i => ∃ k : Nat, k ≤ n ∧ i = .int .i64 k ∧ s = .int .i64 (hsum (l.take k)) ∧ Hid (hok (l.take k) = true)) (fun s i => n - (intOf i).toNat)
  case atStart => exact ⟨0, by omega, rfl, rfl, Lib.hid rfl⟩
  case round =>
    obtain ⟨k, hk, rfl, rfl, hok1⟩ := hrel
    by_cases hlt : k < n
    · obtain ⟨b, off, rfl, hb, hc⟩ := hr.at 0 k hlt
      have hck := hc k hlt
      have hs := hsum_bd (l.take k)
      have hs2 : (l.take k).length ≤ k := List.length_take_le _ _
      have ht := take_snoc 0 l k (by rw [HL.out]; exact hlt)
      obtain ⟨x, hx⟩ : ∃ x, x = l.getD k 0 := ⟨_, rfl⟩
      rw [← hx] at hck ht
      have HX := Lib.hid hx
      have HT := Lib.hid ht
      clear hc hx ht
      by_cases hneg : x < 0
      · have hv : roomV l = -1 := by unfold roomV; rw [if_pos (.inr (.inr (hok_not (k := k) (by rw [HL.out]; exact hlt) (by rw [← HX.out]; omega))))]
        have HV := Lib.hid hv; clear hv
        go_wp2
        go_ret
        exact ⟨ret_int HV.out.symm, rfl⟩
      by_cases h15 : 15 < x
      · have hv : roomV l = -1 := by unfold roomV; rw [if_pos (.inr (.inr (hok_not (k := k) (by rw [HL.out]; exact hlt) (by rw [← HX.out]; omega))))]
        have HV := Lib.hid hv; clear hv
        go_wp2
        go_ret
        exact ⟨ret_int HV.out.symm, rfl⟩
      have hbd := hby_bd x
      unfold hby at hbd
      by_cases hp : 0 < x
      · go_wp2
        go_round
        case rel => exact ⟨k + 1, by omega, by go_num, by rw [HT.out, hsum_snoc]; unfold hadd hby; rw [if_pos hp], Lib.hid (by rw [HT.out, hok_snoc, hok1.out]; simp; omega)⟩
        case measure => simp [intOf]; omega
      · go_wp2
        go_round
        case rel => exact ⟨k + 1, by omega, by go_num, by rw [HT.out, hsum_snoc]; unfold hadd; rw [if_neg hp], Lib.hid (by rw [HT.out, hok_snoc, hok1.out]; simp; omega)⟩
        case measure => simp [intOf]; omega
    · obtain rfl : k = n := by omega
      have hv := kraft_end HL.out (by omega) (by omega) hok1.out
      by_cases hw : 32768 < hsum (l.take k)
      · rw [if_pos hw] at hv
        have HV := Lib.hid hv; clear hv
        go_wp2
        go_ret
        exact ⟨ret_int HV.out.symm, rfl⟩
      · rw [if_neg hw] at hv
        have HV := Lib.hid hv; clear hv
        go_wp2
        go_ret
        exact ⟨ret_int HV.out.symm, rfl⟩

end Go.Proofs.Ytlmdgaajkjbpgaa
/-
  Walks of layer 4: the reference's room, Complete, May; counted, firsts.
-/
namespace Go.Proofs.Ytlmdgaajkjbpgaa
open Go.RowKit

set_option maxHeartbeats 400000 in
theorem room_any (a : Option Addr) (n cap : Nat) (l : List Int) (w : World) (hr : Row w 1 a n cap (l.map (Value.int .i64))) :
    Calls Try.prog 68 #[.slice a n cap] w fun e w' => e = .returned (.int .i64 (roomV l)) ∧ w = w' := by
  have hm := hr.i64
  have hl := hr.len1
  by_cases h1 : n = 0
  · have hv : roomV l = -1 := by unfold roomV; rw [if_pos (by omega)]
    have HV := Lib.hid hv; clear hv
    subst h1
    go_enter Try.func68, Try.ntmps68
    go_wp2
    go_ret
    exact ⟨ret_int HV.out.symm, rfl⟩
  have h1' : ((n : Int) == 0) = false := by simp; omega
  by_cases h2 : 320 < (n : Int)
  · have hv : roomV l = -1 := by unfold roomV; rw [if_pos (by omega)]
    have HV := Lib.hid hv; clear hv
    go_enter Try.func68, Try.ntmps68
    go_wp2
    go_ret
    exact ⟨ret_int HV.out.symm, rfl⟩
  have HL := Lib.hid hl; clear hl
  go_enter Try.func68, Try.ntmps68
  go_wp2
  go_loop [3, 4] (fun s i => ∃ k : Nat, k ≤ n ∧ i = .int .i64 k ∧ s = .int .i64 (hsum (l.take k)) ∧ Hid (hok (l.take k) = true)) (fun s i => n - (intOf i).toNat)
  case atStart => exact ⟨0, by omega, rfl, rfl, Lib.hid rfl⟩
  case round =>
    obtain ⟨k, hk, rfl, rfl, hok1⟩ := hrel
    by_cases hlt : k < n
    · obtain ⟨b, off, rfl, hb, hc⟩ := hr.at 0 k hlt
      have hck := hc k hlt
      have hs := hsum_bd (l.take k)
      have hs2 : (l.take k).length ≤ k := List.length_take_le _ _
      have ht := take_snoc 0 l k (by rw [HL.out]; exact hlt)
      obtain ⟨x, hx⟩ : ∃ x, x = l.getD k 0 := ⟨_, rfl⟩
      rw [← hx] at hck ht
      have HX := Lib.hid hx
      have HT := Lib.hid ht
      clear hc hx ht
      by_cases hneg : x < 0
      · have hv : roomV l = -1 := by unfold roomV; rw [if_pos (.inr (.inr (hok_not (k := k) (by rw [HL.out]; exact hlt) (by rw [← HX.out]; omega))))]
        have HV := Lib.hid hv; clear hv
        go_wp2
        go_ret
        exact ⟨ret_int HV.out.symm, rfl⟩
      by_cases h15 : 15 < x
      · have hv : roomV l = -1 := by unfold roomV; rw [if_pos (.inr (.inr (hok_not (k := k) (by rw [HL.out]; exact hlt) (by rw [← HX.out]; omega))))]
        have HV := Lib.hid hv; clear hv
        go_wp2
        go_ret
        exact ⟨ret_int HV.out.symm, rfl⟩
      go_wp2
      go_loop [5, 6] (fun by_ j => ∃ m : Nat, (m : Int) ≤ x ∧ j = .int .i64 m ∧ by_ = .int .i64 (32768 / 2 ^ m)) (fun _ j => x.toNat - (intOf j).toNat)
      case atStart => exact ⟨0, by omega, rfl, rfl⟩
      case round =>
        obtain ⟨m, hmx, rfl, rfl⟩ := hrel
        have hb1 := hby_bd (m : Int)
        unfold hby at hb1
        rw [Int.toNat_natCast] at hb1
        by_cases hmlt : (m : Int) < x
        · go_wp2
          go_round
          case rel => exact ⟨m + 1, by omega, by go_num, by rw [halve]⟩
          case measure => simp [intOf]; omega
        · obtain rfl : x = (m : Int) := by omega
          by_cases hp : 0 < (m : Int)
          · go_wp2
            go_round
            case rel => exact ⟨k + 1, by omega, by go_num, by rw [HT.out, hsum_snoc]; unfold hadd hby; rw [if_pos hp, Int.toNat_natCast], Lib.hid (by rw [HT.out, hok_snoc, hok1.out]; simp; omega)⟩
            case measure => simp [intOf]; omega
          · go_wp2
            go_round
            case rel => exact ⟨k + 1, by omega, by go_num, by rw [HT.out, hsum_snoc]; unfold hadd; rw [if_neg hp], Lib.hid (by rw [HT.out, hok_snoc, hok1.out]; simp; omega)⟩
            case measure => simp [intOf]; omega
    · obtain rfl : k = n := by omega
      have hv := kraft_end HL.out (by omega) (by omega) hok1.out
      by_cases hw : 32768 < hsum (l.take k)
      · rw [if_pos hw] at hv
        have HV := Lib.hid hv; clear hv
        go_wp2
        go_ret
        exact ⟨ret_int HV.out.symm, rfl⟩
      · rw [if_neg hw] at hv
        have HV := Lib.hid hv; clear hv
        go_wp2
        go_ret
        exact ⟨ret_int HV.out.symm, rfl⟩

theorem may_any (a : Option Addr) (n cap : Nat) (l : List Int) (w : World) (hr : Row w 1 a n cap (l.map (Value.int .i64))) :
    Calls Try.prog 62 #[.slice a n cap] w fun e w' => e = .returned (.bool (decide (0 ≤ roomV l))) ∧ w = w' := by
  go_enter Try.func62, Try.ntmps62
  go_wp2_with (go_at_call 68; refine (room_any _ _ _ l _ hr).mono ?_; rintro e w' ⟨rfl, rfl⟩)
  go_ret
  exact ⟨rfl, rfl⟩
theorem infoA16 : (Try.prog.info? 96).map (·.size) = some 16 := by kernel_rfl
theorem infoA16u : (Try.prog.info? 104).map (·.size) = some 16 := by kernel_rfl

/-- cells of the counts -/
def cnV (l : List Int) (m : Nat) : Value := .int .i64 (cn l m)
theorem all_oneCell_fl {n : Nat} {f : Nat → Value} (h : ∀ i, (f i).oneCell' = true) : (fl n f).toArray.all (·.oneCell') = true := by
  rw [Array.all_eq_true_iff_forall_mem]
  intro v hv
  simp [fl] at hv
  obtain ⟨i, _, rfl⟩ := hv
  exact h i

set_option maxHeartbeats 400000 in
theorem counted_any (a : Option Addr) (n cap : Nat) (l : List Int) (w : World) (hr : Row w 1 a n cap (l.map (Value.int .i64))) (hok1 : hok l = true) :
    Calls Try.prog 58 #[.slice a n cap] w fun e w' => e = .returned (.agg (fl 16 (cnV l)).toArray) ∧ Below w.heap.size w w' := by
  have hm := hr.i64
  have hl := hr.len1
  have h15 := hok_mem hok1
  have HL := Lib.hid hl; clear hl
  go_enter Try.func58, Try.ntmps58
  go_wp2
  obtain ⟨Z, hZ⟩ : ∃ Z : List Value, #[Value.int IntKind.i64 0, Value.int IntKind.i64 0, Value.int IntKind.i64 0, Value.int IntKind.i64 0,
          Value.int IntKind.i64 0, Value.int IntKind.i64 0, Value.int IntKind.i64 0, Value.int IntKind.i64 0,
          Value.int IntKind.i64 0, Value.int IntKind.i64 0, Value.int IntKind.i64 0, Value.int IntKind.i64 0,
          Value.int IntKind.i64 0, Value.int IntKind.i64 0, Value.int IntKind.i64 0, Value.int IntKind.i64 0] = Z.toArray := ⟨_, rfl⟩
  rw [hZ]
  have hZ2 : Z = fl 16 (cnV []) := by
    have := congrArg Array.toList hZ
    simpa [fl, cnV, cn, List.range_succ] using this.symm
  subst hZ2
  clear hZ
  go_loopw [8] (fun i wr => ∃ k : Nat, k ≤ n ∧ i = .int .i64 k ∧ wr.heap[w.heap.size + 1]? = some (.cells (fl 16 (cnV (l.take k))).toArray 96 (0, 0)) ∧
     wr.heap[w.heap.size]? = some (.cells (fl 16 (cnV [])).toArray 96 (0, 0)) ∧ Below w.heap.size w wr) (fun i _ => n - (intOf i).toNat)
  case atStart => exact ⟨0, by omega, rfl, heap_alloc2_new _ _ _, heap_alloc2_old _ _ _, ((Below.refl _ _).alloc (Nat.le_refl _) _).alloc (by simp) _⟩
  case round =>
    obtain ⟨k, hk, rfl, hB1, hB0, hbel⟩ := hrel
    by_cases hlt : k < n
    · obtain ⟨b, off, rfl, hb, hc⟩ := (hr.mono hbel).at 0 k hlt
      have hck := hc k hlt
      have hkl : k < l.length := by rw [HL.out]; exact hlt
      have ht := take_snoc 0 l k hkl
      have hx15 := h15 (l.getD k 0) (by simp [List.getD, hkl])
      obtain ⟨x, hx⟩ : ∃ x, x = l.getD k 0 := ⟨_, rfl⟩
      rw [← hx] at hck ht hx15
      have HT := Lib.hid ht
      have HB0 := Lib.hid hB0
      have HB1 := Lib.hid hB1
      clear hc hx ht h15 hB0 hB1
      have hcb := cn_bd (l.take k) x.toNat
      have hs2 : (l.take k).length ≤ k := List.length_take_le _ _
      by_cases hp : 0 < x
      · have hcell := blk_cell HB1.out x.toNat (by omega)
        unfold cnV at hcell
        have hfree := blk_free HB1.out x.toNat
        go_wp2
        go_roundw
        case rel =>
          refine ⟨k + 1, by omega, by go_num, ?_, blk_other HB0.out (by simp) _, hbel.setCell (by simp) _⟩
          rw [blk_set HB1.out]
          have e : fl 16 (fun j => if j = x.toNat then Value.int IntKind.i64 (cn (l.take k) x.toNat + 1) else cnV (l.take k) j) = fl 16 (cnV (l.take (k + 1))) := fl_congr fun i _ => by
            unfold cnV
            rw [HT.out, cn_snoc _ _ _ hx15.1]
            by_cases hi : i = x.toNat
            · subst hi; simp [hp]
            · simp [hi]
          rw [e]
        case measure => simp [intOf]; omega
      · go_wp2
        go_roundw
        case rel =>
          refine ⟨k + 1, by omega, by go_num, ?_, HB0.out, hbel⟩
          rw [HB1.out]
          have e : fl 16 (cnV (l.take k)) = fl 16 (cnV (l.take (k + 1))) := fl_congr fun i _ => by
            unfold cnV
            rw [HT.out, cn_snoc _ _ _ hx15.1]
            simp [hp]
          rw [e]
        case measure => simp [intOf]; omega
    · obtain rfl : k = n := by omega
      have hT : l.take k = l := by rw [← HL.out]; exact List.take_length
      rw [hT] at hB1
      have HB0 := Lib.hid hB0
      have HB1 := Lib.hid hB1
      clear hB0 hB1 hT
      go_wp2_with (first
        | (refine wpList_load_row rfl 96 (.tmp 3) rfl (w.heap.size + 1) rfl 96 _ (0, 0) _ HB1.out Try.underlying96 rfl (by rw [infoA16]; simp [fl_length]) ?_)
        | (refine wpList_store_row rfl 96 (.tmp 2) (.tmp 20) rfl w.heap.size _ rfl rfl 96 _ HB0.out (by rw [infoA16]; simp [fl_length]) (by simp [fl_length]) (all_oneCell_fl fun _ => rfl) ?_))
      refine bodyPost_ret (results_cell_row rfl _ _ w.heap.size 96 _ (0, 0) _ rfl (setRow_heap _ _ _ _ _ _ HB0.out) Try.underlying96 rfl (by rw [infoA16]; simp [fl_length])) rfl ⟨rfl, ?_⟩
      exact hbel.trans ⟨rfl, rfl, rfl, by simp, fun j hj => setRow_other _ _ _ _ (by omega)⟩
end Go.Proofs.Ytlmdgaajkjbpgaa
/-
  Walks of layer 4: firsts, the codes of the program and of the reference.
-/
namespace Go.Proofs.Ytlmdgaajkjbpgaa
open Go.RowKit

def fcV (l : List Int) (k : Nat) (m : Nat) : Value := .int .u32 (if m < k then fcode (cn l) m else 0)

set_option maxHeartbeats 400000 in
theorem firsts_any (l : List Int) (w : World) (hroom : 0 ≤ roomV l) :
    Calls Try.prog 65 #[.agg (fl 16 (cnV l)).toArray] w fun e w' => e = .returned (.agg (fl 16 (fcV l 16)).toArray) ∧ Below w.heap.size w w' := by
  have hlen := (roomV_ok hroom).2.1
  have HR := Lib.hid hroom; clear hroom
  go_enter Try.func65, Try.ntmps65
  go_wp2
  obtain ⟨Z, hZ⟩ : ∃ Z : List Value, #[Value.int IntKind.u32 0, Value.int IntKind.u32 0, Value.int IntKind.u32 0, Value.int IntKind.u32 0,
          Value.int IntKind.u32 0, Value.int IntKind.u32 0, Value.int IntKind.u32 0, Value.int IntKind.u32 0,
          Value.int IntKind.u32 0, Value.int IntKind.u32 0, Value.int IntKind.u32 0, Value.int IntKind.u32 0,
          Value.int IntKind.u32 0, Value.int IntKind.u32 0, Value.int IntKind.u32 0, Value.int IntKind.u32 0] = Z.toArray := ⟨_, rfl⟩
  rw [hZ]
  have hZ2 : Z = fl 16 (fcV l 0) := by
    have := congrArg Array.toList hZ
    simpa [fl, fcV, List.range_succ] using this.symm
  subst hZ2
  clear hZ
  go_loopw [4, 6] (fun c i wr => ∃ k : Nat, k ≤ 16 ∧ i = .int .i64 k ∧ c = .int .u32 (fcode (cn l) (k - 1)) ∧ wr.heap[w.heap.size + 2]? = some (.cells (fl 16 (fcV l k)).toArray 104 (0, 0)) ∧
     wr.heap[w.heap.size + 1]? = some (.cells (fl 16 (fcV l 0)).toArray 104 (0, 0)) ∧ wr.heap[w.heap.size]? = some (.cells (fl 16 (cnV l)).toArray 96 (0, 0)) ∧ Below w.heap.size w wr) (fun _ i _ => 16 - (intOf i).toNat)
  case atStart => exact ⟨0, by omega, rfl, rfl, heapA_new _ (by simp), heapA_old _ (heapA_new _ (by simp)), heapA_old _ (heapA_old _ (heapA_new _ rfl)), belowA3 _ _ _ _⟩
  case round =>
    obtain ⟨k, hk, rfl, rfl, hB2, hB1, hB0, hbel⟩ := hrel
    have HB0 := Lib.hid hB0
    have HB1 := Lib.hid hB1
    have HB2 := Lib.hid hB2
    clear hB0 hB1 hB2
    by_cases hlt : k < 16
    · rcases k with _ | k
      · go_wp2
        go_roundw
        case rel =>
          refine ⟨1, by omega, by go_num, rfl, ?_, HB1.out, HB0.out, hbel⟩
          rw [HB2.out]
          have e : fl 16 (fcV l 0) = fl 16 (fcV l 1) := fl_congr fun i _ => by
            unfold fcV
            by_cases hi : i = 0
            · subst hi; simp [fcode]
            · simp [show ¬ i < 1 by omega]
          rw [e]
        case measure => simp [intOf]
      · have hcell := blk_cell HB0.out k (by omega)
        unfold cnV at hcell
        have hcell2 := blk_cell HB2.out (k + 1) (by omega)
        have hfree2 := blk_free HB2.out (k + 1)
        unfold fcV at hcell2
        have hcb := cn_bd l k
        have hft := fcode_top HR.out k (by omega)
        have hp := pow_le_15 (n := k) (by omega)
        go_wp2
        go_roundw
        case rel =>
          refine ⟨k + 2, by omega, by go_num, ?_, ?_, blk_other HB1.out (by simp) _, blk_other HB0.out (by simp; omega) _, hbel.setCell (by simp; omega) _⟩
          · rfl
          · rw [show w.heap.size + 1 + 1 = w.heap.size + 2 from rfl, blk_set HB2.out]
            exact congrArg (fun x => some (Obj.cells (List.toArray x) _ _)) (fl_congr fun i _ => by
              unfold fcV
              by_cases hi : i = k + 1
              · subst hi; simp; rfl
              · have : (i < k + 1) = (i < k + 2) := by simp; omega
                simp [hi, this])
        case measure => simp [intOf]; omega
    · obtain rfl : k = 16 := by omega
      go_wp2_with (first
        | (refine wpList_load_row rfl 104 (.tmp 3) rfl (w.heap.size + 2) rfl 104 _ (0, 0) _ HB2.out Try.underlying104 rfl (by rw [infoA16u]; simp [fl_length]) ?_)
        | (refine wpList_store_row rfl 104 (.tmp 2) (.tmp 23) rfl (w.heap.size + 1) _ rfl rfl 104 _ HB1.out (by rw [infoA16u]; simp [fl_length]) (by simp [fl_length]) (all_oneCell_fl fun _ => rfl) ?_))
      refine bodyPost_ret (results_cell_row rfl _ _ (w.heap.size + 1) 104 _ (0, 0) _ rfl (setRow_heap _ _ _ _ _ _ HB1.out) Try.underlying104 rfl (by rw [infoA16u]; simp [fl_length])) rfl ⟨rfl, ?_⟩
      exact below_setRow hbel (by omega) _

/-- The element type uint32, as a slice's. -/
theorem EU32 : ElemT Try.prog 71 69 (.int .u32 0) 1 4 := ⟨Try.underlying71, by kernel_rfl, rfl, by omega⟩

theorem made_fl (z : Value) (n : Nat) : (madeCells #[z] (n * 1)).toList = fl n (fun _ => z) := by
  rw [Nat.mul_one, toList_madeCells_one, fl_replicate]

/-- An owned row whose cells are told by a function: one is read, one is written. -/
theorem own_cell {w : World} {base e g n cap : Nat} {enc : Nat → Value} (h : w.ownsRow base e 1 (.slice (some ⟨g, 0, none⟩) n cap) n (fl n enc)) (i : Nat) (hi : i < n) : w.cell? ⟨g, i, none⟩ = some (enc i) := by
  rw [h.cellAt i (by omega), fl_get enc hi]
theorem own_set {w : World} {base e g n cap : Nat} {enc : Nat → Value} (h : w.ownsRow base e 1 (.slice (some ⟨g, 0, none⟩) n cap) n (fl n enc)) (i : Nat) (v : Value) :
    (w.setCell ⟨g, i, none⟩ v).ownsRow base e 1 (.slice (some ⟨g, 0, none⟩) n cap) n (fl n (fun j => if j = i then v else enc j)) := by
  rw [← fl_set]; exact (h.stored i v).1
theorem own_other {w : World} {base e sz : Nat} {v : Value} {n : Nat} {xs : List Value} (h : w.ownsRow base e sz v n xs) {a : Addr} (ha : v.ownBlock ≠ some a.block) (u : Value) : (w.setCell a u).ownsRow base e sz v n xs := ownsRow_setCell_other h ha u
theorem own_congr {w : World} {base e sz : Nat} {v : Value} {n : Nat} {xs ys : List Value} (h : w.ownsRow base e sz v n xs) (hx : xs = ys) : w.ownsRow base e sz v n ys := hx ▸ h

/-- The codes so far; the next ones. -/
def cdV (l : List Int) (k i : Nat) : Value := .int .u32 (if i < k then codeAt l i else 0)
def nxV (l : List Int) (k m : Nat) : Value := .int .u32 (fcode (cn l) m + cn (l.take k) m)

set_option maxHeartbeats 800000 in
theorem codes_ok (a : Option Addr) (n cap : Nat) (l : List Int) (w : World) (hr : Row w 1 a n cap (l.map (Value.int .i64))) (hroom : 0 ≤ roomV l) :
    Calls Try.prog 56 #[.slice a n cap] w fun e w' => ∃ v, e = .returned (.tuple #[v, .int .i64 0]) ∧ w'.ownsRow w.heap.size 69 1 v n (fl n (cdV l n)) ∧ Below w.heap.size w w' := by
  have hm := hr.i64
  have hl := hr.len1
  have hok1 := (roomV_ok hroom).2.2.1
  have hlen := (roomV_ok hroom).2.1
  have h15 := hok_mem hok1
  have hn : n ≤ 320 := by omega
  have HL := Lib.hid hl
  have HR := Lib.hid hroom
  have H15 := Lib.hid h15
  have HOK := Lib.hid hok1
  clear hl hroom h15 hok1
  go_enter Try.func56, Try.ntmps56
  go_wp2_with (first
    | (go_at_call 64; refine (kraft_any _ _ _ l _ hr).mono ?_; rintro e w' ⟨rfl, rfl⟩; have hrr := HR.out))
  refine (counted_any _ _ _ l _ hr HOK.out).mono ?_
  rintro e w1 ⟨rfl, hb1⟩
  go_wp2_with fail
  refine (firsts_any l _ HR.out).mono ?_
  rintro e w2 ⟨rfl, hb2⟩
  have hn2 : (n : Int) ≤ 320 := by omega
  go_wp2_with (first
    | (with_reducible show wpList _ _ _ (Oper.mk _ (Op.store 104 (Operand.tmp 4) _) _ _ _ _ :: _) _ _; refine store_fresh rfl 104 (.tmp 4) (.tmp 13) rfl _ _ (fl 16 (fcV l 16)).toArray rfl rfl (by rw [infoA16u]; simp [fl_length]) (by simp [fl_length]) (all_oneCell_fl fun _ => rfl) ?_; intro w3 hB3 hb3 hs3; have HB3 := Lib.hid hB3; have HS3 := Lib.hid hs3; clear hB3 hs3)
    | (at_make; refine make_full EU32 rfl (.tmp 15) (.tmp 15) rfl .i64 .i64 _ _ n rfl rfl rfl rfl (by omega) (by unfold maxLen; omega) ?_; intro w4 hown hb4; have HO := Lib.hid (own_congr hown (made_fl _ n)); clear hown))
  have hbA := hb1.trans (hb2.mono hb1.size)
  have hbB := hbA.trans (hb3.mono hbA.size)
  have hbC := hbB.trans (hb4.mono hbB.size)
  have hne : ¬ w3.heap.size = w2.heap.size := by have := HS3.out; omega
  have hne2 : ¬ w2.heap.size = w3.heap.size := by have := HS3.out; omega
  have hB4 := block_keep hb4 HB3.out
  have hgeB := hbA.size
  have hgeG := hbB.size
  have HB4 := Lib.hid hB4
  clear hB4 HB3 HS3 hb1 hb2 hb3 hb4 hbA hbB
  generalize w2.heap.size = B at *
  generalize w3.heap.size = G at *
  go_loopw [19] (fun i wr => ∃ k : Nat, k ≤ n ∧ i = .int .i64 k ∧ wr.ownsRow w.heap.size 69 1 (.slice (some ⟨G, 0, none⟩) n n) n (fl n (cdV l k)) ∧
     wr.heap[B]? = some (.cells (fl 16 (nxV l k)).toArray 104 (0, 0)) ∧ Below w.heap.size w wr) (fun i _ => n - (intOf i).toNat)
  case atStart =>
    refine ⟨0, by omega, rfl, own_congr (ownsRow_base HO.out hgeG) (fl_congr fun i _ => by simp [cdV]), ?_, hbC⟩
    rw [HB4.out]
    exact congrArg (fun x => some (Obj.cells (List.toArray x) _ _)) (fl_congr fun i hi => by simp [fcV, nxV, hi]; simp [cn])
  case round =>
    obtain ⟨k, hk, rfl, hO, hBk, hbel⟩ := hrel
    clear HO HB4 hbC
    have HO := Lib.hid hO
    have HB := Lib.hid hBk
    clear hO hBk
    by_cases hlt : k < n
    · obtain ⟨b, off, rfl, hb, hc⟩ := (hr.mono hbel).at 0 k hlt
      have hck := hc k hlt
      have hkl : k < l.length := by rw [HL.out]; exact hlt
      have ht := take_snoc 0 l k hkl
      have hx15 := H15.out (l.getD k 0) (by simp [List.getD, hkl])
      have hcl := fun hp : 0 < l.getD k 0 => cn_lt (m := (l.getD k 0).toNat) hkl (by omega) (by omega)
      have hcA : codeAt l k = if 0 < l.getD k 0 then fcode (cn l) (l.getD k 0).toNat + cn (l.take k) (l.getD k 0).toNat else 0 := rfl
      obtain ⟨x, hx⟩ : ∃ x, x = l.getD k 0 := ⟨_, rfl⟩
      rw [← hx] at hck ht hx15 hcl hcA
      have HT := Lib.hid ht
      have HC := Lib.hid hcA
      clear hc ht hx hcA
      by_cases hp : 0 < x
      · have hft := fcode_top HR.out x.toNat (by omega)
        have hcl' := hcl hp
        have hpw := pow_le_15 (n := x.toNat) (by omega)
        have hcb := cn_bd (l.take k) x.toNat
        clear hcl
        have hcell := blk_cell HB.out x.toNat (by omega)
        unfold nxV at hcell
        have hfree := blk_free HB.out x.toNat
        have hcell2 := own_cell HO.out k hlt
        have hfree2 := HO.out.frozenAt k
        go_wp2
        go_roundw
        case rel =>
          refine ⟨k + 1, by omega, by go_num, own_congr (own_other (own_set HO.out k _) (by simp [Value.ownBlock]; omega) _) (fl_congr fun i _ => ?_), ?_, (hbel.setCell (by simp; omega) _).setCell (by simp; omega) _⟩
          · unfold cdV
            by_cases hi : i = k
            · subst hi; simp [HC.out, hp]
            · have : (i < k) = (i < k + 1) := by simp; omega
              simp [hi, this]
          · rw [blk_set (blk_other HB.out (by simp; omega) _)]
            exact congrArg (fun x => some (Obj.cells (List.toArray x) _ _)) (fl_congr fun i _ => by
              unfold nxV
              rw [HT.out, cn_snoc _ _ _ hx15.1]
              by_cases hi : i = x.toNat
              · subst hi; simp [hp]; omega
              · simp [hi])
        case measure => simp [intOf]; omega
      · go_wp2
        go_roundw
        case rel =>
          refine ⟨k + 1, by omega, by go_num, own_congr HO.out (fl_congr fun i _ => ?_), ?_, hbel⟩
          · unfold cdV
            by_cases hi : i = k
            · subst hi; simp [HC.out, hp]
            · have : (i < k) = (i < k + 1) := by simp; omega
              simp [this]
          · rw [HB.out]
            exact congrArg (fun x => some (Obj.cells (List.toArray x) _ _)) (fl_congr fun i _ => by
              unfold nxV
              rw [HT.out, cn_snoc _ _ _ hx15.1]
              simp [hp])
        case measure => simp [intOf]; omega
    · obtain rfl : k = n := by omega
      go_wp2
      go_ret2
      exact ⟨_, rfl, HO.out, hbel⟩

theorem codes_bad (a : Option Addr) (n cap : Nat) (l : List Int) (w : World) (hr : Row w 1 a n cap (l.map (Value.int .i64))) (hroom : roomV l < 0) :
    Calls Try.prog 56 #[.slice a n cap] w fun e w' => e = .returned (.tuple #[.slice none 0 0, .int .i64 13]) ∧ w = w' := by
  go_enter Try.func56, Try.ntmps56
  go_wp2_with (first
    | (go_at_call 64; refine (kraft_any _ _ _ l _ hr).mono ?_; rintro e w' ⟨rfl, rfl⟩))
  go_ret2
  exact ⟨rfl, rfl⟩
end Go.Proofs.Ytlmdgaajkjbpgaa
