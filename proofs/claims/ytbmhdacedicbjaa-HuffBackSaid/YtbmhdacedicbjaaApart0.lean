/-
  The law HuffApart, plain: no code is the beginning of another one; the words of its walk.
-/
import Derived.Test.YtbmhdacedicbjaaWorks4
import Derived.Test.YtbmhdacedicbjaaArgs
namespace Go.Proofs.Ytbmhdacedicbjaa
open Go.RowKit Go.Sort

theorem fcode_grow (c : Nat → Int) (hc : ∀ m, 0 ≤ c m) (n : Nat) : ∀ d, (fcode c n + c n) * 2 ^ (d + 1) ≤ fcode c (n + d + 1)
  | 0 => by simp only [fcode]; omega
  | d + 1 => by
    have h := fcode_grow c hc n d
    have h2 := hc (n + d + 1)
    rw [show n + (d + 1) + 1 = (n + d + 1) + 1 from by omega, fcode, Int.pow_succ]
    have : (fcode c n + c n) * (2 ^ (d + 1) * 2) = ((fcode c n + c n) * 2 ^ (d + 1)) * 2 := by rw [Int.mul_assoc]
    rw [this]
    omega

/-- P4.5: no code is the beginning of another one. -/
theorem prefix_free {l : List Int} (hroom : 0 ≤ roomV l) {a b : Nat} (ha : a < l.length) (hb : b < l.length) (hab : a ≠ b) (hpos : 0 < l.getD a 0) (hle : l.getD a 0 ≤ l.getD b 0) :
    codeAt l b / 2 ^ (l.getD b 0 - l.getD a 0).toNat ≠ codeAt l a := by
  obtain ⟨_, _, hok1, _⟩ := roomV_ok hroom
  have hxa := hok_mem hok1 (l.getD a 0) (by simp [List.getD, ha])
  have hxb := hok_mem hok1 (l.getD b 0) (by simp [List.getD, hb])
  have ea : codeAt l a = fcode (cn l) (l.getD a 0).toNat + cn (l.take a) (l.getD a 0).toNat := by unfold codeAt; rw [if_pos hpos]
  have eb : codeAt l b = fcode (cn l) (l.getD b 0).toNat + cn (l.take b) (l.getD b 0).toNat := by unfold codeAt; rw [if_pos (by omega)]
  have hla := cn_lt (m := (l.getD a 0).toNat) ha (by omega) (by omega)
  by_cases heq : l.getD a 0 = l.getD b 0
  · have e0 : (l.getD b 0 - l.getD a 0).toNat = 0 := by omega
    rw [e0, ea, eb, ← heq]
    simp only [Int.pow_zero, Int.ediv_one]
    intro h
    have hlt : ∀ {i j : Nat}, i < j → j < l.length → l.getD i 0 = l.getD j 0 → l.getD i 0 = l.getD a 0 → cn (l.take i) (l.getD a 0).toNat < cn (l.take j) (l.getD a 0).toNat := by
      intro i j hij hj _ hi
      have h1 := cn_take_mono l (l.getD a 0).toNat (show i + 1 ≤ j by omega)
      rw [take_snoc 0 l i (by omega), cn_snoc _ _ _ (by omega), hi, if_pos ⟨hpos, rfl⟩] at h1
      omega
    rcases Nat.lt_or_gt_of_ne hab with h1 | h1
    · have := hlt h1 hb heq rfl; omega
    · have := hlt h1 ha heq.symm heq.symm; omega
  · have hgrow := fcode_grow (cn l) (fun m => (cn_bd l m).1) (l.getD a 0).toNat ((l.getD b 0).toNat - (l.getD a 0).toNat - 1)
    have e1 : (l.getD a 0).toNat + ((l.getD b 0).toNat - (l.getD a 0).toNat - 1) + 1 = (l.getD b 0).toNat := by omega
    have e2 : (l.getD b 0).toNat - (l.getD a 0).toNat - 1 + 1 = (l.getD b 0 - l.getD a 0).toNat := by omega
    rw [e1, e2] at hgrow
    have hp : (0 : Int) < 2 ^ (l.getD b 0 - l.getD a 0).toNat := Int.pow_pos (by omega)
    have hb0 := (cn_bd (l.take b) (l.getD b 0).toNat).1
    have hge : fcode (cn l) (l.getD a 0).toNat + cn l (l.getD a 0).toNat ≤ codeAt l b / 2 ^ (l.getD b 0 - l.getD a 0).toNat := by
      rw [Int.le_ediv_iff_mul_le hp, eb]
      omega
    rw [ea]
    omega

theorem half_pow (x : Int) (j : Nat) : x / 2 ^ (j + 1) = x / 2 ^ j / 2 := by
  rw [Int.pow_succ, Int.ediv_ediv_of_nonneg (Int.pow_nonneg (by omega))]

def ApartEnd (w : World) (e : Ending) (w' : World) : Prop := e = .returned (.bool true) ∧ Below w.heap.size w w'

/-- What Codes leaves. -/
def CodesAt (a : Option Addr) (n cap : Nat) (l : List Int) (w : World) : Prop :=
  Calls Try.prog 21 #[.slice a n cap] w fun e w' => ∃ v, e = .returned (.tuple #[v, .int .i64 0]) ∧ w'.ownsRow w.heap.size 44 1 v n (fl n (cdV l n)) ∧ Below w.heap.size w w'

/-- What the walk reads of the two codes and the two lengths. -/
def CellsAt (ba oa ka kb n : Nat) (l : List Int) (w : World) (xa xb ya yb : Int) : Prop :=
  ∀ w1, Below w.heap.size w w1 → ∀ (a1 : Option Addr) (c1 : Nat), Row w1 1 a1 n c1 (fl n (cdV l n)) → ∃ b1 o1, a1 = some ⟨b1, o1, none⟩ ∧ w1.cell? ⟨b1, o1 + ka, none⟩ = some (.int .u32 ya) ∧ w1.cell? ⟨b1, o1 + kb, none⟩ = some (.int .u32 yb) ∧
    w1.cell? ⟨ba, oa + ka, none⟩ = some (.int .i64 xa) ∧ w1.cell? ⟨ba, oa + kb, none⟩ = some (.int .i64 xb)
end Go.Proofs.Ytbmhdacedicbjaa
