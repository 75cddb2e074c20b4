/-
  Spans as cells; a row of spans of the call's own; the library's sort of it.
-/
import Derived.Test.YtimeacigbacadaaLayS
import Derived.Test.YtimeacigbacadaaApp
import Derived.Test.YtimeacigbacadaaSpP
import Derived.Test.YtimeacigbacadaaArgs
namespace Go.Proofs.Ytimeacigbacadaa
open Go.RowKit Go.Sort

def encSp (x : Int × Int) : List Value := [.int .i64 x.1, .int .i64 x.2]
/-- The cells of spans. -/
def spV : List (Int × Int) → List Value
  | [] => []
  | x :: L => .int .i64 x.1 :: .int .i64 x.2 :: spV L
theorem spV_len : ∀ L : List (Int × Int), (spV L).length = L.length * 2
  | [] => rfl
  | x :: L => by simp only [spV, List.length_cons, spV_len L]; omega
theorem spV_append : ∀ A B : List (Int × Int), spV (A ++ B) = spV A ++ spV B
  | [], B => rfl
  | x :: A, B => by simp only [List.cons_append, spV, spV_append A B]
theorem spV_one (x : Int × Int) : spV [x] = [.int .i64 x.1, .int .i64 x.2] := rfl
theorem spV_get : ∀ (L : List (Int × Int)) (k : Nat), k < L.length → (spV L)[2 * k]? = some (.int .i64 (L.getD k (0, 0)).1) ∧ (spV L)[2 * k + 1]? = some (.int .i64 (L.getD k (0, 0)).2)
  | [], k, h => by simp at h
  | x :: L, 0, _ => ⟨rfl, rfl⟩
  | x :: L, k + 1, h => by
    have := spV_get L k (by simpa using h)
    rw [show 2 * (k + 1) = (2 * k) + 1 + 1 from by omega]
    simpa [spV, List.getD] using this
theorem spV_one_cell (L : List (Int × Int)) : ∀ u ∈ spV L, u.oneCell' = true := by
  induction L with
  | nil => intro u h; cases h
  | cons x L ih =>
    intro u h
    simp only [spV, List.mem_cons] at h
    rcases h with h | h | h
    · subst h; rfl
    · subst h; rfl
    · exact ih u h

theorem flat_spV (L : List (Int × Int)) : (flatK encSp 2 L.toArray).toList = spV L := by
  apply List.ext_getElem?
  intro t
  by_cases ht : t < L.length * 2
  · have h1 := get_flatK encSp 2 L.toArray t (by simpa using ht)
    rw [getElem!_pos _ t (by simpa using ht)] at h1
    have hk : t / 2 < L.length := by omega
    have h2 := spV_get L (t / 2) hk
    have hg : L.toArray[t / 2]! = L.getD (t / 2) (0, 0) := by simp [List.getD, hk]
    rw [Array.getElem?_toList, Array.getElem?_eq_getElem (by simpa using ht), h1, hg]
    rcases Nat.mod_two_eq_zero_or_one t with h0 | h0
    · have e : t = 2 * (t / 2) := by omega
      rw [h0]
      conv => rhs; rw [e]
      rw [h2.1]; rfl
    · have e : t = 2 * (t / 2) + 1 := by omega
      rw [h0]
      conv => rhs; rw [e]
      rw [h2.2]; rfl
  · have e1 : (flatK encSp 2 L.toArray).toList.length ≤ t := by simp; omega
    have e2 : (spV L).length ≤ t := by rw [spV_len]; omega
    rw [List.getElem?_eq_none e1, List.getElem?_eq_none e2]

/-- A slice of spans that reads as L. -/
abbrev SRow (w : World) (a : Option Addr) (n cap : Nat) (L : List (Int × Int)) : Prop := Row w 2 a n cap (spV L)
theorem SRow.len {w : World} {a : Option Addr} {n cap : Nat} {L : List (Int × Int)} (h : SRow w a n cap L) : L.length = n := by
  have := h.1; rw [spV_len] at this; omega
theorem SRow.at {w : World} {a : Option Addr} {n cap : Nat} {L : List (Int × Int)} (h : SRow w a n cap L) (k : Nat) (hk : k < n) :
    ∃ b off, a = some ⟨b, off, none⟩ ∧ b < w.heap.size ∧ ∀ k, k < n → w.cell? ⟨b, off + k * 2, none⟩ = some (.int .i64 (L.getD k (0, 0)).1) ∧ w.cell? ⟨b, off + k * 2 + 1, none⟩ = some (.int .i64 (L.getD k (0, 0)).2) := by
  have hl := h.len
  obtain ⟨h1, h2, h3, h4, h5⟩ := h
  obtain ⟨b, off, ha, hb, hc⟩ := h5 (by omega)
  refine ⟨b, off, ha, hb, fun k hk => ?_⟩
  have hg := spV_get L k (by omega)
  rw [Nat.mul_comm k 2]
  exact ⟨hc _ _ hg.1, by have := hc _ _ hg.2; rwa [← Nat.add_assoc] at this⟩

/-- 'before': how two spans stand. -/
def cmpI2 (x y : Int) : Int := if x < y then -1 else if y < x then 1 else 0
def cmpS (x y : Int × Int) : Int := if cmpI2 x.1 y.1 ≠ 0 then cmpI2 x.1 y.1 else cmpI2 x.2 y.2
theorem cmpS_lt (x y : Int × Int) : cmpS x y < 0 ↔ x.1 < y.1 ∨ (x.1 = y.1 ∧ x.2 < y.2) := by
  unfold cmpS cmpI2
  repeat' split
  all_goals omega
theorem ltS_eq (x y : Int × Int) : Go.Proofs.ltOf cmpS x y = decide (x.1 < y.1 ∨ (x.1 = y.1 ∧ x.2 < y.2)) := by
  unfold Go.Proofs.ltOf
  rw [Bool.eq_iff_iff, decide_eq_true_iff, decide_eq_true_iff]
  exact cmpS_lt x y
theorem swoS : SWO (Go.Proofs.ltOf cmpS) where
  irrefl x := by show Go.Proofs.ltOf cmpS x x = false; rw [ltS_eq]; simp
  trans x y z h1 h2 := by
    change Go.Proofs.ltOf cmpS x y = true at h1
    change Go.Proofs.ltOf cmpS y z = true at h2
    show Go.Proofs.ltOf cmpS x z = true
    rw [ltS_eq] at *; simp at *; omega
  ntrans x y z h1 h2 := by
    change Go.Proofs.ltOf cmpS x y = false at h1
    change Go.Proofs.ltOf cmpS y z = false at h2
    show Go.Proofs.ltOf cmpS x z = false
    rw [ltS_eq] at *; simp at *; omega
end Go.Proofs.Ytimeacigbacadaa
