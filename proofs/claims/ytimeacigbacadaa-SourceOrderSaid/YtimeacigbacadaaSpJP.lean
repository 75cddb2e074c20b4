/-
  Plain: what the loop of Join keeps.
-/
import Derived.Test.YtimeacigbacadaaSpE
namespace Go.Proofs.Ytimeacigbacadaa
open Go.RowKit Go.Sort

def JoinAt (gap : Int) (S : List (Int × Int)) (k : Nat) (out : List (Int × Int)) : Prop :=
  (k = 0 ∧ out = []) ∨ ∃ front f b, 0 ≤ f ∧ f < b ∧ b ≤ 9223372036854775807 ∧ out = front ++ [(f, b)] ∧ joinS gap S = front ++ (f, (tl gap b (S.drop k)).1) :: (tl gap b (S.drop k)).2

theorem drop_cons {S : List (Int × Int)} {k : Nat} (h : k < S.length) : S.drop k = S.getD k (0, 0) :: S.drop (k + 1) := by
  rw [List.drop_eq_getElem_cons h]; simp [List.getD, h]
theorem joinAt_first {gap : Int} {S : List (Int × Int)} (h : 0 < S.length) {x y : Int} (hx : S.getD 0 (0, 0) = (x, y)) (h0 : 0 ≤ x) (h1 : x < y) (h2 : y ≤ 9223372036854775807) : JoinAt gap S 1 [(x, y)] := by
  refine .inr ⟨[], x, y, h0, h1, h2, rfl, ?_⟩
  have := drop_cons h
  rw [List.drop_zero, hx] at this
  rw [this]; rfl
theorem joinAt_app {gap : Int} {S front : List (Int × Int)} {k : Nat} {f b x y : Int} (h : k < S.length) (hx : S.getD k (0, 0) = (x, y)) (h0 : 0 ≤ x) (h1 : x < y) (h2 : y ≤ 9223372036854775807) (hc : ¬ x - b ≤ gap)
    (hj : joinS gap S = front ++ (f, (tl gap b (S.drop k)).1) :: (tl gap b (S.drop k)).2) : JoinAt gap S (k + 1) (front ++ [(f, b)] ++ [(x, y)]) := by
  refine .inr ⟨front ++ [(f, b)], x, y, h0, h1, h2, rfl, ?_⟩
  rw [hj, drop_cons h, hx]
  simp only [tl, if_neg hc]
  rw [List.append_assoc]; rfl
theorem joinAt_mrg {gap : Int} {S front : List (Int × Int)} {k : Nat} {f b x y : Int} (h : k < S.length) (hx : S.getD k (0, 0) = (x, y)) (h0 : 0 ≤ f) (h1 : f < b) (hb : b ≤ 9223372036854775807) (h2 : y ≤ 9223372036854775807) (hc : x - b ≤ gap)
    (hj : joinS gap S = front ++ (f, (tl gap b (S.drop k)).1) :: (tl gap b (S.drop k)).2) : JoinAt gap S (k + 1) (front ++ [(f, max b y)]) := by
  refine .inr ⟨front, f, max b y, h0, by omega, by omega, rfl, ?_⟩
  rw [hj, drop_cons h, hx]
  simp only [tl, if_pos hc]
theorem joinAt_end {gap : Int} {S out : List (Int × Int)} (h : JoinAt gap S S.length out) : out = joinS gap S := by
  rcases h with ⟨h1, h2⟩ | ⟨front, f, b, _, _, _, h1, h2⟩
  · have : S = [] := List.eq_nil_of_length_eq_zero h1
    subst this; rw [h2]; rfl
  · rw [h2, h1, List.drop_length]; rfl

/-- What Join leaves. -/
def JoinEnd (gap : Int) (L : List (Int × Int)) (w : World) (e : Ending) (w' : World) : Prop :=
  ∃ (S : List (Int × Int)) (v : Value), S.Perm (full L) ∧ S.Pairwise (fun x y => x.1 ≤ y.1) ∧ e = .returned v ∧ w'.ownsRow w.heap.size 23 2 v (joinS (max 0 gap) S).length (spV (joinS (max 0 gap) S)) ∧ Below w.heap.size w w'

theorem row_new2 (w : World) (x y : Value) (e : TypeId) : Row (w.alloc (.cells #[x, y] e)) 2 (some ⟨w.heap.size, 0, none⟩) 1 1 [x, y] :=
  ⟨rfl, Nat.le_refl _, by simp [maxLen], fun h => (by cases h), fun _ => ⟨w.heap.size, 0, rfl, by rw [sizeA]; omega, fun j u hj => by
    rw [cell_of_row _ _ _ _ _ _ (heapA_new _ rfl)]
    rcases j with _ | _ | j
    · simpa using hj
    · simpa using hj
    · simp at hj⟩⟩
/-- Numbers that a machine's word holds. -/
def Fit (L : List (Int × Int)) : Prop := ∀ x ∈ L, -9223372036854775808 ≤ x.1 ∧ x.1 ≤ 9223372036854775807 ∧ -9223372036854775808 ≤ x.2 ∧ x.2 ≤ 9223372036854775807
theorem full_mem {L S : List (Int × Int)} (hp : S.Perm (full L)) (hf : Fit L) : ∀ x ∈ S, 0 ≤ x.1 ∧ x.1 < x.2 ∧ x.2 ≤ 9223372036854775807 := fun x hx => by
  have h1 := List.mem_filter.1 (hp.mem_iff.1 hx)
  have h2 := emp_false.1 (by simpa using h1.2)
  exact ⟨h2.1, h2.2, (hf x h1.1).2.2.2⟩

theorem spV_set2 : ∀ (L : List (Int × Int)) (q : Nat) (f b z : Int), L.getD q (0, 0) = (f, b) → (spV L).set (q * 2 + 1) (.int .i64 z) = spV (L.set q (f, z))
  | [], q, f, b, z, _ => by simp [spV]
  | y :: L, 0, f, b, z, h => by
    simp [List.getD] at h
    subst h
    simp [spV]
  | y :: L, k + 1, f, b, z, h => by
    have := spV_set2 L k f b z (by simpa [List.getD] using h)
    rw [show (k + 1) * 2 + 1 = k * 2 + 1 + 1 + 1 from by omega]
    simp only [spV, List.set_cons_succ, this]
theorem last_get (front : List (Int × Int)) (z : Int × Int) : (front ++ [z]).getD front.length (0, 0) = z := by simp [List.getD]
theorem last_set (front : List (Int × Int)) (z z' : Int × Int) : (front ++ [z]).set front.length z' = front ++ [z'] := by simp
theorem own_shape {w : World} {base e sz n : Nat} {v : Value} {xs : List Value} (h : w.ownsRow base e sz v n xs) (hn : 0 < n * sz) : ∃ g cap, v = .slice (some ⟨g, 0, none⟩) n cap ∧ base ≤ g := by
  obtain ⟨h1, h2⟩ := h
  rcases h2 with ⟨_, h3⟩ | ⟨g, cap, cur, hv, hb, _⟩
  · subst h3; simp at h1; omega
  · exact ⟨g, cap, hv, hb⟩
end Go.Proofs.Ytimeacigbacadaa
