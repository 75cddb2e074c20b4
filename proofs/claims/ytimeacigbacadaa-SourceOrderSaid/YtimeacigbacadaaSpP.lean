/-
  Plain: sets of intervals: how they are made one; what they cover; the one form that they have.
-/
import Derived.Sort.LotA
namespace Go.Proofs.Ytimeacigbacadaa
open Go.Sort

/-- Is there no number in it? -/
def emp (x : Int × Int) : Bool := decide (x.1 < 0) || decide (x.2 ≤ x.1)
theorem emp_false {x : Int × Int} : emp x = false ↔ 0 ≤ x.1 ∧ x.1 < x.2 := by simp [emp]
theorem emp_true {x : Int × Int} : emp x = true ↔ x.1 < 0 ∨ x.2 ≤ x.1 := by simp [emp]

/-- What stands behind the first one's beginning: where it ends, and the others. -/
def tl (gap : Int) : Int → List (Int × Int) → Int × List (Int × Int)
  | b, [] => (b, [])
  | b, x :: r => if x.1 - b ≤ gap then tl gap (max b x.2) r else (b, (x.1, (tl gap x.2 r).1) :: (tl gap x.2 r).2)
/-- Those that lie near are one. -/
def joinS (gap : Int) : List (Int × Int) → List (Int × Int)
  | [] => []
  | x :: r => (x.1, (tl gap x.2 r).1) :: (tl gap x.2 r).2

theorem tl_ge (gap : Int) : ∀ (r : List (Int × Int)) (b : Int), b ≤ (tl gap b r).1
  | [], b => Int.le_refl _
  | x :: r, b => by
    simp only [tl]
    split
    · have := tl_ge gap r (max b x.2); omega
    · exact Int.le_refl _

/-- Those that are joined already may be joined by a greater gap. -/
theorem tl_tl {gap : Int} (hg : 0 ≤ gap) : ∀ (r : List (Int × Int)) (b : Int), (∀ x ∈ r, x.1 < x.2) → tl gap b r = tl gap (tl 0 b r).1 (tl 0 b r).2
  | [], b, _ => rfl
  | x :: r, b, h => by
    have hx := h x (List.mem_cons_self ..)
    have ih := fun b => tl_tl hg r b (fun y hy => h y (List.mem_cons_of_mem _ hy))
    by_cases h0 : x.1 - b ≤ 0
    · simp only [tl, if_pos h0, if_pos (show x.1 - b ≤ gap by omega)]
      exact ih _
    · have hge := tl_ge 0 r x.2
      have e := ih x.2
      simp only [tl, if_neg h0]
      by_cases h1 : x.1 - b ≤ gap
      · rw [if_pos h1, if_pos h1, show max b x.2 = x.2 from by omega, show max b (tl 0 x.2 r).1 = (tl 0 x.2 r).1 from by omega]
        exact e
      · rw [if_neg h1, if_neg h1, ← e]
theorem joinS_joinS {gap : Int} (hg : 0 ≤ gap) (L : List (Int × Int)) (h : ∀ x ∈ L, x.1 < x.2) : joinS gap L = joinS gap (joinS 0 L) := by
  cases L with
  | nil => rfl
  | cons x r => simp only [joinS]; rw [tl_tl hg r x.2 (fun y hy => h y (List.mem_cons_of_mem _ hy))]

/-- Is a number in one of them? -/
def cov (L : List (Int × Int)) (k : Int) : Prop := ∃ x ∈ L, 0 ≤ x.1 ∧ x.1 ≤ k ∧ k < x.2
theorem cov_nil (k : Int) : ¬ cov [] k := fun ⟨x, hx, _⟩ => by cases hx
theorem cov_cons (x : Int × Int) (L : List (Int × Int)) (k : Int) : cov (x :: L) k ↔ (0 ≤ x.1 ∧ x.1 ≤ k ∧ k < x.2) ∨ cov L k := by simp [cov]
theorem cov_append (A B : List (Int × Int)) (k : Int) : cov (A ++ B) k ↔ cov A k ∨ cov B k := by simp [cov, or_and_right, exists_or]
theorem cov_perm {A B : List (Int × Int)} (h : A.Perm B) (k : Int) : cov A k ↔ cov B k := by
  constructor
  · rintro ⟨x, hx, hh⟩; exact ⟨x, h.mem_iff.1 hx, hh⟩
  · rintro ⟨x, hx, hh⟩; exact ⟨x, h.mem_iff.2 hx, hh⟩
theorem cov_filter (A : List (Int × Int)) (k : Int) : cov (A.filter fun x => !emp x) k ↔ cov A k := by
  constructor
  · rintro ⟨x, hx, hh⟩; exact ⟨x, (List.mem_filter.1 hx).1, hh⟩
  · rintro ⟨x, hx, hh⟩; exact ⟨x, List.mem_filter.2 ⟨hx, by rw [emp_false.2 ⟨hh.1, by omega⟩]; rfl⟩, hh⟩

/-- In form: none empty, one behind the other, none touching. -/
structure Form (L : List (Int × Int)) : Prop where
  full : ∀ x ∈ L, 0 ≤ x.1 ∧ x.1 < x.2
  apart : L.Pairwise fun x y => x.2 < y.1

theorem form_nil : Form [] := ⟨fun x h => (by cases h), List.Pairwise.nil⟩
theorem Form.tail {x : Int × Int} {L : List (Int × Int)} (h : Form (x :: L)) : Form L := ⟨fun y hy => h.full y (List.mem_cons_of_mem _ hy), (List.pairwise_cons.1 h.apart).2⟩

/-- What joins leave. -/
theorem tl_form : ∀ (r : List (Int × Int)) (f b : Int), 0 ≤ f → f < b → (∀ x ∈ r, f ≤ x.1 ∧ x.1 < x.2) → r.Pairwise (fun x y => x.1 ≤ y.1) →
    Form ((f, (tl 0 b r).1) :: (tl 0 b r).2) ∧ (∀ k, cov ((f, (tl 0 b r).1) :: (tl 0 b r).2) k ↔ cov ((f, b) :: r) k)
  | [], f, b, h0, h1, _, _ => ⟨⟨fun x hx => by simp [tl] at hx; subst hx; exact ⟨h0, h1⟩, by simp [tl]⟩, fun k => by simp [tl]⟩
  | x :: r, f, b, h0, h1, h2, h3 => by
    have hx := h2 x (List.mem_cons_self ..)
    obtain ⟨p1, p2⟩ := List.pairwise_cons.1 h3
    by_cases hc : x.1 - b ≤ 0
    · simp only [tl, if_pos hc]
      obtain ⟨i1, i2⟩ := tl_form r f (max b x.2) h0 (by omega) (fun y hy => h2 y (List.mem_cons_of_mem _ hy)) p2
      refine ⟨i1, fun k => (i2 k).trans ?_⟩
      rw [cov_cons, cov_cons, cov_cons]
      constructor
      · rintro (h | h)
        · by_cases hk : k < b
          · exact .inl ⟨h.1, h.2.1, hk⟩
          · have h4 : k < max b x.2 := h.2.2
            exact .inr (.inl ⟨by omega, by omega, by omega⟩)
        · exact .inr (.inr h)
      · rintro (h | h | h)
        · have h4 : k < b := h.2.2
          exact .inl ⟨h.1, h.2.1, show k < max b x.2 by omega⟩
        · exact .inl ⟨h0, show f ≤ k by omega, show k < max b x.2 by omega⟩
        · exact .inr h
    · simp only [tl, if_neg hc]
      obtain ⟨i1, i2⟩ := tl_form r x.1 x.2 (by omega) hx.2 (fun y hy => ⟨p1 y hy, (h2 y (List.mem_cons_of_mem _ hy)).2⟩) p2
      refine ⟨⟨fun y hy => ?_, List.pairwise_cons.2 ⟨fun y hy => ?_, i1.apart⟩⟩, fun k => ?_⟩
      · rcases List.mem_cons.1 hy with h | h
        · subst h; exact ⟨h0, h1⟩
        · exact i1.full y h
      · rcases List.mem_cons.1 hy with h | h
        · subst h; show b < x.1; omega
        · have h4 := (List.pairwise_cons.1 i1.apart).1 y h
          have h5 := (i1.full _ (List.mem_cons_self ..)).2
          show b < y.1
          simp only at h4 h5
          omega
      · rw [cov_cons, i2 k, cov_cons (f, b)]
theorem join_form {L : List (Int × Int)} (h1 : ∀ x ∈ L, 0 ≤ x.1 ∧ x.1 < x.2) (h2 : L.Pairwise fun x y => x.1 ≤ y.1) : Form (joinS 0 L) ∧ ∀ k, cov (joinS 0 L) k ↔ cov L k := by
  cases L with
  | nil => exact ⟨form_nil, fun k => Iff.rfl⟩
  | cons x r =>
    have hx := h1 x (List.mem_cons_self ..)
    obtain ⟨p1, p2⟩ := List.pairwise_cons.1 h2
    exact tl_form r x.1 x.2 hx.1 hx.2 (fun y hy => ⟨p1 y hy, (h1 y (List.mem_cons_of_mem _ hy)).2⟩) p2

theorem form_head {a b : Int} {A : List (Int × Int)} (h : Form ((a, b) :: A)) (k : Int) : cov ((a, b) :: A) k → a ≤ k := by
  intro hc
  rcases (cov_cons _ _ _).1 hc with h1 | ⟨x, hx, h1⟩
  · exact h1.2.1
  · have h2 := (List.pairwise_cons.1 h.apart).1 x hx
    have h3 := (h.full _ (List.mem_cons_self ..)).2
    simp only at h2 h3
    omega
theorem form_end {a b : Int} {A : List (Int × Int)} (h : Form ((a, b) :: A)) : ¬ cov ((a, b) :: A) b := by
  intro hc
  rcases (cov_cons _ _ _).1 hc with h1 | ⟨x, hx, h1⟩
  · simp only at h1; omega
  · have h2 := (List.pairwise_cons.1 h.apart).1 x hx
    simp only at h2
    omega
theorem form_rest {a b : Int} {A : List (Int × Int)} (h : Form ((a, b) :: A)) (k : Int) : cov A k ↔ cov ((a, b) :: A) k ∧ b < k := by
  rw [cov_cons]
  constructor
  · intro hc
    obtain ⟨x, hx, h1⟩ := hc
    have h2 := (List.pairwise_cons.1 h.apart).1 x hx
    simp only at h2
    exact ⟨.inr ⟨x, hx, h1⟩, by omega⟩
  · rintro ⟨h1 | h1, h2⟩
    · simp only at h1; omega
    · exact h1
/-- There is one form. -/
theorem form_unique : ∀ {A B : List (Int × Int)}, Form A → Form B → (∀ k, cov A k ↔ cov B k) → A = B
  | [], [], _, _, _ => rfl
  | [], (c, d) :: B, _, hB, h => by
    have := hB.full _ (List.mem_cons_self ..)
    exact absurd ((h c).2 ((cov_cons _ _ _).2 (.inl ⟨this.1, Int.le_refl _, this.2⟩))) (cov_nil _)
  | (a, b) :: A, [], hA, _, h => by
    have := hA.full _ (List.mem_cons_self ..)
    exact absurd ((h a).1 ((cov_cons _ _ _).2 (.inl ⟨this.1, Int.le_refl _, this.2⟩))) (cov_nil _)
  | (a, b) :: A, (c, d) :: B, hA, hB, h => by
    have fA := hA.full _ (List.mem_cons_self ..)
    have fB := hB.full _ (List.mem_cons_self ..)
    simp only at fA fB
    have ha : c ≤ a := form_head hB a ((h a).1 ((cov_cons _ _ _).2 (.inl ⟨fA.1, Int.le_refl _, fA.2⟩)))
    have hc : a ≤ c := form_head hA c ((h c).2 ((cov_cons _ _ _).2 (.inl ⟨fB.1, Int.le_refl _, fB.2⟩)))
    obtain rfl : a = c := by omega
    have hb : ¬ b < d := fun hlt => form_end hA ((h b).2 ((cov_cons _ _ _).2 (.inl ⟨fA.1, by simp only; omega, hlt⟩)))
    have hd : ¬ d < b := fun hlt => form_end hB ((h d).1 ((cov_cons _ _ _).2 (.inl ⟨fA.1, by simp only; omega, hlt⟩)))
    obtain rfl : b = d := by omega
    rw [form_unique hA.tail hB.tail (fun k => by rw [form_rest hA k, form_rest hB k, h k])]
end Go.Proofs.Ytimeacigbacadaa
