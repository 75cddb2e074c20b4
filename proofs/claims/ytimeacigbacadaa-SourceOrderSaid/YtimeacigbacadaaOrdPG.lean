/-
  Plain: what a set tells, by the numbers that it covers; what it lacks.
-/
import Derived.Test.YtimeacigbacadaaWorks2G
namespace Go.Proofs.Ytimeacigbacadaa
open Go.RowKit Go.Sort

theorem upto_cov : ∀ {T : List (Int × Int)} (_ : Form T) (a : Int), (cov T a → a < uptoS T a ∧ (∀ j, a ≤ j → j < uptoS T a → cov T j) ∧ ¬ cov T (uptoS T a)) ∧ (¬ cov T a → uptoS T a = a)
  | [], _, a => ⟨fun h => absurd h (cov_nil a), fun _ => rfl⟩
  | (f, b) :: T, h, a => by
    have hf := h.full _ (List.mem_cons_self ..)
    simp only at hf
    have hp := (List.pairwise_cons.1 h.apart).1
    have he := form_end h
    obtain ⟨i1, i2⟩ := upto_cov h.tail a
    simp only [uptoS]
    by_cases hc : f ≤ a ∧ a < b
    · rw [if_pos hc]
      refine ⟨fun _ => ⟨hc.2, fun j h1 h2 => (cov_cons _ _ _).2 (.inl ⟨hf.1, by simp only; omega, h2⟩), he⟩, fun hn => absurd ((cov_cons _ _ _).2 (.inl ⟨hf.1, hc.1, hc.2⟩)) hn⟩
    · rw [if_neg hc]
      have hcc : cov ((f, b) :: T) a ↔ cov T a := by
        rw [cov_cons]
        exact ⟨fun h => h.elim (fun h => absurd ⟨h.2.1, h.2.2⟩ hc) id, .inr⟩
      rw [hcc]
      refine ⟨fun hca => ?_, i2⟩
      obtain ⟨j1, j2, j3⟩ := i1 hca
      refine ⟨j1, fun j h1 h2 => (cov_cons _ _ _).2 (.inr (j2 j h1 h2)), fun hcu => ?_⟩
      rcases (cov_cons _ _ _).1 hcu with h1 | h1
      · obtain ⟨x, hx, k0, k1, k2⟩ := hca
        have := hp x hx
        simp only at h1 this
        omega
      · exact j3 h1

theorem has_iff {T : List (Int × Int)} (h : Form T) {x : Int × Int} (he : emp x = false) : hasS T x = true ↔ ∀ j, x.1 ≤ j → j < x.2 → cov T j := by
  obtain ⟨e0, e1⟩ := emp_false.1 he
  obtain ⟨i1, i2⟩ := upto_cov h x.1
  unfold hasS
  rw [he, Bool.false_or, decide_eq_true_iff]
  by_cases hc : cov T x.1
  · obtain ⟨j1, j2, j3⟩ := i1 hc
    constructor
    · exact fun hle j a b => j2 j a (by omega)
    · intro hall
      by_cases hlt : uptoS T x.1 < x.2
      · exact absurd (hall _ (by omega) hlt) j3
      · omega
  · rw [i2 hc]
    exact ⟨fun hle => by omega, fun hall => absurd (hall x.1 (Int.le_refl _) e1) hc⟩

theorem missGo_spec (to : Int) : ∀ {L : List (Int × Int)} (_ : Form L) (A : Int), 0 ≤ A →
    (∀ z ∈ missGo to A L, A ≤ z.1 ∧ z.1 < z.2 ∧ z.2 ≤ to) ∧ (missGo to A L).Pairwise (fun z z' => z.2 ≤ z'.1) ∧ ∀ j, cov (missGo to A L) j ↔ A ≤ j ∧ j < to ∧ ¬ cov L j
  | [], _, A, hA => by
    simp only [missGo]
    split
    · rename_i h
      refine ⟨fun z hz => (by simp at hz; subst hz; simp only; omega), by simp, fun j => ?_⟩
      rw [cov_cons]
      have h1 := cov_nil j
      constructor
      · rintro (⟨_, h2, h3⟩ | h2)
        · exact ⟨h2, h3, h1⟩
        · exact absurd h2 h1
      · rintro ⟨h2, h3, _⟩; exact .inl ⟨hA, h2, h3⟩
    · rename_i h
      refine ⟨fun z hz => (by cases hz), List.Pairwise.nil, fun j => ⟨fun h2 => absurd h2 (cov_nil j), fun h2 => by omega⟩⟩
  | (f, b) :: L, h, A, hA => by
    have hf := h.full _ (List.mem_cons_self ..)
    simp only at hf
    have hp := (List.pairwise_cons.1 h.apart).1
    obtain ⟨i1, i2, i3⟩ := missGo_spec to h.tail (max A (min b to)) (by omega)
    have hlow : ∀ j, cov L j → b < j := fun j hc => by
      obtain ⟨x, hx, k0, k1, k2⟩ := hc
      have := hp x hx
      simp only at this
      omega
    have key : ∀ j, (A ≤ j ∧ j < min f to) ∨ cov (missGo to (max A (min b to)) L) j ↔ A ≤ j ∧ j < to ∧ ¬ cov ((f, b) :: L) j := by
      intro j
      rw [i3 j, cov_cons]
      have hl := hlow j
      constructor
      · rintro (⟨h1, h2⟩ | ⟨h1, h2, h3⟩)
        · refine ⟨h1, by omega, fun hc => ?_⟩
          rcases hc with hc | hc
          · simp only at hc; omega
          · have := hl hc; omega
        · refine ⟨by omega, h2, fun hc => ?_⟩
          rcases hc with hc | hc
          · simp only at hc; omega
          · exact h3 hc
      · rintro ⟨h1, h2, h3⟩
        by_cases hj : j < f
        · exact .inl ⟨h1, by omega⟩
        · have hjb : b ≤ j := by
            by_cases hb : j < b
            · exact absurd (Or.inl ⟨hf.1, by simp only; omega, hb⟩) h3
            · omega
          exact .inr ⟨by omega, h2, fun hc => h3 (.inr hc)⟩
    simp only [missGo]
    by_cases hc : A < min f to
    · rw [if_pos hc]
      refine ⟨fun z hz => ?_, ?_, fun j => ?_⟩
      · rcases List.mem_append.1 hz with h1 | h1
        · simp at h1; subst h1; simp only; omega
        · have := i1 z h1; omega
      · rw [List.pairwise_append]
        refine ⟨by simp, i2, fun z hz z' hz' => ?_⟩
        simp at hz
        subst hz
        have := i1 z' hz'
        simp only; omega
      · rw [cov_append, ← key j]
        have h1 := cov_nil j
        rw [cov_cons]
        constructor
        · rintro ((⟨_, h2, h3⟩ | h2) | h2)
          · exact .inl ⟨h2, h3⟩
          · exact absurd h2 h1
          · exact .inr h2
        · rintro (⟨h2, h3⟩ | h2)
          · exact .inl (.inl ⟨hA, h2, h3⟩)
          · exact .inr h2
    · rw [if_neg hc, List.nil_append]
      refine ⟨fun z hz => by have := i1 z hz; omega, i2, fun j => ?_⟩
      rw [← key j]
      exact ⟨.inr, fun h => h.elim (fun h => by omega) id⟩

theorem missS_nil {T : List (Int × Int)} (h : Form T) {x : Int × Int} (hall : ∀ j, x.1 ≤ j → j < x.2 → cov T j) : missS T x = [] := by
  unfold missS
  cases he : emp x with
  | true => simp
  | false =>
    obtain ⟨e0, e1⟩ := emp_false.1 he
    simp only [Bool.false_eq_true, if_false]
    obtain ⟨i1, _, i3⟩ := missGo_spec x.2 h x.1 e0
    cases hm : missGo x.2 x.1 T with
    | nil => rfl
    | cons z M =>
      exfalso
      have hz := i1 z (by rw [hm]; exact List.mem_cons_self ..)
      have hc : cov (missGo x.2 x.1 T) z.1 := by rw [hm, cov_cons]; exact .inl ⟨by omega, Int.le_refl _, hz.2.1⟩
      obtain ⟨a, b, c⟩ := (i3 z.1).1 hc
      exact c (hall z.1 a b)
theorem missS_spec {T : List (Int × Int)} (h : Form T) (x : Int × Int) : (∀ z ∈ missS T x, emp x = false ∧ emp z = false ∧ x.1 ≤ z.1 ∧ z.1 < z.2 ∧ z.2 ≤ x.2) ∧ (missS T x).Pairwise (fun z z' => z.2 ≤ z'.1) ∧ (∀ z ∈ missS T x, ¬ cov T z.1) ∧
    (emp x = false → ∀ j, x.1 ≤ j → j < x.2 → cov T j ∨ cov (missS T x) j) := by
  unfold missS
  cases he : emp x with
  | true => simp
  | false =>
    obtain ⟨e0, e1⟩ := emp_false.1 he
    simp only [Bool.false_eq_true, if_false]
    obtain ⟨i1, i2, i3⟩ := missGo_spec x.2 h x.1 e0
    refine ⟨fun z hz => ?_, i2, fun z hz => ?_, fun _ j h1 h2 => ?_⟩
    · have := i1 z hz
      exact ⟨trivial, emp_false.2 ⟨by omega, this.2.1⟩, this.1, this.2.1, this.2.2⟩
    · have h1 := i1 z hz
      exact ((i3 z.1).1 ⟨z, hz, by omega, Int.le_refl _, h1.2.1⟩).2.2
    · by_cases hc : cov T j
      · exact .inl hc
      · exact .inr ((i3 j).2 ⟨h1, h2, hc⟩)

theorem tl_len (gap : Int) : ∀ (r : List (Int × Int)) (b : Int), (tl gap b r).2.length ≤ r.length
  | [], b => by simp [tl]
  | x :: r, b => by
    simp only [tl]
    split
    · have := tl_len gap r (max b x.2); simp only [List.length_cons]; omega
    · have := tl_len gap r x.2; simp only [List.length_cons]; omega
theorem join_len (gap : Int) (L : List (Int × Int)) : (joinS gap L).length ≤ L.length := by
  cases L with
  | nil => simp [joinS]
  | cons x r => have := tl_len gap r x.2; simp only [joinS, List.length_cons]; omega
theorem tl_le (gap M : Int) : ∀ (r : List (Int × Int)) (b : Int), b ≤ M → (∀ x ∈ r, x.2 ≤ M) → (tl gap b r).1 ≤ M ∧ ∀ x ∈ (tl gap b r).2, x.2 ≤ M
  | [], b, hb, _ => ⟨hb, fun x hx => by simp [tl] at hx⟩
  | x :: r, b, hb, h => by
    have hx := h x (List.mem_cons_self ..)
    simp only [tl]
    split
    · exact tl_le gap M r (max b x.2) (by omega) (fun y hy => h y (List.mem_cons_of_mem _ hy))
    · obtain ⟨i1, i2⟩ := tl_le gap M r x.2 hx (fun y hy => h y (List.mem_cons_of_mem _ hy))
      refine ⟨hb, fun y hy => ?_⟩
      rcases List.mem_cons.1 hy with h1 | h1
      · subst h1; exact i1
      · exact i2 y h1
theorem join_le (gap M : Int) (L : List (Int × Int)) (h : ∀ x ∈ L, x.2 ≤ M) : ∀ x ∈ joinS gap L, x.2 ≤ M := by
  cases L with
  | nil => intro x hx; simp [joinS] at hx
  | cons y r =>
    obtain ⟨i1, i2⟩ := tl_le gap M r y.2 (h y (List.mem_cons_self ..)) (fun z hz => h z (List.mem_cons_of_mem _ hz))
    intro x hx
    simp only [joinS] at hx
    rcases List.mem_cons.1 hx with h1 | h1
    · subst h1; exact i1
    · exact i2 x h1
theorem putS_len {T T' : List (Int × Int)} {x : Int × Int} (h : PutS T x T') : T'.length ≤ T.length + 1 := by
  obtain ⟨S, hp, _, rfl⟩ := h
  have h1 := join_len 0 S
  have h2 := hp.length_eq
  have h3 : (full (T ++ [x])).length ≤ (T ++ [x]).length := List.length_filter_le _ _
  rw [List.length_append] at h3
  simp at h3
  omega
theorem putS_le {T T' : List (Int × Int)} {x : Int × Int} (h : PutS T x T') (M : Int) (hT : ∀ z ∈ T, z.2 ≤ M) (hx : x.2 ≤ M) : ∀ z ∈ T', z.2 ≤ M := by
  obtain ⟨S, hp, _, rfl⟩ := h
  refine join_le 0 M S (fun z hz => ?_)
  have h1 := (List.mem_filter.1 (hp.mem_iff.1 hz)).1
  rcases List.mem_append.1 h1 with h2 | h2
  · exact hT z h2
  · simp at h2; subst h2; exact hx

/-- A set in form, of numbers that a word holds. -/
structure SetOk (T : List (Int × Int)) (n : Nat) (C : Int → Prop) : Prop where
  form : Form T
  cov_ : ∀ k, cov T k ↔ C k
  len : T.length ≤ n
  le : ∀ z ∈ T, z.2 ≤ 9223372036854775807
theorem SetOk.fit {T : List (Int × Int)} {n : Nat} {C : Int → Prop} (h : SetOk T n C) {x : Int × Int} (hx : -9223372036854775808 ≤ x.1 ∧ x.1 ≤ 9223372036854775807 ∧ -9223372036854775808 ≤ x.2 ∧ x.2 ≤ 9223372036854775807) : Fit (T ++ [x]) := by
  intro z hz
  rcases List.mem_append.1 hz with h1 | h1
  · have h2 := h.form.full z h1
    have h3 := h.le z h1
    omega
  · simp at h1; subst h1; exact hx
theorem SetOk.put {T T' : List (Int × Int)} {n : Nat} {C C' : Int → Prop} {x : Int × Int} (h : SetOk T n C) (hP : PutS T x T') (hx : x.2 ≤ 9223372036854775807) (hC : ∀ k, C' k ↔ C k ∨ cov [x] k) : SetOk T' (n + 1) C' := by
  obtain ⟨h1, h2⟩ := putS_form hP
  exact ⟨h1, fun k => by rw [h2 k, h.cov_ k, hC k], by have := putS_len hP; have := h.len; omega, putS_le hP _ h.le hx⟩
theorem SetOk.nil : SetOk [] 0 (fun _ => False) := ⟨form_nil, fun k => ⟨fun h => absurd h (cov_nil k), fun h => h.elim⟩, by simp, fun z h => (by cases h)⟩
end Go.Proofs.Ytimeacigbacadaa
