/-
  Plain: what marks tell of a set: how many, whether all of a span, up to where, what is missing.
-/
import Derived.Test.YtimeacigbacadaaRefPG
namespace Go.Proofs.Ytimeacigbacadaa
open Go.RowKit Go.Sort

/-- How many are marked, below a number. -/
def cntB (m : Nat → Bool) : Nat → Int
  | 0 => 0
  | k + 1 => cntB m k + if m k = true then 1 else 0
theorem cntB_bd (m : Nat → Bool) : ∀ k, 0 ≤ cntB m k ∧ cntB m k ≤ (k : Int)
  | 0 => ⟨Int.le_refl _, Int.le_refl _⟩
  | k + 1 => by
    have := cntB_bd m k
    simp only [cntB]
    split <;> omega
theorem cntB_congr {m m' : Nat → Bool} : ∀ (k : Nat), (∀ i, i < k → m i = m' i) → cntB m k = cntB m' k
  | 0, _ => rfl
  | k + 1, h => by
    simp only [cntB]
    rw [cntB_congr k (fun i hi => h i (by omega)), h k (by omega)]
theorem cntB_none : ∀ (k : Nat), cntB (fun _ => false) k = 0
  | 0 => rfl
  | k + 1 => by simp [cntB, cntB_none k]
theorem cntB_or {m m' : Nat → Bool} : ∀ (k : Nat), (∀ i, i < k → ¬ (m i = true ∧ m' i = true)) → cntB (fun i => m i || m' i) k = cntB m k + cntB m' k
  | 0, _ => rfl
  | k + 1, h => by
    have h1 := cntB_or k (fun i hi => h i (by omega))
    have h2 := h k (by omega)
    simp only [cntB]
    rw [h1]
    by_cases h3 : m k = true <;> by_cases h4 : m' k = true
    · exact absurd ⟨h3, h4⟩ h2
    · simp only [h3, h4, Bool.true_or, if_true, if_false, Bool.false_eq_true]; omega
    · simp only [h3, h4, Bool.or_true, if_true, if_false, Bool.false_eq_true]; omega
    · simp only [h3, h4, Bool.or_self, if_false, Bool.false_eq_true]; omega
theorem cntB_in {a b : Int} (h0 : 0 ≤ a) (h1 : a < b) : ∀ (k : Nat), cntB (inB (a, b)) k = max 0 (min (k : Int) b - a)
  | 0 => by simp only [cntB]; omega
  | k + 1 => by
    have := cntB_in h0 h1 k
    have hi := inB_iff (a, b) k
    simp only at hi
    simp only [cntB]
    rw [this]
    by_cases hc : inB (a, b) k = true
    · have h2 := hi.1 hc
      rw [if_pos hc]; omega
    · rw [if_neg hc]
      have h2 : ¬ (a ≤ (k : Int) ∧ (k : Int) < b) := fun h => hc (hi.2 ⟨h0, h⟩)
      omega
theorem sumS_cnt : ∀ {T : List (Int × Int)} (N : Nat), Form T → (∀ z ∈ T, z.2 ≤ (N : Int)) → sumS T = cntB (marks T) N
  | [], N, _, _ => by
    rw [show marks [] = fun _ => false from rfl, cntB_none]; rfl
  | (a, b) :: T, N, h, hb => by
    have hf := h.full _ (List.mem_cons_self ..)
    have hb1 := hb _ (List.mem_cons_self ..)
    have hp := (List.pairwise_cons.1 h.apart).1
    simp only at hf hb1 hp
    have ih := sumS_cnt N h.tail (fun z hz => hb z (List.mem_cons_of_mem _ hz))
    have e : marks ((a, b) :: T) = fun i => inB (a, b) i || marks T i := by
      funext i; simp [marks]
    rw [e, cntB_or N (fun i _ => fun ⟨h1, h2⟩ => by
      obtain ⟨x, hx, k0, k1, k2⟩ := (marks_iff T i).1 h2
      have h3 := (inB_iff _ _).1 h1
      have := hp x hx
      simp only at h3
      omega), ← ih, cntB_in hf.1 hf.2]
    show (b - a) + sumS T = _
    omega

/-- Marks that tell a set's numbers. -/
def MarkOf (T : List (Int × Int)) (m : Nat → Bool) : Prop := ∀ j, cov T j ↔ 0 ≤ j ∧ j < 301 ∧ m j.toNat = true
theorem MarkOf.at {T : List (Int × Int)} {m : Nat → Bool} (h : MarkOf T m) {i : Nat} (hi : i < 301) : marks T i = m i := by
  rw [Bool.eq_iff_iff, marks_iff, h]
  rw [Int.toNat_natCast]
  exact ⟨fun h => h.2.2, fun h => ⟨by omega, by omega, h⟩⟩
theorem MarkOf.bd {T : List (Int × Int)} {m : Nat → Bool} (h : MarkOf T m) (hf : Form T) : ∀ z ∈ T, z.2 ≤ 301 := fun z hz => by
  obtain ⟨h0, h1⟩ := hf.full z hz
  have := ((h (z.2 - 1)).1 ⟨z, hz, h0, by omega, by omega⟩).2.1
  omega
theorem MarkOf.size {T : List (Int × Int)} {m : Nat → Bool} (h : MarkOf T m) (hf : Form T) : sumS T = cntB m 301 := by
  rw [sumS_cnt 301 hf (fun z hz => h.bd hf z hz)]
  exact cntB_congr 301 fun i hi => h.at hi

/-- Are all marked, of a span, below a number? -/
def hasR (m : Nat → Bool) (x : Int × Int) : Nat → Bool
  | 0 => true
  | k + 1 => hasR m x k && !(inB x k && !m k)
theorem hasR_iff (m : Nat → Bool) (x : Int × Int) : ∀ k, hasR m x k = true ↔ ∀ i, i < k → inB x i = true → m i = true
  | 0 => ⟨fun _ i hi => by omega, fun _ => rfl⟩
  | k + 1 => by
    simp only [hasR, Bool.and_eq_true, hasR_iff m x k]
    constructor
    · rintro ⟨h1, h2⟩ i hi hx
      by_cases e : i = k
      · subst e; rw [hx] at h2; simpa using h2
      · exact h1 i (by omega) hx
    · intro h
      refine ⟨fun i hi hx => h i (by omega) hx, ?_⟩
      cases hx : inB x k with
      | false => rfl
      | true => rw [h k (by omega) hx]; rfl
theorem MarkOf.has {T : List (Int × Int)} {m : Nat → Bool} (h : MarkOf T m) (hf : Form T) {x : Int × Int} (hx : x.2 ≤ 300) : hasS T x = hasR m x 301 := by
  rw [Bool.eq_iff_iff, hasR_iff]
  cases he : emp x with
  | true =>
    have h1 := emp_true.1 he
    refine ⟨fun _ i _ hi => ?_, fun _ => by unfold hasS; rw [he]; rfl⟩
    have := (inB_iff _ _).1 hi
    omega
  | false =>
    obtain ⟨e0, e1⟩ := emp_false.1 he
    rw [has_iff hf he]
    constructor
    · intro hall i hi hin
      obtain ⟨a, b, c⟩ := (inB_iff _ _).1 hin
      have := ((h _).1 (hall i b c)).2.2
      rwa [Int.toNat_natCast] at this
    · intro hall j a b
      refine (h j).2 ⟨by omega, by omega, hall j.toNat (by omega) ((inB_iff _ _).2 ⟨e0, ?_, ?_⟩)⟩ <;> rw [Int.toNat_of_nonneg (by omega)] <;> assumption

/-- Up to where all are marked. -/
structure UpTo (m : Nat → Bool) (x u : Int) : Prop where
  ge : x ≤ u
  all : ∀ j, x ≤ j → j < u → 0 ≤ j ∧ j < 301 ∧ m j.toNat = true
theorem UpTo.eq {T : List (Int × Int)} {m : Nat → Bool} (h : MarkOf T m) (hf : Form T) {x u : Int} (hu : UpTo m x u) (hn : ¬ (0 ≤ u ∧ u < 301 ∧ m u.toNat = true)) : uptoS T x = u := by
  obtain ⟨i1, i2⟩ := upto_cov hf x
  by_cases hc : cov T x
  · obtain ⟨j1, j2, j3⟩ := i1 hc
    have h1 : ¬ u < uptoS T x := fun hlt => hn ((h u).1 (j2 u hu.ge hlt))
    have h2 : ¬ uptoS T x < u := fun hlt => j3 ((h _).2 (hu.all _ (by omega) hlt))
    omega
  · rw [i2 hc]
    by_cases e : x < u
    · exact absurd ((h x).2 (hu.all x (Int.le_refl _) e)) hc
    · have := hu.ge; omega

theorem missGo_end (to : Int) : ∀ {L : List (Int × Int)} (_ : Form L) (A : Int), ∀ z ∈ missGo to A L, z.2 < to → cov L z.2
  | [], _, A, z, hz, hlt => by
    simp only [missGo] at hz
    split at hz
    · simp at hz; subst hz; simp only at hlt; omega
    · cases hz
  | (f, b) :: L, h, A, z, hz, hlt => by
    have hf := h.full _ (List.mem_cons_self ..)
    simp only at hf
    simp only [missGo] at hz
    rcases List.mem_append.1 hz with h1 | h1
    · split at h1
      · simp at h1
        subst h1
        simp only at hlt ⊢
        rw [cov_cons]
        exact .inl ⟨hf.1, by simp only; omega, by simp only; omega⟩
      · cases h1
    · rw [cov_cons]
      exact .inr (missGo_end to h.tail _ z h1 hlt)
theorem miss_form {T : List (Int × Int)} (h : Form T) (x : Int × Int) : Form (missS T x) ∧ ∀ j, cov (missS T x) j ↔ emp x = false ∧ x.1 ≤ j ∧ j < x.2 ∧ ¬ cov T j := by
  unfold missS
  cases he : emp x with
  | true => exact ⟨by simpa using form_nil, fun j => ⟨fun hc => absurd (by simpa using hc) (cov_nil j), fun hc => by simp at hc⟩⟩
  | false =>
    obtain ⟨e0, e1⟩ := emp_false.1 he
    simp only [Bool.false_eq_true, if_false, true_and]
    obtain ⟨i1, i2, i3⟩ := missGo_spec x.2 h x.1 e0
    refine ⟨⟨fun z hz => ?_, List.pairwise_iff_getElem.2 fun i j hi hj hij => ?_⟩, i3⟩
    · have := i1 z hz
      exact ⟨by omega, this.2.1⟩
    · have h1 := List.pairwise_iff_getElem.1 i2 i j hi hj hij
      have h2 := i1 _ (List.getElem_mem hj)
      by_cases e : ((missGo x.2 x.1 T)[i]).2 = ((missGo x.2 x.1 T)[j]).1
      · exfalso
        have h3 := missGo_end x.2 h x.1 _ (List.getElem_mem hi) (by omega)
        rw [e] at h3
        exact ((i3 _).1 ⟨_, List.getElem_mem hj, by omega, Int.le_refl _, h2.2.1⟩).2.2 h3
      · omega
theorem MarkOf.miss {T S : List (Int × Int)} {m : Nat → Bool} (h : MarkOf T m) (hf : Form T) {x : Int × Int} (hx : x.2 ≤ 300) (hS : SpOf 301 (fun i => inB x i && !m i) S) : missS T x = S := by
  obtain ⟨f1, f2⟩ := miss_form hf x
  refine form_unique f1 hS.form fun j => ?_
  rw [f2 j, hS.cov_ j, h j]
  simp only [Bool.and_eq_true, Bool.not_eq_true', inB_iff, emp_false]
  constructor
  · rintro ⟨⟨a, b⟩, c, d, e⟩
    have hj : 0 ≤ j := by omega
    rw [Int.toNat_of_nonneg hj]
    refine ⟨hj, by omega, ⟨a, c, d⟩, ?_⟩
    rw [Bool.eq_false_iff]
    exact fun hm => e ⟨hj, by omega, hm⟩
  · rintro ⟨a, b, ⟨c, d, e⟩, g⟩
    rw [Int.toNat_of_nonneg a] at d e
    exact ⟨⟨c, by omega⟩, d, e, fun ⟨_, _, hm⟩ => by rw [hm] at g; cases g⟩
end Go.Proofs.Ytimeacigbacadaa
