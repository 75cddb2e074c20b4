/-
  Plain: marks of numbers; the spans of marks.
-/
import Derived.Test.YtimeacigbacadaaOrdPG
namespace Go.Proofs.Ytimeacigbacadaa
open Go.RowKit Go.Sort

theorem getD_mem2 {l : List (Int × Int)} {k : Nat} (hk : k < l.length) : l.getD k (0, 0) ∈ l := by
  rw [show l.getD k (0, 0) = l[k] from by simp [List.getD, hk]]
  exact List.getElem_mem hk

/-- Is a number in a span? -/
def inB (z : Int × Int) (i : Nat) : Bool := decide (0 ≤ z.1) && decide (z.1 ≤ (i : Int)) && decide ((i : Int) < z.2)
theorem inB_iff (z : Int × Int) (i : Nat) : inB z i = true ↔ 0 ≤ z.1 ∧ z.1 ≤ (i : Int) ∧ (i : Int) < z.2 := by simp [inB, and_assoc]
/-- Marks of spans, below a number. -/
def marks (L : List (Int × Int)) (i : Nat) : Bool := L.any fun z => inB z i
theorem marks_iff (L : List (Int × Int)) (i : Nat) : marks L i = true ↔ cov L (i : Int) := by
  simp only [marks, List.any_eq_true, inB_iff, cov]
theorem marks_snoc (L : List (Int × Int)) (z : Int × Int) (i : Nat) : marks (L ++ [z]) i = (marks L i || inB z i) := by simp [marks]

/-- What the loop of Spans keeps. -/
structure SpSt (B : Nat → Bool) (k : Nat) (out : List (Int × Int)) (from_ : Int) : Prop where
  form : Form out
  len : out.length ≤ k
  bd : ∀ z ∈ out, z.2 ≤ (k : Int)
  st : (from_ = -1 ∧ (∀ z ∈ out, z.2 < (k : Int)) ∧ ∀ j, cov out j ↔ 0 ≤ j ∧ j < (k : Int) ∧ B j.toNat = true) ∨
    (∃ f : Nat, from_ = (f : Int) ∧ f < k ∧ (∀ z ∈ out, z.2 < (f : Int)) ∧ (∀ i, f ≤ i → i < k → B i = true) ∧ ∀ j, cov out j ↔ 0 ≤ j ∧ j < (f : Int) ∧ B j.toNat = true)

theorem SpSt.zero (B : Nat → Bool) : SpSt B 0 [] (-1) := ⟨form_nil, Nat.le_refl _, fun z h => (by cases h), .inl ⟨rfl, fun z h => (by cases h), fun j => ⟨fun h => absurd h (cov_nil j), fun h => by omega⟩⟩⟩
theorem SpSt.rng {B : Nat → Bool} {k : Nat} {out : List (Int × Int)} {f : Int} (h : SpSt B k out f) : -1 ≤ f ∧ f < (k : Int) := by
  rcases h.st with ⟨h1, _⟩ | ⟨g, h1, h2, _⟩ <;> omega

theorem SpSt.begin {B : Nat → Bool} {k : Nat} {out : List (Int × Int)} {f : Int} (h : SpSt B k out f) (hB : B k = true) (hf : f < 0) : SpSt B (k + 1) out (k : Int) := by
  rcases h.st with ⟨_, h2, h3⟩ | ⟨g, h1, _⟩
  · exact ⟨h.form, by have := h.len; omega, fun z hz => by have := h.bd z hz; omega, .inr ⟨k, rfl, by omega, h2, fun i a b => by
      obtain rfl : i = k := by omega
      exact hB, h3⟩⟩
  · omega
theorem SpSt.on {B : Nat → Bool} {k : Nat} {out : List (Int × Int)} {f : Int} (h : SpSt B k out f) (hB : B k = true) (hf : 0 ≤ f) : SpSt B (k + 1) out f := by
  rcases h.st with ⟨h1, _⟩ | ⟨g, h1, h2, h3, h4, h5⟩
  · omega
  · exact ⟨h.form, by have := h.len; omega, fun z hz => by have := h.bd z hz; omega, .inr ⟨g, h1, by omega, h3, fun i a b => by
      by_cases e : i = k
      · subst e; exact hB
      · exact h4 i a (by omega), h5⟩⟩
theorem SpSt.none {B : Nat → Bool} {k : Nat} {out : List (Int × Int)} {f : Int} (h : SpSt B k out f) (hB : B k = false) (hf : f < 0) : SpSt B (k + 1) out (-1) := by
  rcases h.st with ⟨_, h2, h3⟩ | ⟨g, h1, _⟩
  · refine ⟨h.form, by have := h.len; omega, fun z hz => by have := h.bd z hz; omega, .inl ⟨rfl, fun z hz => by have := h2 z hz; omega, fun j => ?_⟩⟩
    rw [h3 j]
    constructor
    · exact fun ⟨a, b, c⟩ => ⟨a, by omega, c⟩
    · rintro ⟨a, b, c⟩
      refine ⟨a, ?_, c⟩
      by_cases e : j = (k : Int)
      · subst e
        rw [Int.toNat_natCast, hB] at c
        cases c
      · omega
  · omega
theorem SpSt.close {B : Nat → Bool} {k : Nat} {out : List (Int × Int)} {f : Int} (h : SpSt B k out f) (hB : B k = false) (hf : 0 ≤ f) : SpSt B (k + 1) (out ++ [(f, (k : Int))]) (-1) := by
  rcases h.st with ⟨h1, _⟩ | ⟨g, rfl, h2, h3, h4, h5⟩
  · omega
  · refine ⟨⟨fun z hz => ?_, ?_⟩, ?_, fun z hz => ?_, .inl ⟨rfl, fun z hz => ?_, fun j => ?_⟩⟩
    · rcases List.mem_append.1 hz with h6 | h6
      · exact h.form.full z h6
      · simp at h6; subst h6; simp only; omega
    · rw [List.pairwise_append]
      refine ⟨h.form.apart, by simp, fun z hz z' hz' => ?_⟩
      simp at hz'
      subst hz'
      exact h3 z hz
    · rw [List.length_append]; have := h.len; simp; omega
    · rcases List.mem_append.1 hz with h6 | h6
      · have := h3 z h6; omega
      · simp at h6; subst h6; simp only; omega
    · rcases List.mem_append.1 hz with h6 | h6
      · have := h3 z h6; omega
      · simp at h6; subst h6; simp only; omega
    · rw [cov_append, cov_cons, h5 j]
      have h0 := cov_nil j
      constructor
      · rintro (⟨a, b, c⟩ | h6 | h6)
        · exact ⟨a, by omega, c⟩
        · simp only at h6
          exact ⟨by omega, by omega, h4 _ (by omega) (by omega)⟩
        · exact absurd h6 h0
      · rintro ⟨a, b, c⟩
        have hne : j ≠ (k : Int) := fun e => by
          subst e
          rw [Int.toNat_natCast, hB] at c
          cases c
        by_cases hlt : j < (g : Int)
        · exact .inl ⟨a, hlt, c⟩
        · exact .inr (.inl ⟨by simp only; omega, by simp only; omega, by simp only; omega⟩)
/-- Spans of marks: in form, the same numbers. -/
structure SpOf (n : Nat) (m : Nat → Bool) (out : List (Int × Int)) : Prop where
  form : Form out
  len : out.length ≤ n + 1
  bd : ∀ z ∈ out, z.2 ≤ (n : Int) + 1
  cov_ : ∀ j, cov out j ↔ 0 ≤ j ∧ j < (n : Int) ∧ m j.toNat = true
theorem SpSt.fin {m : Nat → Bool} {n : Nat} {out : List (Int × Int)} {f : Int} (h : SpSt (fun i => decide (i < n) && m i) (n + 1) out f) : SpOf n m out := by
  have hb := h.bd
  rcases h.st with ⟨_, h2, h3⟩ | ⟨g, _, h2, _, h4, _⟩
  · refine ⟨h.form, h.len, fun z hz => by have := hb z hz; omega, fun j => ?_⟩
    rw [h3 j]
    simp only [Bool.and_eq_true, decide_eq_true_eq]
    constructor
    · exact fun ⟨a, b, c, d⟩ => ⟨a, by omega, d⟩
    · exact fun ⟨a, b, d⟩ => ⟨a, by omega, by omega, d⟩
  · have := h4 n (by omega) (by omega)
    simp at this
end Go.Proofs.Ytimeacigbacadaa
