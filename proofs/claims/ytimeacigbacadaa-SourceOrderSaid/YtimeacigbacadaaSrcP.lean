/-
  Plain half of layer 16: what a put makes of the bytes.
-/
import Derived.Test.YtimeacigbacadaaMem
import Derived.Test.YtimeacigbacadaaSetsPG
namespace Go.Proofs.Ytimeacigbacadaa
open Go.RowKit

def chunk (bs : List UInt8) (at_ : Nat) (z : Int × Int) : List UInt8 := (bs.drop (z.1.toNat - at_)).take (z.2.toNat - z.1.toNat)
def putM (bs : List UInt8) (at_ : Nat) : (Nat → UInt8) → List (Int × Int) → Nat → UInt8
  | C, [] => C
  | C, z :: M => putM bs at_ (putC C z.1.toNat (chunk bs at_ z)) M
theorem putM_snoc (bs : List UInt8) (at_ : Nat) : ∀ (M : List (Int × Int)) (C : Nat → UInt8) (z : Int × Int), putM bs at_ C (M ++ [z]) = putC (putM bs at_ C M) z.1.toNat (chunk bs at_ z)
  | [], C, z => rfl
  | y :: M, C, z => putM_snoc bs at_ M _ z
def InSp (bs : List UInt8) (at_ : Nat) (M : List (Int × Int)) : Prop := ∀ z ∈ M, (at_ : Int) ≤ z.1 ∧ z.1 < z.2 ∧ z.2 ≤ (at_ : Int) + bs.length
theorem chunk_len {bs : List UInt8} {at_ : Nat} {z : Int × Int} (h : (at_ : Int) ≤ z.1 ∧ z.1 < z.2 ∧ z.2 ≤ (at_ : Int) + bs.length) : (chunk bs at_ z).length = z.2.toNat - z.1.toNat := by
  unfold chunk; rw [List.length_take, List.length_drop]; omega
theorem putM_at {bs : List UInt8} {at_ : Nat} : ∀ (M : List (Int × Int)) (C : Nat → UInt8), InSp bs at_ M → ∀ i : Nat, (cov M i → putM bs at_ C M i = bs.getD (i - at_) 0) ∧ (¬ cov M i → putM bs at_ C M i = C i)
  | [], C, _, i => ⟨fun h => absurd h (cov_nil _), fun _ => rfl⟩
  | z :: M, C, h, i => by
    obtain ⟨g1, g2⟩ := putM_at M (putC C z.1.toNat (chunk bs at_ z)) (fun y hy => h y (List.mem_cons_of_mem _ hy)) i
    have hz := h z (List.mem_cons_self ..)
    have hl := chunk_len hz
    have hp : (z.1 ≤ i ∧ (i : Int) < z.2) → putC C z.1.toNat (chunk bs at_ z) i = bs.getD (i - at_) 0 := fun hi => by
      unfold putC
      rw [if_pos (by rw [hl]; omega)]
      unfold chunk
      rw [List.getD_eq_getElem?_getD, List.getElem?_take, if_pos (by omega), List.getElem?_drop, List.getD_eq_getElem?_getD, show z.1.toNat - at_ + (i - z.1.toNat) = i - at_ by omega]
    have hn : ¬ (z.1 ≤ i ∧ (i : Int) < z.2) → putC C z.1.toNat (chunk bs at_ z) i = C i := fun hi => by
      unfold putC
      rw [if_neg (by rw [hl]; omega)]
    show (cov (z :: M) i → putM bs at_ (putC C z.1.toNat (chunk bs at_ z)) M i = _) ∧ (¬ cov (z :: M) i → putM bs at_ (putC C z.1.toNat (chunk bs at_ z)) M i = _)
    rw [cov_cons]
    refine ⟨fun hc => ?_, fun hc => ?_⟩
    · by_cases hM : cov M i
      · exact g1 hM
      · rw [g2 hM]
        rcases hc with hc | hc
        · exact hp ⟨hc.2.1, hc.2.2⟩
        · exact absurd hc hM
    · rw [g2 (fun e => hc (.inr e))]
      exact hn (fun e => hc (.inl ⟨by omega, e.1, e.2⟩))
/-- The bytes behind a put. -/
def newC (T : List (Int × Int)) (C : Nat → UInt8) (at_ : Nat) (bs : List UInt8) (C' : Nat → UInt8) : Prop := ∀ i : Nat, (cov T i → C' i = C i) ∧ (¬ cov T i → at_ ≤ i → i < at_ + bs.length → C' i = bs.getD (i - at_) 0)
theorem miss_in {T : List (Int × Int)} (h : Form T) (at_ : Nat) (bs : List UInt8) : InSp bs at_ (missS T ((at_ : Int), (at_ : Int) + bs.length)) ∧ ∀ i : Nat, cov (missS T ((at_ : Int), (at_ : Int) + bs.length)) i ↔ (at_ ≤ i ∧ i < at_ + bs.length ∧ ¬ cov T i) := by
  obtain ⟨h1, h2⟩ := missS_spec h ((at_ : Int), (at_ : Int) + bs.length)
  obtain ⟨g1, g2⟩ := miss_form h ((at_ : Int), (at_ : Int) + bs.length)
  refine ⟨fun z hz => ?_, fun i => ?_⟩
  · obtain ⟨-, -, a, b, c⟩ := h1 z hz
    exact ⟨a, b, c⟩
  · rw [g2, emp_false]
    simp only
    by_cases hc : cov T (i : Int)
    · simp [hc]
    · simp only [hc, not_false_eq_true, and_true]
      omega
theorem putM_new {T : List (Int × Int)} (h : Form T) (C : Nat → UInt8) (at_ : Nat) (bs : List UInt8) : newC T C at_ bs (putM bs at_ C (missS T ((at_ : Int), (at_ : Int) + bs.length))) := by
  obtain ⟨h1, h2⟩ := miss_in h at_ bs
  intro i
  obtain ⟨g1, g2⟩ := putM_at _ C h1 i
  exact ⟨fun hc => g2 (fun e => ((h2 i).1 e).2.2 hc), fun hc a b => g1 ((h2 i).2 ⟨a, b, hc⟩)⟩
end Go.Proofs.Ytimeacigbacadaa
