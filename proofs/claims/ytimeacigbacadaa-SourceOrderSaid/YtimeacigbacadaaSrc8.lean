/-
  Walks of layer 16: the law's own example ('works').
-/
import Derived.Test.YtimeacigbacadaaSrc7
import Derived.Lib.SlBytesConst
import Derived.Lib.SmallJoins
namespace Go.Proofs.Ytimeacigbacadaa
open Go.RowKit Go.Maps Go.Sort

def mkB (l : List UInt8) : ByteArray := ⟨l.toArray⟩
theorem conv_own {w : World} {base : Nat} {v : Value} {o : List UInt8} (hr : w.ownsRow base 5 1 v o.length (o.map u8C)) : (convert 39 9 v).run Try.prog w = .ok (.string (mkB o)) w := by
  rcases hr.2 with ⟨rfl, h0⟩ | ⟨g, cap, cur, rfl, _⟩
  · have ho : o = [] := List.eq_nil_of_length_eq_zero h0
    subst ho
    rw [run_convert_bytes_string w 39 9 5 none 0 0 Try.underlying39 Try.underlying5 Try.underlying9]
    rfl
  · refine run_convert_bytes_back (P := Try.prog) w 39 9 5 ⟨g, 0, none⟩ cap o Try.underlying39 Try.underlying5 Try.underlying9 (fun j hj => ?_)
    exact hr.cells (g := g) rfl j (u8C o[j]) (by simp [hj])
theorem row_bs {w : World} (bs : List UInt8) (t : TypeId) (hb : bs.length ≤ 100) : Row (w.alloc (.cells (bs.map u8C).toArray t (bs.length, bs.length + 1))) 1 (some ⟨w.heap.size, 0, none⟩) bs.length bs.length (bs.map u8C) := by
  refine ⟨by simp, Nat.le_refl _, by unfold maxLen; omega, fun h => (by cases h), fun _ => ⟨_, _, rfl, (by rw [sizeA]; omega), fun j u hj => ?_⟩⟩
  rw [cell_of_row _ _ _ _ _ _ (heapA_new _ rfl)]
  simpa using hj
/-- Up to where, by what is known. -/
theorem upto_is {T : List (Int × Int)} (h : Form T) {b : Nat} {at_ : Nat} (hb : at_ ≤ b) (hc : ∀ i : Nat, at_ ≤ i → (cov T i ↔ i < b)) : uptoS T at_ = b := by
  obtain ⟨h1, h2⟩ := upto_cov h (at_ : Int)
  by_cases h0 : at_ < b
  · obtain ⟨g1, g2, g3⟩ := h1 ((hc at_ (Nat.le_refl _)).2 h0)
    obtain ⟨u, hu⟩ : ∃ u : Nat, uptoS T at_ = (u : Int) := ⟨(uptoS T at_).toNat, by omega⟩
    rw [hu] at g1 g2 g3 ⊢
    have h3 : ¬ u < b := fun e => g3 ((hc u (by omega)).2 e)
    have h4 : ¬ b < u := fun e => by
      have := (hc b hb).1 (g2 (b : Int) (by omega) (by omega))
      omega
    omega
  · have : at_ = b := by omega
    subst this
    exact h2 (fun e => absurd ((hc at_ (Nat.le_refl _)).1 e) (by omega))
theorem cov_one (a b : Nat) (i : Nat) : cov [((a : Int), (b : Int))] i ↔ a ≤ i ∧ i < b := by
  rw [cov_cons]
  constructor
  · rintro (h | h)
    · simp only at h; omega
    · exact absurd h (cov_nil _)
  · intro h
    exact .inl ⟨by simp only; omega, by simp only; omega, by simp only; omega⟩
end Go.Proofs.Ytimeacigbacadaa
