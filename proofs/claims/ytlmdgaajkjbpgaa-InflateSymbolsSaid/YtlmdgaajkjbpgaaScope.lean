/-
  A scope in which the run jumps back to one label: the relation at every jump bears a number, which every pass lowers.
-/
import Derived.ScopeJumps
import Derived.WalkMore
import Derived.Deep.LoopGhost
namespace Go.Proofs.Ytlmdgaajkjbpgaa
open Go

/-- From a pass at one number to the first way. -/
theorem jump_mono {P : Program} {Q : Exit → Act → World → Prop} {a : Act} {w : World} {c : Code} {l : Nat} {J J' : Act → World → Prop} (h : c.wp P (Exit.jump l J Q) a w) (hJ : ∀ a w, J a w → J' a w) : c.wp P (Exit.jump l J' Q) a w := by
  refine wp_mono h ?_
  intro e a' w' hq
  cases e with
  | goto l' => exact ⟨hq.1, hJ _ _ hq.2⟩
  | normal => exact hq
  | exit id => exact hq
  | ret => exact hq
  | panic ch => exact hq
  | outgrown => exact hq
theorem wp_scope_ghost {P : Program} {Q : Exit → Act → World → Prop} {a : Act} {w : World} {c body : Code} (l : Nat) (I : Nat → Act → World → Prop) (hf : findLabel c l = some (Code.skip.seq body))
    (first : (∀ n a w, I n a w → body.wp P (Exit.jump l (fun a w => ∃ n, I n a w) Q) a w) → c.wp P (Exit.jump l (fun a w => ∃ n, I n a w) Q) a w)
    (pass : ∀ n a w, I n a w → body.wp P (Exit.jump l (fun a' w' => ∃ n', n' < n ∧ I n' a' w') Q) a w) : (Code.scope c).wp P Q a w := by
  refine wp_scope_jumps l (fun a w => ∃ n, I n a w) (fun a w => leastOf (fun n => I n a w)) hf (first fun n a w hI => jump_mono (pass n a w hI) fun a w ⟨n', _, h⟩ => ⟨n', h⟩) ?_
  intro a w hI
  refine wp_seq (wp_skip ?_)
  refine wp_mono (pass _ a w (leastOf_spec hI).1) ?_
  intro e a' w' hq
  cases e with
  | goto l' =>
    obtain ⟨h1, n', hlt, hI'⟩ := hq
    exact ⟨h1, ⟨n', hI'⟩, Nat.lt_of_le_of_lt ((leastOf_spec ⟨n', hI'⟩).2 n' hI') hlt⟩
  | normal => exact hq
  | exit id => exact hq
  | ret => exact hq
  | panic ch => exact hq
  | outgrown => exact hq
end Go.Proofs.Ytlmdgaajkjbpgaa
