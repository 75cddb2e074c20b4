/-
  A region that draws its order, whose operations only read and whose callees read or lay new memory: walked once, in the order of the text.
-/
import Derived.Test.YtimeacigbacadaaBase
import Derived.Deep.QuietTactic
import Derived.BigQuiet
namespace Go.Proofs.Ytimeacigbacadaa
open Go.RowKit

/-- A world that leaves W's memory as it was. -/
structure BelowW (W : World) where
  w : World
  h : Below W.heap.size W w

instance BelowW.there (W : World) : Nonempty (BelowW W) := ⟨⟨W, Below.refl _ _⟩⟩

theorem wp_region_below {P : Program} {id : Nat} {Q : Exit → Act → World → Prop} {a : Act} {W : World} {l : List Oper} (hm : P.follows .mixedOrders = true) (hB : Region.lexB .any l.toArray = true)
    (h : wpQuiet P l.toArray (fun w' => ∃ p : BelowW W, w' = p.w) (fun a' => ∀ w', (∃ p : BelowW W, w' = p.w) → Q .normal a' w') l a) : (Code.region id l.toArray true).wp P Q a W :=
  wp_region_quiet (C := fun w' => ∃ p : BelowW W, w' = p.w) hm hB ⟨⟨W.drew, (Below.refl _ _).drew⟩, rfl⟩ (by simpa using h)

theorem Calls.below_of {P : Program} {f : FuncId} {args : Array Value} {W : World} {p : BelowW W} {v : Value}
    (h : Calls P f args p.w fun e w' => e = .returned v ∧ Below p.w.heap.size p.w w') : Calls P f args p.w fun e w'' => e = .returned v ∧ ∃ p' : BelowW W, w'' = p'.w :=
  h.mono fun _ w' ⟨he, hb⟩ => ⟨he, ⟨w', p.h.trans (hb.mono p.h.size)⟩, rfl⟩
theorem BelowW.cell {W : World} {b o : Nat} {v : Value} (hc : W.cell? ⟨b, o, none⟩ = some v) (p : BelowW W) : p.w.cell? ⟨b, o, none⟩ = some v := cell?_keep p.h hc
end Go.Proofs.Ytimeacigbacadaa
