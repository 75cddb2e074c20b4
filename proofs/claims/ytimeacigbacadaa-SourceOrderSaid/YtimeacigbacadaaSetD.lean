/-
  A set of spans in memory, a field of whatever block.
-/
import Derived.Test.YtimeacigbacadaaSpV
namespace Go.Proofs.Ytimeacigbacadaa
open Go.RowKit Go.Sort

/-- A set in memory: its block p; S knows it and its spans' block. -/
structure IsSetG (w : World) (S : Nat → Prop) (p o : Nat) (cs : Array Value) (ty : TypeId) (T : List (Int × Int)) (v : Value) : Prop where
  blk : w.heap[p]? = some (.cells cs ty (0, 0))
  cel : cs[o]? = some v
  row : w.ownsRow 0 23 2 v T.length (spV T)
  at_ : ∀ b, v.ownBlock = some b → S b ∧ b ≠ p
  own : S p
  lt : ∀ b, S b → b < w.heap.size

theorem IsSetG.keeps {w w' : World} {S U : Nat → Prop} {p o : Nat} {cs : Array Value} {ty : TypeId} {T : List (Int × Int)} {v : Value} (hw : IsSetG w S p o cs ty T v) (hk : Keeps U w w') (hU : ∀ b, S b → ¬ U b) : IsSetG w' S p o cs ty T v :=
  ⟨hk.obj hw.blk (hU p hw.own), hw.cel, owns_keeps hw.row hk (fun b hb => hU b (hw.at_ b hb).1), hw.at_, hw.own, fun b hb => Nat.lt_of_lt_of_le (hw.lt b hb) hk.size⟩
theorem IsSetG.mono {w w' : World} {S : Nat → Prop} {p o : Nat} {cs : Array Value} {ty : TypeId} {T : List (Int × Int)} {v : Value} (hw : IsSetG w S p o cs ty T v) (hb : Below w.heap.size w w') : IsSetG w' S p o cs ty T v :=
  ⟨block_keep hb hw.blk, hw.cel, ownsRow_keep hw.row hb, hw.at_, hw.own, fun b hb2 => Nat.lt_of_lt_of_le (hw.lt b hb2) hb.size⟩
/-- A set, or none: where its spans lie. -/
def SetV (w : World) (pv : Option Addr) (T : List (Int × Int)) : Prop := (pv = none ∧ T = []) ∨ ∃ b o a c, pv = some ⟨b, o, none⟩ ∧ w.cell? ⟨b, o, none⟩ = some (.slice a T.length c) ∧ SRow w a T.length c T
theorem SetV.mono {w w' : World} {pv : Option Addr} {T : List (Int × Int)} (h : SetV w pv T) (hb : Below w.heap.size w w') : SetV w' pv T := by
  rcases h with h | ⟨b, o, a, c, h1, h2, h3⟩
  · exact .inl h
  · exact .inr ⟨b, o, a, c, h1, cell?_keep hb h2, h3.mono hb⟩
theorem IsSetG.toV {w : World} {S : Nat → Prop} {p o : Nat} {cs : Array Value} {ty : TypeId} {T : List (Int × Int)} {v : Value} (h : IsSetG w S p o cs ty T v) : SetV w (some ⟨p, o, none⟩) T := by
  obtain ⟨a, c, rfl, hr, _⟩ := Row.of_owns h.row
  exact .inr ⟨p, o, a, c, rfl, (cell_of_row w p o _ _ _ h.blk).trans h.cel, hr⟩
end Go.Proofs.Ytimeacigbacadaa
