/-
  Pieces: plain laws; how a slice of pieces reads.
-/
import Derived.Test.YtimeacigbacadaaSrc9
namespace Go.Proofs.Ytimeacigbacadaa
open Go.RowKit

/-- A piece: where, its bytes, and how its slice stands. -/
structure Pc where
  at_ : Nat
  a : Option Addr
  cap : Nat
  bs : List UInt8
instance : Inhabited Pc := ⟨⟨0, none, 0, []⟩⟩
/-- The first piece's byte that lies at a place. -/
def byteP : List Pc → Nat → Option UInt8
  | [], _ => none
  | p :: l, i => if p.at_ ≤ i ∧ i < p.at_ + p.bs.length then some (p.bs.getD (i - p.at_) 0) else byteP l i
theorem byteP_snoc : ∀ (l : List Pc) (p : Pc) (i : Nat), byteP (l ++ [p]) i = (byteP l i).or (if p.at_ ≤ i ∧ i < p.at_ + p.bs.length then some (p.bs.getD (i - p.at_) 0) else none)
  | [], p, i => by simp [byteP]
  | q :: l, p, i => by
    simp only [List.cons_append, byteP]
    split
    · rfl
    · exact byteP_snoc l p i
theorem byteP_drop_out {l : List Pc} {k i : Nat} (hk : k < l.length) (h : ¬ ((l.getD k default).at_ ≤ i ∧ i < (l.getD k default).at_ + (l.getD k default).bs.length)) : byteP (l.drop k) i = byteP (l.drop (k + 1)) i := by
  rw [List.drop_eq_getElem_cons hk]
  rw [show l.getD k default = l[k] from by simp [List.getD, hk]] at h
  simp only [byteP]
  rw [if_neg h]
theorem byteP_drop_in {l : List Pc} {k i : Nat} (hk : k < l.length) (h : (l.getD k default).at_ ≤ i ∧ i < (l.getD k default).at_ + (l.getD k default).bs.length) : byteP (l.drop k) i = some ((l.getD k default).bs.getD (i - (l.getD k default).at_) 0) := by
  rw [List.drop_eq_getElem_cons hk]
  rw [show l.getD k default = l[k] from by simp [List.getD, hk]] at h ⊢
  simp only [byteP]
  rw [if_pos h]

/-- The cells of pieces. -/
def pcV : List Pc → List Value
  | [] => []
  | p :: l => .int .i64 p.at_ :: .slice p.a p.bs.length p.cap :: pcV l
theorem pcV_len : ∀ l : List Pc, (pcV l).length = l.length * 2
  | [] => rfl
  | p :: l => by simp only [pcV, List.length_cons, pcV_len l]; omega
theorem pcV_append : ∀ A B : List Pc, pcV (A ++ B) = pcV A ++ pcV B
  | [], B => rfl
  | x :: A, B => by simp only [List.cons_append, pcV, pcV_append A B]
theorem pcV_get : ∀ (l : List Pc) (k : Nat), k < l.length → (pcV l)[2 * k]? = some (.int .i64 (l.getD k default).at_) ∧ (pcV l)[2 * k + 1]? = some (.slice (l.getD k default).a (l.getD k default).bs.length (l.getD k default).cap)
  | [], k, h => by simp at h
  | x :: l, 0, _ => ⟨rfl, rfl⟩
  | x :: l, k + 1, h => by
    have := pcV_get l k (by simpa using h)
    rw [show 2 * (k + 1) = (2 * k) + 1 + 1 from by omega]
    simpa [pcV, List.getD] using this
theorem pcV_one_cell (l : List Pc) : ∀ u ∈ pcV l, u.oneCell' = true := by
  induction l with
  | nil => intro u h; cases h
  | cons x l ih =>
    intro u h
    simp only [pcV, List.mem_cons] at h
    rcases h with h | h | h
    · subst h; rfl
    · subst h; rfl
    · exact ih u h

/-- A slice of pieces that reads so. -/
structure PRow (w : World) (a : Option Addr) (n cap : Nat) (l : List Pc) : Prop where
  row : Row w 2 a n cap (pcV l)
  each : ∀ p ∈ l, Row w 1 p.a p.bs.length p.cap (p.bs.map u8C)
theorem PRow.mono {w w' : World} {a : Option Addr} {n cap : Nat} {l : List Pc} (h : PRow w a n cap l) (hb : Below w.heap.size w w') : PRow w' a n cap l := ⟨h.row.mono hb, fun p hp => (h.each p hp).mono hb⟩
theorem PRow.len {w : World} {a : Option Addr} {n cap : Nat} {l : List Pc} (h : PRow w a n cap l) : l.length = n := by
  have := h.row.1; rw [pcV_len] at this; omega
theorem PRow.at {w : World} {a : Option Addr} {n cap : Nat} {l : List Pc} (h : PRow w a n cap l) (k : Nat) (hk : k < n) :
    ∃ b off, a = some ⟨b, off, none⟩ ∧ b < w.heap.size ∧ w.cell? ⟨b, off + k * 2, none⟩ = some (.int .i64 (l.getD k default).at_) ∧ w.cell? ⟨b, off + k * 2 + 1, none⟩ = some (.slice (l.getD k default).a (l.getD k default).bs.length (l.getD k default).cap) := by
  have hl := h.len
  obtain ⟨h1, h2, h3, h4, h5⟩ := h.row
  obtain ⟨b, off, ha, hb, hc⟩ := h5 (by omega)
  refine ⟨b, off, ha, hb, ?_⟩
  have hg := pcV_get l k (by omega)
  rw [Nat.mul_comm k 2]
  exact ⟨hc _ _ hg.1, by have := hc _ _ hg.2; rwa [← Nat.add_assoc] at this⟩
theorem getD_memP {l : List Pc} {k : Nat} (hk : k < l.length) : l.getD k default ∈ l := by
  rw [show l.getD k default = l[k] from by simp [List.getD, hk]]
  exact List.getElem_mem hk
end Go.Proofs.Ytimeacigbacadaa
