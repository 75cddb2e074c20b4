/-
  The steps of the law SourceReads: how a slice of them reads.
-/
import Derived.Test.YtimeacigbacadaaSrcA
import Derived.Test.YtimeacigbacadaaArgs
namespace Go.Proofs.Ytimeacigbacadaa
open Go.RowKit

structure St where
  at_ : Int
  a : Option Addr
  cap : Nat
  bs : List UInt8
  fr : Int
  most : Int
instance : Inhabited St := ⟨⟨0, none, 0, [], 0, 0⟩⟩
def stV : List St → List Value
  | [] => []
  | s :: l => .int .i64 s.at_ :: .slice s.a s.bs.length s.cap :: .int .i64 s.fr :: .int .i64 s.most :: stV l
theorem stV_len : ∀ l : List St, (stV l).length = l.length * 4
  | [] => rfl
  | s :: l => by simp only [stV, List.length_cons, stV_len l]; omega
theorem stV_get : ∀ (l : List St) (k : Nat), k < l.length → (stV l)[4 * k]? = some (.int .i64 (l.getD k default).at_) ∧ (stV l)[4 * k + 1]? = some (.slice (l.getD k default).a (l.getD k default).bs.length (l.getD k default).cap) ∧
    (stV l)[4 * k + 2]? = some (.int .i64 (l.getD k default).fr) ∧ (stV l)[4 * k + 3]? = some (.int .i64 (l.getD k default).most)
  | [], k, h => by simp at h
  | x :: l, 0, _ => ⟨rfl, rfl, rfl, rfl⟩
  | x :: l, k + 1, h => by
    have := stV_get l k (by simpa using h)
    rw [show 4 * (k + 1) = (4 * k) + 1 + 1 + 1 + 1 from by omega]
    simpa [stV, List.getD] using this
def i64B (z : Int) : Prop := -9223372036854775808 ≤ z ∧ z ≤ 9223372036854775807
/-- A slice of steps that reads so. -/
structure TRow (w : World) (a : Option Addr) (n cap : Nat) (l : List St) : Prop where
  row : Row w 4 a n cap (stV l)
  each : ∀ s ∈ l, Row w 1 s.a s.bs.length s.cap (s.bs.map u8C) ∧ i64B s.at_ ∧ i64B s.fr ∧ i64B s.most
theorem TRow.len {w : World} {a : Option Addr} {n cap : Nat} {l : List St} (h : TRow w a n cap l) : l.length = n := by
  have := h.row.1; rw [stV_len] at this; omega
theorem TRow.at {w : World} {a : Option Addr} {n cap : Nat} {l : List St} (h : TRow w a n cap l) (k : Nat) (hk : k < n) :
    ∃ b off, a = some ⟨b, off, none⟩ ∧ b < w.heap.size ∧ w.cell? ⟨b, off + k * 4, none⟩ = some (.int .i64 (l.getD k default).at_) ∧ w.cell? ⟨b, off + k * 4 + 1, none⟩ = some (.slice (l.getD k default).a (l.getD k default).bs.length (l.getD k default).cap) ∧
      w.cell? ⟨b, off + k * 4 + 2, none⟩ = some (.int .i64 (l.getD k default).fr) ∧ w.cell? ⟨b, off + k * 4 + 3, none⟩ = some (.int .i64 (l.getD k default).most) ∧
      Row w 1 (l.getD k default).a (l.getD k default).bs.length (l.getD k default).cap ((l.getD k default).bs.map u8C) ∧ i64B (l.getD k default).at_ ∧ i64B (l.getD k default).fr ∧ i64B (l.getD k default).most := by
  have hl := h.len
  obtain ⟨h1, h2, h3, h4, h5⟩ := h.row
  obtain ⟨b, off, ha, hb, hc⟩ := h5 (by omega)
  obtain ⟨g0, g1, g2, g3⟩ := stV_get l k (by omega)
  have hm : l.getD k default ∈ l := by
    rw [show l.getD k default = l[k] from by simp [List.getD, show k < l.length by omega]]
    exact List.getElem_mem (by omega)
  obtain ⟨e1, e2, e3, e4⟩ := h.each _ hm
  refine ⟨b, off, ha, hb, ?_, ?_, ?_, ?_, e1, e2, e3, e4⟩
  · rw [Nat.mul_comm k 4]; exact hc _ _ g0
  · have := hc _ _ g1; rw [Nat.mul_comm k 4, Nat.add_assoc]; exact this
  · have := hc _ _ g2; rw [Nat.mul_comm k 4, Nat.add_assoc]; exact this
  · have := hc _ _ g3; rw [Nat.mul_comm k 4, Nat.add_assoc]; exact this
end Go.Proofs.Ytimeacigbacadaa
