/-
  Plain: bits that are left; a row from a place on.
-/
import Derived.Test.YtbmhdacedicbjaaTake
namespace Go.Proofs.Ytbmhdacedicbjaa
open Go.RowKit Go.Sort

theorem takeGo_le {l : List Int} {f : Nat → Bool} {left : Nat} : ∀ fuel n, 1 ≤ n → n ≤ left + 1 → (takeGo l f left fuel n).2.1 ≤ left
  | 0, n, h1, h2 => by simp only [takeGo]; omega
  | fuel + 1, n, h1, h2 => by
    simp only [takeGo]
    split
    · simp only; omega
    · split
      · simp only; omega
      · split
        · simp only; omega
        · exact takeGo_le fuel (n + 1) (by omega) (by omega)
theorem takeV_le (l : List Int) (f : Nat → Bool) (left : Nat) : (takeV l f left).2.1 ≤ left := takeGo_le 15 1 (Nat.le_refl _) (by omega)

/-- So many bits, from a place on. -/
def bl (bs : List UInt8) (high : Bool) (at_ m : Nat) : List Bool := (List.range m).map fun i => bitAt bs high (at_ + i)
theorem bl_len (bs : List UInt8) (high : Bool) (at_ m : Nat) : (bl bs high at_ m).length = m := by simp [bl]
theorem bl_get (bs : List UInt8) (high : Bool) (at_ m : Nat) {i : Nat} (h : i < m) : (bl bs high at_ m).getD i false = bitAt bs high (at_ + i) := by simp [bl, h]
theorem bl_drop (bs : List UInt8) (high : Bool) (at_ m t : Nat) : (bl bs high at_ m).drop t = bl bs high (at_ + t) (m - t) := by
  apply List.ext_getElem?
  intro i
  by_cases h : i < m - t
  · simp [bl, h, Nat.add_assoc]
  · simp [bl, h]
theorem takeV_bl (l : List Int) (bs : List UInt8) (high : Bool) (at_ m : Nat) : takeV l (fun i => (bl bs high at_ m).getD i false) m = takeV l (fun k => bitAt bs high (at_ + k)) m := takeGo_congr (fun _ hi => bl_get bs high at_ m hi) 15 1
theorem bitsL_bl (bs : List UInt8) (high : Bool) (m : Nat) : bitsL bs high m = (bl bs high 0 m).map Value.bool := by simp [bitsL, bl]

theorem Row.dropAt {w : World} {a : Option Addr} {m c : Nat} {xs : List Value} (h : Row w 1 a m c xs) (t : Nat) (ht : t ≤ m) : Row w 1 (a.map fun x => x.add t) (m - t) (c - t) (xs.drop t) := by
  obtain ⟨h1, h2, h3, h4, h5⟩ := h
  refine ⟨by simp at h1 ⊢; omega, by omega, by omega, fun e => ?_, fun hn => ?_⟩
  · cases a with
    | none => have := h4 rfl; omega
    | some x => cases e
  · obtain ⟨b, off, rfl, hb, hcell⟩ := h5 (by omega)
    refine ⟨b, off + t, by simp [Addr.add], hb, fun j u hj => ?_⟩
    rw [List.getElem?_drop] at hj
    rw [Nat.add_assoc]; exact hcell _ u hj
theorem Row.dropAll {w : World} {a : Option Addr} {c : Nat} {xs : List Value} (h : Row w 1 a c c xs) : Row w 1 a 0 0 (xs.drop c) := by
  obtain ⟨h1, h2, h3, h4, h5⟩ := h
  refine ⟨by simp at h1 ⊢; omega, by omega, by simp [maxLen], fun _ => rfl, fun hn => by omega⟩
theorem blk_dropAt {a : Option Addr} {r t : Nat} (h : ∀ x, a = some x → x.block ≠ r) : ∀ x, (a.map fun x => x.add t) = some x → x.block ≠ r := by
  intro x hx
  cases a with
  | none => cases hx
  | some y => simp at hx; subst hx; obtain ⟨b, o, s⟩ := y; have := h _ rfl; by_cases h0 : t = 0 <;> simpa [Addr.add, h0] using this

/-- What a law's call leaves: true, and all that was there as it was. -/
def LawEnd (w : World) (e : Ending) (w' : World) : Prop := e = .returned (.bool true) ∧ Below w.heap.size w w'
end Go.Proofs.Ytbmhdacedicbjaa
