/-
  The row that a sort works on, and what its comparing function must do: words that name no program.
-/
import Derived.Test.YtlmdgaajkjbpgaaBase
import Derived.Sort.LotA
import Derived.Sort.Lot0
import Derived.Deep.Draws
namespace Go.Proofs.Ytlmdgaajkjbpgaa
open Go.RowKit Go.Sort

/-- From w0 on only block g has been written (and draws made); it holds the elements of d, then rest. -/
structure SB {α : Type} (enc : α → Value) (w0 : World) (g : Nat) (t : TypeId) (rest : List Value) (d : Array α) (w : World) : Prop where
  grown : w0.grownBy w (some g)
  blk : w.heap[g]? = some (.cells (d.toList.map enc ++ rest).toArray t (0, 0))

section
variable {α : Type} {enc : α → Value} {w0 w : World} {g : Nat} {t : TypeId} {rest : List Value} {d : Array α}

theorem SB.cell [Inhabited α] (h : SB enc w0 g t rest d w) (i : Nat) (hi : i < d.size) : w.cell? ⟨g, i, none⟩ = some (enc d[i]!) := by
  rw [cell_of_row w g i _ t (0, 0) h.blk]
  simp [List.getElem?_append, hi]
theorem SB.free (h : SB enc w0 g t rest d w) (i : Nat) : w.frozen? ⟨g, i, none⟩ = false := frozen_of_row w g i _ t h.blk
theorem SB.drewN (h : SB enc w0 g t rest d w) (n : Nat) : SB enc w0 g t rest d (w.drewN n) := ⟨⟨h.grown.os, h.grown.tape, h.grown.output, h.grown.size, h.grown.block⟩, h.blk⟩
theorem grownBy_setCell {w0 w : World} {g i : Nat} (h : w0.grownBy w (some g)) (v : Value) : w0.grownBy (w.setCell ⟨g, i, none⟩ v) (some g) :=
  ⟨h.os, h.tape, h.output, by simp [World.setCell]; exact h.size, fun k hk hne => by rw [heap_setCell_other w ⟨g, i, none⟩ k v (fun e => hne (by simp [e]))]; exact h.block k hk hne⟩
theorem grownBy_trans {a b c : World} {row : Option Nat} (h : a.grownBy b row) (k : b.grownBy c row) : a.grownBy c row :=
  ⟨k.os.trans h.os, k.tape.trans h.tape, k.output.trans h.output, Nat.le_trans h.size k.size, fun i hi hne => (k.block i (Nat.lt_of_lt_of_le hi h.size) hne).trans (h.block i hi hne)⟩
theorem grownBy_refl (w : World) (row : Option Nat) : w.grownBy w row := ⟨rfl, rfl, rfl, Nat.le_refl _, fun _ _ _ => rfl⟩
theorem grownBy_drewN {w0 w : World} {row : Option Nat} (h : w0.grownBy w row) (n : Nat) : w0.grownBy (w.drewN n) row := ⟨h.os, h.tape, h.output, h.size, h.block⟩
theorem SB.set (h : SB enc w0 g t rest d w) (i : Nat) (hi : i < d.size) (x : α) : SB enc w0 g t rest (d.setIfInBounds i x) (w.setCell ⟨g, i, none⟩ (enc x)) := by
  refine ⟨grownBy_setCell h.grown _, ?_⟩
  rw [heap_setCell_same w g i _ t _ h.blk, List.setIfInBounds_toArray, List.set_append]
  simp [hi, List.map_set]
theorem SB.swp [Inhabited α] (h : SB enc w0 g t rest d w) (i j : Nat) (hi : i < d.size) (hj : j < d.size) (q : Nat) :
    SB enc w0 g t rest (swp d i j) (((w.drewN q).setCell ⟨g, i, none⟩ (enc d[j]!)).setCell ⟨g, j, none⟩ (enc d[i]!)) :=
  ((h.drewN q).set i hi _).set j (by simpa using hj) _
theorem SB.row (h : SB enc w0 g t rest d w) {cap : Nat} (h1 : d.size ≤ cap) (h2 : cap ≤ maxLen) : Row w 1 (some ⟨g, 0, none⟩) d.size cap (d.toList.map enc) := by
  refine ⟨by simp, h1, h2, fun e => (by cases e), fun _ => ⟨g, 0, rfl, (Array.getElem?_eq_some_iff.1 h.blk).1, fun j u hj => ?_⟩⟩
  rw [Nat.zero_add, cell_of_row w g j _ t (0, 0) h.blk]
  have hjl := (List.getElem?_eq_some_iff.1 hj).1
  rw [List.getElem?_toArray, List.getElem?_append_left hjl]; exact hj
theorem SB.start {cs : Array Value} {n : Nat} (hb : w.heap[g]? = some (.cells cs t (0, 0))) (hx : cs.toList.take n = d.toList.map enc) : SB enc w g t (cs.toList.drop n) d w :=
  ⟨⟨rfl, rfl, rfl, Nat.le_refl _, fun _ _ _ => rfl⟩, by rw [← hx, List.take_append_drop]; exact hb⟩
end

/-- What is asked of the comparing function: of elements that D knows, in every world that the sort passes through, it tells cf, and turns nothing but the count of draws. -/
structure CmpQ {α : Type} (P : Program) (f : FuncId) (cb : Array Value) (enc : α → Value) (cf : α → α → Int) (D : α → Prop) (w0 : World) (g : Nat) : Prop where
  enters : ∀ args w, (callFunc f args).run P w = .ok (.enter f args) w
  calls : ∀ W, w0.grownBy W (some g) → ∀ x y, D x → D y → Calls P f (#[enc x, enc y] ++ cb) W fun e w' => e = .returned (.int .i64 (cf x y)) ∧ ∃ q, w' = W.drewN q

def ltOf {α : Type} (cf : α → α → Int) (x y : α) : Bool := decide (cf x y < 0)

section
variable {α : Type} [Inhabited α] (lt : α → α → Bool)
theorem inner_go (a j : Nat) (d : Array α) (hj : a < j) (hl : lt d[j]! d[j - 1]! = true) : insInner lt a j d = insInner lt a (j - 1) (swp d j (j - 1)) := by
  rcases j with _ | k
  · omega
  · have h1 : (decide (k + 1 > a) && lt d[k + 1]! d[k]!) = true := by simp only [Nat.add_sub_cancel] at hl; simp [hl, hj]
    rw [insInner, if_pos h1]; rfl
theorem inner_stop (a j : Nat) (d : Array α) (h : j ≤ a ∨ lt d[j]! d[j - 1]! = false) : insInner lt a j d = d := by
  rcases j with _ | k
  · rfl
  · rw [insInner, if_neg]
    simp only [Nat.add_sub_cancel] at h
    rcases h with h | h
    · simp; omega
    · simp [h]
theorem outer_go (a b i : Nat) (d : Array α) (h : i < b) : insOuter lt a b i d = insOuter lt a b (i + 1) (insInner lt a i d) := by rw [insOuter, if_pos h]
theorem outer_stop (a b i : Nat) (d : Array α) (h : ¬ i < b) : insOuter lt a b i d = d := by rw [insOuter, if_neg h]
end

end Go.Proofs.Ytlmdgaajkjbpgaa
