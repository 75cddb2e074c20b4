/-
  Bytes kept in blocks, by a map: what is there, what a write changes.
-/
import Derived.Test.YtimeacigbacadaaMap
import Derived.Test.YtimeacigbacadaaApp
import Derived.Laws.CopyOwn
namespace Go.Proofs.Ytimeacigbacadaa
open Go.RowKit Go.Maps

def u8C (b : UInt8) : Value := .int .u8 b.toNat
/-- Bytes laid over bytes, from a place on. -/
def putC (C : Nat → UInt8) (at_ : Nat) (l : List UInt8) : Nat → UInt8 := fun i => if at_ ≤ i ∧ i < at_ + l.length then l.getD (i - at_) 0 else C i
theorem putC_nil (C : Nat → UInt8) (at_ : Nat) : putC C at_ [] = C := by funext i; unfold putC; rw [if_neg (by simp only [List.length_nil]; omega)]
theorem putC_two (C : Nat → UInt8) (at_ m : Nat) (l : List UInt8) (hm : m ≤ l.length) : putC (putC C at_ (l.take m)) (at_ + m) (l.drop m) = putC C at_ l := by
  funext i
  unfold putC
  simp only [List.length_drop, List.length_take]
  by_cases h1 : at_ + m ≤ i ∧ i < at_ + m + (l.length - m)
  · rw [if_pos h1, if_pos (by omega), List.getD_eq_getElem?_getD, List.getElem?_drop, List.getD_eq_getElem?_getD, show m + (i - (at_ + m)) = i - at_ by omega]
  · rw [if_neg h1]
    by_cases h2 : at_ ≤ i ∧ i < at_ + min m l.length
    · rw [if_pos h2, if_pos (by omega), List.getD_eq_getElem?_getD, List.getElem?_take, if_pos (by omega), List.getD_eq_getElem?_getD]
    · rw [if_neg h2, if_neg (by omega)]

/-- The bytes C in blocks of 4096, by the map mb. -/
structure Mem (w : World) (mb n : Nat) (f : Int → Option Nat) (C : Nat → UInt8) : Prop where
  map : MapB w mb n f
  blk : ∀ (k g : Nat), f k = some g → w.heap[g]? = some (.cells (fl 4096 (fun i => u8C (C (4096 * k + i)))).toArray 5 (0, 0))
  inj : ∀ (k k' g : Nat), f k = some g → f k' = some g → k = k'
  zero : ∀ (k i : Nat), f k = none → i < 4096 → C (4096 * k + i) = 0
/-- The blocks that are the memory's. -/
def MemS (mb : Nat) (f : Int → Option Nat) (b : Nat) : Prop := b = mb ∨ ∃ k : Nat, f k = some b
theorem Mem.lt {w : World} {mb n : Nat} {f : Int → Option Nat} {C : Nat → UInt8} (h : Mem w mb n f C) : ∀ b, MemS mb f b → b < w.heap.size := by
  rintro b (rfl | ⟨k, hk⟩)
  · exact h.map.lt
  · exact (Array.getElem?_eq_some_iff.1 (h.blk k b hk)).1
theorem Mem.keeps {w w' : World} {U : Nat → Prop} {mb n : Nat} {f : Int → Option Nat} {C : Nat → UInt8} (h : Mem w mb n f C) (hk : Keeps U w w') (hU : ∀ b, MemS mb f b → ¬ U b) : Mem w' mb n f C :=
  ⟨h.map.keep (hk.block mb h.map.lt (hU mb (.inl rfl))), fun k g hf => hk.obj (h.blk k g hf) (hU g (.inr ⟨k, hf⟩)), h.inj, h.zero⟩
theorem Mem.below {w w' : World} {mb n : Nat} {f : Int → Option Nat} {C : Nat → UInt8} (h : Mem w mb n f C) (hb : Below w.heap.size w w') : Mem w' mb n f C :=
  h.keeps (Keeps.of_below (S := fun b => w.heap.size ≤ b) hb (fun _ h => h)) (fun b hb2 hn => by have := h.lt b hb2; omega)
/-- The map's block is none of the blocks of bytes. -/
theorem Mem.mbne {w : World} {mb n : Nat} {f : Int → Option Nat} {C : Nat → UInt8} (h : Mem w mb n f C) {k g : Nat} (hf : f k = some g) : g ≠ mb := by
  rintro rfl
  obtain ⟨D, ⟨es, clock, hb, -⟩, -⟩ := h.map
  have := h.blk k g hf
  rw [hb] at this
  cases this
theorem Mem.made (w : World) : Mem (w.alloc (.map #[] 0)) w.heap.size 0 (fun _ => none) (fun _ => 0) :=
  ⟨MapB.made w, fun k g h => (by cases h), fun k k' g h => (by cases h), fun _ _ _ _ => rfl⟩
theorem Mem.mono {w : World} {mb n m : Nat} {f : Int → Option Nat} {C : Nat → UInt8} (h : Mem w mb n f C) (hm : n ≤ m) : Mem w mb m f C := ⟨h.map.mono hm, h.blk, h.inj, h.zero⟩

/-- A new block. -/
theorem Mem.more {w w1 w2 : World} {mb n : Nat} {f : Int → Option Nat} {C : Nat → UInt8} (h : Mem w mb n f C) {k : Nat} (hf : f k = none) (hb1 : Below w.heap.size w w1) (hs1 : w.heap.size < w1.heap.size)
    (hO : w1.ownsRow w.heap.size 5 1 (blkV w.heap.size) 4096 (List.replicate 4096 (.int .u8 0)))
    (hm : MapB w2 mb (n + 1) (fun j => if j = (k : Int) then some w.heap.size else f j)) (hg : w1.grownBy w2 (some mb)) :
    Mem w2 mb (n + 1) (fun j => if j = (k : Int) then some w.heap.size else f j) C := by
  have hnb : w1.heap[w.heap.size]? = some (.cells (fl 4096 (fun i => u8C (C (4096 * k + i)))).toArray 5 (0, 0)) := by
    rcases hO.2 with ⟨hv, h0⟩ | ⟨g, cap, cur, hv, -, hg, -, hm', hcs, ht⟩
    · cases hv
    · unfold blkV at hv
      simp only [Value.slice.injEq, Option.some.injEq, Addr.mk.injEq] at hv
      obtain ⟨⟨rfl, -, -⟩, -, rfl⟩ := hv
      rw [hg]
      have hz : fl 4096 (fun i => u8C (C (4096 * k + i))) = List.replicate 4096 (.int .u8 0) := by
        rw [fl_replicate]
        exact fl_congr fun i hi => by rw [h.zero k i hf hi]; rfl
      have hc : cur = (List.replicate 4096 (Value.int .u8 0)).toArray := by
        apply Array.ext'
        rw [← ht, List.take_of_length_le (by simp; omega)]
      rw [hz, hc]
  have hmb := h.map.lt
  refine ⟨hm, fun j g hj => ?_, fun j j' g h1 h2 => ?_, fun j i hj hi => ?_⟩
  · by_cases e : (j : Int) = k
    · rw [if_pos e] at hj
      obtain rfl : w.heap.size = g := Option.some.inj hj
      obtain rfl : j = k := by omega
      exact (hg.block _ (by omega) (fun e => by have := Option.some.inj e; omega)).trans hnb
    · rw [if_neg e] at hj
      have hgl := h.lt g (.inr ⟨j, hj⟩)
      exact (hg.block g (by omega) (fun e => h.mbne hj (Option.some.inj e))).trans ((hb1.block g hgl).trans (h.blk j g hj))
  · by_cases e1 : (j : Int) = k
    · by_cases e2 : (j' : Int) = k
      · omega
      · rw [if_pos e1] at h1
        rw [if_neg e2] at h2
        have := h.lt g (.inr ⟨j', h2⟩)
        have := Option.some.inj h1
        omega
    · rw [if_neg e1] at h1
      by_cases e2 : (j' : Int) = k
      · rw [if_pos e2] at h2
        have := h.lt g (.inr ⟨j, h1⟩)
        have := Option.some.inj h2
        omega
      · rw [if_neg e2] at h2
        exact h.inj j j' g h1 h2
  · by_cases e : (j : Int) = k
    · rw [if_pos e] at hj; cases hj
    · rw [if_neg e] at hj; exact h.zero j i hj hi

theorem splice_fl (N : Nat) (enc : Nat → Value) (off : Nat) (cs : List Value) (h : off + cs.length ≤ N) : splice (fl N enc) off cs = fl N (fun i => if off ≤ i ∧ i < off + cs.length then cs.getD (i - off) undef else enc i) := by
  apply List.ext_getElem?
  intro j
  unfold splice
  by_cases h1 : j < off
  · rw [List.getElem?_append_left (by rw [List.length_take, fl_length]; omega), List.getElem?_take, if_pos h1, fl_get _ (by omega), fl_get _ (by omega), if_neg (by omega)]
  · rw [List.getElem?_append_right (by rw [List.length_take, fl_length]; omega), List.length_take, fl_length, show min off N = off by omega]
    by_cases h2 : j < off + cs.length
    · rw [List.getElem?_append_left (by omega), fl_get _ (by omega), if_pos (by omega), List.getD_eq_getElem?_getD, List.getElem?_eq_getElem (by omega)]; rfl
    · rw [List.getElem?_append_right (by omega), List.getElem?_drop, show off + cs.length + (j - off - cs.length) = j by omega]
      by_cases h3 : j < N
      · rw [fl_get _ h3, fl_get _ h3, if_neg (by omega)]
      · rw [List.getElem?_eq_none (by rw [fl_length]; omega), List.getElem?_eq_none (by rw [fl_length]; omega)]

/-- Bytes are laid into one block. -/
theorem Mem.write {w w' : World} {mb n : Nat} {f : Int → Option Nat} {C : Nat → UInt8} (h : Mem w mb n f C) {k g off : Nat} (hf : f k = some g) (l : List UInt8) (hl : off + l.length ≤ 4096)
    (hg : w'.heap[g]? = some (.cells (splice (fl 4096 (fun i => u8C (C (4096 * k + i)))) off (l.map u8C)).toArray 5 (0, 0))) (hk : Keeps (fun b => b = g) w w') : Mem w' mb n f (putC C (4096 * k + off) l) := by
  refine ⟨h.map.keep (hk.block mb h.map.lt (fun e => h.mbne hf e.symm)), fun j g' hj => ?_, h.inj, fun j i hj hi => ?_⟩
  · by_cases e : g' = g
    · subst e
      obtain rfl := h.inj j k g' hj hf
      rw [hg, splice_fl _ _ _ _ (by simpa using hl)]
      have e : fl 4096 (fun i => if off ≤ i ∧ i < off + (l.map u8C).length then (l.map u8C).getD (i - off) undef else u8C (C (4096 * j + i))) = fl 4096 (fun i => u8C (putC C (4096 * j + off) l (4096 * j + i))) := by
        refine fl_congr fun i hi => ?_
        unfold putC
        simp only [List.length_map]
        by_cases hi2 : off ≤ i ∧ i < off + l.length
        · rw [if_pos hi2, if_pos (by omega), show 4096 * j + i - (4096 * j + off) = i - off by omega]
          simp [List.getD, show i - off < l.length by omega]
        · rw [if_neg hi2, if_neg (by omega)]
      rw [e]
    · have hne : j ≠ k := fun e2 => by subst e2; rw [hf] at hj; exact e (Option.some.inj hj).symm
      rw [hk.block g' (h.lt g' (.inr ⟨j, hj⟩)) e, h.blk j g' hj]
      have e2 : fl 4096 (fun i => u8C (C (4096 * j + i))) = fl 4096 (fun i => u8C (putC C (4096 * k + off) l (4096 * j + i))) := fl_congr fun i hi => by
        unfold putC
        rw [if_neg (by omega)]
      rw [e2]
  · have hne : j ≠ k := fun e2 => by subst e2; rw [hf] at hj; cases hj
    unfold putC
    rw [if_neg (by omega)]
    exact h.zero j i hj hi

/-- 'copy' into a row of which it is known whole. -/
theorem copy_at {P : Program} {w : World} {ops : Array Oper} {rest : List Oper} {o : Oper} {a : Act} {Q : Exit → Act → World → Prop} (hgd : o.guard = none) (d s : Operand) (dT sT : TypeId)
    (ho : o.op = .call { callee := .builtin .copy, args := #[d, s], argTypes := #[dT, sT] }) (elem : TypeId) (hu : P.underlying dT = some (.slice elem)) (hsz : (P.info? elem).map (·.size) = some 1)
    (g off dLen dCap : Nat) (ad : Addr) (sLen sCap : Nat) (hd : a.eval d = .slice (some ⟨g, off, none⟩) dLen dCap) (hs : a.eval s = .slice (some ad) sLen sCap)
    (cur : List Value) (t : TypeId) (hg : w.heap[g]? = some (.cells cur.toArray t (0, 0))) (cs : List Value) (m : Nat) (hm : cs.length = m) (hn : m = Nat.min sLen dLen)
    (hsrc : ∀ j v, cs[j]? = some v → w.cell? (ad.add j) = some v) (hfit : off + m ≤ cur.length) (h1 : ∀ v ∈ cs, v.oneCell' = true)
    (h : ∀ w', w'.heap[g]? = some (.cells (splice cur off cs).toArray t (0, 0)) → Keeps (fun b => b = g) w w' → w'.heap.size = w.heap.size → wpList P ops Q rest (a.put o.dst (.int .i64 (m : Int))) w') : wpList P ops Q (o :: rest) a w := by
  subst hm
  refine wpList_copy_own hgd d s dT sT ho elem hu hsz g off dLen dCap ad sLen sCap hd hs cur.toArray t hg cs hn hsrc (by simpa using hfit) h1 ?_
  refine h _ (by simpa [splice] using setRow_heap w g _ _ t _ hg) ⟨rfl, rfl, rfl, by simp [World.setRow], fun b hb hn => setRow_other w g b _ hn⟩ (by simp [World.setRow])
end Go.Proofs.Ytimeacigbacadaa
