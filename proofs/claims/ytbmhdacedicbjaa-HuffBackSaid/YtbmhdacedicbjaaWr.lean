/-
  Walks of layer 1: the writer of bits.
-/
import Derived.Test.YtbmhdacedicbjaaWrP
import Derived.Test.YtbmhdacedicbjaaApp
import Derived.Test.YtbmhdacedicbjaaClone
import Derived.Test.YtbmhdacedicbjaaHuff3
import Derived.Test.YtbmhdacedicbjaaArgs
import Derived.StillTailTactics
import Derived.Deep.DeepCutAuto
namespace Go.Proofs.Ytbmhdacedicbjaa
open Go.RowKit

def wrV (n : Nat) (high : Bool) (v : Value) (i : Nat) : Value := if i = 0 then .int .i64 n else if i = 1 then .bool high else if i = 2 then .bool true else v

/-- A writer of bits in memory: its block wb; S knows it, and its bytes' block. -/
structure IsWr (w : World) (S : Nat → Prop) (wb : Nat) (high : Bool) (bs : List UInt8) (n : Nat) (v : Value) : Prop where
  blk : w.heap[wb]? = some (.cells (fl 4 (wrV n high v)).toArray 98 (0, 0))
  row : w.ownsRow (wb + 1) 5 1 v bs.length (bs.map fun b => .int .u8 b.toNat)
  at_ : ∀ b, v.ownBlock = some b → S b
  own : S wb
  lt : ∀ b, S b → wb ≤ b ∧ b < w.heap.size

/-- .. with these bits. -/
def WrQ (w : World) (S : Nat → Prop) (wb : Nat) (high : Bool) (B : List Bool) : Prop := ∃ bs v, IsWr w S wb high bs B.length v ∧ Wrote bs high B
/-- What a call leaves that writes bits. -/
def WrNext (w : World) (S : Nat → Prop) (wb : Nat) (high : Bool) (B : List Bool) (w' : World) : Prop := ∃ S', WrQ w' S' wb high B ∧ Keeps S w w' ∧ ∀ b, S' b → S b ∨ w.heap.size ≤ b

theorem WrNext.refl {w : World} {S : Nat → Prop} {wb : Nat} {high : Bool} {B : List Bool} (h : WrQ w S wb high B) : WrNext w S wb high B w := ⟨S, h, Keeps.refl _ _, fun _ h => .inl h⟩
theorem WrNext.trans {w w1 w2 : World} {S S1 : Nat → Prop} {wb : Nat} {high : Bool} {B : List Bool} (hk : Keeps S w w1) (hs : ∀ b, S1 b → S b ∨ w.heap.size ≤ b) (h2 : WrNext w1 S1 wb high B w2) : WrNext w S wb high B w2 := by
  obtain ⟨S2, q, k, s⟩ := h2
  exact ⟨S2, q, hk.trans k hs, fun b hb => (s b hb).elim (hs b) (fun h => .inr (Nat.le_trans hk.size h))⟩

theorem wdead_any {w : World} {S : Nat → Prop} {wb : Nat} {high : Bool} {bs : List UInt8} {n : Nat} {v : Value} (h : IsWr w S wb high bs n v) :
    Calls Try.prog 62 #[.pointer (some ⟨wb, 0, none⟩)] w fun e w' => e = .returned (.bool false) ∧ w = w' := by
  have h2 := blk_cell h.blk 2 (by omega)
  unfold wrV at h2
  simp only [if_pos, Nat.reduceEqDiff, if_false] at h2
  clear h
  go_enter Try.func62, Try.ntmps62
  go_wp2
  go_ret
  exact ⟨rfl, rfl⟩

/-- What the first half of 'bit' leaves. -/
structure Half (w : World) (S : Nat → Prop) (wb : Nat) (high : Bool) (B : List Bool) (bs : List UInt8) (n : Nat) (v : Value) (W : World) : Prop where
  blk : W.heap[wb]? = some (.cells (fl 4 (wrV n high v)).toArray 98 (0, 0))
  row : W.ownsRow (wb + 1) 5 1 v bs.length (bs.map fun b => .int .u8 b.toNat)
  at_ : ∀ b, v.ownBlock = some b → S b ∨ w.heap.size ≤ b
  keeps : Keeps S w W
  room : Room bs high B

theorem half_end {w W W2 : World} {S : Nat → Prop} {wb : Nat} {high one : Bool} {B : List Bool} {bs bs2 : List UInt8} {n : Nat} {v : Value} (hw : WrQ w S wb high B) (h : Half w S wb high B bs n v W)
    (hW : W2.heap[wb]? = some (.cells (fl 4 (wrV (n + 1) high v)).toArray 98 (0, 0))) (hr : W2.ownsRow (wb + 1) 5 1 v bs2.length (bs2.map fun b => .int .u8 b.toNat)) (hk : Keeps S w W2) (hn : n = B.length)
    (hq : Wrote bs2 high (B ++ [one])) : WrNext w S wb high (B ++ [one]) W2 := by
  obtain ⟨bs0, v0, hw0, _⟩ := hw
  refine ⟨fun b => S b ∨ (wb ≤ b ∧ w.heap.size ≤ b ∧ b < W2.heap.size), ⟨bs2, v, ⟨by simpa [hn] using hW, hr, fun b hb => ?_, .inl hw0.own, fun b hb => ?_⟩, hq⟩, hk, fun b hb => ?_⟩
  · have := hr.lt b hb
    exact (h.at_ b hb).elim .inl fun h1 => .inr ⟨by omega, h1, this.2⟩
  · rcases hb with hb | hb
    · have := hw0.lt b hb; have := hk.size; omega
    · exact ⟨hb.1, hb.2.2⟩
  · rcases hb with hb | hb
    · exact .inl hb
    · exact .inr hb.2.1
theorem wrV_set (n : Nat) (high : Bool) (v : Value) (i : Nat) : (if i = 0 then Value.int .i64 ((n : Int) + 1) else wrV n high v i) = wrV (n + 1) high v i := by
  unfold wrV
  by_cases h : i = 0
  · simp [h]
  · simp [h]
theorem wrV_set3 (n : Nat) (high : Bool) (v v' : Value) (i : Nat) (h4 : i < 4) : (if i = 3 then v' else wrV n high v i) = wrV n high v' i := by
  unfold wrV
  by_cases h : i = 3
  · simp [h]
  · have : i = 0 ∨ i = 1 ∨ i = 2 := by omega
    rcases this with rfl | rfl | rfl <;> simp

theorem half_pad {w w1 : World} {S : Nat → Prop} {wb : Nat} {high : Bool} {B : List Bool} {bs : List UInt8} {v v' : Value} (hw : IsWr w S wb high bs B.length v) (hq : Wrote bs high B) (h8 : B.length % 8 = 0) (o : Obj)
    (hr : w1.ownsRow (wb + 1) 5 1 v' (bs.length + 1) (bs.map (fun b => Value.int .u8 b.toNat) ++ [.int .u8 0])) (hg : (w.alloc o).grownBy w1 v.ownBlock) (hn : NewAt (w.alloc o) v v') :
    Half w S wb high B (bs ++ [0]) B.length v' (w1.setCell ⟨wb, 3, none⟩ v') := by
  have hwb := (hw.lt wb hw.own).2
  have hvb : ∀ b, v.ownBlock = some b → wb < b := fun b hb => (hw.row.lt b hb).1
  have h1 : w1.heap[wb]? = some (.cells (fl 4 (wrV B.length high v)).toArray 98 (0, 0)) :=
    (hg.block wb (by rw [sizeA]; omega) (fun e => by have := hvb wb e.symm; omega)).trans ((Below.heap_alloc w o wb hwb).trans hw.blk)
  have hk : Keeps S w w1 := ((Keeps.refl S w).alloc o).grown hg (fun k hk => .inl (hw.at_ k hk))
  refine ⟨?_, ?_, fun b hb => ?_, hk.setCell (.inl hw.own) _, room_pad hq h8⟩
  · rw [blk_set h1]
    exact congrArg (fun x => some (Obj.cells (List.toArray x) _ _)) (fl_congr fun i hi => wrV_set3 _ _ _ _ _ hi)
  · have := own_other hr (a := ⟨wb, 3, none⟩) (fun h => by have := (hr.lt wb h).1; omega) v'
    simpa using this
  · rcases hn b hb with h2 | h2
    · exact .inl (hw.at_ b h2)
    · right; rw [sizeA] at h2; omega

theorem half_in {w : World} {S : Nat → Prop} {wb : Nat} {high : Bool} {B : List Bool} {bs : List UInt8} {v : Value} (hw : IsWr w S wb high bs B.length v) (hq : Wrote bs high B) (h8 : B.length % 8 ≠ 0) : Half w S wb high B bs B.length v w :=
  ⟨hw.blk, hw.row, fun b hb => .inl (hw.at_ b hb), Keeps.refl _ _, room_in hq h8⟩
end Go.Proofs.Ytbmhdacedicbjaa
