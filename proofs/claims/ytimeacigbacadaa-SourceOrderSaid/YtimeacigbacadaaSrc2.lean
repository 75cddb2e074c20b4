/-
  Walks of layer 16: a source in memory; it is made.
-/
import Derived.Test.YtimeacigbacadaaSrc1
import Derived.Test.YtimeacigbacadaaSetD
import Derived.Carry
namespace Go.Proofs.Ytimeacigbacadaa
open Go.RowKit Go.Maps

def srcC (tot : Nat) (v : Value) (mb : Nat) : Array Value := #[.bool true, .int .i64 tot, v, .map (some mb)]
/-- A source in block p, of tot bytes: T is known; C are the bytes. S knows its block and its spans' block. -/
structure IsSrc (w : World) (S : Nat → Prop) (p tot : Nat) (T : List (Int × Int)) (v : Value) (mb n : Nat) (f : Int → Option Nat) (C : Nat → UInt8) : Prop where
  set : IsSetG w S p 2 (srcC tot v mb) 68 T v
  mem : Mem w mb n f C
  ap : ∀ b, MemS mb f b → ¬ S b
  form : Form T
  in_ : ∀ x ∈ T, x.2 ≤ tot
  known : ∀ i : Nat, cov T i → f ((i / 4096 : Nat) : Int) ≠ none
  totb : tot ≤ 2147483647
/-- The same, of which U tells the blocks. -/
def SrcQ (w : World) (U : Nat → Prop) (p tot N : Nat) (T : List (Int × Int)) (C : Nat → UInt8) : Prop := ∃ S v mb n f, IsSrc w S p tot T v mb n f C ∧ n ≤ N ∧ ∀ b, U b ↔ (S b ∨ MemS mb f b)
theorem SrcQ.lt {w : World} {U : Nat → Prop} {p tot N : Nat} {T : List (Int × Int)} {C : Nat → UInt8} (h : SrcQ w U p tot N T C) : ∀ b, U b → b < w.heap.size := by
  obtain ⟨S, v, mb, n, f, h, -, hU⟩ := h
  intro b hb
  rcases (hU b).1 hb with h1 | h1
  · exact h.set.lt b h1
  · exact h.mem.lt b h1
theorem IsSrc.mono {w w' : World} {S : Nat → Prop} {p tot : Nat} {T : List (Int × Int)} {v : Value} {mb n : Nat} {f : Int → Option Nat} {C : Nat → UInt8} (h : IsSrc w S p tot T v mb n f C) (hb : Below w.heap.size w w') : IsSrc w' S p tot T v mb n f C :=
  ⟨h.set.mono hb, h.mem.below hb, h.ap, h.form, h.in_, h.known, h.totb⟩
theorem SrcQ.mono {w w' : World} {U : Nat → Prop} {p tot N : Nat} {T : List (Int × Int)} {C : Nat → UInt8} (h : SrcQ w U p tot N T C) (hb : Below w.heap.size w w') : SrcQ w' U p tot N T C := by
  obtain ⟨S, v, mb, n, f, h, r⟩ := h
  exact ⟨S, v, mb, n, f, h.mono hb, r⟩
theorem IsSrc.cells {w : World} {S : Nat → Prop} {p tot : Nat} {T : List (Int × Int)} {v : Value} {mb n : Nat} {f : Int → Option Nat} {C : Nat → UInt8} (h : IsSrc w S p tot T v mb n f C) :
    w.cell? ⟨p, 0, none⟩ = some (.bool true) ∧ w.cell? ⟨p, 1, none⟩ = some (.int .i64 tot) ∧ w.cell? ⟨p, 2, none⟩ = some v ∧ w.cell? ⟨p, 3, none⟩ = some (.map (some mb)) := by
  refine ⟨?_, ?_, ?_, ?_⟩ <;> (rw [cell_of_row w p _ _ _ _ h.set.blk]; rfl)

/-- What New leaves. -/
def NewEnd (tot : Nat) (w : World) (e : Ending) (w' : World) : Prop :=
  ∃ p U, e = .returned (.tuple #[.pointer (some ⟨p, 0, none⟩), .int .i64 0]) ∧ SrcQ w' U p tot 0 [] (fun _ => 0) ∧ Below w.heap.size w w' ∧ (∀ b, U b → w.heap.size ≤ b) ∧ U p

set_option maxHeartbeats 2000000 in
theorem new_any (tot : Nat) (w : World) (ht : tot ≤ 2147483647) : Calls Try.prog 15 #[.int .i64 tot] w (NewEnd tot w) := by
  have hmm := @run_makeMap Try.prog
  have h1 : decide ((tot : Int) < 0) = false := decide_eq_false (by omega)
  have h2 : decide ((2147483647 : Int) < tot) = false := decide_eq_false (by omega)
  obtain ⟨W, hW⟩ : ∃ W, W = (w.alloc (.map #[] 0)).alloc (.cells #[.bool true, .int .i64 tot, .slice none 0 0, .map (some w.heap.size)] 68) := ⟨_, rfl⟩
  have hB : Below w.heap.size w W := by rw [hW]; exact belowA2 w _ _
  have hsz : W.heap.size = w.heap.size + 2 := by rw [hW, sizeA, sizeA]
  have hblk : W.heap[w.heap.size + 1]? = some (.cells #[.bool true, .int .i64 tot, .slice none 0 0, .map (some w.heap.size)] 68 (0, 0)) := by rw [hW]; exact heapA_new _ (by rw [sizeA])
  have hmem : Mem W w.heap.size 0 (fun _ => none) (fun _ => 0) := by rw [hW]; exact (Mem.made w).below (belowA _ _)
  have hno : ∀ b, MemS w.heap.size (fun _ => none) b → b = w.heap.size := by
    rintro b (rfl | ⟨k, hk⟩)
    · rfl
    · cases hk
  have hset : IsSetG W (fun b => b = w.heap.size + 1) (w.heap.size + 1) 2 (srcC tot (.slice none 0 0) w.heap.size) 68 [] (.slice none 0 0) :=
    ⟨hblk, rfl, World.ownsRow_nil _ _ _ _, fun b hb => (by cases hb), rfl, fun b hb => by omega⟩
  have hsrc : IsSrc W (fun b => b = w.heap.size + 1) (w.heap.size + 1) tot [] (.slice none 0 0) w.heap.size 0 (fun _ => none) (fun _ => 0) :=
    ⟨hset, hmem, fun b hb e => (by have := hno b hb; omega), form_nil, fun x hx => (by cases hx), fun i hi => absurd hi (cov_nil _), ht⟩
  have HQ : Hid (NewEnd tot w (.returned (.tuple #[.pointer (some ⟨w.heap.size + 1, 0, none⟩), .int .i64 0])) W) := Lib.hid
    ⟨w.heap.size + 1, fun b => b = w.heap.size + 1 ∨ MemS w.heap.size (fun _ => none) b, rfl, ⟨_, _, _, _, _, hsrc, Nat.le_refl _, fun b => Iff.rfl⟩, hB, (by
      rintro b (rfl | hb)
      · omega
      · have := hno b hb; omega), .inl rfl⟩
  have HW := Lib.hid hW
  clear hB hsz hblk hmem hW hno hset hsrc
  go_enter Try.func15, Try.ntmps15
  go_wp2
  go_ret2
  rw [← HW.out]
  exact HQ.out

theorem is_any {w : World} {U : Nat → Prop} {p tot N : Nat} {T : List (Int × Int)} {C : Nat → UInt8} (h : SrcQ w U p tot N T C) :
    Calls Try.prog 34 #[.pointer (some ⟨p, 0, none⟩)] w fun e w' => e = .returned (.bool true) ∧ w = w' := by
  obtain ⟨S, v, mb, n, f, h, -⟩ := h
  obtain ⟨c0, -⟩ := h.cells
  clear h
  go_enter Try.func34, Try.ntmps34
  go_wp2
  go_ret
  exact ⟨rfl, rfl⟩
theorem total_any {w : World} {U : Nat → Prop} {p tot N : Nat} {T : List (Int × Int)} {C : Nat → UInt8} (h : SrcQ w U p tot N T C) :
    Calls Try.prog 28 #[.pointer (some ⟨p, 0, none⟩)] w fun e w' => e = .returned (.int .i64 tot) ∧ w = w' := by
  have HI := Lib.hid (is_any h)
  obtain ⟨S, v, mb, n, f, h, -⟩ := h
  obtain ⟨-, c1, -⟩ := h.cells
  clear h
  go_enter Try.func28, Try.ntmps28
  go_wp2_with (go_at_call 34; refine HI.out.mono ?_; rintro e w' ⟨rfl, rfl⟩)
  go_ret
  exact ⟨rfl, rfl⟩
end Go.Proofs.Ytimeacigbacadaa
