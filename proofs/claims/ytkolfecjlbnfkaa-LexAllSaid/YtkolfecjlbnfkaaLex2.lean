/-
  Walks of layer 10: the scanner in memory: what it looks at, what it puts together.
-/
import Derived.Test.YtkolfecjlbnfkaaLex1
import Derived.Test.YtkolfecjlbnfkaaApp
import Derived.Test.YtkolfecjlbnfkaaArgs
import Derived.Lib.Builder
import Derived.Lib.UnsafeStr
import Derived.Lib.ByteType
namespace Go.Proofs.Ytkolfecjlbnfkaa
open Go.RowKit

def u8C (b : UInt8) : Value := .int .u8 b.toNat
/-- What a scanner looks at: a slice of bytes; whether they are the last ones. -/
structure Src where
  a : Option Addr
  cap : Nat
  bs : List UInt8
  last : Bool
def scV (X : Src) (ad v : Value) (k : Nat) : Array Value := #[ad, v, .slice X.a X.bs.length X.cap, .int .i64 k, .bool X.last]

/-- A scanner in block p; S knows it, and what it has put together. -/
structure IsSc (w : World) (S : Nat → Prop) (p : Nat) (X : Src) (out : List UInt8) (k : Nat) (ad v : Value) : Prop where
  blk : w.heap[p]? = some (.cells (scV X ad v k) 54 (0, 0))
  ad_ : ad = .pointer none ∨ ad = .pointer (some ⟨p, 0, none⟩)
  row : w.ownsRow (p + 1) 5 1 v out.length (out.map u8C)
  at_ : ∀ b, v.ownBlock = some b → S b
  own : S p
  lt : ∀ b, S b → p ≤ b ∧ b < w.heap.size
  src : Row w 1 X.a X.bs.length X.cap (X.bs.map u8C)
  srcb : ∀ x, X.a = some x → x.block < p
  le : k ≤ X.bs.length
  small : X.bs.length ≤ 100000
  outl : out.length ≤ k
  nil_ : out = [] → v = .slice none 0 0
def ScQ (w : World) (S : Nat → Prop) (p : Nat) (X : Src) (out : List UInt8) (k : Nat) : Prop := ∃ ad v, IsSc w S p X out k ad v
/-- What a call leaves of a scanner. -/
def ScNext (w : World) (S : Nat → Prop) (p : Nat) (X : Src) (out : List UInt8) (k : Nat) (w' : World) : Prop := ∃ S', ScQ w' S' p X out k ∧ Keeps S w w' ∧ ∀ b, S' b → S b ∨ w.heap.size ≤ b

theorem ScNext.refl {w : World} {S : Nat → Prop} {p : Nat} {X : Src} {out : List UInt8} {k : Nat} (h : ScQ w S p X out k) : ScNext w S p X out k w := ⟨S, h, Keeps.refl _ _, fun _ h => .inl h⟩
theorem ScNext.trans {w w1 w2 : World} {S S1 : Nat → Prop} {p : Nat} {X : Src} {out : List UInt8} {k : Nat} (hk : Keeps S w w1) (hs : ∀ b, S1 b → S b ∨ w.heap.size ≤ b) (h2 : ScNext w1 S1 p X out k w2) : ScNext w S p X out k w2 := by
  obtain ⟨S2, q, k2, s⟩ := h2
  exact ⟨S2, q, hk.trans k2 hs, fun b hb => (s b hb).elim (hs b) (fun h => .inr (Nat.le_trans hk.size h))⟩
theorem IsSc.keep {w w' : World} {S : Nat → Prop} {p : Nat} {X : Src} {out : List UInt8} {k : Nat} {ad v : Value} (h : IsSc w S p X out k ad v) (hb : Below w.heap.size w w') : IsSc w' S p X out k ad v :=
  ⟨block_keep hb h.blk, h.ad_, ownsRow_keep h.row hb, h.at_, h.own, fun b hS => ⟨(h.lt b hS).1, Nat.lt_of_lt_of_le (h.lt b hS).2 hb.size⟩, h.src.mono hb, h.srcb, h.le, h.small, h.outl, h.nil_⟩
theorem ScQ.keep {w w' : World} {S : Nat → Prop} {p : Nat} {X : Src} {out : List UInt8} {k : Nat} (h : ScQ w S p X out k) (hb : Below w.heap.size w w') : ScQ w' S p X out k := by
  obtain ⟨ad, v, h⟩ := h; exact ⟨ad, v, h.keep hb⟩
theorem ScQ.drewN {w : World} {S : Nat → Prop} {p : Nat} {X : Src} {out : List UInt8} {k : Nat} (h : ScQ w S p X out k) (q : Nat) : ScQ (w.drewN q) S p X out k := h.keep (below_drewN (Below.refl _ _) q)
theorem IsSc.cells {w : World} {S : Nat → Prop} {p : Nat} {X : Src} {out : List UInt8} {k : Nat} {ad v : Value} (h : IsSc w S p X out k ad v) :
    w.cell? ⟨p, 0, none⟩ = some ad ∧ w.cell? ⟨p, 1, none⟩ = some v ∧ w.cell? ⟨p, 2, none⟩ = some (.slice X.a X.bs.length X.cap) ∧ w.cell? ⟨p, 3, none⟩ = some (.int .i64 k) ∧ w.cell? ⟨p, 4, none⟩ = some (.bool X.last) := by
  refine ⟨?_, ?_, ?_, ?_, ?_⟩ <;> (rw [cell_of_row w p _ _ _ _ h.blk]; rfl)
theorem IsSc.free {w : World} {S : Nat → Prop} {p : Nat} {X : Src} {out : List UInt8} {k : Nat} {ad v : Value} (h : IsSc w S p X out k ad v) (j : Nat) : w.frozen? ⟨p, j, none⟩ = false := frozen_of_row w p j _ _ h.blk
theorem IsSc.byte {w : World} {S : Nat → Prop} {p : Nat} {X : Src} {out : List UInt8} {k : Nat} {ad v : Value} (h : IsSc w S p X out k ad v) (hk : k < X.bs.length) :
    ∃ b off, X.a = some ⟨b, off, none⟩ ∧ w.cell? ⟨b, off + k, none⟩ = some (u8C (X.bs.getD k 0)) := by
  obtain ⟨b, off, ha, _, hc⟩ := h.src.at 0 k hk
  exact ⟨b, off, ha, hc k hk⟩

/-- The place is moved. -/
theorem IsSc.move {w : World} {S : Nat → Prop} {p : Nat} {X : Src} {out : List UInt8} {k : Nat} {ad v : Value} (h : IsSc w S p X out k ad v) (k' : Nat) (hk : k' ≤ X.bs.length) (hk2 : k ≤ k') : ScNext w S p X out k' (w.setCell ⟨p, 3, none⟩ (.int .i64 k')) := by
  have hb : w.heap[p]? = some (.cells (scV X ad v k) 54 (0, 0)) := h.blk
  have hp := (h.lt p h.own).2
  refine ⟨S, ⟨ad, v, ⟨?_, h.ad_, ?_, h.at_, h.own, fun b hS => by have := h.lt b hS; simpa using this, ?_, h.srcb, hk, h.small, by have := h.outl; omega, h.nil_⟩⟩, (Keeps.refl S w).setCell (.inl h.own) _, fun _ hS => .inl hS⟩
  · rw [heap_setCell_same _ _ 3 _ _ _ hb]; rfl
  · exact ownsRow_setCell_other h.row (a := ⟨p, 3, none⟩) (fun e => by have := (h.row.lt p e).1; omega) _
  · exact h.src.keeps (S := fun b => b = p) ((Keeps.refl (fun b => b = p) w).setCell (a := ⟨p, 3, none⟩) (.inl rfl) _) (fun x hx e => by have := h.srcb x hx; omega)

def peekV (X : Src) (k : Nat) : Value := if k < X.bs.length then .tuple #[u8C (X.bs.getD k 0), .bool true] else .tuple #[.int .u8 0, .bool false]
set_option maxHeartbeats 1000000 in
theorem peek_any {w : World} {S : Nat → Prop} {p : Nat} {X : Src} {out : List UInt8} {k : Nat} (h : ScQ w S p X out k) :
    Calls Try.prog 39 #[.pointer (some ⟨p, 0, none⟩)] w fun e w' => e = .returned (peekV X k) ∧ ∃ q, w' = w.drewN q := by
  obtain ⟨ad, v, h⟩ := h
  obtain ⟨c0, c1, c2, c3, c4⟩ := h.cells
  have hsm := h.small
  have hle := h.le
  obtain ⟨V, hV⟩ : ∃ V, V = peekV X k := ⟨_, rfl⟩
  rw [← hV]
  unfold peekV at hV
  by_cases hk : k < X.bs.length
  · obtain ⟨b, off, ha, hc⟩ := h.byte hk
    rw [if_pos hk] at hV
    have HV := Lib.hid hV
    rw [ha] at c2
    unfold u8C at hc HV
    generalize (X.bs.getD k 0).toNat = x at *
    generalize X.bs.length = n at *
    have hkd : decide ((n : Int) ≤ k) = false := decide_eq_false (by omega)
    have hki : (k : Int) < n := by omega
    clear hV h ha
    go_enter Try.func39, Try.ntmps39
    go_wp2
    go_quiet (fail)
    go_wp2
    go_quiet (fail)
    go_wp2
    go_ret2
    exact ⟨by rw [HV.out]; rfl, by simp only [World.drewN_drewN]; exact ⟨_, rfl⟩⟩
  · rw [if_neg hk] at hV
    have HV := Lib.hid hV
    generalize X.bs.length = n at *
    have hkd : decide ((n : Int) ≤ k) = true := decide_eq_true (by omega)
    clear hV h
    go_enter Try.func39, Try.ntmps39
    go_wp2
    go_quiet (fail)
    go_wp2
    go_ret2
    exact ⟨by rw [HV.out]; rfl, _, rfl⟩
theorem open_any {w : World} {S : Nat → Prop} {p : Nat} {X : Src} {out : List UInt8} {k : Nat} (h : ScQ w S p X out k) :
    Calls Try.prog 40 #[.pointer (some ⟨p, 0, none⟩)] w fun e w' => e = .returned (.int .i64 (openE X.last)) ∧ w = w' := by
  obtain ⟨ad, v, h⟩ := h
  obtain ⟨-, -, -, -, c4⟩ := h.cells
  have HV := Lib.hid (show openE X.last = if X.last = true then 10 else 6 by unfold openE; cases X.last <;> rfl)
  clear h
  generalize openE X.last = V at *
  generalize X.last = l at *
  cases l
  all_goals
    go_enter Try.func40, Try.ntmps40
    go_wp2
    go_ret
    exact ⟨ret_int (by rw [HV.out]; rfl), rfl⟩
end Go.Proofs.Ytkolfecjlbnfkaa
