/-
  Our texts Lex1 to Val, in one.
-/
import Derived.Test.YtmejhjgdofncfaaPkP4
import Derived.Lib.Builder
import Derived.Lib.UnsafeStr
import Derived.Lib.ByteType
/-
  Walks of layer 10: bytes' kinds, in the program and in the reference.
-/
namespace Go.Proofs.Ytmejhjgdofncfaa
open Go.RowKit

def spI (x : Int) : Bool := decide (x = 0 ∨ x = 9 ∨ x = 10 ∨ x = 12 ∨ x = 13 ∨ x = 32)
def dlI (x : Int) : Bool := decide (x = 40 ∨ x = 41 ∨ x = 60 ∨ x = 62 ∨ x = 91 ∨ x = 93 ∨ x = 123 ∨ x = 125 ∨ x = 47 ∨ x = 37)
theorem u8_eq (c : UInt8) (n : Nat) (hn : n < 256) : c = UInt8.ofNat n ↔ (c.toNat : Int) = (n : Int) := by
  constructor
  · rintro rfl; rw [UInt8.toNat_ofNat']; omega
  · intro h; apply UInt8.toNat_inj.1; rw [UInt8.toNat_ofNat']; omega
theorem spI_eq (c : UInt8) : isSp c = spI c.toNat := by
  unfold isSp spI
  rw [Bool.eq_iff_iff]
  simp only [Bool.or_eq_true, beq_iff_eq, decide_eq_true_iff, or_assoc]
  rw [show c = 0 ↔ _ from u8_eq c 0 (by omega), show c = 9 ↔ _ from u8_eq c 9 (by omega), show c = 10 ↔ _ from u8_eq c 10 (by omega), show c = 12 ↔ _ from u8_eq c 12 (by omega), show c = 13 ↔ _ from u8_eq c 13 (by omega), show c = 32 ↔ _ from u8_eq c 32 (by omega)]
  rfl
theorem dlI_eq (c : UInt8) : isDl c = dlI c.toNat := by
  unfold isDl dlI
  rw [Bool.eq_iff_iff]
  simp only [Bool.or_eq_true, beq_iff_eq, decide_eq_true_iff, or_assoc]
  rw [show c = 40 ↔ _ from u8_eq c 40 (by omega), show c = 41 ↔ _ from u8_eq c 41 (by omega), show c = 60 ↔ _ from u8_eq c 60 (by omega), show c = 62 ↔ _ from u8_eq c 62 (by omega), show c = 91 ↔ _ from u8_eq c 91 (by omega), show c = 93 ↔ _ from u8_eq c 93 (by omega), show c = 123 ↔ _ from u8_eq c 123 (by omega), show c = 125 ↔ _ from u8_eq c 125 (by omega), show c = 47 ↔ _ from u8_eq c 47 (by omega), show c = 37 ↔ _ from u8_eq c 37 (by omega)]
  rfl
def rgI (x : Int) : Bool := !spI x && !dlI x
theorem rgI_eq (c : UInt8) : isRg c = rgI c.toNat := by unfold isRg rgI; rw [spI_eq, dlI_eq]
def hexI (x : Int) : Int := if 48 ≤ x ∧ x ≤ 57 then x - 48 else if 97 ≤ x ∧ x ≤ 102 then x - 87 else if 65 ≤ x ∧ x ≤ 70 then x - 55 else -1
theorem hexI_eq (c : UInt8) : hexD c = hexI c.toNat := by
  unfold hexD hexI
  repeat' split
  all_goals omega

set_option maxHeartbeats 1000000 in
theorem sp_31 (x : Int) (w : World) : Calls Try.prog 31 #[.int .u8 x] w fun e w' => e = .returned (.bool (spI x)) ∧ w = w' := by
  obtain ⟨V, hV⟩ : ∃ V, V = spI x := ⟨_, rfl⟩
  rw [← hV]
  have HV := Lib.hid hV
  clear hV
  by_cases h : x = 0 ∨ x = 9 ∨ x = 10 ∨ x = 12 ∨ x = 13 ∨ x = 32
  · have HL := Lib.hid (show V = true by rw [HV.out]; exact decide_eq_true h)
    rcases h with rfl | rfl | rfl | rfl | rfl | rfl
    all_goals
      go_enter Try.func31, Try.ntmps31
      go_wp2
      go_ret
      exact ⟨ret_bool HL.out.symm, rfl⟩
  · have HL := Lib.hid (show V = false by rw [HV.out]; exact decide_eq_false h)
    have e0 : (x == 0) = false := by rw [beq_eq_false_iff_ne]; omega
    have e1 : (x == 9) = false := by rw [beq_eq_false_iff_ne]; omega
    have e2 : (x == 10) = false := by rw [beq_eq_false_iff_ne]; omega
    have e3 : (x == 12) = false := by rw [beq_eq_false_iff_ne]; omega
    have e4 : (x == 13) = false := by rw [beq_eq_false_iff_ne]; omega
    have e5 : (x == 32) = false := by rw [beq_eq_false_iff_ne]; omega
    clear h
    go_enter Try.func31, Try.ntmps31
    go_wp2
    go_ret
    exact ⟨ret_bool HL.out.symm, rfl⟩
theorem space_any (x : Int) (w : World) : Calls Try.prog 31 #[.int .u8 x] w fun e w' => e = .returned (.bool (spI x)) ∧ w = w' := sp_31 x w
theorem dl_idx (c : UInt8) : decide (0 ≤ Lib.indexByte [40, 41, 60, 62, 91, 93, 123, 125, 47, 37] c) = dlI c.toNat := by
  rw [← dlI_eq]
  have hg := Lib.indexByte_ge [40, 41, 60, 62, 91, 93, 123, 125, 47, 37] c
  by_cases h : Lib.indexByte [40, 41, 60, 62, 91, 93, 123, 125, 47, 37] c = -1
  · have := idx_none _ _ h
    rw [h]
    simp at this
    simp [isDl, this]
  · obtain ⟨i, hi⟩ := Int.eq_ofNat_of_zero_le (show 0 ≤ Lib.indexByte [40, 41, 60, 62, 91, 93, 123, 125, 47, 37] c by omega)
    obtain ⟨a, t, e, -, -⟩ := idx_some _ _ _ hi
    have hm : c ∈ ([40, 41, 60, 62, 91, 93, 123, 125, 47, 37] : List UInt8) := by rw [e]; simp
    rw [hi, decide_eq_true (by omega)]
    simp at hm
    rcases hm with rfl | rfl | rfl | rfl | rfl | rfl | rfl | rfl | rfl | rfl <;> rfl
theorem u8_back (c : UInt8) : ((c.toNat : Int)).toNat.toUInt8 = c := by simp

set_option maxHeartbeats 1000000 in
theorem delim_any (c : UInt8) (w : World) : Calls Try.prog 45 #[.int .u8 c.toNat] w fun e w' => e = .returned (.bool (dlI c.toNat)) ∧ w = w' := by
  have HV := Lib.hid (dl_idx c)
  have hS := fun W => sidx2_any ⟨#[40, 41, 60, 62, 91, 93, 123, 125, 47, 37]⟩ (c.toNat : Int) W
  rw [u8_back] at hS
  have hS2 : ∀ W, Calls Try.prog 60 #[.string ⟨#[40, 41, 60, 62, 91, 93, 123, 125, 47, 37]⟩, .int .u8 c.toNat] W fun e w' => e = .returned (.int .i64 (Lib.indexByte [40, 41, 60, 62, 91, 93, 123, 125, 47, 37] c)) ∧ W = w' := hS
  have HS := Lib.hid hS2
  clear hS hS2
  generalize dlI c.toNat = V at *
  generalize Lib.indexByte [40, 41, 60, 62, 91, 93, 123, 125, 47, 37] c = I at *
  go_enter Try.func45, Try.ntmps45
  go_wp2_with (go_at_call 60; refine (HS.out _).mono ?_; rintro e w' ⟨rfl, rfl⟩)
  go_ret
  exact ⟨ret_bool HV.out, rfl⟩

set_option maxHeartbeats 1000000 in
theorem regular_any (c : UInt8) (w : World) : Calls Try.prog 32 #[.int .u8 c.toNat] w fun e w' => e = .returned (.bool (rgI c.toNat)) ∧ w = w' := by
  have HV := Lib.hid (show rgI c.toNat = (!spI c.toNat && !dlI c.toNat) from rfl)
  have HS := Lib.hid (fun W => space_any c.toNat W)
  have HD := Lib.hid (fun W => delim_any c W)
  generalize dlI c.toNat = b at *
  generalize spI c.toNat = a at *
  generalize rgI c.toNat = V at *
  cases a
  all_goals
    go_enter Try.func32, Try.ntmps32
    go_wp2_with (first
      | (go_at_call 31; refine (HS.out _).mono ?_; rintro e w' ⟨rfl, rfl⟩)
      | (go_at_call 45; refine (HD.out _).mono ?_; rintro e w' ⟨rfl, rfl⟩))
    go_ret
    exact ⟨ret_bool (by rw [HV.out]; rfl), rfl⟩

set_option maxHeartbeats 1000000 in
theorem hx_54 (x : Int) (w : World) (h0 : 0 ≤ x) (h1 : x ≤ 255) : Calls Try.prog 54 #[.int .u8 x] w fun e w' => e = .returned (.int .i64 (hexI x)) ∧ w = w' := by
  obtain ⟨V, hV⟩ : ∃ V, V = hexI x := ⟨_, rfl⟩
  rw [← hV]
  unfold hexI at hV
  have d48 : ∀ b, decide (48 ≤ x) = b → decide (48 ≤ x) = b := fun _ h => h
  by_cases ha : 48 ≤ x
  · by_cases hb : x ≤ 57
    · rw [if_pos ⟨ha, hb⟩] at hV
      have HV := Lib.hid hV
      clear hV
      go_enter Try.func54, Try.ntmps54
      go_wp2
      go_ret
      exact ⟨ret_int (by rw [HV.out]), rfl⟩
    · rw [if_neg (by omega)] at hV
      have hbd : decide (x ≤ 57) = false := by simpa using hb
      by_cases hc : 97 ≤ x
      · by_cases hd : x ≤ 102
        · rw [if_pos ⟨hc, hd⟩] at hV
          have HV := Lib.hid hV
          clear hV hb
          go_enter Try.func54, Try.ntmps54
          go_wp2
          go_ret
          exact ⟨ret_int (by have := HV.out; omega), rfl⟩
        · rw [if_neg (by omega), if_neg (by omega)] at hV
          have hdd : decide (x ≤ 102) = false := by simpa using hd
          have he : 65 ≤ x := by omega
          have hfd : decide (x ≤ 70) = false := by simp; omega
          have HV := Lib.hid hV
          clear hV hb hd
          go_enter Try.func54, Try.ntmps54
          go_wp2
          go_ret
          exact ⟨ret_int (by rw [HV.out]), rfl⟩
      · rw [if_neg (by omega)] at hV
        have hcd : decide (97 ≤ x) = false := by simpa using hc
        by_cases he : 65 ≤ x
        · by_cases hf : x ≤ 70
          · rw [if_pos ⟨he, hf⟩] at hV
            have HV := Lib.hid hV
            clear hV hb hc
            go_enter Try.func54, Try.ntmps54
            go_wp2
            go_ret
            exact ⟨ret_int (by have := HV.out; omega), rfl⟩
          · rw [if_neg (by omega)] at hV
            have hfd : decide (x ≤ 70) = false := by simpa using hf
            have HV := Lib.hid hV
            clear hV hb hc hf
            go_enter Try.func54, Try.ntmps54
            go_wp2
            go_ret
            exact ⟨ret_int (by rw [HV.out]), rfl⟩
        · rw [if_neg (by omega)] at hV
          have hed : decide (65 ≤ x) = false := by simpa using he
          have HV := Lib.hid hV
          clear hV hb hc he
          go_enter Try.func54, Try.ntmps54
          go_wp2
          go_ret
          exact ⟨ret_int (by rw [HV.out]), rfl⟩
  · rw [if_neg (by omega), if_neg (by omega), if_neg (by omega)] at hV
    have had : decide (48 ≤ x) = false := by simpa using ha
    have hcd : decide (97 ≤ x) = false := decide_eq_false (by omega)
    have hed : decide (65 ≤ x) = false := decide_eq_false (by omega)
    have HV := Lib.hid hV
    clear hV ha d48
    go_enter Try.func54, Try.ntmps54
    go_wp2
    go_ret
    exact ⟨ret_int (by rw [HV.out]), rfl⟩
theorem hex_any (c : UInt8) (w : World) : Calls Try.prog 54 #[.int .u8 c.toNat] w fun e w' => e = .returned (.int .i64 (hexD c)) ∧ w = w' := by
  rw [hexI_eq]; exact hx_54 _ w (by omega) (by have := c.toNat_lt; omega)
end Go.Proofs.Ytmejhjgdofncfaa
/-
  What the given frame tells of an argument, in our words: a slice of numbers, of bytes, reads as a row.
-/
namespace Go.Proofs.Ytmejhjgdofncfaa
open Go.RowKit

theorem row_arg {k : IntKind} {w : World} {a : Option Addr} {len cap : Nat} {zs : List Int}
    (h : (a = none ∧ len = 0 ∧ cap = 0 ∧ zs = []) ∨ ∃ x, a = some x ∧ len ≤ cap ∧ cap ≤ maxLen ∧ zs.length = cap ∧ (∀ i, i < zs.length → w.cell? (x.add i) = some (.int k (zs.getD i 0))) ∧ ∀ n ∈ zs, (Lit.int k n).wf = true) :
    Row w 1 a len cap ((zs.take len).map (Value.int k)) ∧ (∀ n ∈ zs.take len, (Lit.int k n).wf = true) ∧ (zs.take len).length = len := by
  rcases h with ⟨rfl, rfl, rfl, rfl⟩ | ⟨x, rfl, hl, hm, hz, hc, hw⟩
  · exact ⟨Row.nil w 1, by simp, by simp⟩
  · refine ⟨⟨by simp; omega, hl, hm, fun h => (by cases h), fun hn => ?_⟩, fun n hn => hw n (List.mem_of_mem_take hn), by simp; omega⟩
    have h0 := hc 0 (by omega)
    have hb := World.block_lt_of_cell? w _ h0
    obtain ⟨b, off, spot⟩ := x
    have hspot : spot = none := by simpa [Addr.add] using World.cell?_spot h0
    subst hspot
    refine ⟨b, off, rfl, by simpa [Addr.add] using hb, fun j u hj => ?_⟩
    have hj2 : j < len := by
      have := (List.getElem?_eq_some_iff.1 hj).1
      simp at this; omega
    have h1 := hc j (by omega)
    rw [Addr.add_lit] at h1
    rw [h1, ← hj]
    simp [hj2, List.getD, show j < zs.length by omega]

theorem below_drewN {B : Nat} {a w : World} (h : Below B a w) (n : Nat) : Below B a (w.drewN n) := ⟨h.os, h.tape, h.output, h.size, h.block⟩

theorem wf_i64_bd {n : Int} (h : (Lit.int .i64 n).wf = true) : -9223372036854775808 ≤ n ∧ n ≤ 9223372036854775807 := by
  simp [Lit.wf, IntKind.min, IntKind.max, IntKind.signed, IntKind.bits] at h; omega

theorem row_bytes {w : World} {a : Option Addr} {len cap : Nat} {zs : List Int}
    (h : (a = none ∧ len = 0 ∧ cap = 0 ∧ zs = []) ∨ ∃ x, a = some x ∧ len ≤ cap ∧ cap ≤ maxLen ∧ zs.length = cap ∧ (∀ i, i < zs.length → w.cell? (x.add i) = some (.int .u8 (zs.getD i 0))) ∧ ∀ n ∈ zs, (Lit.int .u8 n).wf = true) :
    ∃ bs : List UInt8, bs.length = len ∧ Row w 1 a bs.length cap (bs.map fun b => Value.int .u8 b.toNat) := by
  obtain ⟨hr, hw, hl⟩ := row_arg h
  refine ⟨(zs.take len).map fun n => UInt8.ofNat n.toNat, by simpa using hl, ?_⟩
  have e : ((zs.take len).map fun n => UInt8.ofNat n.toNat).map (fun b => Value.int .u8 b.toNat) = (zs.take len).map (Value.int .u8) := by
    rw [List.map_map]
    refine List.map_congr_left fun n hn => ?_
    have := hw n hn
    simp [Lit.wf, IntKind.min, IntKind.max, IntKind.signed, IntKind.bits] at this
    simp
    omega
  rw [e, List.length_map, hl]
  exact hr
end Go.Proofs.Ytmejhjgdofncfaa
/-
  Walks of layer 10: the scanner in memory: what it looks at, what it puts together.
-/
namespace Go.Proofs.Ytmejhjgdofncfaa
open Go.RowKit

def u8C (b : UInt8) : Value := .int .u8 b.toNat
/-- What a scanner looks at: a slice of bytes; whether they are the last ones. -/
structure Src where
  a : Option Addr
  cap : Nat
  bs : List UInt8
  last : Bool
def scV (X : Src) (ad v : Value) (k : Nat) : Array Value := #[ad, v, .slice X.a X.bs.length X.cap, .int .i64 k, .bool X.last]

/-- A scanner in block p; S knows it, and what it has put together. -/
structure IsSc (w : World) (S : Nat → Prop) (p : Nat) (X : Src) (out : List UInt8) (k : Nat) (ad v : Value) : Prop where
  blk : w.heap[p]? = some (.cells (scV X ad v k) 62 (0, 0))
  ad_ : ad = .pointer none ∨ ad = .pointer (some ⟨p, 0, none⟩)
  row : w.ownsRow (p + 1) 5 1 v out.length (out.map u8C)
  at_ : ∀ b, v.ownBlock = some b → S b
  own : S p
  lt : ∀ b, S b → p ≤ b ∧ b < w.heap.size
  src : Row w 1 X.a X.bs.length X.cap (X.bs.map u8C)
  srcb : ∀ x, X.a = some x → x.block < p
  le : k ≤ X.bs.length
  small : X.bs.length ≤ 100000
  outl : out.length ≤ k
  nil_ : out = [] → v = .slice none 0 0
def ScQ (w : World) (S : Nat → Prop) (p : Nat) (X : Src) (out : List UInt8) (k : Nat) : Prop := ∃ ad v, IsSc w S p X out k ad v
/-- What a call leaves of a scanner. -/
def ScNext (w : World) (S : Nat → Prop) (p : Nat) (X : Src) (out : List UInt8) (k : Nat) (w' : World) : Prop := ∃ S', ScQ w' S' p X out k ∧ Keeps S w w' ∧ ∀ b, S' b → S b ∨ w.heap.size ≤ b

theorem ScNext.refl {w : World} {S : Nat → Prop} {p : Nat} {X : Src} {out : List UInt8} {k : Nat} (h : ScQ w S p X out k) : ScNext w S p X out k w := ⟨S, h, Keeps.refl _ _, fun _ h => .inl h⟩
theorem ScNext.trans {w w1 w2 : World} {S S1 : Nat → Prop} {p : Nat} {X : Src} {out : List UInt8} {k : Nat} (hk : Keeps S w w1) (hs : ∀ b, S1 b → S b ∨ w.heap.size ≤ b) (h2 : ScNext w1 S1 p X out k w2) : ScNext w S p X out k w2 := by
  obtain ⟨S2, q, k2, s⟩ := h2
  exact ⟨S2, q, hk.trans k2 hs, fun b hb => (s b hb).elim (hs b) (fun h => .inr (Nat.le_trans hk.size h))⟩
theorem IsSc.keep {w w' : World} {S : Nat → Prop} {p : Nat} {X : Src} {out : List UInt8} {k : Nat} {ad v : Value} (h : IsSc w S p X out k ad v) (hb : Below w.heap.size w w') : IsSc w' S p X out k ad v :=
  ⟨block_keep hb h.blk, h.ad_, ownsRow_keep h.row hb, h.at_, h.own, fun b hS => ⟨(h.lt b hS).1, Nat.lt_of_lt_of_le (h.lt b hS).2 hb.size⟩, h.src.mono hb, h.srcb, h.le, h.small, h.outl, h.nil_⟩
theorem ScQ.keep {w w' : World} {S : Nat → Prop} {p : Nat} {X : Src} {out : List UInt8} {k : Nat} (h : ScQ w S p X out k) (hb : Below w.heap.size w w') : ScQ w' S p X out k := by
  obtain ⟨ad, v, h⟩ := h; exact ⟨ad, v, h.keep hb⟩
theorem ScQ.drewN {w : World} {S : Nat → Prop} {p : Nat} {X : Src} {out : List UInt8} {k : Nat} (h : ScQ w S p X out k) (q : Nat) : ScQ (w.drewN q) S p X out k := h.keep (below_drewN (Below.refl _ _) q)
theorem IsSc.cells {w : World} {S : Nat → Prop} {p : Nat} {X : Src} {out : List UInt8} {k : Nat} {ad v : Value} (h : IsSc w S p X out k ad v) :
    w.cell? ⟨p, 0, none⟩ = some ad ∧ w.cell? ⟨p, 1, none⟩ = some v ∧ w.cell? ⟨p, 2, none⟩ = some (.slice X.a X.bs.length X.cap) ∧ w.cell? ⟨p, 3, none⟩ = some (.int .i64 k) ∧ w.cell? ⟨p, 4, none⟩ = some (.bool X.last) := by
  refine ⟨?_, ?_, ?_, ?_, ?_⟩ <;> (rw [cell_of_row w p _ _ _ _ h.blk]; rfl)
theorem IsSc.free {w : World} {S : Nat → Prop} {p : Nat} {X : Src} {out : List UInt8} {k : Nat} {ad v : Value} (h : IsSc w S p X out k ad v) (j : Nat) : w.frozen? ⟨p, j, none⟩ = false := frozen_of_row w p j _ _ h.blk
theorem IsSc.byte {w : World} {S : Nat → Prop} {p : Nat} {X : Src} {out : List UInt8} {k : Nat} {ad v : Value} (h : IsSc w S p X out k ad v) (hk : k < X.bs.length) :
    ∃ b off, X.a = some ⟨b, off, none⟩ ∧ w.cell? ⟨b, off + k, none⟩ = some (u8C (X.bs.getD k 0)) := by
  obtain ⟨b, off, ha, _, hc⟩ := h.src.at 0 k hk
  exact ⟨b, off, ha, hc k hk⟩

/-- The place is moved. -/
theorem IsSc.move {w : World} {S : Nat → Prop} {p : Nat} {X : Src} {out : List UInt8} {k : Nat} {ad v : Value} (h : IsSc w S p X out k ad v) (k' : Nat) (hk : k' ≤ X.bs.length) (hk2 : k ≤ k') : ScNext w S p X out k' (w.setCell ⟨p, 3, none⟩ (.int .i64 k')) := by
  have hb : w.heap[p]? = some (.cells (scV X ad v k) 62 (0, 0)) := h.blk
  have hp := (h.lt p h.own).2
  refine ⟨S, ⟨ad, v, ⟨?_, h.ad_, ?_, h.at_, h.own, fun b hS => by have := h.lt b hS; simpa using this, ?_, h.srcb, hk, h.small, by have := h.outl; omega, h.nil_⟩⟩, (Keeps.refl S w).setCell (.inl h.own) _, fun _ hS => .inl hS⟩
  · rw [heap_setCell_same _ _ 3 _ _ _ hb]; rfl
  · exact ownsRow_setCell_other h.row (a := ⟨p, 3, none⟩) (fun e => by have := (h.row.lt p e).1; omega) _
  · exact h.src.keeps (S := fun b => b = p) ((Keeps.refl (fun b => b = p) w).setCell (a := ⟨p, 3, none⟩) (.inl rfl) _) (fun x hx e => by have := h.srcb x hx; omega)

def peekV (X : Src) (k : Nat) : Value := if k < X.bs.length then .tuple #[u8C (X.bs.getD k 0), .bool true] else .tuple #[.int .u8 0, .bool false]
set_option maxHeartbeats 1000000 in
theorem peek_any {w : World} {S : Nat → Prop} {p : Nat} {X : Src} {out : List UInt8} {k : Nat} (h : ScQ w S p X out k) :
    Calls Try.prog 47 #[.pointer (some ⟨p, 0, none⟩)] w fun e w' => e = .returned (peekV X k) ∧ ∃ q, w' = w.drewN q := by
  obtain ⟨ad, v, h⟩ := h
  obtain ⟨c0, c1, c2, c3, c4⟩ := h.cells
  have hsm := h.small
  have hle := h.le
  obtain ⟨V, hV⟩ : ∃ V, V = peekV X k := ⟨_, rfl⟩
  rw [← hV]
  unfold peekV at hV
  by_cases hk : k < X.bs.length
  · obtain ⟨b, off, ha, hc⟩ := h.byte hk
    rw [if_pos hk] at hV
    have HV := Lib.hid hV
    rw [ha] at c2
    unfold u8C at hc HV
    generalize (X.bs.getD k 0).toNat = x at *
    generalize X.bs.length = n at *
    have hkd : decide ((n : Int) ≤ k) = false := decide_eq_false (by omega)
    have hki : (k : Int) < n := by omega
    clear hV h ha
    go_enter Try.func47, Try.ntmps47
    go_wp2
    go_quiet (fail)
    go_wp2
    go_quiet (fail)
    go_wp2
    go_ret2
    exact ⟨by rw [HV.out]; rfl, by simp only [World.drewN_drewN]; exact ⟨_, rfl⟩⟩
  · rw [if_neg hk] at hV
    have HV := Lib.hid hV
    generalize X.bs.length = n at *
    have hkd : decide ((n : Int) ≤ k) = true := decide_eq_true (by omega)
    clear hV h
    go_enter Try.func47, Try.ntmps47
    go_wp2
    go_quiet (fail)
    go_wp2
    go_ret2
    exact ⟨by rw [HV.out]; rfl, _, rfl⟩
theorem open_any {w : World} {S : Nat → Prop} {p : Nat} {X : Src} {out : List UInt8} {k : Nat} (h : ScQ w S p X out k) :
    Calls Try.prog 48 #[.pointer (some ⟨p, 0, none⟩)] w fun e w' => e = .returned (.int .i64 (openE X.last)) ∧ w = w' := by
  obtain ⟨ad, v, h⟩ := h
  obtain ⟨-, -, -, -, c4⟩ := h.cells
  have HV := Lib.hid (show openE X.last = if X.last = true then 10 else 6 by unfold openE; cases X.last <;> rfl)
  clear h
  generalize openE X.last = V at *
  generalize X.last = l at *
  cases l
  all_goals
    go_enter Try.func48, Try.ntmps48
    go_wp2
    go_ret
    exact ⟨ret_int (by rw [HV.out]; rfl), rfl⟩
end Go.Proofs.Ytmejhjgdofncfaa
/-
  Walks of layer 10: a byte is put behind what a scanner has put together; what it has put together.
-/
namespace Go.Proofs.Ytmejhjgdofncfaa
open Go.RowKit

theorem infoBuilder : (Try.prog.info? 60).map (·.size) = some 2 := by kernel_rfl
theorem liesBuilder : liesAt Try.prog Try.prog.depth 62 (5 / Try.prog.cellsOf 62) 0 60 1 = true := by kernel_rfl
theorem EByte : ElemT Try.prog 22 5 (.int .u8 0) 1 1 := ⟨Try.underlying22, by kernel_rfl, rfl, by omega⟩
theorem cellsByte : Try.prog.cellsOf 5 = 1 := by kernel_rfl

/-- What copyCheck leaves. -/
def Chk (w : World) (S : Nat → Prop) (p : Nat) (X : Src) (out : List UInt8) (k : Nat) (v : Value) (e : Ending) (w' : World) : Prop :=
  e = .returned (.tuple #[]) ∧ IsSc w' S p X out k (.pointer (some ⟨p, 0, none⟩)) v ∧ Keeps S w w' ∧ w'.heap.size = w.heap.size

theorem IsSc.mark {w : World} {S : Nat → Prop} {p : Nat} {X : Src} {out : List UInt8} {k : Nat} {ad v : Value} (h : IsSc w S p X out k ad v) :
    IsSc (w.setCell ⟨p, 0, none⟩ (.pointer (some ⟨p, 0, none⟩))) S p X out k (.pointer (some ⟨p, 0, none⟩)) v := by
  have hp := (h.lt p h.own).2
  refine ⟨?_, .inr rfl, ownsRow_setCell_other h.row (a := ⟨p, 0, none⟩) (fun e => by have := (h.row.lt p e).1; omega) _, h.at_, h.own, fun b hS => by have := h.lt b hS; simpa using this, ?_, h.srcb, h.le, h.small, h.outl, h.nil_⟩
  · rw [heap_setCell_same _ _ 0 _ _ _ h.blk]; rfl
  · exact h.src.keeps (S := fun b => b = p) ((Keeps.refl (fun b => b = p) w).setCell (a := ⟨p, 0, none⟩) (.inl rfl) _) (fun x hx e => by have := h.srcb x hx; omega)

set_option maxRecDepth 100000 in
set_option maxHeartbeats 1000000 in
theorem copyCheck_any {w : World} {S : Nat → Prop} {p : Nat} {X : Src} {out : List UInt8} {k : Nat} {ad v : Value} (h : IsSc w S p X out k ad v) :
    Calls Try.prog 68 #[.pointer (some ⟨p, 0, none⟩)] w (Chk w S p X out k v) := by
  obtain ⟨j, hj, hjs⟩ := Option.map_eq_some_iff.1 infoBuilder
  obtain ⟨c0, -⟩ := h.cells
  have hfz := h.free 0
  have hsh : w.shape? p = some (62, 5) := by have := h.blk; simp [World.shape?, this, scV]
  rcases h.ad_ with rfl | rfl
  · have HM := Lib.hid h.mark
    have HK := Lib.hid ((Keeps.refl S w).setCell (a := ⟨p, 0, none⟩) (.inl h.own) (.pointer (some ⟨p, 0, none⟩)))
    clear h
    go_enter Try.func68, Try.ntmps68
    go_wp2
    rw [Lib.run_to_unsafe w ⟨p, 0, none⟩ Try.underlying58 Try.underlying107 hj (by rw [hjs]; decide) hsh (Nat.succ_pos 4)]
    simp only [Result.andThen]
    rw [Oper.upon_value]
    go_wp2
    rw [run_callFunc_extern Try.func76 (by kernel_rfl) (by kernel_rfl) (by kernel_rfl) (e := Extern.AbiNoEscape.same) (by kernel_rfl)]
    rw [Lib.run_noEscape]
    simp only [Result.andThen]
    rw [Oper.upon_value]
    go_wp2
    rw [Lib.run_from_unsafe w ⟨p, 0, none⟩ Try.underlying107 Try.underlying58 hj hsh liesBuilder]
    simp only [Result.andThen]
    rw [Oper.upon_value]
    go_wp2
    go_end0
    exact ⟨rfl, HM.out, HK.out, by simp⟩
  · have HM := Lib.hid h
    clear h
    go_enter Try.func68, Try.ntmps68
    go_wp2
    rw [Lib.run_neq_ptr_same w _ Try.underlying58 hj]
    go_wp2
    go_end0
    exact ⟨rfl, HM.out, Keeps.refl _ _, rfl⟩

theorem IsSc.put {w w2 : World} {S : Nat → Prop} {p : Nat} {X : Src} {out : List UInt8} {k : Nat} {v v' : Value} (c : UInt8) (hk : out.length < k) (h : IsSc w S p X out k (.pointer (some ⟨p, 0, none⟩)) v) (o : Obj)
    (hr : w2.ownsRow (p + 1) 5 1 v' (out.length + 1) (out.map u8C ++ [u8C c])) (hg : (w.alloc o).grownBy w2 v.ownBlock) (hn : NewAt (w.alloc o) v v') :
    ScNext w S p X (out ++ [c]) k (w2.setCell ⟨p, 1, none⟩ v') := by
  have hp := (h.lt p h.own).2
  have hvb : ∀ b, v.ownBlock = some b → p < b := fun b hb => (h.row.lt b hb).1
  have h1 : w2.heap[p]? = some (.cells (scV X (.pointer (some ⟨p, 0, none⟩)) v k) 62 (0, 0)) :=
    (hg.block p (by rw [sizeA]; omega) (fun e => by have := hvb p e.symm; omega)).trans ((Below.heap_alloc w o p hp).trans h.blk)
  have hk1 : Keeps S w w2 := ((Keeps.refl S w).alloc o).grown hg (fun k hk => .inl (h.at_ k hk))
  have hk2 := hk1.setCell (a := ⟨p, 1, none⟩) (.inl h.own) v'
  have hsz := hk2.size
  refine ⟨fun b => S b ∨ (p ≤ b ∧ w.heap.size ≤ b ∧ b < (w2.setCell ⟨p, 1, none⟩ v').heap.size), ⟨.pointer (some ⟨p, 0, none⟩), v', ⟨?_, .inr rfl, ?_, fun b hb => ?_, .inl h.own, fun b hb => ?_, ?_, h.srcb, h.le, h.small, by simp; omega, fun e => by simp at e⟩⟩, hk2, fun b hb => ?_⟩
  · rw [heap_setCell_same _ _ 1 _ _ _ h1]; rfl
  · have := ownsRow_setCell_other hr (a := ⟨p, 1, none⟩) (fun e => by have := (hr.lt p e).1; omega) v'
    simpa using this
  · have hlt := (hr.lt b hb)
    rcases hn b hb with h2 | h2
    · exact .inl (h.at_ b h2)
    · rw [sizeA] at h2
      exact .inr ⟨by omega, by omega, by simpa using hlt.2⟩
  · rcases hb with hb | hb
    · have := h.lt b hb; omega
    · exact ⟨hb.1, hb.2.2⟩
  · exact h.src.keeps hk2 (fun x hx e => by have h1 := h.srcb x hx; have h2 := (h.lt x.block e).1; omega)
  · rcases hb with hb | hb
    · exact .inl hb
    · exact .inr hb.2.1

set_option maxRecDepth 100000 in
set_option maxHeartbeats 1000000 in
theorem writeByte_any {w : World} {S : Nat → Prop} {p : Nat} {X : Src} {out : List UInt8} {k : Nat} (h : ScQ w S p X out k) (c : UInt8) (x : Int) (hx : x = (c.toNat : Int)) (hk : out.length < k) :
    Calls Try.prog 53 #[.pointer (some ⟨p, 0, none⟩), .int .u8 x] w fun e w' => e = .returned .nilIface ∧ ScNext w S p X (out ++ [c]) k w' := by
  obtain ⟨ad, v, h⟩ := h
  have HC := Lib.hid (copyCheck_any h)
  unfold Chk at HC
  have hXC : Value.int .u8 x = u8C c := by rw [hx]; rfl
  have HX := Lib.hid hXC
  have hsm := h.small
  have hle := h.le
  have hol := h.outl
  clear h hx hXC
  go_enter Try.func53, Try.ntmps53
  go_wp2_with fail
  refine HC.out.mono ?_
  rintro e w1 ⟨rfl, h1, hk1, hs1⟩
  have H1 := Lib.hid h1
  have HK1 := Lib.hid hk1
  have HS1 := Lib.hid hs1
  obtain ⟨-, c1, -⟩ := h1.cells
  have hf1 := h1.free 1
  have hp1 := (h1.lt p h1.own).2
  clear h1 hk1 hs1
  go_wp2_with (at_builtin; refine append_at EByte rfl (.tmp 11) (.tmp 13) rfl (p + 1) _ out.length _ rfl (H1.out.row.alloc _) _ 1 _ _ rfl (row_new1 _ _ _) (one_mem rfl) (by unfold maxLen; omega) (by omega) (by rw [sizeA]; omega) ?_; intro v' w2 hO2 hg2 hn2; obtain ⟨a', cap', hv', -⟩ := Row.of_owns hO2; subst hv'; rw [HX.out] at hO2; have HN := Lib.hid (H1.out.put c hk _ hO2 hg2 hn2); have hp2 : p < w2.heap.size := (by have := hg2.size; rw [sizeA] at this; omega); have hfz2 : w2.frozen? ⟨p, 1, none⟩ = false := (frozen_of_row w2 p 1 _ _ ((hg2.block p (by rw [sizeA]; omega) (fun e => by have := (H1.out.row.lt p e.symm).1; omega)).trans ((Below.heap_alloc w1 _ p hp1).trans H1.out.blk))); have hc2 : w2.cell? ⟨p, 1, none⟩ = some v := ((cell_of_row w2 p 1 _ _ _ ((hg2.block p (by rw [sizeA]; omega) (fun e => by have := (H1.out.row.lt p e.symm).1; omega)).trans ((Below.heap_alloc w1 _ p hp1).trans H1.out.blk))).trans rfl); clear hO2 hg2 hn2)
  go_ret
  exact ⟨rfl, ScNext.trans HK1.out (fun b hb => .inl hb) HN.out⟩
end Go.Proofs.Ytmejhjgdofncfaa
/-
  Walks of layer 10: what a scanner has put together; a line's end; octal digits.
-/
namespace Go.Proofs.Ytmejhjgdofncfaa
open Go.RowKit

def mkB (l : List UInt8) : ByteArray := ⟨l.toArray⟩
theorem bl_mkB (l : List UInt8) : bl (mkB l) = l := rfl
theorem mkB_bl (s : ByteArray) : mkB (bl s) = s := rfl
theorem mkB_size (l : List UInt8) : (mkB l).size = l.length := by unfold mkB; simp [ByteArray.size]
theorem mkB_ext {a b : ByteArray} (h : bl a = bl b) : a = b := by rw [← mkB_bl a, ← mkB_bl b, h]

theorem keeps_freeze {S : Nat → Prop} {w : World} {a : Addr} (h : S a.block) (n : Nat) : Keeps S w (w.freeze a n) := by
  unfold World.freeze
  split
  · exact Keeps.refl _ _
  · exact ⟨rfl, rfl, rfl, by simp, fun b _ hn => by
      simp only [Array.getElem?_modify]
      rw [if_neg (fun e : a.block = b => hn (e ▸ h))]⟩

set_option maxRecDepth 100000 in
set_option maxHeartbeats 2000000 in
theorem string_any {w : World} {S : Nat → Prop} {p : Nat} {X : Src} {out : List UInt8} {k : Nat} (h : ScQ w S p X out k) :
    Calls Try.prog 52 #[.pointer (some ⟨p, 0, none⟩)] w fun e w' => e = .returned (.string (mkB out)) ∧ Keeps S w w' ∧ w'.heap[p]? = w.heap[p]? := by
  obtain ⟨ad, v, h⟩ := h
  obtain ⟨-, c1, -⟩ := h.cells
  by_cases h0 : out = []
  · have hv := h.nil_ h0
    subst h0
    subst hv
    have hUS := fun (W : World) (q : Option Addr) => Lib.run_unsafeString_none (P := Try.prog) W 103 3 9 q
    have c1' : w.drew.cell? ⟨p, 1, none⟩ = some (.slice none 0 0) := c1
    have hSD : (Builtin.unsafeSliceData_ #[22] 103 #[.slice none 0 0]).run Try.prog w.drew = .ok (.pointer none) w.drew := rfl
    have HK := Lib.hid (show Keeps S w w.drew ∧ w.drew.heap[p]? = w.heap[p]? from ⟨(Keeps.refl S w).drewN 1, rfl⟩)
    clear h
    go_enter Try.func52, Try.ntmps52
    go_wp2
    go_region
    all_goals
      go_wp2
      go_ret
      exact ⟨rfl, HK.out⟩
  · have hl0 : out.length ≠ 0 := by simpa using h0
    obtain ⟨g, cap, cur, rfl, hbg, hg, hnc, hcm, hcs, htake⟩ : ∃ g cap cur, v = .slice (some ⟨g, 0, none⟩) out.length cap ∧ p + 1 ≤ g ∧ w.heap[g]? = some (.cells cur 5 (0, 0)) ∧ out.length ≤ cap ∧ cap ≤ maxLen ∧ cur.size = cap * 1 ∧ cur.toList.take (out.length * 1) = out.map u8C := by
      rcases h.row.2 with ⟨_, hz⟩ | ⟨g, cap, cur, hv, r⟩
      · exact absurd hz hl0
      · exact ⟨g, cap, cur, hv, r⟩
    have c1' : w.drew.cell? ⟨p, 1, none⟩ = some (.slice (some ⟨g, 0, none⟩) out.length cap) := c1
    have hSD : (Builtin.unsafeSliceData_ #[22] 103 #[.slice (some ⟨g, 0, none⟩) out.length cap]).run Try.prog w.drew = .ok (.pointer (some ⟨g, 0, none⟩)) w.drew :=
      Lib.run_unsafeSliceData_row _ _ _ _ _ _ (by omega)
    have hUS : (Builtin.unsafeString_ #[103, 3] 9 #[.pointer (some ⟨g, 0, none⟩), .int .i64 out.length]).run Try.prog w.drew = .ok (.string ⟨out.toArray⟩) (w.drew.freeze ⟨g, 0, none⟩ out.length) := by
      refine Lib.run_unsafeString_row w.drew 103 3 9 5 Try.underlying103 cellsByte g cur.size (by have hg' : w.drew.heap[g]? = some (.cells cur 5 (0, 0)) := hg; simp [World.shape?, hg']) out h0 (by omega) (by unfold maxLen at hcm; omega) ?_
      intro j x hx
      exact h.row.cells (g := g) rfl j (u8C x) (by simp [hx])
    have HK := Lib.hid (show Keeps S w (w.drew.freeze ⟨g, 0, none⟩ out.length) ∧ (w.drew.freeze ⟨g, 0, none⟩ out.length).heap[p]? = w.heap[p]? from ⟨Keeps.trans ((Keeps.refl S w).drewN 1) (keeps_freeze (S := S) (h.at_ g rfl) _) (fun _ hx => .inl hx), ((keeps_freeze (S := fun b => b = g) (w := w.drew) (a := ⟨g, 0, none⟩) rfl out.length).block p (h.lt p h.own).2 (fun e => by omega)).trans rfl⟩)
    clear h htake hcs hg
    go_enter Try.func52, Try.ntmps52
    go_wp2
    go_region
    all_goals
      go_wp2
      go_ret
      exact ⟨rfl, HK.out⟩

/-- What a step leaves: a truth, and a scanner. -/
def StepEnd (w : World) (S : Nat → Prop) (p : Nat) (X : Src) (V : Option (List UInt8 × Nat)) (e : Ending) (w' : World) : Prop :=
  match V with
  | none => e = .returned (.bool false) ∧ ∃ out k, ScNext w S p X out k w'
  | some (out, k) => e = .returned (.bool true) ∧ ScNext w S p X out k w'

theorem drop_cons {l : List UInt8} {k : Nat} (h : k < l.length) : l.drop k = l.getD k 0 :: l.drop (k + 1) := by rw [List.drop_eq_getElem_cons h]; simp [List.getD, h]
theorem drop_nil {l : List UInt8} {k : Nat} (h : ¬ k < l.length) : l.drop k = [] := List.drop_of_length_le (by omega)
theorem ScNext.drew {w : World} {S : Nat → Prop} {p : Nat} {X : Src} {out : List UInt8} {k : Nat} (q : Nat) {w' : World} (h : ScNext (w.drewN q) S p X out k w') : ScNext w S p X out k w' :=
  ScNext.trans ((Keeps.refl S w).drewN q) (fun _ h => .inl h) h

set_option maxHeartbeats 1000000 in
theorem line_any {w : World} {S : Nat → Prop} {p : Nat} {X : Src} {out : List UInt8} {k : Nat} (h : ScQ w S p X out k) :
    Calls Try.prog 51 #[.pointer (some ⟨p, 0, none⟩), .int .u8 13] w (StepEnd w S p X ((lineV X.last (X.bs.drop k)).map fun j => (out, k + j))) := by
  have hP := peek_any h
  obtain ⟨V, hV⟩ : ∃ V, V = (lineV X.last (X.bs.drop k)).map fun j => (out, k + j) := ⟨_, rfl⟩
  rw [← hV]
  unfold peekV at hP
  by_cases hk : k < X.bs.length
  · rw [if_pos hk] at hP
    rw [drop_cons hk] at hV
    simp only [lineV, Option.map_some] at hV
    have HQ := Lib.hid h
    have HP := Lib.hid hP
    have hsm : X.bs.length ≤ 100000 := by obtain ⟨_, _, h⟩ := h; exact h.small
    unfold u8C at HP
    by_cases h10 : X.bs.getD k 0 = 10
    · rw [if_pos h10] at hV
      have HV := Lib.hid hV
      rw [h10] at HP
      clear hV hP h h10
      go_enter Try.func51, Try.ntmps51
      go_wp2_with fail
      refine HP.out.mono ?_
      rintro e w1 ⟨rfl, q, rfl⟩
      have h1 := HQ.out.drewN q
      obtain ⟨ad, v, h1⟩ := h1
      obtain ⟨-, -, -, c3, -⟩ := h1.cells
      have f3 := h1.free 3
      have HM := Lib.hid (ScNext.drew q (h1.move (k + 1) (by omega) (by omega)))
      clear h1
      go_wp2
      go_ret
      rw [HV.out]
      exact ⟨rfl, HM.out⟩
    · rw [if_neg h10] at hV
      have HV := Lib.hid hV
      have h10d : (((X.bs.getD k 0).toNat : Int) == 10) = false := by
        rw [beq_eq_false_iff_ne]; intro e; exact h10 (UInt8.toNat_inj.1 (Int.ofNat_inj.1 e))
      generalize (X.bs.getD k 0).toNat = x at *
      clear hV hP h h10
      go_enter Try.func51, Try.ntmps51
      go_wp2_with fail
      refine HP.out.mono ?_
      rintro e w1 ⟨rfl, q, rfl⟩
      have HN := Lib.hid (ScNext.drew q (ScNext.refl (HQ.out.drewN q)))
      go_wp2
      go_ret
      rw [HV.out]
      exact ⟨rfl, HN.out⟩
  · rw [if_neg hk] at hP
    rw [drop_nil hk] at hV
    simp only [lineV] at hV
    have HV := Lib.hid hV
    have HQ := Lib.hid h
    have HP := Lib.hid hP
    clear hV hP h hk
    obtain ⟨l, hl⟩ : ∃ l, X.last = l := ⟨_, rfl⟩
    rw [hl] at HV
    have HL := Lib.hid hl
    clear hl
    cases l
    all_goals
      go_enter Try.func51, Try.ntmps51
      go_wp2_with fail
      refine HP.out.mono ?_
      rintro e w1 ⟨rfl, q, rfl⟩
      have h1 := HQ.out.drewN q
      have HN := Lib.hid (ScNext.drew q (ScNext.refl h1))
      obtain ⟨ad, v, h1⟩ := h1
      obtain ⟨-, -, -, -, c4⟩ := h1.cells
      rw [HL.out] at c4
      clear h1
      go_wp2
      go_ret
      rw [HV.out]
    · exact ⟨rfl, _, _, HN.out⟩
    · exact ⟨rfl, HN.out⟩
end Go.Proofs.Ytmejhjgdofncfaa
/-
  Values (trees of four cells) in memory: words that name no function.
-/
namespace Go.Proofs.Ytmejhjgdofncfaa
open Go.RowKit

/-- The four cells of a value whose last field is sl. -/
def pvC (v : PV) (sl : Value) : List Value := [.int .i64 v.kind, .int .i64 v.n, .string (mkB v.s), sl]
def pvA (v : PV) (sl : Value) : Value := .agg #[.int .i64 v.kind, .int .i64 v.n, .string (mkB v.s), sl]
mutual
/-- sl is the slice of the values in v, in memory that F knows. -/
def IsV (w : World) (F : Nat → Prop) : PV → Value → Prop
  | .mk _ _ _ l, sl => ∃ a cap cs, sl = .slice a l.length cap ∧ Row w 4 a l.length cap cs ∧ (0 < l.length → ∀ x, a = some x → F x.block) ∧ IsVs w F l cs
def IsVs (w : World) (F : Nat → Prop) : List PV → List Value → Prop
  | [], cs => cs = []
  | v :: l, cs => ∃ sl t, cs = pvC v sl ++ t ∧ IsV w F v sl ∧ IsVs w F l t
end

theorem pv_eta (v : PV) : PV.mk v.kind v.n v.s v.l = v := by cases v; rfl
theorem IsV.mk {w : World} {F : Nat → Prop} {v : PV} {a : Option Addr} {cap : Nat} {cs : List Value} (hr : Row w 4 a v.l.length cap cs) (hF : 0 < v.l.length → ∀ x, a = some x → F x.block) (h : IsVs w F v.l cs) : IsV w F v (.slice a v.l.length cap) := by
  cases v; exact ⟨a, cap, cs, rfl, hr, hF, h⟩
theorem IsV.out {w : World} {F : Nat → Prop} {v : PV} {sl : Value} (h : IsV w F v sl) : ∃ a cap cs, sl = .slice a v.l.length cap ∧ Row w 4 a v.l.length cap cs ∧ (0 < v.l.length → ∀ x, a = some x → F x.block) ∧ IsVs w F v.l cs := by
  cases v; exact h
theorem IsV.leaf (w : World) (F : Nat → Prop) (v : PV) (h : v.l = []) : IsV w F v (.slice none 0 0) := by
  have := IsV.mk (w := w) (F := F) (v := v) (a := none) (cap := 0) (cs := []) (by rw [h]; exact Row.nil w 4) (by rw [h]; intro h; cases h) (by rw [h]; rfl)
  rw [h] at this; exact this
theorem IsVs.length {w : World} {F : Nat → Prop} : ∀ {l : List PV} {cs : List Value}, IsVs w F l cs → cs.length = l.length * 4
  | [], _, h => by cases h; rfl
  | v :: l, _, ⟨sl, t, h, _, ht⟩ => by subst h; have := IsVs.length ht; simp [pvC]; omega

/-- What was there stays, in the blocks that F knows. -/
def Stays (F : Nat → Prop) (w w' : World) : Prop := w.heap.size ≤ w'.heap.size ∧ ∀ b, b < w.heap.size → F b → w'.heap[b]? = w.heap[b]?
theorem Row.stays {F : Nat → Prop} {w w' : World} {sz : Nat} {a : Option Addr} {n cap : Nat} {xs : List Value} (h : Row w sz a n cap xs) (hk : Stays F w w') (hne : 0 < n → ∀ x, a = some x → F x.block) : Row w' sz a n cap xs := by
  obtain ⟨h1, h2, h3, h4, h5⟩ := h
  refine ⟨h1, h2, h3, h4, fun hn => ?_⟩
  obtain ⟨b, off, ha, hlt, hc⟩ := h5 hn
  refine ⟨b, off, ha, Nat.lt_of_lt_of_le hlt hk.1, fun j u hj => ?_⟩
  rw [World.cell?_of_block (w := w) (a := ⟨b, off + j, none⟩) (hk.2 b hlt (hne hn _ ha))]
  exact hc j u hj
mutual
theorem IsV.keep {w w' : World} {F G : Nat → Prop} (hk : Stays F w w') (hG : ∀ b, F b → G b) : ∀ (v : PV) {sl : Value}, IsV w F v sl → IsV w' G v sl
  | .mk _ _ _ l, _, ⟨a, cap, cs, h, hr, hF, hs⟩ => ⟨a, cap, cs, h, hr.stays hk hF, fun h0 x hx => hG _ (hF h0 x hx), IsVs.keep hk hG l hs⟩
theorem IsVs.keep {w w' : World} {F G : Nat → Prop} (hk : Stays F w w') (hG : ∀ b, F b → G b) : ∀ (l : List PV) {cs : List Value}, IsVs w F l cs → IsVs w' G l cs
  | [], _, h => h
  | v :: l, _, ⟨sl, t, h, hv, ht⟩ => ⟨sl, t, h, IsV.keep hk hG v hv, IsVs.keep hk hG l ht⟩
end
theorem Stays.refl (F : Nat → Prop) (w : World) : Stays F w w := ⟨Nat.le_refl _, fun _ _ _ => rfl⟩
theorem Stays.of_below {F : Nat → Prop} {w w' : World} (h : Below w.heap.size w w') : Stays F w w' := ⟨h.size, fun b hb _ => h.block b hb⟩
theorem Stays.of_keeps {F S : Nat → Prop} {w w' : World} (h : Keeps S w w') (hn : ∀ b, F b → ¬ S b) : Stays F w w' := ⟨h.size, fun b hb hF => h.block b hb (hn b hF)⟩
theorem Stays.trans {F : Nat → Prop} {a b c : World} (h : Stays F a b) (k : Stays F b c) : Stays F a c := ⟨Nat.le_trans h.1 k.1, fun x hx hF => (k.2 x (Nat.lt_of_lt_of_le hx h.1) hF).trans (h.2 x hx hF)⟩
theorem IsV.below {w w' : World} {F : Nat → Prop} {v : PV} {sl : Value} (h : IsV w F v sl) (hb : Below w.heap.size w w') : IsV w' F v sl := IsV.keep (Stays.of_below hb) (fun _ h => h) v h
theorem IsVs.below {w w' : World} {F : Nat → Prop} {l : List PV} {cs : List Value} (h : IsVs w F l cs) (hb : Below w.heap.size w w') : IsVs w' F l cs := IsVs.keep (Stays.of_below hb) (fun _ h => h) l h
theorem IsV.weaken {w : World} {F G : Nat → Prop} {v : PV} {sl : Value} (h : IsV w F v sl) (hG : ∀ b, F b → G b) : IsV w G v sl := IsV.keep (Stays.refl F w) hG v h
theorem IsVs.weaken {w : World} {F G : Nat → Prop} {l : List PV} {cs : List Value} (h : IsVs w F l cs) (hG : ∀ b, F b → G b) : IsVs w G l cs := IsVs.keep (Stays.refl F w) hG l h
theorem IsVs.append {w : World} {F : Nat → Prop} : ∀ {l m : List PV} {cs ds : List Value}, IsVs w F l cs → IsVs w F m ds → IsVs w F (l ++ m) (cs ++ ds)
  | [], _, _, _, h, hm => by cases h; exact hm
  | v :: l, _, _, _, ⟨sl, t, h, hv, ht⟩, hm => ⟨sl, t ++ _, by subst h; simp, hv, IsVs.append ht hm⟩
theorem IsVs.one {w : World} {F : Nat → Prop} {v : PV} {sl : Value} (h : IsV w F v sl) : IsVs w F [v] (pvC v sl) := ⟨sl, [], by simp, h, rfl⟩
theorem IsVs.snoc {w : World} {F : Nat → Prop} {l : List PV} {cs : List Value} {v : PV} {sl : Value} (h : IsVs w F l cs) (hv : IsV w F v sl) : IsVs w F (l ++ [v]) (cs ++ pvC v sl) := h.append (IsVs.one hv)
/-- One of them. -/
theorem IsVs.get {w : World} {F : Nat → Prop} : ∀ {l : List PV} {cs : List Value}, IsVs w F l cs → ∀ (k : Nat) (v : PV), l[k]? = some v → ∃ sl, IsV w F v sl ∧ cs[k * 4]? = some (.int .i64 v.kind) ∧ cs[k * 4 + 1]? = some (.int .i64 v.n) ∧ cs[k * 4 + 2]? = some (.string (mkB v.s)) ∧ cs[k * 4 + 3]? = some sl
  | [], _, _, _, _, hk => by simp at hk
  | x :: l, _, ⟨sl, t, h, hv, ht⟩, 0, v, hk => by
    simp at hk; subst hk h
    exact ⟨sl, hv, rfl, rfl, rfl, rfl⟩
  | x :: l, _, ⟨sl, t, h, hv, ht⟩, k + 1, v, hk => by
    subst h
    obtain ⟨s2, h1, h2, h3, h4, h5⟩ := ht.get k v (by simpa using hk)
    refine ⟨s2, h1, ?_, ?_, ?_, ?_⟩
    · rw [show (k + 1) * 4 = 4 + k * 4 by omega, List.getElem?_append_right (by simp [pvC])]; simpa [pvC] using h2
    · rw [show (k + 1) * 4 + 1 = 4 + (k * 4 + 1) by omega, List.getElem?_append_right (by simp [pvC])]; simpa [pvC] using h3
    · rw [show (k + 1) * 4 + 2 = 4 + (k * 4 + 2) by omega, List.getElem?_append_right (by simp [pvC])]; simpa [pvC] using h4
    · rw [show (k + 1) * 4 + 3 = 4 + (k * 4 + 3) by omega, List.getElem?_append_right (by simp [pvC])]; simpa [pvC] using h5
/-- The cells of one of them, in memory. -/
theorem IsV.at {w : World} {F : Nat → Prop} {v : PV} {a : Option Addr} {n cap : Nat} (h : IsV w F v (.slice a n cap)) (hn : 0 < n) :
    n = v.l.length ∧ n ≤ cap ∧ cap ≤ maxLen ∧ ∃ b off, a = some ⟨b, off, none⟩ ∧ b < w.heap.size ∧ F b ∧ ∀ k x, v.l[k]? = some x → ∃ sl, IsV w F x sl ∧ w.cell? ⟨b, off + k * 4, none⟩ = some (.int .i64 x.kind) ∧
      w.cell? ⟨b, off + k * 4 + 1, none⟩ = some (.int .i64 x.n) ∧ w.cell? ⟨b, off + k * 4 + 2, none⟩ = some (.string (mkB x.s)) ∧ w.cell? ⟨b, off + k * 4 + 3, none⟩ = some sl := by
  obtain ⟨a', cap', cs, e, hr, hF, hs⟩ := h.out
  simp only [Value.slice.injEq] at e
  obtain ⟨rfl, rfl, rfl⟩ := e
  obtain ⟨b, off, rfl, hb, hc⟩ := hr.2.2.2.2 hn
  refine ⟨rfl, hr.2.1, hr.2.2.1, b, off, rfl, hb, hF hn _ rfl, fun k x hx => ?_⟩
  obtain ⟨sl, h1, h2, h3, h4, h5⟩ := hs.get k x hx
  exact ⟨sl, h1, hc _ _ h2, (Nat.add_assoc off (k * 4) 1).symm ▸ hc _ _ h3, (Nat.add_assoc off (k * 4) 2).symm ▸ hc _ _ h4, (Nat.add_assoc off (k * 4) 3).symm ▸ hc _ _ h5⟩
theorem IsV.len {w : World} {F : Nat → Prop} {v : PV} {sl : Value} (h : IsV w F v sl) : ∃ a cap, sl = .slice a v.l.length cap ∧ v.l.length ≤ cap ∧ cap ≤ maxLen ∧ (a = none → cap = 0) := by
  obtain ⟨a, cap, cs, e, hr, _⟩ := h.out
  exact ⟨a, cap, e, hr.2.1, hr.2.2.1, hr.2.2.2.1⟩
end Go.Proofs.Ytmejhjgdofncfaa
