/-
  The document's Next: what is needed ahead of its walk.
-/
import Derived.Test.YtkolfecjlbnfkaaLexR
import Derived.Test.YtkolfecjlbnfkaaLexK
import Derived.Test.YtkolfecjlbnfkaaLexQ
import Derived.Test.YtkolfecjlbnfkaaNumT
namespace Go.Proofs.Ytkolfecjlbnfkaa
open Go.RowKit

/-- Amid the document's Next: the block of the result, and that of 'no'. -/
structure Rx (w : World) (r n : Nat) (f : Nat) (W : World) : Prop where
  blk : W.heap[r]? = some (.cells #[.int .i64 0, .int .i64 0, .int .i64 0, .int .i64 0, .int .i64 0, .string ⟨#[]⟩, .slice none 0 0, .string ⟨#[]⟩] 32 (0, 0))
  no : W.heap[n]? = some (.cells #[.int .i64 0, .int .i64 f, .int .i64 f, .int .i64 0, .int .i64 0, .string ⟨#[]⟩, .slice none 0 0, .string ⟨#[]⟩] 32 (0, 0))
  bel : Below w.heap.size w W
  wr : w.heap.size ≤ r
theorem Rx.on {w W W' : World} {r n f : Nat} (h : Rx w r n f W) (hb : Below W.heap.size W W') : Rx w r n f W' := ⟨block_keep hb h.blk, block_keep hb h.no, h.bel.trans (hb.mono h.bel.size), h.wr⟩
theorem Rx.alloc {w W : World} {r n f : Nat} (h : Rx w r n f W) (o : Obj) : Rx w r n f (W.alloc o) := h.on (belowA W o)
theorem next_fin {w W : World} {r : Nat} {V : Tk × Int × Int × Int} {x : Tk} {f t er : Int} (hb : Below w.heap.size w W) (hr : w.heap.size ≤ r) (hV : V = (x, f, t, er)) (y0 y1 y2 y3 y4 y5 y6 y7 : Value) :
    NextEnd w V (.returned (.tuple #[.agg (tokN x f t), .int .i64 er]))
      ((((((((W.setCell ⟨r, 0, none⟩ y0).setCell ⟨r, 1, none⟩ y1).setCell ⟨r, 2, none⟩ y2).setCell ⟨r, 3, none⟩ y3).setCell ⟨r, 4, none⟩ y4).setCell ⟨r, 5, none⟩ y5).setCell ⟨r, 6, none⟩ y6).setCell ⟨r, 7, none⟩ y7) := by
  subst hV; exact ⟨rfl, below_set8 hb hr _ _ _ _ _ _ _ _⟩

theorem nextF_at {bs : List UInt8} {f : Nat} (last : Bool) (h : f < bs.length) : nextF bs f last = if (tokV last (bs.getD f 0) (bs.drop (f + 1))).1 = 0 then ((tokV last (bs.getD f 0) (bs.drop (f + 1))).2.1, (f : Int), (bs.length : Int) - ((tokV last (bs.getD f 0) (bs.drop (f + 1))).2.2.length : Int), 0) else ({ kind := 0 }, (f : Int), (f : Int), (tokV last (bs.getD f 0) (bs.drop (f + 1))).1) := nextF_cons last (drop_cons h)
theorem nextF_ok {bs : List UInt8} {f j : Nat} {last : Bool} (h : f < bs.length) {c : UInt8} (hc : bs.getD f 0 = c) {x : Tk} (ht : tokV last c (bs.drop (f + 1)) = (0, x, bs.drop j)) (hj : j ≤ bs.length) : nextF bs f last = (x, (f : Int), (j : Int), 0) := by
  rw [nextF_at last h, hc, ht, if_pos rfl]
  simp only [List.length_drop]
  congr 3; omega
theorem nextF_len {bs : List UInt8} {f : Nat} {last : Bool} (h : f < bs.length) {c : UInt8} (hc : bs.getD f 0 = c) {x : Tk} {r : List UInt8} (ht : tokV last c (bs.drop (f + 1)) = (0, x, r)) (hj : r.length ≤ bs.length) : nextF bs f last = (x, (f : Int), ((bs.length - r.length : Nat) : Int), 0) := by
  rw [nextF_at last h, hc, ht, if_pos rfl]
  simp only
  congr 3; omega
theorem nextF_no {bs : List UInt8} {f : Nat} {last : Bool} (h : f < bs.length) {c : UInt8} (hc : bs.getD f 0 = c) {e : Int} (ht : (tokV last c (bs.drop (f + 1))).1 = e) (he : e ≠ 0) : nextF bs f last = ({ kind := 0 }, (f : Int), (f : Int), e) := by
  rw [nextF_at last h, hc, if_neg (by rw [ht]; exact he), ht]
theorem tokV_62 (last : Bool) (t : List UInt8) : tokV last 62 t = match t with
      | [] => (if last then 11 else 6, { kind := 0 }, [])
      | d :: u => if d = 62 then (0, { kind := 5 }, u) else (11, { kind := 0 }, []) := by
  unfold tokV
  rw [if_neg (by decide), if_neg (by decide), if_neg (by decide), if_neg (by decide), if_pos rfl]
  cases t <;> rfl
theorem tokV_60 (last : Bool) (t : List UInt8) (h : ∀ u, t ≠ 60 :: u) : tokV last 60 t = hexK last (hexV [] (-1) t) := by
  have := tokV_open ⟨none, 0, t, last⟩ 0
  rw [List.drop_zero] at this
  rw [this]
  cases t with
  | nil => rfl
  | cons d u =>
    rw [opV_in (X := ⟨none, 0, d :: u, last⟩) (k := 0) (by simp), if_neg (by simp; intro e; subst e; exact h u rfl)]
    rfl
theorem skip_here {bs : List UInt8} {k : Int} {f : Nat} (h0 : 0 ≤ k) (h1 : k ≤ bs.length) (hf : skipV bs k = f) (hl : f < bs.length) : bs.getD f 0 ≠ 37 ∧ isSp (bs.getD f 0) = false := by
  have hi := skipV_idem h0 h1
  rw [hf] at hi
  have h2 : f + skipN false (bs.drop f) = f := by
    have : skipV bs (f : Int) = f + skipN false (bs.drop f) := by
      unfold skipV; rw [if_neg (by omega), if_neg (by omega), Int.toNat_natCast]
    rw [← this]; exact hi
  rw [drop_cons hl] at h2
  refine ⟨fun e => ?_, ?_⟩
  · rw [skipN, if_pos e] at h2; omega
  · by_cases e : bs.getD f 0 = 37
    · rw [skipN, if_pos e] at h2; omega
    · cases hs : isSp (bs.getD f 0) with
      | false => rfl
      | true => rw [skipN, if_neg e, if_pos hs] at h2; omega
/-- The result is told: hexes' is not looked at. -/
theorem HexREnd.some_end {bs : List UInt8} {last : Bool} {V : Int × List UInt8 × List UInt8} {w w' : World} {e : Ending} (h : HexREnd bs last V w e w') : ∃ v n er, e = .returned (.tuple #[v, .int .i64 n, .int .i64 er]) ∧ Below w.heap.size w w' := by
  obtain ⟨hb, ⟨-, h⟩ | ⟨-, h⟩ | ⟨-, v, h, -, -⟩⟩ := h
  · exact ⟨_, _, _, h, hb⟩
  · exact ⟨_, _, _, h, hb⟩
  · exact ⟨_, _, _, h, hb⟩
end Go.Proofs.Ytkolfecjlbnfkaa
