/-
  What the walk of the law HuffBack needs beside its callees.
-/
import Derived.Test.YtbmhdacedicbjaaPut
import Derived.Test.YtbmhdacedicbjaaWorks4
import Derived.Test.YtbmhdacedicbjaaStab2
namespace Go.Proofs.Ytbmhdacedicbjaa
open Go.RowKit Go.Sort

theorem bitsOf_len (l : List Int) (h15 : ∀ s, lenN l s ≤ 15) : ∀ ss : List Nat, (bitsOf l ss).length ≤ 15 * ss.length
  | [] => by simp [bitsOf]
  | s :: ss => by
    have := bitsOf_len l h15 ss
    have := h15 s
    simp only [bitsOf, List.length_append, codeL_len, List.length_cons]; omega
theorem lenN_le {l : List Int} (hok1 : hok l = true) (s : Nat) : lenN l s ≤ 15 := by
  unfold lenN
  by_cases h : s < l.length
  · have := hok_mem hok1 (l.getD s 0) (by simp [List.getD, h]); omega
  · simp [List.getD, h]

theorem WrQ.keeps {w w' : World} {S T : Nat → Prop} {wb : Nat} {high : Bool} {B : List Bool} (h : WrQ w S wb high B) (hk : Keeps T w w') (hT : ∀ b, S b → ¬ T b) : WrQ w' S wb high B := by
  obtain ⟨bs, v, hw, hq⟩ := h
  exact ⟨bs, v, ⟨hk.obj hw.blk (hT wb hw.own), owns_keeps hw.row hk (fun b hb => hT b (hw.at_ b hb)), hw.at_, hw.own, fun b hb => ⟨(hw.lt b hb).1, Nat.lt_of_lt_of_le (hw.lt b hb).2 hk.size⟩⟩, hq⟩
theorem WrQ.lt {w : World} {S : Nat → Prop} {wb : Nat} {high : Bool} {B : List Bool} (h : WrQ w S wb high B) : ∀ b, S b → wb ≤ b ∧ b < w.heap.size := by
  obtain ⟨bs, v, hw, hq⟩ := h
  exact hw.lt

/-- The symbols that were put, as cells. -/
def symV (ss : List Nat) : List Value := ss.map fun s : Nat => Value.int .i64 (s : Int)
theorem symV_snoc (ss : List Nat) (s : Nat) : symV (ss ++ [s]) = symV ss ++ [.int .i64 (s : Int)] := by simp [symV]

/-- What the first loop keeps. -/
structure BackAt (l : List Int) (high : Bool) (wb : Nat) (w2 : World) (ss : List Nat) (v : Value) (S : Nat → Prop) (wr : World) : Prop where
  wr_ : WrQ wr S wb high (bitsOf l ss)
  own : wr.ownsRow (wb + 1) 3 1 v ss.length (symV ss)
  apart : ∀ b, v.ownBlock = some b → ¬ S b
  below : Below wb w2 wr
  may : ∀ s ∈ ss, s < l.length ∧ 0 < l.getD s 0

theorem BackAt.next {l : List Int} {high : Bool} {wb : Nat} {w2 wr w5 w6 : World} {ss : List Nat} {s : Nat} {v v' : Value} {S : Nat → Prop} (h : BackAt l high wb w2 ss v S wr) (hs : s < l.length) (hp : 0 < l.getD s 0) (hwb : wb ≤ w2.heap.size)
    (hn : WrNext wr S wb high (bitsOf l ss ++ codeL l s (lenN l s)) w5) (o : Obj) (hO : w6.ownsRow (wb + 1) 3 1 v' (ss.length + 1) (symV ss ++ [.int .i64 (s : Int)])) (hg : (w5.alloc o).grownBy w6 v.ownBlock) (hN : NewAt (w5.alloc o) v v') :
    ∃ S', BackAt l high wb w2 (ss ++ [s]) v' S' w6 := by
  obtain ⟨S2, hq, hk, hS⟩ := hn
  rw [← bitsOf_snoc] at hq
  have hlt := hq.lt
  have hlt0 := h.wr_.lt
  have hb2 := h.below.size
  have hv2 : ∀ b, v.ownBlock = some b → ¬ S2 b := fun b hb hc => by
    have h1 := h.own.lt b hb
    rcases hS b hc with h2 | h2
    · exact h.apart b hb h2
    · omega
  have hk2 : Keeps (fun b => v.ownBlock = some b) w5 w6 := ((Keeps.refl _ w5).alloc o).grown hg (fun k hk => .inl hk)
  refine ⟨S2, ⟨hq.keeps hk2 (fun b hb hc => hv2 b hc hb), ?_, fun b hb hc => ?_, ?_, fun x hx => ?_⟩⟩
  · rw [symV_snoc, List.length_append]; exact hO
  · rcases hN b hb with h1 | h1
    · exact hv2 b h1 hc
    · rw [sizeA] at h1; have := (hlt b hc).2; omega
  · refine h.below.trans (Below.trans (hk.below (B := wb) (by omega) (fun b hb => (hlt0 b hb).1)) ?_)
    exact hk2.below (by have := hk.size; omega) (fun b hb => by have := (h.own.lt b hb).1; omega)
  · rcases List.mem_append.1 hx with h1 | h1
    · exact h.may x h1
    · simp at h1; subst h1; exact ⟨hs, hp⟩

/-- The next symbol that is read. -/
theorem back_take {l : List Int} (hroom : 0 ≤ roomV l) {ss : List Nat} (hmay : ∀ s ∈ ss, s < l.length ∧ 0 < l.getD s 0) {bs : List UInt8} {high : Bool} (hW : Wrote bs high (bitsOf l ss)) (k : Nat) (hk : k < ss.length) :
    takeV l (fun i => bitAt bs high ((bitsOf l (ss.take k)).length + i)) (8 * bs.length - (bitsOf l (ss.take k)).length) = (ss.getD k 0, lenN l (ss.getD k 0), 0) := by
  have hs := hmay (ss.getD k 0) (by simp [List.getD, hk])
  have h1 := bitsOf_take l ss k hk
  have h2 := bitsOf_le l ss (k + 1)
  have h3 := hW.1
  refine take_code hroom hs.1 hs.2 (by omega) (fun i hi => ?_)
  rw [hW.2 _ (by omega)]
  exact bitsOf_at l ss k hk i hi
end Go.Proofs.Ytbmhdacedicbjaa
