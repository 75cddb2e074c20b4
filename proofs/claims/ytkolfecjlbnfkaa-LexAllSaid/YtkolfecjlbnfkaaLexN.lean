/-
  Walks of layer 10's reference: a text in hex, where regular bytes end.
-/
import Derived.Test.YtkolfecjlbnfkaaLexM
namespace Go.Proofs.Ytkolfecjlbnfkaa
open Go.RowKit

/-- Two digits a byte. -/
def pk : List Int → List UInt8
  | a :: b :: t => UInt8.ofNat (16 * a + b).toNat :: pk t
  | _ => []
theorem pk_append : ∀ (n : Nat) (l m : List Int), l.length = 2 * n → pk (l ++ m) = pk l ++ pk m
  | 0, l, m, h => by
    obtain rfl : l = [] := List.eq_nil_of_length_eq_zero (by omega)
    rfl
  | n + 1, l, m, h => by
    rcases l with _ | ⟨a, _ | ⟨b, t⟩⟩
    · simp at h
    · simp at h; omega
    · simp only [List.cons_append, pk]
      rw [pk_append n t m (by simp at h; omega)]
/-- How digits stand to what is put together. -/
structure DgP (ds : List Int) (out : List UInt8) (half : Int) : Prop where
  bd : ∀ d ∈ ds, 0 ≤ d ∧ d ≤ 15
  form : ∃ ps : List Int, ps.length = 2 * out.length ∧ pk ps = out ∧ ((half = -1 ∧ ds = ps) ∨ (0 ≤ half ∧ ds = ps ++ [half]))
theorem DgP.nil : DgP [] [] (-1) := ⟨fun d h => (by cases h), [], rfl, rfl, .inl ⟨rfl, rfl⟩⟩
theorem DgP.put {ds : List Int} {out : List UInt8} {half : Int} (h : DgP ds out half) {d : Int} (h0 : 0 ≤ d) (h1 : d ≤ 15) : (half < 0 → DgP (ds ++ [d]) out d) ∧ (0 ≤ half → DgP (ds ++ [d]) (out ++ [UInt8.ofNat (16 * half + d).toNat]) (-1)) := by
  obtain ⟨hb, ps, hl, hp, hf⟩ := h
  have hb2 : ∀ x ∈ ds ++ [d], 0 ≤ x ∧ x ≤ 15 := fun x hx => by
    rcases List.mem_append.1 hx with h | h
    · exact hb x h
    · simp at h; subst h; exact ⟨h0, h1⟩
  refine ⟨fun hn => ⟨hb2, ps, hl, hp, .inr ⟨h0, ?_⟩⟩, fun hn => ⟨hb2, ds ++ [d], ?_, ?_, .inl ⟨rfl, rfl⟩⟩⟩
  · rcases hf with ⟨_, rfl⟩ | ⟨h, _⟩
    · rfl
    · omega
  · rcases hf with ⟨h, _⟩ | ⟨h, rfl⟩
    · omega
    · simp; omega
  · rcases hf with ⟨h, _⟩ | ⟨h, rfl⟩
    · omega
    · rw [List.append_assoc, pk_append _ _ _ hl, hp]; rfl
theorem DgP.odd {ds : List Int} {out : List UInt8} {half : Int} (h : DgP ds out half) : ((ds.length : Int) % 2 = 1 ↔ 0 ≤ half) ∧ (half < 0 → pk ds = out ∧ ds.length = 2 * out.length) ∧ (0 ≤ half → pk (ds ++ [0]) = out ++ [UInt8.ofNat (16 * half).toNat] ∧ (ds ++ [0]).length = 2 * (out ++ [UInt8.ofNat (16 * half).toNat]).length) := by
  obtain ⟨hb, ps, hl, hp, hf⟩ := h
  rcases hf with ⟨h, rfl⟩ | ⟨h, rfl⟩
  · exact ⟨by omega, fun _ => ⟨hp, hl⟩, fun h => by omega⟩
  · refine ⟨by simp; omega, fun h => by omega, fun _ => ⟨?_, by simp; omega⟩⟩
    rw [List.append_assoc, pk_append _ _ _ hl, hp]
    simp [pk]
theorem pk_get : ∀ (m : Nat) (ds : List Int), 2 * m + 1 < ds.length → (pk ds)[m]? = some (UInt8.ofNat (16 * ds.getD (2 * m) 0 + ds.getD (2 * m + 1) 0).toNat)
  | 0, ds, h => by
    rcases ds with _ | ⟨a, _ | ⟨b, t⟩⟩
    · simp at h
    · simp at h
    · simp [pk]
  | m + 1, ds, h => by
    rcases ds with _ | ⟨a, _ | ⟨b, t⟩⟩
    · simp at h
    · simp at h
    · simp only [pk, List.getElem?_cons_succ]
      rw [pk_get m t (by simp at h; omega)]
      simp [List.getD, show 2 * (m + 1) = 2 * m + 1 + 1 from by omega]
theorem take_next {X : List UInt8} {m : Nat} {c : UInt8} (h : X[m]? = some c) : X.take (m + 1) = X.take m ++ [c] := by
  have hm : m < X.length := (List.getElem?_eq_some_iff.1 h).1
  rw [List.take_succ_eq_append_getElem hm, (List.getElem?_eq_some_iff.1 h).2]

/-- What the document's hexes returns. -/
def HexREnd (bs : List UInt8) (last : Bool) (V : Int × List UInt8 × List UInt8) (w : World) (e : Ending) (w' : World) : Prop :=
  Below w.heap.size w w' ∧ ((V.1 = 1 ∧ e = .returned (.tuple #[.slice none 0 0, .int .i64 0, .int .i64 (openE last)])) ∨ (V.1 = 11 ∧ e = .returned (.tuple #[.slice none 0 0, .int .i64 0, .int .i64 11])) ∨
    (V.1 = 0 ∧ ∃ v, e = .returned (.tuple #[v, .int .i64 ((bs.length - V.2.2.length : Nat) : Int), .int .i64 0]) ∧ w'.ownsRow w.heap.size 5 1 v V.2.1.length (V.2.1.map u8C) ∧ V.2.2.length ≤ bs.length))
theorem hexR_open {bs : List UInt8} {last : Bool} {V : Int × List UInt8 × List UInt8} {w w' : World} (hV : V = (1, [], [])) (hb : Below w.heap.size w w') : HexREnd bs last V w (.returned (.tuple #[.slice none 0 0, .int .i64 0, .int .i64 (openE last)])) w' := by
  subst hV; exact ⟨hb, .inl ⟨rfl, rfl⟩⟩
theorem hexR_form {bs : List UInt8} {last : Bool} {V : Int × List UInt8 × List UInt8} {w w' : World} (hV : V = (11, [], [])) (hb : Below w.heap.size w w') : HexREnd bs last V w (.returned (.tuple #[.slice none 0 0, .int .i64 0, .int .i64 11])) w' := by
  subst hV; exact ⟨hb, .inr (.inl ⟨rfl, rfl⟩)⟩
theorem hexR_some {bs : List UInt8} {last : Bool} {V : Int × List UInt8 × List UInt8} {w w' : World} {v : Value} {o : List UInt8} {j : Nat} {n : Int} (hV : V = (0, o, bs.drop j)) (hj : j ≤ bs.length) (hn : n = (j : Int)) (hO : w'.ownsRow w.heap.size 5 1 v o.length (o.map u8C)) (hb : Below w.heap.size w w') :
    HexREnd bs last V w (.returned (.tuple #[v, .int .i64 n, .int .i64 0])) w' := by
  subst hV; subst hn
  refine ⟨hb, .inr (.inr ⟨rfl, v, ?_, hO, by simp⟩)⟩
  simp only
  rw [List.length_drop, show bs.length - (bs.length - j) = j from by omega]

def i64C (x : Int) : Value := .int .i64 x
theorem EInt : ElemT Try.prog 68 3 (.int .i64 0) 1 8 := ⟨Try.underlying68, by kernel_rfl, rfl, by omega⟩
/-- What is kept while digits are gathered. -/
structure DgM (w : World) (v : Value) (ds : List Int) (wr : World) : Prop where
  row : wr.ownsRow w.heap.size 3 1 v ds.length (ds.map i64C)
  bel : Below w.heap.size w wr
theorem DgM.put {w wr w5 : World} {v v' : Value} {ds : List Int} (h : DgM w v ds wr) (d : Int) (O : Obj) (hO5 : w5.ownsRow w.heap.size 3 1 v' (ds.length + 1) (ds.map i64C ++ [.int .i64 d])) (hg5 : (wr.alloc O).grownBy w5 v.ownBlock) : DgM w v' (ds ++ [d]) w5 :=
  ⟨by have h := hO5; simpa [i64C] using h, (h.bel.alloc h.bel.size _).grown hg5 (by rw [sizeA]; have := h.bel.size; omega) (fun q hq => (h.row.lt q hq).1)⟩
theorem DgM.len {w wr : World} {v : Value} {ds : List Int} (h : DgM w v ds wr) : ∃ a cap, v = .slice a ds.length cap ∧ Row wr 1 a ds.length cap (ds.map i64C) := by
  obtain ⟨a, cap, hv, hr, -⟩ := Row.of_owns h.row
  exact ⟨a, cap, hv, hr⟩
end Go.Proofs.Ytkolfecjlbnfkaa
