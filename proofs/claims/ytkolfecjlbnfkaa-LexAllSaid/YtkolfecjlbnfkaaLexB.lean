/-
  Walks of layer 10: tokens of one sign, or two; of regular bytes.
-/
import Derived.Test.YtkolfecjlbnfkaaLex8
import Derived.Test.YtkolfecjlbnfkaaLex9
import Derived.Test.YtkolfecjlbnfkaaLexA
namespace Go.Proofs.Ytkolfecjlbnfkaa
open Go.RowKit

def tokC (kind f t vk vn : Int) (vs s : ByteArray) : Array Value := #[.int .i64 kind, .int .i64 f, .int .i64 t, .int .i64 vk, .int .i64 vn, .string vs, .slice none 0 0, .string s]
theorem infoTok : (Try.prog.info? 28).map (·.size) = some 8 := by kernel_rfl
/-- What a token leaves. -/
def TokEnd (w : World) (S : Nat → Prop) (p : Nat) (X : Src) (V : Int × Tk × List UInt8) (e : Ending) (w' : World) : Prop :=
  Keeps S w w' ∧ ∃ (k vk vn : Int) (vs s : ByteArray), e = .returned (.tuple #[.agg (tokC k 0 0 vk vn vs s), .int .i64 V.1]) ∧
    (V.1 = 0 → k = V.2.1.kind ∧ vk = V.2.1.vk ∧ vn = V.2.1.vn ∧ vs = mkB V.2.1.vs ∧ s = mkB V.2.1.s ∧ V.2.2.length ≤ X.bs.length ∧ w'.cell? ⟨p, 3, none⟩ = some (.int .i64 ((X.bs.length - V.2.2.length : Nat) : Int)))

theorem set8 {w : World} {b : Nat} {x0 x1 x2 x3 x4 x5 x6 x7 : Value} {t : TypeId} (h : w.heap[b]? = some (.cells #[x0, x1, x2, x3, x4, x5, x6, x7] t (0, 0))) (y0 y1 y2 y3 y4 y5 y6 y7 : Value) :
    ((((((((w.setCell ⟨b, 0, none⟩ y0).setCell ⟨b, 1, none⟩ y1).setCell ⟨b, 2, none⟩ y2).setCell ⟨b, 3, none⟩ y3).setCell ⟨b, 4, none⟩ y4).setCell ⟨b, 5, none⟩ y5).setCell ⟨b, 6, none⟩ y6).setCell ⟨b, 7, none⟩ y7).heap[b]? = some (.cells #[y0, y1, y2, y3, y4, y5, y6, y7] t (0, 0)) := by
  have h0 : (w.setCell ⟨b, 0, none⟩ y0).heap[b]? = some (.cells #[y0, x1, x2, x3, x4, x5, x6, x7] t (0, 0)) := heap_setCell_same w _ 0 _ _ _ h
  generalize w.setCell ⟨b, 0, none⟩ y0 = w0 at *
  have h1 : (w0.setCell ⟨b, 1, none⟩ y1).heap[b]? = some (.cells #[y0, y1, x2, x3, x4, x5, x6, x7] t (0, 0)) := heap_setCell_same w0 _ 1 _ _ _ h0
  generalize w0.setCell ⟨b, 1, none⟩ y1 = w1 at *
  have h2 : (w1.setCell ⟨b, 2, none⟩ y2).heap[b]? = some (.cells #[y0, y1, y2, x3, x4, x5, x6, x7] t (0, 0)) := heap_setCell_same w1 _ 2 _ _ _ h1
  generalize w1.setCell ⟨b, 2, none⟩ y2 = w2 at *
  have h3 : (w2.setCell ⟨b, 3, none⟩ y3).heap[b]? = some (.cells #[y0, y1, y2, y3, x4, x5, x6, x7] t (0, 0)) := heap_setCell_same w2 _ 3 _ _ _ h2
  generalize w2.setCell ⟨b, 3, none⟩ y3 = w3 at *
  have h4 : (w3.setCell ⟨b, 4, none⟩ y4).heap[b]? = some (.cells #[y0, y1, y2, y3, y4, x5, x6, x7] t (0, 0)) := heap_setCell_same w3 _ 4 _ _ _ h3
  generalize w3.setCell ⟨b, 4, none⟩ y4 = w4 at *
  have h5 : (w4.setCell ⟨b, 5, none⟩ y5).heap[b]? = some (.cells #[y0, y1, y2, y3, y4, y5, x6, x7] t (0, 0)) := heap_setCell_same w4 _ 5 _ _ _ h4
  generalize w4.setCell ⟨b, 5, none⟩ y5 = w5 at *
  have h6 : (w5.setCell ⟨b, 6, none⟩ y6).heap[b]? = some (.cells #[y0, y1, y2, y3, y4, y5, y6, x7] t (0, 0)) := heap_setCell_same w5 _ 6 _ _ _ h5
  generalize w5.setCell ⟨b, 6, none⟩ y6 = w6 at *
  exact heap_setCell_same w6 _ 7 _ _ _ h6
theorem keeps_set8 {S : Nat → Prop} {w W : World} (h : Keeps S w W) {r : Nat} (hr : w.heap.size ≤ r) (y0 y1 y2 y3 y4 y5 y6 y7 : Value) :
    Keeps S w ((((((((W.setCell ⟨r, 0, none⟩ y0).setCell ⟨r, 1, none⟩ y1).setCell ⟨r, 2, none⟩ y2).setCell ⟨r, 3, none⟩ y3).setCell ⟨r, 4, none⟩ y4).setCell ⟨r, 5, none⟩ y5).setCell ⟨r, 6, none⟩ y6).setCell ⟨r, 7, none⟩ y7) :=
  (((((((h.setCell (.inr hr) _).setCell (.inr hr) _).setCell (.inr hr) _).setCell (.inr hr) _).setCell (.inr hr) _).setCell (.inr hr) _).setCell (.inr hr) _).setCell (.inr hr) _
theorem set8_other {W : World} {b r : Nat} (hb : b ≠ r) (y0 y1 y2 y3 y4 y5 y6 y7 : Value) :
    ((((((((W.setCell ⟨r, 0, none⟩ y0).setCell ⟨r, 1, none⟩ y1).setCell ⟨r, 2, none⟩ y2).setCell ⟨r, 3, none⟩ y3).setCell ⟨r, 4, none⟩ y4).setCell ⟨r, 5, none⟩ y5).setCell ⟨r, 6, none⟩ y6).setCell ⟨r, 7, none⟩ y7).heap[b]? = W.heap[b]? := by
  rw [heap_setCell_other _ _ _ _ hb, heap_setCell_other _ _ _ _ hb, heap_setCell_other _ _ _ _ hb, heap_setCell_other _ _ _ _ hb, heap_setCell_other _ _ _ _ hb, heap_setCell_other _ _ _ _ hb, heap_setCell_other _ _ _ _ hb, heap_setCell_other _ _ _ _ hb]
theorem set8_cell {W : World} {b r : Nat} (hb : b ≠ r) (i : Nat) (y0 y1 y2 y3 y4 y5 y6 y7 : Value) :
    ((((((((W.setCell ⟨r, 0, none⟩ y0).setCell ⟨r, 1, none⟩ y1).setCell ⟨r, 2, none⟩ y2).setCell ⟨r, 3, none⟩ y3).setCell ⟨r, 4, none⟩ y4).setCell ⟨r, 5, none⟩ y5).setCell ⟨r, 6, none⟩ y6).setCell ⟨r, 7, none⟩ y7).cell? ⟨b, i, none⟩ = W.cell? ⟨b, i, none⟩ := by
  simp only [World.cell?]
  rw [set8_other hb]
def zT : Array Value := #[.int .i64 0, .int .i64 0, .int .i64 0, .int .i64 0, .int .i64 0, .string ⟨#[]⟩, .slice none 0 0, .string ⟨#[]⟩]
theorem cells8 {w : World} {b : Nat} {x0 x1 x2 x3 x4 x5 x6 x7 : Value} {t : TypeId} (h : w.heap[b]? = some (.cells #[x0, x1, x2, x3, x4, x5, x6, x7] t (0, 0))) :
    (w.cell? ⟨b, 0, none⟩ = some x0 ∧ w.cell? ⟨b, 1, none⟩ = some x1 ∧ w.cell? ⟨b, 2, none⟩ = some x2 ∧ w.cell? ⟨b, 3, none⟩ = some x3 ∧ w.cell? ⟨b, 4, none⟩ = some x4 ∧ w.cell? ⟨b, 5, none⟩ = some x5 ∧ w.cell? ⟨b, 6, none⟩ = some x6 ∧ w.cell? ⟨b, 7, none⟩ = some x7) ∧
    (w.frozen? ⟨b, 0, none⟩ = false ∧ w.frozen? ⟨b, 1, none⟩ = false ∧ w.frozen? ⟨b, 2, none⟩ = false ∧ w.frozen? ⟨b, 3, none⟩ = false ∧ w.frozen? ⟨b, 4, none⟩ = false ∧ w.frozen? ⟨b, 5, none⟩ = false ∧ w.frozen? ⟨b, 6, none⟩ = false ∧ w.frozen? ⟨b, 7, none⟩ = false) := by
  refine ⟨⟨?_, ?_, ?_, ?_, ?_, ?_, ?_, ?_⟩, frozen_of_row w b 0 _ _ h, frozen_of_row w b 1 _ _ h, frozen_of_row w b 2 _ _ h, frozen_of_row w b 3 _ _ h, frozen_of_row w b 4 _ _ h, frozen_of_row w b 5 _ _ h, frozen_of_row w b 6 _ _ h, frozen_of_row w b 7 _ _ h⟩
  · rw [cell_of_row w b 0 _ _ _ h]; rfl
  · rw [cell_of_row w b 1 _ _ _ h]; rfl
  · rw [cell_of_row w b 2 _ _ _ h]; rfl
  · rw [cell_of_row w b 3 _ _ _ h]; rfl
  · rw [cell_of_row w b 4 _ _ _ h]; rfl
  · rw [cell_of_row w b 5 _ _ _ h]; rfl
  · rw [cell_of_row w b 6 _ _ _ h]; rfl
  · rw [cell_of_row w b 7 _ _ _ h]; rfl
theorem tok_err {w w' : World} {S : Nat → Prop} {p : Nat} {X : Src} {V : Int × Tk × List UInt8} {er : Int} (hV : V.1 = er) (hn : er ≠ 0) (hk : Keeps S w w') (k vk vn : Int) (vs s : ByteArray) :
    TokEnd w S p X V (.returned (.tuple #[.agg (tokC k 0 0 vk vn vs s), .int .i64 er])) w' :=
  ⟨hk, k, vk, vn, vs, s, by rw [hV], fun h => absurd (hV.symm.trans h) hn⟩
theorem tok_ok {w w' : World} {S : Nat → Prop} {p : Nat} {X : Src} {V : Int × Tk × List UInt8} {x : Tk} {t : List UInt8} (hV : V = (0, x, t)) (hk : Keeps S w w') (ht : t.length ≤ X.bs.length) (hc : w'.cell? ⟨p, 3, none⟩ = some (.int .i64 ((X.bs.length - t.length : Nat) : Int))) :
    TokEnd w S p X V (.returned (.tuple #[.agg (tokC x.kind 0 0 x.vk x.vn (mkB x.vs) (mkB x.s)), .int .i64 0])) w' := by
  subst hV; exact ⟨hk, _, _, _, _, _, rfl, fun _ => ⟨rfl, rfl, rfl, rfl, rfl, ht, hc⟩⟩

def clV (X : Src) (k : Nat) : Int × Tk × List UInt8 := match X.bs.drop k with
  | [] => (if X.last then 11 else 6, { kind := 0 }, [])
  | d :: u => if d = 62 then (0, { kind := 5 }, u) else (11, { kind := 0 }, [])

theorem clV_in {X : Src} {k : Nat} (hk : k < X.bs.length) : clV X k = if X.bs.getD k 0 = 62 then (0, { kind := 5 }, X.bs.drop (k + 1)) else (11, { kind := 0 }, []) := by
  unfold clV; rw [drop_cons hk]
theorem clV_out {X : Src} {k : Nat} (hk : ¬ k < X.bs.length) : clV X k = (if X.last then 11 else 6, { kind := 0 }, []) := by
  unfold clV; rw [drop_nil (by omega)]

theorem ScQ.facts {w : World} {S : Nat → Prop} {p : Nat} {X : Src} {out : List UInt8} {k : Nat} (h : ScQ w S p X out k) : (∀ b, S b → b < w.heap.size) ∧ S p ∧ k ≤ X.bs.length ∧ X.bs.length ≤ 100000 ∧ w.cell? ⟨p, 3, none⟩ = some (.int .i64 k) ∧ w.cell? ⟨p, 4, none⟩ = some (.bool X.last) ∧ (∀ j, w.frozen? ⟨p, j, none⟩ = false) := by
  obtain ⟨_, _, h⟩ := h
  exact ⟨fun b hb => (h.lt b hb).2, h.own, h.le, h.small, h.cells.2.2.2.1, h.cells.2.2.2.2, h.free⟩
/-- The place goes on by one. -/
theorem ScQ.step {w : World} {S : Nat → Prop} {p : Nat} {X : Src} {out : List UInt8} {k : Nat} (h : ScQ w S p X out k) (hk : k < X.bs.length) : ScNext w S p X out (k + 1) (w.setCell ⟨p, 3, none⟩ (.int .i64 ((k : Int) + 1))) := by
  obtain ⟨_, _, h⟩ := h
  exact h.move (k + 1) hk (by omega)


/-- Amid a token: the scanner, and the block of the result. -/
structure Tm (w : World) (S : Nat → Prop) (p r : Nat) (X : Src) (k : Nat) (W : World) : Prop where
  sc : ScQ W S p X [] k
  blk : W.heap[r]? = some (.cells #[.int .i64 0, .int .i64 0, .int .i64 0, .int .i64 0, .int .i64 0, .string ⟨#[]⟩, .slice none 0 0, .string ⟨#[]⟩] 28 (0, 0))
  keeps : Keeps S w W
  pr : p ≠ r
  wr : w.heap.size ≤ r
  sr : ¬ S r
theorem Tm.start {w : World} {S : Nat → Prop} {p : Nat} {X : Src} {k : Nat} (h : ScQ w S p X [] k) : Tm w S p w.heap.size X k (w.alloc (.cells #[.int .i64 0, .int .i64 0, .int .i64 0, .int .i64 0, .int .i64 0, .string ⟨#[]⟩, .slice none 0 0, .string ⟨#[]⟩] 28)) :=
  ⟨h.keep (belowA w _), heapA_new _ rfl, (Keeps.refl S w).alloc _, by have := h.facts.1 p h.facts.2.1; omega, Nat.le_refl _, fun hS => by have := h.facts.1 _ hS; omega⟩
theorem Tm.drewN {w W : World} {S : Nat → Prop} {p r : Nat} {X : Src} {k : Nat} (h : Tm w S p r X k W) (q : Nat) : Tm w S p r X k (W.drewN q) :=
  ⟨h.sc.drewN q, h.blk, h.keeps.drewN q, h.pr, h.wr, h.sr⟩
theorem ScQ.next {w : World} {S : Nat → Prop} {p : Nat} {X : Src} {k : Nat} (h : ScQ w S p X [] k) (hk : k < X.bs.length) : ScQ (w.setCell ⟨p, 3, none⟩ (.int .i64 ((k : Int) + 1))) S p X [] (k + 1) := by
  obtain ⟨ad, v, h⟩ := h
  have hb := h.blk
  refine ⟨ad, v, ⟨?_, h.ad_, ?_, h.at_, h.own, fun b hS => by have := h.lt b hS; simpa using this, ?_, h.srcb, hk, h.small, by simp, h.nil_⟩⟩
  · rw [heap_setCell_same _ _ 3 _ _ _ hb]; rfl
  · exact ownsRow_setCell_other h.row (a := ⟨p, 3, none⟩) (fun e => by have := (h.row.lt p e).1; omega) _
  · exact h.src.keeps (S := fun b => b = p) ((Keeps.refl (fun b => b = p) w).setCell (a := ⟨p, 3, none⟩) (.inl rfl) _) (fun x hx e => by have := h.srcb x hx; omega)
theorem Tm.next {w W : World} {S : Nat → Prop} {p r : Nat} {X : Src} {k : Nat} (h : Tm w S p r X k W) (hk : k < X.bs.length) : Tm w S p r X (k + 1) (W.setCell ⟨p, 3, none⟩ (.int .i64 ((k : Int) + 1))) :=
  ⟨h.sc.next hk, by rw [heap_setCell_other _ _ _ _ (Ne.symm h.pr)]; exact h.blk, h.keeps.setCell (.inl h.sc.facts.2.1) _, h.pr, h.wr, h.sr⟩
/-- The end of a token. -/
theorem Tm.ok {w W : World} {S : Nat → Prop} {p r : Nat} {X : Src} {k : Nat} {V : Int × Tk × List UInt8} {x : Tk} (h : Tm w S p r X k W) (hV : V = (0, x, X.bs.drop k)) (y0 y1 y2 y3 y4 y5 y6 y7 : Value) :
    TokEnd w S p X V (.returned (.tuple #[.agg (tokC x.kind 0 0 x.vk x.vn (mkB x.vs) (mkB x.s)), .int .i64 0]))
      ((((((((W.setCell ⟨r, 0, none⟩ y0).setCell ⟨r, 1, none⟩ y1).setCell ⟨r, 2, none⟩ y2).setCell ⟨r, 3, none⟩ y3).setCell ⟨r, 4, none⟩ y4).setCell ⟨r, 5, none⟩ y5).setCell ⟨r, 6, none⟩ y6).setCell ⟨r, 7, none⟩ y7) :=
  tok_ok hV (keeps_set8 h.keeps h.wr _ _ _ _ _ _ _ _) (by simp) (by
    rw [set8_cell h.pr, h.sc.facts.2.2.2.2.1, List.length_drop]
    have := h.sc.facts.2.2.1
    congr 2; omega)
theorem Tm.err {w W : World} {S : Nat → Prop} {p r : Nat} {X : Src} {k : Nat} {V : Int × Tk × List UInt8} {er : Int} (h : Tm w S p r X k W) (hV : V.1 = er) (hn : er ≠ 0) (y0 y1 y2 y3 y4 y5 y6 y7 : Value) (a b c : Int) (vs s : ByteArray) :
    TokEnd w S p X V (.returned (.tuple #[.agg (tokC a 0 0 b c vs s), .int .i64 er]))
      ((((((((W.setCell ⟨r, 0, none⟩ y0).setCell ⟨r, 1, none⟩ y1).setCell ⟨r, 2, none⟩ y2).setCell ⟨r, 3, none⟩ y3).setCell ⟨r, 4, none⟩ y4).setCell ⟨r, 5, none⟩ y5).setCell ⟨r, 6, none⟩ y6).setCell ⟨r, 7, none⟩ y7) :=
  tok_err hV hn (keeps_set8 h.keeps h.wr _ _ _ _ _ _ _ _) a b c vs s

/-- Amid a token, when the scanner is no more needed. -/
structure Tn (w : World) (S : Nat → Prop) (p r : Nat) (W : World) : Prop where
  blk : W.heap[r]? = some (.cells #[.int .i64 0, .int .i64 0, .int .i64 0, .int .i64 0, .int .i64 0, .string ⟨#[]⟩, .slice none 0 0, .string ⟨#[]⟩] 28 (0, 0))
  keeps : Keeps S w W
  pr : p ≠ r
  wr : w.heap.size ≤ r
  sp : S p
theorem Tn.of {w W W' : World} {S : Nat → Prop} {p r : Nat} {X : Src} {k : Nat} (h : Tm w S p r X k W) (hk : Keeps S W W') : Tn w S p r W' :=
  ⟨hk.obj h.blk h.sr, h.keeps.trans hk (fun _ hS => .inl hS), h.pr, h.wr, h.sc.facts.2.1⟩
theorem Tn.on {w W W' : World} {S : Nat → Prop} {p r : Nat} (h : Tn w S p r W) (hb : Below W.heap.size W W') : Tn w S p r W' :=
  ⟨block_keep hb h.blk, h.keeps.trans (Keeps.of_below (S := fun b => W.heap.size ≤ b) hb (fun _ h => h)) (fun _ hS => .inr (Nat.le_trans h.keeps.size hS)), h.pr, h.wr, h.sp⟩
theorem Tn.alloc {w W : World} {S : Nat → Prop} {p r : Nat} (h : Tn w S p r W) (o : Obj) : Tn w S p r (W.alloc o) := h.on (belowA W o)
theorem Tn.ok {w W : World} {S : Nat → Prop} {p r : Nat} {X : Src} {V : Int × Tk × List UInt8} {x : Tk} {t : List UInt8} (h : Tn w S p r W) (hV : V = (0, x, t)) (ht : t.length ≤ X.bs.length) (hc : W.cell? ⟨p, 3, none⟩ = some (.int .i64 ((X.bs.length - t.length : Nat) : Int))) (y0 y1 y2 y3 y4 y5 y6 y7 : Value) :
    TokEnd w S p X V (.returned (.tuple #[.agg (tokC x.kind 0 0 x.vk x.vn (mkB x.vs) (mkB x.s)), .int .i64 0]))
      ((((((((W.setCell ⟨r, 0, none⟩ y0).setCell ⟨r, 1, none⟩ y1).setCell ⟨r, 2, none⟩ y2).setCell ⟨r, 3, none⟩ y3).setCell ⟨r, 4, none⟩ y4).setCell ⟨r, 5, none⟩ y5).setCell ⟨r, 6, none⟩ y6).setCell ⟨r, 7, none⟩ y7) :=
  tok_ok hV (keeps_set8 h.keeps h.wr _ _ _ _ _ _ _ _) ht (by rw [set8_cell h.pr]; exact hc)
theorem Tn.err {w W : World} {S : Nat → Prop} {p r : Nat} {X : Src} {V : Int × Tk × List UInt8} {er : Int} (h : Tn w S p r W) (hV : V.1 = er) (hn : er ≠ 0) (y0 y1 y2 y3 y4 y5 y6 y7 : Value) (a b c : Int) (vs s : ByteArray) :
    TokEnd w S p X V (.returned (.tuple #[.agg (tokC a 0 0 b c vs s), .int .i64 er]))
      ((((((((W.setCell ⟨r, 0, none⟩ y0).setCell ⟨r, 1, none⟩ y1).setCell ⟨r, 2, none⟩ y2).setCell ⟨r, 3, none⟩ y3).setCell ⟨r, 4, none⟩ y4).setCell ⟨r, 5, none⟩ y5).setCell ⟨r, 6, none⟩ y6).setCell ⟨r, 7, none⟩ y7) :=
  tok_err hV hn (keeps_set8 h.keeps h.wr _ _ _ _ _ _ _ _) a b c vs s
theorem Tn.any {w W : World} {S : Nat → Prop} {p r : Nat} {X : Src} {V : Int × Tk × List UInt8} {x : Tk} {t : List UInt8} {er : Int} (h : Tn w S p r W) (hV : V = (er, x, t)) (ht : t.length ≤ X.bs.length) (hc : W.cell? ⟨p, 3, none⟩ = some (.int .i64 ((X.bs.length - t.length : Nat) : Int))) (y0 y1 y2 y3 y4 y5 y6 y7 : Value) :
    TokEnd w S p X V (.returned (.tuple #[.agg (tokC x.kind 0 0 x.vk x.vn (mkB x.vs) (mkB x.s)), .int .i64 er]))
      ((((((((W.setCell ⟨r, 0, none⟩ y0).setCell ⟨r, 1, none⟩ y1).setCell ⟨r, 2, none⟩ y2).setCell ⟨r, 3, none⟩ y3).setCell ⟨r, 4, none⟩ y4).setCell ⟨r, 5, none⟩ y5).setCell ⟨r, 6, none⟩ y6).setCell ⟨r, 7, none⟩ y7) := by
  by_cases he : er = 0
  · subst he; exact h.ok hV ht hc _ _ _ _ _ _ _ _
  · exact h.err (by rw [hV]) he _ _ _ _ _ _ _ _ _ _ _ _ _
theorem cell_alloc {w : World} {b o : Nat} {v : Value} (x : Obj) (h : w.cell? ⟨b, o, none⟩ = some v) : (w.alloc x).cell? ⟨b, o, none⟩ = some v := cell?_keep (belowA w x) h

end Go.Proofs.Ytkolfecjlbnfkaa
