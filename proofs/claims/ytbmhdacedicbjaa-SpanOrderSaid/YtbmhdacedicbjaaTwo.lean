/-
  Two sets in memory that stand apart; a set beside a slice of spans.
-/
import Derived.Test.YtbmhdacedicbjaaOrdP
namespace Go.Proofs.Ytbmhdacedicbjaa
open Go.RowKit Go.Sort

/-- Two sets, made since a world. -/
def Two (w0 w : World) (p1 p2 : Nat) (T1 T2 : List (Int × Int)) : Prop :=
  ∃ S1 S2 : Nat → Prop, SetQ w S1 p1 T1 ∧ SetQ w S2 p2 T2 ∧ (∀ b, S1 b → ¬ S2 b) ∧ (∀ b, S1 b → w0.heap.size ≤ b) ∧ (∀ b, S2 b → w0.heap.size ≤ b) ∧ Below w0.heap.size w0 w

theorem Two.symm {w0 w : World} {p1 p2 : Nat} {T1 T2 : List (Int × Int)} (h : Two w0 w p1 p2 T1 T2) : Two w0 w p2 p1 T2 T1 := by
  obtain ⟨S1, S2, h1, h2, h3, h4, h5, h6⟩ := h
  exact ⟨S2, S1, h2, h1, fun b hb hn => h3 b hn hb, h5, h4, h6⟩
theorem Two.mono {w0 w w' : World} {p1 p2 : Nat} {T1 T2 : List (Int × Int)} (h : Two w0 w p1 p2 T1 T2) (hb : Below w.heap.size w w') : Two w0 w' p1 p2 T1 T2 := by
  obtain ⟨S1, S2, h1, h2, h3, h4, h5, h6⟩ := h
  exact ⟨S1, S2, h1.mono hb, h2.mono hb, h3, h4, h5, h6.trans (hb.mono h6.size)⟩
theorem Two.below {w0 w : World} {p1 p2 : Nat} {T1 T2 : List (Int × Int)} (h : Two w0 w p1 p2 T1 T2) : Below w0.heap.size w0 w := by
  obtain ⟨S1, S2, h1, h2, h3, h4, h5, h6⟩ := h
  exact h6
theorem Two.v1 {w0 w : World} {p1 p2 : Nat} {T1 T2 : List (Int × Int)} (h : Two w0 w p1 p2 T1 T2) : SetV w (some ⟨p1, 0, none⟩) T1 := by
  obtain ⟨S1, S2, h1, h2, h3, h4, h5, h6⟩ := h
  exact h1.toV
theorem Two.v2 {w0 w : World} {p1 p2 : Nat} {T1 T2 : List (Int × Int)} (h : Two w0 w p1 p2 T1 T2) : SetV w (some ⟨p2, 0, none⟩) T2 := h.symm.v1

theorem two_new (w : World) : Two w ((w.alloc (.cells #[.slice none 0 0] 63)).alloc (.cells #[.slice none 0 0] 63)) w.heap.size (w.heap.size + 1) [] [] := by
  have h1 := new_set w
  have hb1 := belowA w (.cells #[.slice none 0 0] 63)
  have hs := sizeA w (.cells #[.slice none 0 0] 63)
  generalize w.alloc (.cells #[.slice none 0 0] 63) = w1 at *
  have h2 := new_set w1
  have hb2 := belowA w1 (.cells #[.slice none 0 0] 63)
  rw [← hs]
  exact ⟨_, _, h1.mono hb2, h2, fun b e1 e2 => by have e1 : b = w.heap.size := e1; have e2 : b = w1.heap.size := e2; omega, fun b e => by have e : b = w.heap.size := e; omega, fun b e => by have e : b = w1.heap.size := e; omega, hb1.trans (hb2.mono hb1.size)⟩

theorem put1_any (w0 : World) (p1 p2 : Nat) (T1 T2 : List (Int × Int)) (n : Nat) (C C' : Int → Prop) (x y : Int) (w : World) (h : Two w0 w p1 p2 T1 T2) (hT : SetOk T1 n C) (hn : n ≤ 100000)
    (hx : -9223372036854775808 ≤ x ∧ x ≤ 9223372036854775807 ∧ -9223372036854775808 ≤ y ∧ y ≤ 9223372036854775807) (hC : ∀ k, C' k ↔ C k ∨ cov [(x, y)] k) :
    Calls Try.prog 35 #[.pointer (some ⟨p1, 0, none⟩), .agg #[.int .i64 x, .int .i64 y]] w fun e w' => e = .returned (.tuple #[]) ∧ ∃ T, SetOk T (n + 1) C' ∧ Two w0 w' p1 p2 T T2 := by
  obtain ⟨S1, S2, h1, h2, h3, h4, h5, h6⟩ := h
  refine (put_any p1 S1 T1 x y w h1 (hT.fit hx) (Nat.le_trans hT.len hn)).mono ?_
  rintro e w' ⟨rfl, T, hP, S', hq, hk, hS'⟩
  have hlt := h2.lt
  have hs := h6.size
  exact ⟨rfl, T, hT.put hP hx.2.2.2 hC, S', S2, hq, h2.keeps hk (fun b hb hs1 => h3 b hs1 hb), fun b hb hb2 => (hS' b hb).elim (fun e => h3 b e hb2) (fun e => by have := hlt b hb2; omega),
    fun b hb => (hS' b hb).elim (h4 b) (fun e => by omega), h5, h6.trans (hk.below hs h4)⟩
theorem put2_any (w0 : World) (p1 p2 : Nat) (T1 T2 : List (Int × Int)) (n : Nat) (C C' : Int → Prop) (x y : Int) (w : World) (h : Two w0 w p1 p2 T1 T2) (hT : SetOk T2 n C) (hn : n ≤ 100000)
    (hx : -9223372036854775808 ≤ x ∧ x ≤ 9223372036854775807 ∧ -9223372036854775808 ≤ y ∧ y ≤ 9223372036854775807) (hC : ∀ k, C' k ↔ C k ∨ cov [(x, y)] k) :
    Calls Try.prog 35 #[.pointer (some ⟨p2, 0, none⟩), .agg #[.int .i64 x, .int .i64 y]] w fun e w' => e = .returned (.tuple #[]) ∧ ∃ T, SetOk T (n + 1) C' ∧ Two w0 w' p1 p2 T1 T :=
  (put1_any w0 p2 p1 T2 T1 n C C' x y w h.symm hT hn hx hC).mono fun _ _ ⟨h1, T, h2, h3⟩ => ⟨h1, T, h2, h3.symm⟩

/-- A set, made since a world, beside a slice of spans. -/
def Beside (w0 w : World) (p : Nat) (T : List (Int × Int)) (a : Option Addr) (c : Nat) (M : List (Int × Int)) : Prop :=
  ∃ S : Nat → Prop, SetQ w S p T ∧ (∀ b, S b → w0.heap.size ≤ b) ∧ Below w0.heap.size w0 w ∧ SRow w a M.length c M ∧ ∀ z, a = some z → ¬ S z.block ∧ z.block < w.heap.size
theorem Beside.mono {w0 w w' : World} {p : Nat} {T : List (Int × Int)} {a : Option Addr} {c : Nat} {M : List (Int × Int)} (h : Beside w0 w p T a c M) (hb : Below w.heap.size w w') : Beside w0 w' p T a c M := by
  obtain ⟨S, h1, h2, h3, h4, h5⟩ := h
  exact ⟨S, h1.mono hb, h2, h3.trans (hb.mono h3.size), h4.mono hb, fun z hz => ⟨(h5 z hz).1, Nat.lt_of_lt_of_le (h5 z hz).2 hb.size⟩⟩
theorem Beside.below {w0 w : World} {p : Nat} {T : List (Int × Int)} {a : Option Addr} {c : Nat} {M : List (Int × Int)} (h : Beside w0 w p T a c M) : Below w0.heap.size w0 w := by
  obtain ⟨S, h1, h2, h3, h4, h5⟩ := h
  exact h3
theorem Beside.v {w0 w : World} {p : Nat} {T : List (Int × Int)} {a : Option Addr} {c : Nat} {M : List (Int × Int)} (h : Beside w0 w p T a c M) : SetV w (some ⟨p, 0, none⟩) T := by
  obtain ⟨S, h1, h2, h3, h4, h5⟩ := h
  exact h1.toV
theorem Beside.row {w0 w : World} {p : Nat} {T : List (Int × Int)} {a : Option Addr} {c : Nat} {M : List (Int × Int)} (h : Beside w0 w p T a c M) : SRow w a M.length c M := by
  obtain ⟨S, h1, h2, h3, h4, h5⟩ := h
  exact h4
theorem Two.beside {w0 w w' : World} {p1 p2 : Nat} {T1 T2 : List (Int × Int)} (h : Two w0 w p1 p2 T1 T2) {a : Option Addr} {n c : Nat} {M : List (Int × Int)} (hO : w'.ownsRow w.heap.size 56 2 (.slice a n c) M.length (spV M)) (hr : SRow w' a M.length c M) (hb : Below w.heap.size w w') :
    Beside w0 w' p1 T1 a c M := by
  obtain ⟨S1, S2, h1, h2, h3, h4, h5, h6⟩ := h
  have hlt := h1.lt
  exact ⟨S1, h1.mono hb, h4, h6.trans (hb.mono h6.size), hr, fun z hz => by
    have := hO.lt z.block (by simp [Value.ownBlock, hz])
    exact ⟨fun e => by have := hlt _ e; omega, this.2⟩⟩
theorem putB_any (w0 : World) (p : Nat) (T : List (Int × Int)) (a : Option Addr) (c : Nat) (M : List (Int × Int)) (n : Nat) (C C' : Int → Prop) (x y : Int) (w : World) (h : Beside w0 w p T a c M) (hT : SetOk T n C) (hn : n ≤ 100000)
    (hx : -9223372036854775808 ≤ x ∧ x ≤ 9223372036854775807 ∧ -9223372036854775808 ≤ y ∧ y ≤ 9223372036854775807) (hC : ∀ k, C' k ↔ C k ∨ cov [(x, y)] k) :
    Calls Try.prog 35 #[.pointer (some ⟨p, 0, none⟩), .agg #[.int .i64 x, .int .i64 y]] w fun e w' => e = .returned (.tuple #[]) ∧ ∃ T, SetOk T (n + 1) C' ∧ Beside w0 w' p T a c M := by
  obtain ⟨S, h1, h2, h3, h4, h5⟩ := h
  refine (put_any p S T x y w h1 (hT.fit hx) (Nat.le_trans hT.len hn)).mono ?_
  rintro e w' ⟨rfl, T', hP, S', hq, hk, hS'⟩
  have hs := h3.size
  exact ⟨rfl, T', hT.put hP hx.2.2.2 hC, S', hq, fun b hb => (hS' b hb).elim (h2 b) (fun e => by omega), h3.trans (hk.below hs h2), h4.keeps hk (fun z hz => (h5 z hz).1),
    fun z hz => ⟨fun e => (hS' _ e).elim (h5 z hz).1 (fun e => by have := (h5 z hz).2; omega), Nat.lt_of_lt_of_le (h5 z hz).2 hk.size⟩⟩
end Go.Proofs.Ytbmhdacedicbjaa
