/-
  Our texts App to Sym1, in one.
-/
import Derived.Test.YtlmdgaajkjbpgaaPkI4
import Derived.Test.YtlmdgaajkjbpgaaProg
import Derived.BigQuiet
import Derived.Deep.QuietTactic
/-
  'append' on a slice of the call's own, told more sharply: where the new value lies.
-/
namespace Go.Proofs.Ytlmdgaajkjbpgaa
open Go.RowKit

/-- Where the one lies if not where the other lay: in memory that is new. -/
def NewAt (w : World) (v v' : Value) : Prop := ∀ b, v'.ownBlock = some b → v.ownBlock = some b ∨ w.heap.size ≤ b

theorem run_append_at {P : Program} (w : World) (base : Nat) (t ty e : TypeId) (i : TypeInfo) (z : Value) (size bytes : Nat) (ht : P.underlying t = some (.slice e)) (hi : P.info? e = some i) (hz : i.zero = some z)
    (hsize : i.size = size) (hby : i.bytes = bytes) (hzs : z.cells.size = size) (hsz : 0 < size)
    (v : Value) (n : Nat) (xs : List Value) (hown : w.ownsRow base e size v n xs)
    (a : Addr) (m c : Nat) (news : List Value) (hl : news.length = m * size) (hnews : ∀ j u, news[j]? = some u → w.cell? (a.add j) = some u) (h1 : ∀ u ∈ news, u.oneCell' = true)
    (h63 : n + m ≤ maxLen) (hbytes : (n + m) * bytes ≤ 140737488355328) (hbase : base ≤ w.heap.size) :
    ∃ v' w', (Builtin.append_ #[t, t] ty #[v, .slice (some a) m c]).run P w = .ok v' w' ∧ w'.ownsRow base e size v' (n + m) (xs ++ news) ∧ w.grownBy w' v.ownBlock ∧
      (v' = .slice none 0 0 ↔ v = .slice none 0 0 ∧ m = 0) ∧ NewAt w v v' := by
  obtain ⟨v', w', hr, h2, h3, h4⟩ := run_append_own (P := P) w base t ty e i z size bytes ht hi hz hsize hby hzs hsz v n xs hown a m c news hl hnews h1 h63 hbytes hbase
  refine ⟨v', w', hr, h2, h3, h4, ?_⟩
  have hsmall : n + m ≤ 9223372036854775807 := by simp only [maxLen] at h63; omega
  rcases hown.2 with ⟨rfl, hx⟩ | ⟨g, cap, cur, rfl, hbg, hg, hnc, hcm, hcs, htake⟩
  · obtain ⟨v2, w2, hr2, g2, _, _⟩ := run_append_own (P := P) w w.heap.size t ty e i z size bytes ht hi hz hsize hby hzs hsz _ n xs ⟨hown.1, .inl ⟨rfl, hx⟩⟩ a m c news hl hnews h1 h63 hbytes (Nat.le_refl _)
    rw [hr] at hr2
    simp only [Result.ok.injEq] at hr2
    obtain ⟨rfl, rfl⟩ := hr2
    exact fun b hb => .inr (g2.lt b hb).1
  · subst hsize hby
    by_cases hroom : n + m ≤ cap
    · have hfit : n * i.size + news.length ≤ cur.size := by rw [hl, hcs, ← Nat.add_mul]; exact Nat.mul_le_mul_right _ hroom
      have hr2 := run_append_room (P := P) w t ty e i ht hi g n cap cur hg a m c news hl hnews h1 hroom hfit
      rw [hr] at hr2
      simp only [Result.ok.injEq] at hr2
      obtain ⟨rfl, rfl⟩ := hr2
      exact fun b hb => .inl hb
    · have hr2 := run_append_grow (P := P) w t ty e i z ht hi hz ⟨g, 0, none⟩ n cap xs hown.1 (hown.cells (g := g) rfl) a m c news hl hnews (by omega) (by omega) (growslice_fits (by omega) hbytes)
      rw [hr] at hr2
      simp only [Result.ok.injEq] at hr2
      obtain ⟨rfl, rfl⟩ := hr2
      intro b hb
      simp [Value.ownBlock] at hb
      right; omega

/-- 'append(v, x...)', v the call's own, x whatever slice that reads as a row; where the new value lies. -/
theorem append_at {P : Program} {w : World} {ops : Array Oper} {rest : List Oper} {o : Oper} {a : Act} {Q : Exit → Act → World → Prop} {t e : TypeId} {z : Value} {size bytes : Nat} (T : ElemT P t e z size bytes)
    (hgd : o.guard = none) (s x : Operand) (ho : o.op = .call { callee := .builtin .append, args := #[s, x], argTypes := #[t, t] })
    (base : Nat) (v : Value) (n : Nat) (xs : List Value) (hs : a.eval s = v) (hown : w.ownsRow base e size v n xs)
    (ao : Option Addr) (m c : Nat) (news : List Value) (hx : a.eval x = .slice ao m c) (hr : Row w size ao m c news) (h1 : ∀ u ∈ news, u.oneCell' = true)
    (h63 : n + m ≤ maxLen) (hbytes : (n + m) * bytes ≤ 140737488355328) (hbase : base ≤ w.heap.size)
    (h : ∀ v' w', w'.ownsRow base e size v' (n + m) (xs ++ news) → w.grownBy w' v.ownBlock → NewAt w v v' → wpList P ops Q rest (a.put o.dst v') w') : wpList P ops Q (o :: rest) a w := by
  obtain ⟨i, hi, hz, hs', hb⟩ := info_parts T.info
  subst hb
  obtain ⟨r1, r2, r3, r4, r5⟩ := hr
  cases ao with
  | some ad =>
    refine wpList_plain hgd fun K hK => ?_
    obtain ⟨v', w', hrun, g2, g3, _, g5⟩ := run_append_at (P := P) w base t o.type e i z size i.bytes T.und hi hz hs' rfl T.cells T.pos v n xs hown ad m c news r1 (fun j u hj => by
      by_cases hm : 0 < m
      · obtain ⟨b, off, hab, _, hc⟩ := r5 hm
        obtain rfl := Option.some.inj hab
        rw [Addr.add_lit]; exact hc j u hj
      · obtain rfl : m = 0 := by omega
        have : news = [] := List.eq_nil_of_length_eq_zero (by simpa using r1)
        subst this; simp at hj) h1 h63 hbytes hbase
    unfold Oper.wp
    simp [execOp, ho, resolve, invoke, builtin, hs, hx, hrun, Result.andThen]
    exact hK _ _ (h v' w' g2 g3 g5)
  | none =>
    obtain rfl := r4 rfl
    obtain rfl : m = 0 := by omega
    have : news = [] := List.eq_nil_of_length_eq_zero (by simpa using r1)
    subst this
    refine wpList_plain hgd fun K hK => ?_
    have hrun := run_append_owned_none (P := P) w base t o.type e i size T.und hi v n xs hown
    unfold Oper.wp
    simp [execOp, ho, resolve, invoke, builtin, hs, hx, hrun, Result.andThen]
    exact hK _ _ (h v w (by simpa using hown) ⟨rfl, rfl, rfl, Nat.le_refl _, fun _ _ _ => rfl⟩ (fun b hb => .inl hb))

/-- What stays: all blocks but those that S knows. -/
structure Keeps (S : Nat → Prop) (w w' : World) : Prop where
  os : w'.os = w.os
  tape : w'.tape = w.tape
  output : w'.output = w.output
  size : w.heap.size ≤ w'.heap.size
  block : ∀ b, b < w.heap.size → ¬ S b → w'.heap[b]? = w.heap[b]?

theorem Keeps.refl (S : Nat → Prop) (w : World) : Keeps S w w := ⟨rfl, rfl, rfl, Nat.le_refl _, fun _ _ _ => rfl⟩
theorem Keeps.trans {S S' : Nat → Prop} {a b c : World} (h : Keeps S a b) (k : Keeps S' b c) (hS : ∀ x, S' x → S x ∨ a.heap.size ≤ x) : Keeps S a c :=
  ⟨k.os.trans h.os, k.tape.trans h.tape, k.output.trans h.output, Nat.le_trans h.size k.size, fun x hx hn => (k.block x (Nat.lt_of_lt_of_le hx h.size) (fun e => (hS x e).elim hn (fun h => by omega))).trans (h.block x hx hn)⟩
theorem Keeps.of_grown {S : Nat → Prop} {w w' : World} {row : Option Nat} (h : w.grownBy w' row) (hr : ∀ k, row = some k → S k) : Keeps S w w' :=
  ⟨h.os, h.tape, h.output, h.size, fun b hb hn => h.block b hb (fun e => hn (hr b e.symm))⟩
theorem Keeps.of_below {S : Nat → Prop} {w w' : World} {B : Nat} (h : Below B w w') (hS : ∀ b, B ≤ b → S b) : Keeps S w w' :=
  ⟨h.os, h.tape, h.output, h.size, fun b _ hn => h.block b (Nat.lt_of_not_le fun e => hn (hS b e))⟩
theorem Keeps.below {S : Nat → Prop} {w w' : World} {B : Nat} (h : Keeps S w w') (hB : B ≤ w.heap.size) (hS : ∀ b, S b → B ≤ b) : Below B w w' :=
  ⟨h.os, h.tape, h.output, h.size, fun b hb => h.block b (by omega) (fun e => by have := hS b e; omega)⟩
theorem Keeps.cell {S : Nat → Prop} {w w' : World} (h : Keeps S w w') {b o : Nat} {v : Value} (hc : w.cell? ⟨b, o, none⟩ = some v) (hn : ¬ S b) : w'.cell? ⟨b, o, none⟩ = some v := by
  have hlt : b < w.heap.size := World.block_lt_of_cell? w _ hc
  rw [World.cell?_of_block (w := w) (a := ⟨b, o, none⟩) (h.block b hlt hn)]; exact hc
theorem Keeps.obj {S : Nat → Prop} {w w' : World} (h : Keeps S w w') {b : Nat} {o : Obj} (hc : w.heap[b]? = some o) (hn : ¬ S b) : w'.heap[b]? = some o := by
  rw [h.block b (Array.getElem?_eq_some_iff.1 hc).1 hn]; exact hc
theorem Row.keeps {S : Nat → Prop} {w w' : World} {sz : Nat} {a : Option Addr} {n cap : Nat} {xs : List Value} (h : Row w sz a n cap xs) (hk : Keeps S w w') (hne : ∀ x, a = some x → ¬ S x.block) : Row w' sz a n cap xs := by
  obtain ⟨h1, h2, h3, h4, h5⟩ := h
  refine ⟨h1, h2, h3, h4, fun hn => ?_⟩
  obtain ⟨b, off, ha, hlt, hc⟩ := h5 hn
  exact ⟨b, off, ha, Nat.lt_of_lt_of_le hlt hk.size, fun j u hj => hk.cell (hc j u hj) (hne _ ha)⟩
theorem owns_keeps {S : Nat → Prop} {w w' : World} {base e sz : Nat} {v : Value} {n : Nat} {xs : List Value} (h : w.ownsRow base e sz v n xs) (hk : Keeps S w w') (hne : ∀ b, v.ownBlock = some b → ¬ S b) : w'.ownsRow base e sz v n xs := by
  obtain ⟨h1, h2⟩ := h
  refine ⟨h1, ?_⟩
  rcases h2 with h2 | ⟨g, cap, cur, hv, hg, hh, r⟩
  · exact .inl h2
  · exact .inr ⟨g, cap, cur, hv, hg, hk.obj hh (hne g (by rw [hv]; rfl)), r⟩
theorem Keeps.weaken {S S' : Nat → Prop} {w w' : World} (h : Keeps S w w') (hS : ∀ b, S b → S' b) : Keeps S' w w' := ⟨h.os, h.tape, h.output, h.size, fun b hb hn => h.block b hb (fun e => hn (hS b e))⟩
theorem Keeps.drewN {S : Nat → Prop} {w w' : World} (h : Keeps S w w') (q : Nat) : Keeps S w (w'.drewN q) := ⟨h.os, h.tape, h.output, h.size, h.block⟩
theorem Keeps.alloc {S : Nat → Prop} {w w' : World} (h : Keeps S w w') (o : Obj) : Keeps S w (w'.alloc o) :=
  ⟨h.os, h.tape, h.output, by rw [sizeA]; have := h.size; omega, fun b hb hn => (Below.heap_alloc w' o b (Nat.lt_of_lt_of_le hb h.size)).trans (h.block b hb hn)⟩
theorem Keeps.setCell {S : Nat → Prop} {w w' : World} (h : Keeps S w w') {a : Addr} (ha : S a.block ∨ w.heap.size ≤ a.block) (v : Value) : Keeps S w (w'.setCell a v) :=
  ⟨h.os, h.tape, h.output, by simpa [World.setCell] using h.size, fun b hb hn => (heap_setCell_other w' a b v (fun e => by rcases ha with h1 | h1; exact hn (e ▸ h1); omega)).trans (h.block b hb hn)⟩
theorem Keeps.grown {S : Nat → Prop} {w w' w2 : World} {row : Option Nat} (h : Keeps S w w') (hg : w'.grownBy w2 row) (hr : ∀ k, row = some k → S k ∨ w.heap.size ≤ k) : Keeps S w w2 :=
  h.trans (Keeps.of_grown (S := fun k => row = some k) hg fun _ hk => hk) hr
end Go.Proofs.Ytlmdgaajkjbpgaa
/-
  Layer 5 in plain words: what is read, step by step.
-/
namespace Go.Proofs.Ytlmdgaajkjbpgaa
open Go.RowKit

def u8C (b : UInt8) : Value := .int .u8 b.toNat
/-- What a state holds: the bits that were taken, the first error, the bytes that came. -/
structure IS where
  at_ : Nat
  e : Int
  out : List UInt8
def bitF (bs : List UInt8) (at_ : Nat) : Nat → Bool := fun k => bitAt bs false (at_ + k)
def failV (e : Int) (s : IS) : IS := if s.e = 0 then { s with e := e } else s
def numV (bs : List UInt8) (n : Nat) (s : IS) : Nat × IS :=
  if s.e ≠ 0 then (0, s) else if 8 * bs.length < s.at_ + n then (0, { s with e := 10 }) else (getV (bitF bs s.at_) false n n, { s with at_ := s.at_ + n })
def symV5 (bs : List UInt8) (l : List Int) (s : IS) : Nat × IS :=
  if s.e ≠ 0 then (0, s) else ((takeV l (bitF bs s.at_) (8 * bs.length - s.at_)).1, { s with at_ := s.at_ + (takeV l (bitF bs s.at_) (8 * bs.length - s.at_)).2.1, e := (takeV l (bitF bs s.at_) (8 * bs.length - s.at_)).2.2 })
def putV5 (most : Nat) (c : UInt8) (s : IS) : IS := if most ≤ s.out.length then failV 3 s else { s with out := s.out ++ [c] }
/-- Bytes that stand ahead, again. -/
def repL (far : Nat) : Nat → List UInt8 → List UInt8
  | 0, o => o
  | n + 1, o => repL far n (o ++ [o.getD (o.length - far) 0])
def repV (most len far : Nat) (s : IS) : IS :=
  if s.e ≠ 0 then s else if s.out.length < far then failV 14 s else if (most : Int) - s.out.length < len then failV 3 s else { s with out := repL far len s.out }
def lenV5 (x : Int) : Int × Int × Bool := if x < 257 ∨ 285 < x then (0, 0, false) else if x = 285 then (258, 0, true) else if x < 265 then (x - 254, 0, true) else (3 + (4 + (x - 261) % 4) * 2 ^ ((x - 261) / 4).toNat, (x - 261) / 4, true)
def disV (x : Int) : Int × Int × Bool := if x < 0 ∨ 29 < x then (0, 0, false) else if x < 4 then (x + 1, 0, true) else (1 + (2 + x % 2) * 2 ^ ((x - 2) / 2).toNat, (x - 2) / 2, true)
/-- One symbol of a block by codes: 'true': the block goes on. -/
def codeV (bs : List UInt8) (most : Nat) (l d : List Int) (s : IS) : Bool × IS :=
  let q := symV5 bs l s
  if q.2.e ≠ 0 ∨ q.1 = 256 then (false, q.2) else
  if q.1 < 256 then (true, putV5 most (UInt8.ofNat q.1) q.2) else
  let a := lenV5 q.1
  let s1 := if a.2.2 then q.2 else failV 11 q.2
  let n1 := numV bs a.2.1.toNat s1
  let q2 := symV5 bs d n1.2
  let b := disV q2.1
  let s2 := if b.2.2 then q2.2 else failV 11 q2.2
  let n2 := numV bs b.2.1.toNat s2
  (true, repV most (a.1.toNat + n1.1) (b.1.toNat + n2.1) n2.2)
def codedV (bs : List UInt8) (most : Nat) (l d : List Int) : Nat → IS → IS
  | 0, s => s
  | n + 1, s => if (codeV bs most l d s).1 then codedV bs most l d n (codeV bs most l d s).2 else (codeV bs most l d s).2
def fixL : List Int := (List.range 288).map fun k => if k < 144 ∨ 279 < k then 8 else if k < 256 then 9 else 7
def fixD : List Int := (List.range 30).map fun _ => 5
end Go.Proofs.Ytlmdgaajkjbpgaa
/-
  Walks of layer 5: a state in memory; the first error, numbers, symbols.
-/
namespace Go.Proofs.Ytlmdgaajkjbpgaa
open Go.RowKit Go.Sort

def stC (r : Nat) (e : Int) (v : Value) (most : Nat) : Array Value := #[.pointer (some ⟨r, 0, none⟩), .int .i64 e, v, .int .i64 most]
/-- A state in memory; U knows its blocks but that of the reader's bytes. -/
structure IsSt (w : World) (U : Nat → Prop) (sb r : Nat) (bs : List UInt8) (most : Nat) (s : IS) : Prop where
  ex : ∃ v, w.heap[sb]? = some (.cells (stC r s.e v most) 47 (0, 0)) ∧ w.ownsRow (sb + 1) 5 1 v s.out.length (s.out.map u8C) ∧ ∀ b, v.ownBlock = some b → U b
  rd : IsRd w r bs false s.at_
  lt : r < sb
  own : U sb ∧ U r
  ult : ∀ b, U b → r ≤ b ∧ b < w.heap.size
def StNext (w : World) (U : Nat → Prop) (sb r : Nat) (bs : List UInt8) (most : Nat) (s : IS) (w' : World) : Prop := ∃ U', IsSt w' U' sb r bs most s ∧ Keeps U w w' ∧ ∀ b, U' b → U b ∨ w.heap.size ≤ b

theorem IsRd.keeps {w w' : World} {V : Nat → Prop} {r : Nat} {bs : List UInt8} {high : Bool} {at_ : Nat} (h : IsRd w r bs high at_) (hk : Keeps V w w') (hV : ∀ b, b ≤ r → ¬ V b) : IsRd w' r bs high at_ := by
  obtain ⟨⟨a, cap, h1, h2, h3⟩, h4, h5⟩ := h
  exact ⟨⟨a, cap, hk.obj h1 (hV r (Nat.le_refl _)), h2.keeps hk (fun x hx => hV _ (Nat.le_of_lt (h3 x hx))), h3⟩, h4, h5⟩
theorem IsSt.keeps {w w' : World} {U V : Nat → Prop} {sb r : Nat} {bs : List UInt8} {most : Nat} {s : IS} (h : IsSt w U sb r bs most s) (hk : Keeps V w w') (hV : ∀ b, b ≤ r ∨ U b → ¬ V b) : IsSt w' U sb r bs most s := by
  obtain ⟨⟨v, h1, h2, h3⟩, h4, h5, h6, h7⟩ := h
  exact ⟨⟨v, hk.obj h1 (hV sb (.inr h6.1)), owns_keeps h2 hk (fun b hb => hV b (.inr (h3 b hb))), h3⟩, h4.keeps hk (fun b hb => hV b (.inl hb)), h5, h6, fun b hb => ⟨(h7 b hb).1, Nat.lt_of_lt_of_le (h7 b hb).2 hk.size⟩⟩
theorem IsSt.mono {w w' : World} {U : Nat → Prop} {sb r : Nat} {bs : List UInt8} {most : Nat} {s : IS} (h : IsSt w U sb r bs most s) (hb : Below w.heap.size w w') : IsSt w' U sb r bs most s :=
  h.keeps (Keeps.of_below (S := fun b => w.heap.size ≤ b) hb (fun _ h => h)) (fun b hb2 hn => by
    have := (h.ult r h.own.2).2
    rcases hb2 with h1 | h1
    · omega
    · have := (h.ult b h1).2; omega)
theorem IsSt.got {w w' : World} {U : Nat → Prop} {sb r : Nat} {bs : List UInt8} {most : Nat} {s : IS} {at2 : Nat} (h : IsSt w U sb r bs most s) (hR : IsRd w' r bs false at2) (hg : w.grownBy w' (some r)) : IsSt w' U sb r bs most { s with at_ := at2 } ∧ Keeps U w w' := by
  have hk : Keeps (fun b => b = r) w w' := Keeps.of_grown (S := fun b => b = r) hg (fun k hk => by simpa using hk.symm)
  obtain ⟨⟨v, h1, h2, h3⟩, h4, h5, h6, h7⟩ := h
  have hne : sb ≠ r := by omega
  exact ⟨⟨⟨v, hk.obj h1 hne, owns_keeps h2 hk (fun b hb e => by have := (h2.lt b hb).1; omega), h3⟩, hR, h5, h6, fun b hb => ⟨(h7 b hb).1, Nat.lt_of_lt_of_le (h7 b hb).2 hk.size⟩⟩, hk.weaken (fun b hb => hb ▸ h6.2)⟩
theorem IsSt.cells {w : World} {U : Nat → Prop} {sb r : Nat} {bs : List UInt8} {most : Nat} {s : IS} (h : IsSt w U sb r bs most s) :
    w.cell? ⟨sb, 0, none⟩ = some (.pointer (some ⟨r, 0, none⟩)) ∧ w.cell? ⟨sb, 1, none⟩ = some (.int .i64 s.e) ∧ w.cell? ⟨sb, 3, none⟩ = some (.int .i64 most) ∧ w.frozen? ⟨sb, 1, none⟩ = false ∧ w.frozen? ⟨sb, 2, none⟩ = false := by
  obtain ⟨⟨v, h1, -⟩, -⟩ := h
  refine ⟨?_, ?_, ?_, frozen_of_row w sb 1 _ _ h1, frozen_of_row w sb 2 _ _ h1⟩ <;> (rw [cell_of_row w sb _ _ _ _ h1]; rfl)
theorem IsSt.setE {w : World} {U : Nat → Prop} {sb r : Nat} {bs : List UInt8} {most : Nat} {s : IS} (h : IsSt w U sb r bs most s) (e : Int) : IsSt (w.setCell ⟨sb, 1, none⟩ (.int .i64 e)) U sb r bs most { s with e := e } ∧ Keeps U w (w.setCell ⟨sb, 1, none⟩ (.int .i64 e)) := by
  have hk : Keeps (fun b => b = sb) w (w.setCell ⟨sb, 1, none⟩ (.int .i64 e)) := Keeps.setCell (S := fun b => b = sb) (Keeps.refl _ w) (a := ⟨sb, 1, none⟩) (.inl rfl) _
  obtain ⟨⟨v, h1, h2, h3⟩, h4, h5, h6, h7⟩ := h
  refine ⟨⟨⟨v, ?_, owns_keeps h2 hk (fun b hb e => by have := (h2.lt b hb).1; omega), h3⟩, h4.keeps hk (fun b hb e => by omega), h5, h6, fun b hb => ⟨(h7 b hb).1, Nat.lt_of_lt_of_le (h7 b hb).2 hk.size⟩⟩, hk.weaken (fun b hb => hb ▸ h6.1)⟩
  have := blk_set (w := w) (b := sb) (n := 4) (enc := fun i => if i = 0 then .pointer (some ⟨r, 0, none⟩) else if i = 1 then .int .i64 s.e else if i = 2 then v else .int .i64 most) (t := 47) h1 1 (.int .i64 e)
  exact this
theorem IsSt.next {w w' : World} {U : Nat → Prop} {sb r : Nat} {bs : List UInt8} {most : Nat} {s : IS} (h : IsSt w' U sb r bs most s ∧ Keeps U w w') : StNext w U sb r bs most s w' := ⟨U, h.1, h.2, fun _ h => .inl h⟩
theorem StNext.trans {w w1 w2 : World} {U U1 : Nat → Prop} {sb r : Nat} {bs : List UInt8} {most : Nat} {s : IS} (hk : Keeps U w w1) (hs : ∀ b, U1 b → U b ∨ w.heap.size ≤ b) (h2 : StNext w1 U1 sb r bs most s w2) : StNext w U sb r bs most s w2 := by
  obtain ⟨U2, h3, h4, h5⟩ := h2
  have := hk.size
  exact ⟨U2, h3, hk.trans h4 hs, fun b hb => (h5 b hb).elim (hs b) (fun h => .inr (by omega))⟩
theorem IsSt.drewN {w : World} {U : Nat → Prop} {sb r : Nat} {bs : List UInt8} {most : Nat} {s : IS} (h : IsSt w U sb r bs most s) (q : Nat) : IsSt (w.drewN q) U sb r bs most s ∧ Keeps U w (w.drewN q) :=
  ⟨h.keeps ((Keeps.refl (fun _ => False) w).drewN q) (fun _ _ h => h), (Keeps.refl U w).drewN q⟩

theorem sfail_any {w : World} {U : Nat → Prop} {sb r : Nat} {bs : List UInt8} {most : Nat} {s : IS} (h : IsSt w U sb r bs most s) (e : Int) :
    Calls Try.prog 35 #[.pointer (some ⟨sb, 0, none⟩), .int .i64 e] w fun x w' => x = .returned (.tuple #[]) ∧ IsSt w' U sb r bs most (failV e s) ∧ Keeps U w w' := by
  obtain ⟨c0, c1, -, f1, -⟩ := h.cells
  have HS := Lib.hid h
  have HE := Lib.hid (h.setE e)
  clear h
  by_cases he : s.e = 0
  · have HF : Hid (failV e s = { s with e := e }) := Lib.hid (by unfold failV; rw [if_pos he])
    rw [he] at c1
    go_enter Try.func35, Try.ntmps35
    go_wp2
    go_end0
    exact ⟨rfl, by rw [HF.out]; exact HE.out⟩
  · have HF : Hid (failV e s = s) := Lib.hid (by unfold failV; rw [if_neg he])
    go_enter Try.func35, Try.ntmps35
    go_wp2
    go_end0
    exact ⟨rfl, by rw [HF.out]; exact ⟨HS.out, Keeps.refl _ _⟩⟩

theorem failV_zero (s : IS) : failV 0 s = s := by
  obtain ⟨a, e, o⟩ := s
  unfold failV
  split
  · rename_i h; simp only at h; rw [h]
  · rfl
theorem failV_set (e : Int) (s : IS) (h : s.e = 0) : failV e s = { s with e := e } := by unfold failV; rw [if_pos h]

set_option maxHeartbeats 1000000 in
theorem ssym_any {w : World} {U Bl : Nat → Prop} {sb r p : Nat} {bs : List UInt8} {most : Nat} {s : IS} {l : List Int} (h : IsSt w U sb r bs most s) (hT : IsTb w Bl p l) (hU : ¬ Bl r) (pt : Option Addr) (hpt : s.e = 0 → pt = some ⟨p, 0, none⟩) :
    Calls Try.prog 46 #[.pointer (some ⟨sb, 0, none⟩), .pointer pt] w fun x w' => x = .returned (.int .i64 (symV5 bs l s).1) ∧ IsSt w' U sb r bs most (symV5 bs l s).2 ∧ Keeps U w w' := by
  obtain ⟨c0, c1, -, f1, -⟩ := h.cells
  have HS := Lib.hid h
  by_cases he : s.e = 0
  · obtain rfl := hpt he
    rw [he] at c1
    obtain ⟨V, hV⟩ : ∃ V, V = takeV l (bitF bs s.at_) (8 * bs.length - s.at_) := ⟨_, rfl⟩
    have HV : Hid (symV5 bs l s = (V.1, { s with at_ := s.at_ + V.2.1, e := V.2.2 })) := Lib.hid (by unfold symV5; rw [if_neg (by simp [he]), ← hV])
    have hg := tget_any Bl p r l bs false s.at_ w hT h.rd hU
    rw [show takeV l (fun k => bitAt bs false (s.at_ + k)) (8 * bs.length - s.at_) = V from hV.symm] at hg
    have HG := Lib.hid hg
    obtain ⟨x, m, e⟩ := V
    clear h hg hV
    go_enter Try.func46, Try.ntmps46
    go_wp2_with fail
    refine HG.out.mono ?_
    rintro e2 w1 ⟨rfl, hR, hgr⟩
    have HN := Lib.hid (HS.out.got hR hgr)
    have HF := Lib.hid (sfail_any (HS.out.got hR hgr).1 e)
    clear c0 c1 f1 hR hgr
    dsimp only
    go_wp2_with fail
    refine HF.out.mono ?_
    rintro e2 w2 ⟨rfl, h2, k2⟩
    rw [failV_set e { s with at_ := s.at_ + m } he] at h2
    have H2 := Lib.hid h2
    have K2 := Lib.hid k2
    clear h2 k2
    go_wp2
    go_ret
    exact ⟨by rw [HV.out]; rfl, by rw [HV.out]; exact ⟨H2.out, HN.out.2.trans K2.out (fun b hb => .inl hb)⟩⟩
  · have HV : Hid (symV5 bs l s = (0, s)) := Lib.hid (by unfold symV5; rw [if_pos he])
    clear h
    go_enter Try.func46, Try.ntmps46
    go_wp2
    go_ret
    exact ⟨by rw [HV.out]; rfl, by rw [HV.out]; exact ⟨HS.out, Keeps.refl _ _⟩⟩

set_option maxHeartbeats 1000000 in
theorem snum_any {w : World} {U : Nat → Prop} {sb r : Nat} {bs : List UInt8} {most : Nat} {s : IS} (h : IsSt w U sb r bs most s) (n : Nat) (hn : n ≤ 32) :
    Calls Try.prog 30 #[.pointer (some ⟨sb, 0, none⟩), .int .i64 n] w fun x w' => x = .returned (.int .i64 (numV bs n s).1) ∧ IsSt w' U sb r bs most (numV bs n s).2 ∧ Keeps U w w' := by
  obtain ⟨c0, c1, -, f1, -⟩ := h.cells
  have HS := Lib.hid h
  by_cases he : s.e = 0
  · rw [he] at c1
    by_cases hl : 8 * bs.length < s.at_ + n
    · have HV : Hid (numV bs n s = (0, failV 10 s)) := Lib.hid (by unfold numV failV; rw [if_neg (by simp [he]), if_pos hl, if_pos he])
      have HG := Lib.hid (get_cut r n bs false s.at_ w h.rd hn hl)
      clear h hl
      go_enter Try.func30, Try.ntmps30
      go_wp2_with fail
      refine HG.out.mono ?_
      rintro e w1 ⟨rfl, q, rfl⟩
      have HF := Lib.hid (sfail_any (HS.out.drewN q).1 10)
      clear c0 c1 f1
      go_wp2_with fail
      refine HF.out.mono ?_
      rintro e w2 ⟨rfl, h2, k2⟩
      have H2 := Lib.hid h2
      have K2 := Lib.hid k2
      clear h2 k2
      go_wp2
      go_ret
      exact ⟨by rw [HV.out]; rfl, by rw [HV.out]; exact ⟨H2.out, (HS.out.drewN q).2.trans K2.out (fun b hb => .inl hb)⟩⟩
    · have HV : Hid (numV bs n s = (getV (bitF bs s.at_) false n n, { s with at_ := s.at_ + n })) := Lib.hid (by unfold numV; rw [if_neg (by simp [he]), if_neg hl])
      have HG := Lib.hid (get_ok r n bs false s.at_ w h.rd hn (by omega))
      have HE := Lib.hid he
      clear h hl
      go_enter Try.func30, Try.ntmps30
      go_wp2_with fail
      refine HG.out.mono ?_
      rintro e w1 ⟨rfl, hR, hg⟩
      have HN := Lib.hid (HS.out.got hR hg)
      have HF := Lib.hid (sfail_any (HS.out.got hR hg).1 0)
      have hlt := getV_lt (bitF bs s.at_) false n n (Nat.le_refl _)
      have h32 := pow32 hn
      obtain ⟨g, hgv⟩ : ∃ g, g = getV (bitF bs s.at_) false n n := ⟨_, rfl⟩
      rw [← hgv] at HV hlt
      rw [show getV (fun k => bitAt bs false (s.at_ + k)) false n n = g from hgv.symm]
      have hg32 : g < 4294967296 := by omega
      clear c0 c1 f1 hR hg hlt h32 hgv
      go_wp2_with fail
      refine HF.out.mono ?_
      rintro e w2 ⟨rfl, h2, k2⟩
      have h3 := failV_zero { s with at_ := s.at_ + n }
      rw [h3] at h2
      have H2 := Lib.hid h2
      have K2 := Lib.hid k2
      clear h2 k2 h3
      go_wp2
      go_ret
      refine ⟨?_, by rw [HV.out]; exact ⟨H2.out, HN.out.2.trans K2.out (fun b hb => .inl hb)⟩⟩
      rw [HV.out]; rfl
  · have HV : Hid (numV bs n s = (0, s)) := Lib.hid (by unfold numV; rw [if_pos he])
    clear h
    go_enter Try.func30, Try.ntmps30
    go_wp2
    go_ret
    exact ⟨by rw [HV.out]; rfl, by rw [HV.out]; exact ⟨HS.out, Keeps.refl _ _⟩⟩
end Go.Proofs.Ytlmdgaajkjbpgaa
/-
  Plain: what Go's stable merge in place does to a row, by places.
-/
namespace Go.Proofs.Ytlmdgaajkjbpgaa
open Go.RowKit Go.Sort
variable {α : Type} [Inhabited α]

/-- n places from a on, and from b on, exchanged. -/
def swR (d : Array α) (a b n k : Nat) : α := if a ≤ k ∧ k < a + n then d[k - a + b]! else if b ≤ k ∧ k < b + n then d[k - b + a]! else d[k]!

theorem swR_zero (d : Array α) (a b k : Nat) : swR d a b 0 k = d[k]! := by
  unfold swR
  rw [if_neg (by omega), if_neg (by omega)]

theorem swR_step (d R : Array α) (a b n i : Nat) (hi : i < n) (hab : a + n ≤ b) (hb : b + n ≤ R.size) (hR : ∀ k, R[k]! = swR d a b i k) (k : Nat) : (swp R (a + i) (b + i))[k]! = swR d a b (i + 1) k := by
  by_cases h1 : k = a + i
  · subst h1
    rw [swp_left _ _ _ (by omega) (by omega), hR]
    unfold swR
    rw [if_neg (by omega), if_neg (by omega), if_pos (by omega)]
    exact congrArg (fun i => d[i]!) (by omega)
  · by_cases h2 : k = b + i
    · subst h2
      rw [swp_right _ _ _ (by omega), hR]
      unfold swR
      rw [if_neg (by omega), if_neg (by omega), if_neg (by omega), if_pos (by omega)]
      exact congrArg (fun i => d[i]!) (by omega)
    · rw [swp_other _ _ _ _ h1 h2, hR]
      unfold swR
      repeat' split
      all_goals first
        | rfl
        | (exfalso; omega)

/-- The places from a to m and from m to b, turned round as blocks. -/
def rotF (d : Array α) (a m b k : Nat) : α := if a ≤ k ∧ k < a + (b - m) then d[k + (m - a)]! else if a + (b - m) ≤ k ∧ k < b then d[k - (b - m)]! else d[k]!

theorem rot_gt (d R : Array α) (m i j : Nat) (hij : j < i) (him : i ≤ m) (hR : ∀ k, R[k]! = swR d (m - i) m j k) (k : Nat) : rotF R (m - (i - j)) m (m + j) k = rotF d (m - i) m (m + j) k := by
  unfold rotF
  simp only [hR, swR]
  repeat' split
  all_goals first
    | (exfalso; omega)
    | exact congrArg (fun i => d[i]!) (by omega)
theorem rot_lt (d R : Array α) (m i j : Nat) (hij : i < j) (him : i ≤ m) (hR : ∀ k, R[k]! = swR d (m - i) (m + j - i) i k) (k : Nat) : rotF R (m - i) m (m + (j - i)) k = rotF d (m - i) m (m + j) k := by
  unfold rotF
  simp only [hR, swR]
  repeat' split
  all_goals first
    | (exfalso; omega)
    | exact congrArg (fun i => d[i]!) (by omega)
theorem rot_eq (d R : Array α) (m i : Nat) (him : i ≤ m) (hR : ∀ k, R[k]! = swR d (m - i) m i k) (k : Nat) : R[k]! = rotF d (m - i) m (m + i) k := by
  unfold rotF
  simp only [hR, swR]
  repeat' split
  all_goals first
    | (exfalso; omega)
    | exact congrArg (fun i => d[i]!) (by omega)

variable {lt : α → α → Bool}

omit [Inhabited α] in
/-- Of x not behind u, u not behind v: x not behind v. -/
theorem chain3 (hS : SWO lt) {y u v x : α} (h1 : lt y u = false) (h2 : lt u v = false) (h3 : lt v x = false) : lt y x = false := hS.ntrans _ _ _ (hS.ntrans _ _ _ h1 h2) h3

theorem sorted_le (hS : SWO lt) {a b i j : Nat} {d : Array α} (h : SortedIn lt a b d) (hai : a ≤ i) (hij : i ≤ j) (hjb : j < b) : lt d[j]! d[i]! = false := by
  rcases Nat.lt_or_eq_of_le hij with h1 | h1
  · exact h i j hai h1 hjb
  · subst h1; exact hS.irrefl _

/-- What is left of the comparing function where the left part stood ahead of the right one. -/
def Agree (lt1 lt : α → α → Bool) (d : Array α) (a m b : Nat) : Prop := ∀ p q, a ≤ p → p < m → m ≤ q → q < b → lt1 d[q]! d[p]! = lt d[q]! d[p]!

theorem merge_done (hS : SWO lt) (d R R1 R2 : Array α) (a m b s e : Nat) (has : a ≤ s) (hsm : s ≤ m) (hme : m ≤ e) (heb : e ≤ b) (hb : b ≤ d.size) (hsz : R.size = d.size)
    (h1 : SortedIn lt a m d) (h2 : SortedIn lt m b d) (hR : ∀ k, R[k]! = rotF d s m e k)
    (H1 : a < s → e < b → lt d[e]! d[s - 1]! = false) (H2 : s < m → m < e → lt d[s]! d[e - 1]! = false)
    (p1 : PermIn a (s + (e - m)) R R1) (s1 : SortedIn lt a (s + (e - m)) R1) (p2 : PermIn (s + (e - m)) b R1 R2) (s2 : SortedIn lt (s + (e - m)) b R2) : SortedIn lt a b R2 := by
  have hmid : s + (e - m) ≤ b := by omega
  have lowx : ∀ k, a ≤ k → k < s + (e - m) → (∃ q, a ≤ q ∧ q < s ∧ R[k]! = d[q]!) ∨ (∃ q, m ≤ q ∧ q < e ∧ R[k]! = d[q]!) := by
    intro k hk1 hk2
    rw [hR, rotF]
    by_cases hks : k < s
    · left; exact ⟨k, hk1, hks, by rw [if_neg (by omega), if_neg (by omega)]⟩
    · right; exact ⟨k + (m - s), by omega, by omega, by rw [if_pos (by omega)]⟩
  have upx : ∀ k, s + (e - m) ≤ k → k < b → (∃ q, s ≤ q ∧ q < m ∧ R[k]! = d[q]!) ∨ (∃ q, e ≤ q ∧ q < b ∧ R[k]! = d[q]!) := by
    intro k hk1 hk2
    rw [hR, rotF]
    by_cases hke : k < e
    · left; exact ⟨k - (e - m), by omega, by omega, by rw [if_neg (by omega), if_pos (by omega)]⟩
    · right; exact ⟨k, by omega, hk2, by rw [if_neg (by omega), if_neg (by omega)]⟩
  have cross : ∀ i j, a ≤ i → i < s + (e - m) → s + (e - m) ≤ j → j < b → lt R[j]! R[i]! = false := by
    intro i j hi1 hi2 hj1 hj2
    rcases lowx i hi1 hi2 with ⟨q, q1, q2, hq⟩ | ⟨q, q1, q2, hq⟩ <;> rcases upx j hj1 hj2 with ⟨r, r1, r2, hr⟩ | ⟨r, r1, r2, hr⟩ <;> rw [hq, hr]
    · exact sorted_le hS h1 q1 (by omega) r2
    · exact chain3 hS (sorted_le hS h2 (by omega) r1 r2) (H1 (by omega) (by omega)) (sorted_le hS h1 q1 (by omega) (by omega))
    · exact chain3 hS (sorted_le hS h1 (by omega) r1 r2) (H2 (by omega) (by omega)) (sorted_le hS h2 q1 (by omega) (by omega))
    · exact sorted_le hS h2 q1 (by omega) r2
  -- what the first merge and the second leave
  have l1 : ∀ i, a ≤ i → i < s + (e - m) → ∀ j, s + (e - m) ≤ j → j < b → lt R[j]! R1[i]! = false := fun i hi1 hi2 j hj1 hj2 =>
    permIn_all R R1 a (s + (e - m)) (fun x => lt R[j]! x = false) (by omega) p1 (fun i h1 h2 => cross i j h1 h2 hj1 hj2) i hi1 hi2
  have l2 : ∀ i, a ≤ i → i < s + (e - m) → ∀ j, s + (e - m) ≤ j → j < b → lt R1[j]! R1[i]! = false := fun i hi1 hi2 j hj1 hj2 => by
    rw [p1.2.1 j (by omega)]; exact l1 i hi1 hi2 j hj1 hj2
  have l3 : ∀ i, a ≤ i → i < s + (e - m) → ∀ j, s + (e - m) ≤ j → j < b → lt R2[j]! R1[i]! = false := fun i hi1 hi2 =>
    permIn_all R1 R2 (s + (e - m)) b (fun x => lt x R1[i]! = false) (by rw [p1.1]; omega) p2 (fun j h1 h2 => l2 i hi1 hi2 j h1 h2)
  intro i j hai hij hjb
  by_cases hj : j < s + (e - m)
  · rw [p2.2.1 i (by omega), p2.2.1 j (by omega)]; exact s1 i j hai hij hj
  · by_cases hi : i < s + (e - m)
    · rw [p2.2.1 i (by omega)]; exact l3 i hai hi j (by omega) hjb
    · exact s2 i j (by omega) hij hjb

/-- One element from the left goes behind those of the right that are less. -/
theorem left_done (hS : SWO lt) (d R : Array α) (a b i : Nat) (hi : a + 1 ≤ i) (hib : i ≤ b) (h2 : SortedIn lt (a + 1) b d) (hlt : ∀ q, a + 1 ≤ q → q < i → lt d[q]! d[a]! = true) (hge : ∀ q, i ≤ q → q < b → lt d[q]! d[a]! = false)
    (hR : ∀ k, R[k]! = if a ≤ k ∧ k < i - 1 then d[k + 1]! else if k = i - 1 then d[a]! else d[k]!) : SortedIn lt a b R := by
  intro p q hap hpq hqb
  rw [hR p, hR q]
  have asym : ∀ x y, lt x y = true → lt y x = false := fun x y h => by
    cases h2 : lt y x with
    | false => rfl
    | true => have := hS.trans _ _ _ h h2; rw [hS.irrefl] at this; cases this
  by_cases c1 : q < i - 1
  · rw [if_pos (by omega), if_pos (by omega)]; exact h2 _ _ (by omega) (by omega) (by omega)
  · by_cases c2 : q = i - 1
    · rw [if_neg (by omega), if_pos c2, if_pos (by omega)]
      exact asym _ _ (hlt _ (by omega) (by omega))
    · rw [if_neg (by omega), if_neg c2]
      by_cases c3 : p < i - 1
      · rw [if_pos (by omega)]; exact h2 _ _ (by omega) (by omega) hqb
      · by_cases c4 : p = i - 1
        · rw [if_neg (by omega), if_pos c4]; exact hge q (by omega) hqb
        · rw [if_neg (by omega), if_neg c4]; exact h2 _ _ (by omega) hpq hqb

/-- One element from the right goes ahead of those of the left that are greater. -/
theorem right_done (hS : SWO lt) (d R : Array α) (a m i : Nat) (hai : a ≤ i) (him : i ≤ m) (h1 : SortedIn lt a m d) (hge : ∀ q, a ≤ q → q < i → lt d[m]! d[q]! = false) (hlt : ∀ q, i ≤ q → q < m → lt d[m]! d[q]! = true)
    (hR : ∀ k, R[k]! = if i < k ∧ k ≤ m then d[k - 1]! else if k = i then d[m]! else d[k]!) : SortedIn lt a (m + 1) R := by
  intro p q hap hpq hqb
  rw [hR p, hR q]
  have asym : ∀ x y, lt x y = true → lt y x = false := fun x y h => by
    cases h2 : lt y x with
    | false => rfl
    | true => have := hS.trans _ _ _ h h2; rw [hS.irrefl] at this; cases this
  by_cases c1 : i < q
  · rw [if_pos (by omega)]
    by_cases c2 : i < p
    · rw [if_pos (by omega)]; exact h1 _ _ (by omega) (by omega) (by omega)
    · by_cases c3 : p = i
      · rw [if_neg (by omega), if_pos c3]; exact asym _ _ (hlt _ (by omega) (by omega))
      · rw [if_neg (by omega), if_neg c3]; exact h1 _ _ hap (by omega) (by omega)
  · by_cases c2 : q = i
    · rw [if_neg (by omega), if_pos c2, if_neg (by omega), if_neg (by omega)]; exact hge _ hap (by omega)
    · rw [if_neg (by omega), if_neg c2, if_neg (by omega), if_neg (by omega)]; exact h1 _ _ hap hpq (by omega)

/-- A search's two sides, one step on. -/
theorem low_all (hS : SWO lt) {d : Array α} {m b h : Nat} {x : α} (hs : SortedIn lt m b d) (hh : h < b) (hx : lt d[h]! x = true) : ∀ q, m ≤ q → q ≤ h → lt d[q]! x = true := by
  intro q h1 h2
  cases hq : lt d[q]! x with
  | true => rfl
  | false => have := hS.ntrans _ _ _ (sorted_le hS hs h1 h2 hh) hq; rw [hx] at this; cases this
theorem high_all (hS : SWO lt) {d : Array α} {m b h : Nat} {x : α} (hs : SortedIn lt m b d) (hm : m ≤ h) (hx : lt d[h]! x = false) : ∀ q, h ≤ q → q < b → lt d[q]! x = false :=
  fun _ h1 h2 => hS.ntrans _ _ _ (sorted_le hS hs hm h1 h2) hx
theorem low_all' (hS : SWO lt) {d : Array α} {a m h : Nat} {x : α} (hs : SortedIn lt a m d) (hh : h < m) (hx : lt x d[h]! = false) : ∀ q, a ≤ q → q ≤ h → lt x d[q]! = false :=
  fun _ h1 h2 => hS.ntrans _ _ _ hx (sorted_le hS hs h1 h2 hh)
theorem high_all' (hS : SWO lt) {d : Array α} {a m h : Nat} {x : α} (hs : SortedIn lt a m d) (hm : a ≤ h) (hx : lt x d[h]! = true) : ∀ q, h ≤ q → q < m → lt x d[q]! = true := by
  intro q h1 h2
  cases hq : lt x d[q]! with
  | true => rfl
  | false => have := hS.ntrans _ _ _ hq (sorted_le hS hs hm h1 h2); rw [hx] at this; cases this
end Go.Proofs.Ytlmdgaajkjbpgaa
/-
  Go's exchange and turn of a row's parts, at elements of one cell ([]int).
-/
namespace Go.Proofs.Ytlmdgaajkjbpgaa
open Go.RowKit Go.Sort

set_option maxHeartbeats 2000000 in
theorem swapR_any {α : Type} [Inhabited α] (enc : α → Value) (hE : ∀ x, ∃ n, enc x = .int .i64 n) (F : Value) (g cap a b n : Nat) (rest : List Value) (d : Array α) (w0 w : World)
    (hS : SB enc w0 g 3 rest d w) (hab : a + n ≤ b) (hb : b + n ≤ d.size) (hsz : d.size < 4611686018427387904) :
    Calls Try.prog 72 #[.slice (some ⟨g, 0, none⟩) d.size cap, .int .i64 a, .int .i64 b, .int .i64 n, F] w fun e w' => e = .returned (.tuple #[]) ∧ ∃ R : Array α, R.size = d.size ∧ SB enc w0 g 3 rest R w' ∧ (∀ k, R[k]! = swR d a b n k) ∧ PermIn a (b + n) d R := by
  have HS := Lib.hid hS
  clear hS
  go_enter Try.func72, Try.ntmps72
  go_wp2
  go_loopw [10] (fun vi wr => ∃ (i : Nat) (dk : Array α), vi = .int .i64 i ∧ i ≤ n ∧ dk.size = d.size ∧ Hid (SB enc w0 g 3 rest dk wr) ∧ Hid (∀ k, dk[k]! = swR d a b i k) ∧ Hid (PermIn a (b + n) d dk)) (fun vi _ => n - (intOf vi).toNat)
  case atStart => exact ⟨0, d, rfl, by omega, rfl, HS, Lib.hid (fun k => (swR_zero d a b k).symm), Lib.hid (permIn_refl _ _ _)⟩
  case round =>
    obtain ⟨i, dk, rfl, hin, hsk, HSk, HR, HP⟩ := hrel
    clear HS
    by_cases hlt : i < n
    · have hc1 := HSk.out.cell (a + i) (by omega)
      have hc2 := HSk.out.cell (b + i) (by omega)
      have hf1 := HSk.out.free (a + i)
      have hf2 := HSk.out.free (b + i)
      obtain ⟨X, hX⟩ : ∃ X, X = dk[a + i]! := ⟨_, rfl⟩
      obtain ⟨Y, hY⟩ : ∃ Y, Y = dk[b + i]! := ⟨_, rfl⟩
      rw [← hX] at hc1
      rw [← hY] at hc2
      have HX := Lib.hid hX
      have HY := Lib.hid hY
      obtain ⟨x, hx⟩ := hE X
      obtain ⟨y, hy⟩ := hE Y
      rw [hx] at hc1
      rw [hy] at hc2
      have HEx := Lib.hid hx
      have HEy := Lib.hid hy
      clear hx hy hX hY
      have hj1 : ((a : Int) + (i : Int)).toNat = a + i := by omega
      have hj2 : ((b : Int) + (i : Int)).toNat = b + i := by omega
      have hb1 : (a : Int) + (i : Int) < (d.size : Int) := by omega
      have hb2 : (b : Int) + (i : Int) < (d.size : Int) := by omega
      go_wp2
      go_region
      all_goals go_wp2
      go_roundw
      case rel =>
        refine ⟨i + 1, swp dk (a + i) (b + i), by go_num, by omega, by rw [size_swp]; exact hsk, ?_, Lib.hid (swR_step d dk a b n i hlt hab (by omega) HR.out), Lib.hid (permIn_trans _ _ _ _ _ HP.out (swp_permIn dk a (b + n) (a + i) (b + i) (by omega) (by omega) (by omega) (by omega) (by omega)))⟩
        have hw := HSk.out.swp (a + i) (b + i) (by omega) (by omega) 1
        rw [← HX.out, ← HY.out, HEx.out, HEy.out] at hw
        exact Lib.hid hw
      case measure => simp [intOf]; omega
    · obtain rfl : n = i := by omega
      go_wp2
      go_end0
      exact ⟨rfl, dk, hsk, HSk.out, HR.out, HP.out⟩

set_option maxHeartbeats 2000000 in
theorem rot_any {α : Type} [Inhabited α] (enc : α → Value) (hE : ∀ x, ∃ n, enc x = .int .i64 n) (F : Value) (g cap a m b : Nat) (rest : List Value) (d : Array α) (w0 w : World)
    (hS : SB enc w0 g 3 rest d w) (ham : a < m) (hmb : m < b) (hb : b ≤ d.size) (hsz : d.size < 4611686018427387904) :
    Calls Try.prog 71 #[.slice (some ⟨g, 0, none⟩) d.size cap, .int .i64 a, .int .i64 m, .int .i64 b, F] w fun e w' => e = .returned (.tuple #[]) ∧ ∃ R : Array α, R.size = d.size ∧ SB enc w0 g 3 rest R w' ∧ (∀ k, R[k]! = rotF d a m b k) ∧ PermIn a b d R := by
  have HS := Lib.hid hS
  clear hS
  go_enter Try.func71, Try.ntmps71
  go_wp2
  go_loopw [10, 11] (fun vi vj wr => ∃ (i j : Nat) (dk : Array α), vi = .int .i64 i ∧ vj = .int .i64 j ∧ 0 < i ∧ 0 < j ∧ i ≤ m - a ∧ j ≤ b - m ∧ dk.size = d.size ∧ Hid (SB enc w0 g 3 rest dk wr) ∧ Hid (∀ k, rotF dk (m - i) m (m + j) k = rotF d a m b k) ∧ Hid (PermIn a b d dk)) (fun vi vj _ => (intOf vi).toNat + (intOf vj).toNat)
  case atStart => exact ⟨m - a, b - m, d, by go_num, by go_num, by omega, by omega, by omega, by omega, rfl, HS, Lib.hid (fun k => by rw [show m - (m - a) = a from by omega, show m + (b - m) = b from by omega]), Lib.hid (permIn_refl _ _ _)⟩
  case round =>
    obtain ⟨i, j, dk, rfl, rfl, hi, hj, him, hjm, hsk, HSk, HR, HP⟩ := hrel
    clear HS
    have hmi : ((m - i : Nat) : Int) = (m : Int) - i := by omega
    by_cases hgt : j < i
    · have hsw := swapR_any enc hE F g cap (m - i) m j rest dk w0 wr HSk.out (by omega) (by omega) (by omega)
      rw [hmi, hsk] at hsw
      have HSW := Lib.hid hsw
      have hne : ((i : Int) == (j : Int)) = false := by rw [beq_eq_false_iff_ne]; omega
      clear hsw
      go_wp2_with (go_at_call 72; refine HSW.out.mono ?_; rintro e w2 ⟨rfl, R, hRs, hRB, hRk, hRP⟩; have HB2 := Lib.hid hRB; have HK2 := Lib.hid hRk; have HP2 := Lib.hid hRP; clear hRB hRk hRP)
      go_roundw
      case rel => exact ⟨i - j, j, R, by go_num, rfl, by omega, by omega, by omega, by omega, hRs, HB2, Lib.hid (fun k => by rw [rot_gt dk R m i j hgt (by omega) HK2.out k]; exact HR.out k), Lib.hid (permIn_trans _ _ _ _ _ HP.out (permIn_mono dk R (m - i) (m + j) a b (by omega) (by omega) (by omega) HP2.out))⟩
      case measure => simp [intOf]; omega
    · by_cases hlt : i < j
      · have hsw := swapR_any enc hE F g cap (m - i) (m + j - i) i rest dk w0 wr HSk.out (by omega) (by omega) (by omega)
        rw [hmi, hsk, show ((m + j - i : Nat) : Int) = (m : Int) + j - i from by omega] at hsw
        have HSW := Lib.hid hsw
        have hne : ((i : Int) == (j : Int)) = false := by rw [beq_eq_false_iff_ne]; omega
        clear hsw
        go_wp2_with (go_at_call 72; refine HSW.out.mono ?_; rintro e w2 ⟨rfl, R, hRs, hRB, hRk, hRP⟩; have HB2 := Lib.hid hRB; have HK2 := Lib.hid hRk; have HP2 := Lib.hid hRP; clear hRB hRk hRP)
        go_roundw
        case rel => exact ⟨i, j - i, R, rfl, by go_num, by omega, by omega, by omega, by omega, hRs, HB2, Lib.hid (fun k => by rw [rot_lt dk R m i j hlt (by omega) HK2.out k]; exact HR.out k), Lib.hid (permIn_trans _ _ _ _ _ HP.out (permIn_mono dk R (m - i) (m + j - i + i) a b (by omega) (by omega) (by omega) HP2.out))⟩
        case measure => simp [intOf]; omega
      · obtain rfl : i = j := by omega
        have hsw := swapR_any enc hE F g cap (m - i) m i rest dk w0 wr HSk.out (by omega) (by omega) (by omega)
        rw [hmi, hsk] at hsw
        have HSW := Lib.hid hsw
        clear hsw
        go_wp2_with (go_at_call 72; refine HSW.out.mono ?_; rintro e w2 ⟨rfl, R, hRs, hRB, hRk, hRP⟩; have HB2 := Lib.hid hRB; have HK2 := Lib.hid hRk; have HP2 := Lib.hid hRP; clear hRB hRk hRP)
        go_end0
        exact ⟨rfl, R, hRs, HB2.out, fun k => by rw [rot_eq dk R m i (by omega) HK2.out k]; exact HR.out k, permIn_trans _ _ _ _ _ HP.out (permIn_mono dk R (m - i) (m + i) a b (by omega) (by omega) (by omega) HP2.out)⟩
end Go.Proofs.Ytlmdgaajkjbpgaa
