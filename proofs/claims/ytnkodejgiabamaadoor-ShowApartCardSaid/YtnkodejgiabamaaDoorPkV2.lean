/-
  Our texts App to LexQ, in one.
-/
import Derived.Test.YtnkodejgiabamaaDoorPkV1
/-
  'append' on a slice of the call's own, told more sharply: where the new value lies.
-/
namespace Go.Proofs.YtnkodejgiabamaaDoor
open Go.RowKit

/-- Where the one lies if not where the other lay: in memory that is new. -/
def NewAt (w : World) (v v' : Value) : Prop := ∀ b, v'.ownBlock = some b → v.ownBlock = some b ∨ w.heap.size ≤ b

theorem run_append_at {P : Program} (w : World) (base : Nat) (t ty e : TypeId) (i : TypeInfo) (z : Value) (size bytes : Nat) (ht : P.underlying t = some (.slice e)) (hi : P.info? e = some i) (hz : i.zero = some z)
    (hsize : i.size = size) (hby : i.bytes = bytes) (hzs : z.cells.size = size) (hsz : 0 < size)
    (v : Value) (n : Nat) (xs : List Value) (hown : w.ownsRow base e size v n xs)
    (a : Addr) (m c : Nat) (news : List Value) (hl : news.length = m * size) (hnews : ∀ j u, news[j]? = some u → w.cell? (a.add j) = some u) (h1 : ∀ u ∈ news, u.oneCell' = true)
    (h63 : n + m ≤ maxLen) (hbytes : (n + m) * bytes ≤ 140737488355328) (hbase : base ≤ w.heap.size) :
    ∃ v' w', (Builtin.append_ #[t, t] ty #[v, .slice (some a) m c]).run P w = .ok v' w' ∧ w'.ownsRow base e size v' (n + m) (xs ++ news) ∧ w.grownBy w' v.ownBlock ∧
      (v' = .slice none 0 0 ↔ v = .slice none 0 0 ∧ m = 0) ∧ NewAt w v v' := by
  obtain ⟨v', w', hr, h2, h3, h4⟩ := run_append_own (P := P) w base t ty e i z size bytes ht hi hz hsize hby hzs hsz v n xs hown a m c news hl hnews h1 h63 hbytes hbase
  refine ⟨v', w', hr, h2, h3, h4, ?_⟩
  have hsmall : n + m ≤ 9223372036854775807 := by simp only [maxLen] at h63; omega
  rcases hown.2 with ⟨rfl, hx⟩ | ⟨g, cap, cur, rfl, hbg, hg, hnc, hcm, hcs, htake⟩
  · obtain ⟨v2, w2, hr2, g2, _, _⟩ := run_append_own (P := P) w w.heap.size t ty e i z size bytes ht hi hz hsize hby hzs hsz _ n xs ⟨hown.1, .inl ⟨rfl, hx⟩⟩ a m c news hl hnews h1 h63 hbytes (Nat.le_refl _)
    rw [hr] at hr2
    simp only [Result.ok.injEq] at hr2
    obtain ⟨rfl, rfl⟩ := hr2
    exact fun b hb => .inr (g2.lt b hb).1
  · subst hsize hby
    by_cases hroom : n + m ≤ cap
    · have hfit : n * i.size + news.length ≤ cur.size := by rw [hl, hcs, ← Nat.add_mul]; exact Nat.mul_le_mul_right _ hroom
      have hr2 := run_append_room (P := P) w t ty e i ht hi g n cap cur hg a m c news hl hnews h1 hroom hfit
      rw [hr] at hr2
      simp only [Result.ok.injEq] at hr2
      obtain ⟨rfl, rfl⟩ := hr2
      exact fun b hb => .inl hb
    · have hr2 := run_append_grow (P := P) w t ty e i z ht hi hz ⟨g, 0, none⟩ n cap xs hown.1 (hown.cells (g := g) rfl) a m c news hl hnews (by omega) (by omega) (growslice_fits (by omega) hbytes)
      rw [hr] at hr2
      simp only [Result.ok.injEq] at hr2
      obtain ⟨rfl, rfl⟩ := hr2
      intro b hb
      simp [Value.ownBlock] at hb
      right; omega

/-- 'append(v, x...)', v the call's own, x whatever slice that reads as a row; where the new value lies. -/
theorem append_at {P : Program} {w : World} {ops : Array Oper} {rest : List Oper} {o : Oper} {a : Act} {Q : Exit → Act → World → Prop} {t e : TypeId} {z : Value} {size bytes : Nat} (T : ElemT P t e z size bytes)
    (hgd : o.guard = none) (s x : Operand) (ho : o.op = .call { callee := .builtin .append, args := #[s, x], argTypes := #[t, t] })
    (base : Nat) (v : Value) (n : Nat) (xs : List Value) (hs : a.eval s = v) (hown : w.ownsRow base e size v n xs)
    (ao : Option Addr) (m c : Nat) (news : List Value) (hx : a.eval x = .slice ao m c) (hr : Row w size ao m c news) (h1 : ∀ u ∈ news, u.oneCell' = true)
    (h63 : n + m ≤ maxLen) (hbytes : (n + m) * bytes ≤ 140737488355328) (hbase : base ≤ w.heap.size)
    (h : ∀ v' w', w'.ownsRow base e size v' (n + m) (xs ++ news) → w.grownBy w' v.ownBlock → NewAt w v v' → wpList P ops Q rest (a.put o.dst v') w') : wpList P ops Q (o :: rest) a w := by
  obtain ⟨i, hi, hz, hs', hb⟩ := info_parts T.info
  subst hb
  obtain ⟨r1, r2, r3, r4, r5⟩ := hr
  cases ao with
  | some ad =>
    refine wpList_plain hgd fun K hK => ?_
    obtain ⟨v', w', hrun, g2, g3, _, g5⟩ := run_append_at (P := P) w base t o.type e i z size i.bytes T.und hi hz hs' rfl T.cells T.pos v n xs hown ad m c news r1 (fun j u hj => by
      by_cases hm : 0 < m
      · obtain ⟨b, off, hab, _, hc⟩ := r5 hm
        obtain rfl := Option.some.inj hab
        rw [Addr.add_lit]; exact hc j u hj
      · obtain rfl : m = 0 := by omega
        have : news = [] := List.eq_nil_of_length_eq_zero (by simpa using r1)
        subst this; simp at hj) h1 h63 hbytes hbase
    unfold Oper.wp
    simp [execOp, ho, resolve, invoke, builtin, hs, hx, hrun, Result.andThen]
    exact hK _ _ (h v' w' g2 g3 g5)
  | none =>
    obtain rfl := r4 rfl
    obtain rfl : m = 0 := by omega
    have : news = [] := List.eq_nil_of_length_eq_zero (by simpa using r1)
    subst this
    refine wpList_plain hgd fun K hK => ?_
    have hrun := run_append_owned_none (P := P) w base t o.type e i size T.und hi v n xs hown
    unfold Oper.wp
    simp [execOp, ho, resolve, invoke, builtin, hs, hx, hrun, Result.andThen]
    exact hK _ _ (h v w (by simpa using hown) ⟨rfl, rfl, rfl, Nat.le_refl _, fun _ _ _ => rfl⟩ (fun b hb => .inl hb))

/-- What stays: all blocks but those that S knows. -/
structure Keeps (S : Nat → Prop) (w w' : World) : Prop where
  os : w'.os = w.os
  tape : w'.tape = w.tape
  output : w'.output = w.output
  size : w.heap.size ≤ w'.heap.size
  block : ∀ b, b < w.heap.size → ¬ S b → w'.heap[b]? = w.heap[b]?

theorem Keeps.refl (S : Nat → Prop) (w : World) : Keeps S w w := ⟨rfl, rfl, rfl, Nat.le_refl _, fun _ _ _ => rfl⟩
theorem Keeps.trans {S S' : Nat → Prop} {a b c : World} (h : Keeps S a b) (k : Keeps S' b c) (hS : ∀ x, S' x → S x ∨ a.heap.size ≤ x) : Keeps S a c :=
  ⟨k.os.trans h.os, k.tape.trans h.tape, k.output.trans h.output, Nat.le_trans h.size k.size, fun x hx hn => (k.block x (Nat.lt_of_lt_of_le hx h.size) (fun e => (hS x e).elim hn (fun h => by omega))).trans (h.block x hx hn)⟩
theorem Keeps.of_grown {S : Nat → Prop} {w w' : World} {row : Option Nat} (h : w.grownBy w' row) (hr : ∀ k, row = some k → S k) : Keeps S w w' :=
  ⟨h.os, h.tape, h.output, h.size, fun b hb hn => h.block b hb (fun e => hn (hr b e.symm))⟩
theorem Keeps.of_below {S : Nat → Prop} {w w' : World} {B : Nat} (h : Below B w w') (hS : ∀ b, B ≤ b → S b) : Keeps S w w' :=
  ⟨h.os, h.tape, h.output, h.size, fun b _ hn => h.block b (Nat.lt_of_not_le fun e => hn (hS b e))⟩
theorem Keeps.below {S : Nat → Prop} {w w' : World} {B : Nat} (h : Keeps S w w') (hB : B ≤ w.heap.size) (hS : ∀ b, S b → B ≤ b) : Below B w w' :=
  ⟨h.os, h.tape, h.output, h.size, fun b hb => h.block b (by omega) (fun e => by have := hS b e; omega)⟩
theorem Keeps.cell {S : Nat → Prop} {w w' : World} (h : Keeps S w w') {b o : Nat} {v : Value} (hc : w.cell? ⟨b, o, none⟩ = some v) (hn : ¬ S b) : w'.cell? ⟨b, o, none⟩ = some v := by
  have hlt : b < w.heap.size := World.block_lt_of_cell? w _ hc
  rw [World.cell?_of_block (w := w) (a := ⟨b, o, none⟩) (h.block b hlt hn)]; exact hc
theorem Keeps.obj {S : Nat → Prop} {w w' : World} (h : Keeps S w w') {b : Nat} {o : Obj} (hc : w.heap[b]? = some o) (hn : ¬ S b) : w'.heap[b]? = some o := by
  rw [h.block b (Array.getElem?_eq_some_iff.1 hc).1 hn]; exact hc
theorem Row.keeps {S : Nat → Prop} {w w' : World} {sz : Nat} {a : Option Addr} {n cap : Nat} {xs : List Value} (h : Row w sz a n cap xs) (hk : Keeps S w w') (hne : ∀ x, a = some x → ¬ S x.block) : Row w' sz a n cap xs := by
  obtain ⟨h1, h2, h3, h4, h5⟩ := h
  refine ⟨h1, h2, h3, h4, fun hn => ?_⟩
  obtain ⟨b, off, ha, hlt, hc⟩ := h5 hn
  exact ⟨b, off, ha, Nat.lt_of_lt_of_le hlt hk.size, fun j u hj => hk.cell (hc j u hj) (hne _ ha)⟩
theorem owns_keeps {S : Nat → Prop} {w w' : World} {base e sz : Nat} {v : Value} {n : Nat} {xs : List Value} (h : w.ownsRow base e sz v n xs) (hk : Keeps S w w') (hne : ∀ b, v.ownBlock = some b → ¬ S b) : w'.ownsRow base e sz v n xs := by
  obtain ⟨h1, h2⟩ := h
  refine ⟨h1, ?_⟩
  rcases h2 with h2 | ⟨g, cap, cur, hv, hg, hh, r⟩
  · exact .inl h2
  · exact .inr ⟨g, cap, cur, hv, hg, hk.obj hh (hne g (by rw [hv]; rfl)), r⟩
theorem Keeps.weaken {S S' : Nat → Prop} {w w' : World} (h : Keeps S w w') (hS : ∀ b, S b → S' b) : Keeps S' w w' := ⟨h.os, h.tape, h.output, h.size, fun b hb hn => h.block b hb (fun e => hn (hS b e))⟩
theorem Keeps.drewN {S : Nat → Prop} {w w' : World} (h : Keeps S w w') (q : Nat) : Keeps S w (w'.drewN q) := ⟨h.os, h.tape, h.output, h.size, h.block⟩
theorem Keeps.alloc {S : Nat → Prop} {w w' : World} (h : Keeps S w w') (o : Obj) : Keeps S w (w'.alloc o) :=
  ⟨h.os, h.tape, h.output, by rw [sizeA]; have := h.size; omega, fun b hb hn => (Below.heap_alloc w' o b (Nat.lt_of_lt_of_le hb h.size)).trans (h.block b hb hn)⟩
theorem Keeps.setCell {S : Nat → Prop} {w w' : World} (h : Keeps S w w') {a : Addr} (ha : S a.block ∨ w.heap.size ≤ a.block) (v : Value) : Keeps S w (w'.setCell a v) :=
  ⟨h.os, h.tape, h.output, by simpa [World.setCell] using h.size, fun b hb hn => (heap_setCell_other w' a b v (fun e => by rcases ha with h1 | h1; exact hn (e ▸ h1); omega)).trans (h.block b hb hn)⟩
theorem Keeps.grown {S : Nat → Prop} {w w' w2 : World} {row : Option Nat} (h : Keeps S w w') (hg : w'.grownBy w2 row) (hr : ∀ k, row = some k → S k ∨ w.heap.size ≤ k) : Keeps S w w2 :=
  h.trans (Keeps.of_grown (S := fun k => row = some k) hg fun _ hk => hk) hr
end Go.Proofs.YtnkodejgiabamaaDoor
/-
  Bytes as a string's value.
-/
namespace Go.Proofs.YtnkodejgiabamaaDoor
open Go.RowKit

def mkB (l : List UInt8) : ByteArray := ⟨l.toArray⟩
theorem bl_mkB (l : List UInt8) : bl (mkB l) = l := rfl
theorem mkB_bl (s : ByteArray) : mkB (bl s) = s := rfl
theorem mkB_size (l : List UInt8) : (mkB l).size = l.length := by unfold mkB; simp [ByteArray.size]
theorem mkB_ext {a b : ByteArray} (h : bl a = bl b) : a = b := by rw [← mkB_bl a, ← mkB_bl b, h]

end Go.Proofs.YtnkodejgiabamaaDoor
/-
  What the given frame tells of an argument, in our words: a slice of numbers, of bytes, reads as a row.
-/
namespace Go.Proofs.YtnkodejgiabamaaDoor
open Go.RowKit

theorem row_arg {k : IntKind} {w : World} {a : Option Addr} {len cap : Nat} {zs : List Int}
    (h : (a = none ∧ len = 0 ∧ cap = 0 ∧ zs = []) ∨ ∃ x, a = some x ∧ len ≤ cap ∧ cap ≤ maxLen ∧ zs.length = cap ∧ (∀ i, i < zs.length → w.cell? (x.add i) = some (.int k (zs.getD i 0))) ∧ ∀ n ∈ zs, (Lit.int k n).wf = true) :
    Row w 1 a len cap ((zs.take len).map (Value.int k)) ∧ (∀ n ∈ zs.take len, (Lit.int k n).wf = true) ∧ (zs.take len).length = len := by
  rcases h with ⟨rfl, rfl, rfl, rfl⟩ | ⟨x, rfl, hl, hm, hz, hc, hw⟩
  · exact ⟨Row.nil w 1, by simp, by simp⟩
  · refine ⟨⟨by simp; omega, hl, hm, fun h => (by cases h), fun hn => ?_⟩, fun n hn => hw n (List.mem_of_mem_take hn), by simp; omega⟩
    have h0 := hc 0 (by omega)
    have hb := World.block_lt_of_cell? w _ h0
    obtain ⟨b, off, spot⟩ := x
    have hspot : spot = none := by simpa [Addr.add] using World.cell?_spot h0
    subst hspot
    refine ⟨b, off, rfl, by simpa [Addr.add] using hb, fun j u hj => ?_⟩
    have hj2 : j < len := by
      have := (List.getElem?_eq_some_iff.1 hj).1
      simp at this; omega
    have h1 := hc j (by omega)
    rw [Addr.add_lit] at h1
    rw [h1, ← hj]
    simp [hj2, List.getD, show j < zs.length by omega]

theorem below_drewN {B : Nat} {a w : World} (h : Below B a w) (n : Nat) : Below B a (w.drewN n) := ⟨h.os, h.tape, h.output, h.size, h.block⟩

theorem wf_i64_bd {n : Int} (h : (Lit.int .i64 n).wf = true) : -9223372036854775808 ≤ n ∧ n ≤ 9223372036854775807 := by
  simp [Lit.wf, IntKind.min, IntKind.max, IntKind.signed, IntKind.bits] at h; omega

theorem row_bytes {w : World} {a : Option Addr} {len cap : Nat} {zs : List Int}
    (h : (a = none ∧ len = 0 ∧ cap = 0 ∧ zs = []) ∨ ∃ x, a = some x ∧ len ≤ cap ∧ cap ≤ maxLen ∧ zs.length = cap ∧ (∀ i, i < zs.length → w.cell? (x.add i) = some (.int .u8 (zs.getD i 0))) ∧ ∀ n ∈ zs, (Lit.int .u8 n).wf = true) :
    ∃ bs : List UInt8, bs.length = len ∧ Row w 1 a bs.length cap (bs.map fun b => Value.int .u8 b.toNat) := by
  obtain ⟨hr, hw, hl⟩ := row_arg h
  refine ⟨(zs.take len).map fun n => UInt8.ofNat n.toNat, by simpa using hl, ?_⟩
  have e : ((zs.take len).map fun n => UInt8.ofNat n.toNat).map (fun b => Value.int .u8 b.toNat) = (zs.take len).map (Value.int .u8) := by
    rw [List.map_map]
    refine List.map_congr_left fun n hn => ?_
    have := hw n hn
    simp [Lit.wf, IntKind.min, IntKind.max, IntKind.signed, IntKind.bits] at this
    simp
    omega
  rw [e, List.length_map, hl]
  exact hr
end Go.Proofs.YtnkodejgiabamaaDoor
/-
  Plain half of layer 10: space, delimiters, texts, names, tokens.
-/
namespace Go.Proofs.YtnkodejgiabamaaDoor

def isSp (c : UInt8) : Bool := c == 0 || c == 9 || c == 10 || c == 12 || c == 13 || c == 32
def isDl (c : UInt8) : Bool := c == 40 || c == 41 || c == 60 || c == 62 || c == 91 || c == 93 || c == 123 || c == 125 || c == 47 || c == 37
def isRg (c : UInt8) : Bool := !isSp c && !isDl c
def isOc (c : UInt8) : Bool := decide (48 ≤ c.toNat) && decide (c.toNat ≤ 55)
/-- A digit to the base 16; below 0: none. -/
def hexD (c : UInt8) : Int :=
  if 48 ≤ c.toNat ∧ c.toNat ≤ 57 then (c.toNat : Int) - 48 else if 97 ≤ c.toNat ∧ c.toNat ≤ 102 then (c.toNat : Int) - 87 else if 65 ≤ c.toNat ∧ c.toNat ≤ 70 then (c.toNat : Int) - 55 else -1
theorem hexD_bd (c : UInt8) : -1 ≤ hexD c ∧ hexD c ≤ 15 := by
  unfold hexD
  repeat' split
  all_goals omega

/-- How many bytes are space and comments. -/
def skipN : Bool → List UInt8 → Nat
  | _, [] => 0
  | true, c :: l => 1 + skipN (c != 10 && c != 13) l
  | false, c :: l => if c = 37 then 1 + skipN true l else if isSp c = true then 1 + skipN false l else 0
theorem skipN_le : ∀ (b : Bool) (l : List UInt8), skipN b l ≤ l.length
  | _, [] => by simp [skipN]
  | true, c :: l => by have := skipN_le (c != 10 && c != 13) l; simp only [skipN, List.length_cons]; omega
  | false, c :: l => by
    have h1 := skipN_le true l
    have h2 := skipN_le false l
    simp only [skipN, List.length_cons]
    split
    · omega
    · split <;> omega
def skipV (bs : List UInt8) (k : Int) : Nat := if k < 0 then 0 else if (bs.length : Int) ≤ k then bs.length else k.toNat + skipN false (bs.drop k.toNat)
/-- A comment's end is space. -/
theorem skipN_nl {c : UInt8} (l : List UInt8) (h : c = 10 ∨ c = 13) : skipN true (c :: l) = skipN false (c :: l) := by
  rcases h with rfl | rfl <;> simp [skipN, isSp]
theorem skipN_pc (l : List UInt8) : skipN false (37 :: l) = skipN true (37 :: l) := by simp [skipN]

/-- What stands behind a 13 in a text: how many bytes of it go; none: nobody knows. -/
def lineV (last : Bool) : List UInt8 → Option Nat
  | [] => if last then some 0 else none
  | d :: _ => some (if d = 10 then 1 else 0)
/-- One to three digits: a byte, and how many there are. -/
def octV (last : Bool) (c : UInt8) : List UInt8 → Option (Nat × Nat)
  | [] => if last then some (c.toNat - 48, 1) else none
  | d :: t => if isOc d = true then
      (match t with
        | [] => if last then some (8 * (c.toNat - 48) + (d.toNat - 48), 2) else none
        | e :: _ => if isOc e = true then some (8 * (8 * (c.toNat - 48) + (d.toNat - 48)) + (e.toNat - 48), 3) else some (8 * (c.toNat - 48) + (d.toNat - 48), 2))
    else some (c.toNat - 48, 1)
/-- What stands behind a backslash: bytes, and how many go. -/
def escV (last : Bool) : List UInt8 → Option (List UInt8 × Nat)
  | [] => none
  | c :: t =>
    if c = 110 then some ([10], 1) else if c = 114 then some ([13], 1) else if c = 116 then some ([9], 1) else if c = 98 then some ([8], 1) else if c = 102 then some ([12], 1)
    else if isOc c = true then (octV last c t).map fun x => ([UInt8.ofNat x.1], x.2)
    else if c = 10 then some ([], 1)
    else if c = 13 then (lineV last t).map fun k => ([], k + 1)
    else some ([c], 1)
/-- A text in brackets, behind the first: its bytes, and what stands behind it. -/
def textV (last : Bool) (deep : Nat) (out : List UInt8) (l : List UInt8) : Option (List UInt8 × List UInt8) :=
  match l with
  | [] => none
  | c :: t =>
    if c = 92 then (match escV last t with | none => none | some (x, k) => textV last deep (out ++ x) (t.drop k))
    else if c = 13 then (match lineV last t with | none => none | some k => textV last deep (out ++ [10]) (t.drop k))
    else if c = 40 then textV last (deep + 1) (out ++ [c]) t
    else if c = 41 then (if deep = 1 then some (out, t) else textV last (deep - 1) (out ++ [c]) t)
    else textV last deep (out ++ [c]) t
termination_by l.length
decreasing_by all_goals (simp only [List.length_cons, List.length_drop]; omega)
/-- A text in hex, behind the first: 0, its bytes, what stands behind it; 1: it is open; 11: of another form. -/
def hexV (out : List UInt8) (half : Int) : List UInt8 → Int × List UInt8 × List UInt8
  | [] => (1, [], [])
  | c :: t =>
    if c = 62 then (0, if 0 ≤ half then out ++ [UInt8.ofNat (16 * half).toNat] else out, t)
    else if isSp c = true then hexV out half t
    else if hexD c < 0 then (11, [], [])
    else if half < 0 then hexV out (hexD c) t
    else hexV (out ++ [UInt8.ofNat (16 * half + hexD c).toNat]) (-1) t
/-- A name's bytes. -/
def nameGo (out : List UInt8) : List UInt8 → Option (List UInt8)
  | [] => some out
  | c :: t => if c = 35 then
      (match t with
        | x :: y :: u => if hexD x < 0 ∨ hexD y < 0 then none else nameGo (out ++ [UInt8.ofNat (16 * hexD x + hexD y).toNat]) u
        | _ => none)
    else nameGo (out ++ [c]) t
def nameV (w : List UInt8) : Option (List UInt8) := match nameGo [] w with | none => none | some o => if 127 < o.length ∨ (0 : UInt8) ∈ o then none else some o

/-- A token: its kind, its value's kind, number, text, its own text. -/
structure Tk where
  kind : Int
  vk : Int := 0
  vn : Int := 0
  vs : List UInt8 := []
  s : List UInt8 := []
deriving DecidableEq
def openE (last : Bool) : Int := if last then 10 else 6
/-- What begins with a byte: an error, or a token and what stands behind it. -/
def tokV (last : Bool) (c : UInt8) (t : List UInt8) : Int × Tk × List UInt8 :=
  if isRg c = true then
    (let w := (c :: t).takeWhile isRg; let r := (c :: t).dropWhile isRg
     if r = [] ∧ last = false then (6, { kind := 0 }, [])
     else if isDg c = true ∨ c = 43 ∨ c = 45 ∨ c = 46 then ((parseV w).2.2, { kind := 1, vk := (parseV w).1, vn := (parseV w).2.1 }, r)
     else (0, { kind := 6, s := w }, r))
  else if c = 91 then (0, { kind := 2 }, t)
  else if c = 93 then (0, { kind := 3 }, t)
  else if c = 60 then
    (match t with
      | [] => (openE last, { kind := 0 }, [])
      | d :: u => if d = 60 then (0, { kind := 4 }, u) else
        (match hexV [] (-1) (d :: u) with
          | (e, x, r) => if e = 0 then (0, { kind := 1, vk := 4, vs := x }, r) else if e = 1 then (openE last, { kind := 0 }, []) else (11, { kind := 0 }, [])))
  else if c = 62 then
    (match t with
      | [] => (if last then 11 else 6, { kind := 0 }, [])
      | d :: u => if d = 62 then (0, { kind := 5 }, u) else (11, { kind := 0 }, []))
  else if c = 40 then
    (match textV last 1 [] t with
      | none => (openE last, { kind := 0 }, [])
      | some (x, r) => (0, { kind := 1, vk := 4, vs := x }, r))
  else if c = 47 then
    (let w := t.takeWhile isRg; let r := t.dropWhile isRg
     if r = [] ∧ last = false then (6, { kind := 0 }, [])
     else match nameV w with
      | none => (17, { kind := 0 }, [])
      | some o => (0, { kind := 1, vk := 5, vs := o }, r))
  else (11, { kind := 0 }, [])
/-- The token that stands from a place on: the token, from, to, error. -/
def nextV (bs : List UInt8) (k : Int) (last : Bool) : Tk × Int × Int × Int :=
  if k < 0 ∨ (bs.length : Int) < k then ({ kind := 0 }, 0, 0, 2)
  else
    (let f := skipV bs k
     match bs.drop f with
      | [] => ({ kind := 0 }, (f : Int), (f : Int), if last then 0 else 6)
      | c :: t =>
        (match tokV last c t with
          | (e, x, r) => if e = 0 then (x, (f : Int), (bs.length : Int) - (r.length : Int), 0) else ({ kind := 0 }, (f : Int), (f : Int), e)))
end Go.Proofs.YtnkodejgiabamaaDoor
/-
  Plain half of LexPlaces and LexStays: where a token lies; what is told of the first bytes is told of more.
-/
namespace Go.Proofs.YtnkodejgiabamaaDoor

theorem skipN_idem : ∀ (b : Bool) (l : List UInt8), skipN false (l.drop (skipN b l)) = 0
  | _, [] => by simp [skipN]
  | true, c :: l => by
    simp only [skipN]
    rw [Nat.add_comm, List.drop_succ_cons]; exact skipN_idem _ l
  | false, c :: l => by
    by_cases h : c = 37
    · rw [skipN, if_pos h, Nat.add_comm, List.drop_succ_cons]; exact skipN_idem _ l
    · by_cases h2 : isSp c = true
      · rw [skipN, if_neg h, if_pos h2, Nat.add_comm, List.drop_succ_cons]; exact skipN_idem _ l
      · rw [skipN, if_neg h, if_neg h2, List.drop_zero, skipN, if_neg h, if_neg h2]
theorem skipV_bd {bs : List UInt8} {k : Int} (h : 0 ≤ k) (h2 : k ≤ bs.length) : k ≤ (skipV bs k : Nat) ∧ skipV bs k ≤ bs.length := by
  unfold skipV
  rw [if_neg (by omega)]
  split
  · omega
  · have := skipN_le false (bs.drop k.toNat)
    rw [List.length_drop] at this; omega
theorem skipV_idem {bs : List UInt8} {k : Int} (h : 0 ≤ k) (h2 : k ≤ bs.length) : skipV bs (skipV bs k : Nat) = skipV bs k := by
  have hb := skipV_bd h h2
  by_cases h3 : (bs.length : Int) ≤ (skipV bs k : Nat)
  · have e : skipV bs k = bs.length := by omega
    rw [e]; unfold skipV; rw [if_neg (by omega), if_pos (by omega)]
  · have e : skipV bs k = k.toNat + skipN false (bs.drop k.toNat) := by
      unfold skipV
      rw [if_neg (by omega), if_neg (by omega)]
    have e3 : skipN false (bs.drop (skipV bs k)) = 0 := by
      rw [e, ← List.drop_drop]
      exact skipN_idem false _
    have gen : ∀ f : Nat, ¬ (bs.length : Int) ≤ (f : Int) → skipN false (bs.drop f) = 0 → skipV bs (f : Int) = f := fun f h1 h2 => by
      unfold skipV
      rw [if_neg (by omega), if_neg h1, Int.toNat_natCast, h2]; rfl
    exact gen _ h3 e3

/-- Of a longer list nothing else, if it stops within. -/
theorem skipN_more : ∀ (b : Bool) (l u : List UInt8), skipN b l < l.length → skipN b (l ++ u) = skipN b l
  | _, [], u => by simp
  | true, c :: l, u => by
    intro h
    simp only [skipN, List.cons_append, List.length_cons] at h ⊢
    rw [skipN_more _ l u (by omega)]
  | false, c :: l, u => by
    intro h
    rw [List.cons_append]
    by_cases h1 : c = 37
    · rw [skipN, if_pos h1] at h ⊢
      rw [skipN, if_pos h1, skipN_more _ l u (by simp at h; omega)]
    · by_cases h2 : isSp c = true
      · rw [skipN, if_neg h1, if_pos h2] at h ⊢
        rw [skipN, if_neg h1, if_pos h2, skipN_more _ l u (by simp at h; omega)]
      · rw [skipN, if_neg h1, if_neg h2, skipN, if_neg h1, if_neg h2]

theorem lineV_more {t u : List UInt8} {last : Bool} {k : Nat} (h : lineV false t = some k) : lineV last (t ++ u) = some k ∧ k ≤ t.length := by
  cases t with
  | nil => simp [lineV] at h
  | cons d t =>
    simp only [lineV, List.cons_append, Option.some.injEq, List.length_cons] at h ⊢
    refine ⟨h, ?_⟩
    subst h; split <;> omega
theorem octV_more {c : UInt8} {t u : List UInt8} {last : Bool} {x : Nat × Nat} (h : octV false c t = some x) : octV last c (t ++ u) = some x ∧ x.2 ≤ t.length + 1 := by
  rcases t with _ | ⟨d, _ | ⟨e, t⟩⟩
  · simp [octV] at h
  · by_cases hd : isOc d = true
    · simp [octV, hd] at h
    · simp only [octV, List.cons_append, if_neg hd] at h ⊢
      refine ⟨h, ?_⟩
      cases h; simp
  · by_cases hd : isOc d = true
    · simp only [octV, List.cons_append, if_pos hd] at h ⊢
      refine ⟨h, ?_⟩
      split at h <;> (cases h; simp)
    · simp only [octV, List.cons_append, if_neg hd] at h ⊢
      refine ⟨h, ?_⟩
      cases h; simp
theorem escV_more {t u : List UInt8} {last : Bool} {x : List UInt8 × Nat} (h : escV false t = some x) : escV last (t ++ u) = some x ∧ x.2 ≤ t.length := by
  cases t with
  | nil => simp [escV] at h
  | cons c t =>
    rw [List.cons_append]
    unfold escV at h ⊢
    simp only [List.length_cons] at h ⊢
    by_cases h1 : c = 110
    · rw [if_pos h1] at h ⊢; refine ⟨h, ?_⟩; cases h; simp
    rw [if_neg h1] at h ⊢
    by_cases h2 : c = 114
    · rw [if_pos h2] at h ⊢; refine ⟨h, ?_⟩; cases h; simp
    rw [if_neg h2] at h ⊢
    by_cases h3 : c = 116
    · rw [if_pos h3] at h ⊢; refine ⟨h, ?_⟩; cases h; simp
    rw [if_neg h3] at h ⊢
    by_cases h4 : c = 98
    · rw [if_pos h4] at h ⊢; refine ⟨h, ?_⟩; cases h; simp
    rw [if_neg h4] at h ⊢
    by_cases h5 : c = 102
    · rw [if_pos h5] at h ⊢; refine ⟨h, ?_⟩; cases h; simp
    rw [if_neg h5] at h ⊢
    by_cases h6 : isOc c = true
    · rw [if_pos h6] at h ⊢
      obtain ⟨y, hy, rfl⟩ := Option.map_eq_some_iff.1 h
      obtain ⟨h7, h8⟩ := octV_more (u := u) (last := last) hy
      rw [h7]
      exact ⟨rfl, h8⟩
    rw [if_neg h6] at h ⊢
    by_cases h7 : c = 10
    · rw [if_pos h7] at h ⊢; refine ⟨h, ?_⟩; cases h; simp
    rw [if_neg h7] at h ⊢
    by_cases h8 : c = 13
    · rw [if_pos h8] at h ⊢
      obtain ⟨y, hy, rfl⟩ := Option.map_eq_some_iff.1 h
      obtain ⟨h7, h8⟩ := lineV_more (u := u) (last := last) hy
      rw [h7]
      exact ⟨rfl, by simp; omega⟩
    rw [if_neg h8] at h ⊢
    refine ⟨h, ?_⟩; cases h; simp
theorem textV_more (last : Bool) (u : List UInt8) : ∀ (n : Nat) (l : List UInt8), l.length ≤ n → ∀ (deep : Nat) (out x r : List UInt8), textV false deep out l = some (x, r) → textV last deep out (l ++ u) = some (x, r ++ u) ∧ r.length < l.length := by
  intro n
  induction n with
  | zero =>
    intro l hl deep out x r h
    obtain rfl : l = [] := List.eq_nil_of_length_eq_zero (by omega)
    rw [textV] at h; cases h
  | succ n ih =>
    intro l hl deep out x r h
    cases l with
    | nil => rw [textV] at h; cases h
    | cons c t =>
      simp only [List.length_cons] at hl ⊢
      rw [List.cons_append]
      rw [textV.eq_def] at h ⊢
      simp only at h ⊢
      by_cases h1 : c = 92
      · rw [if_pos h1] at h ⊢
        cases he : escV false t with
        | none => rw [he] at h; cases h
        | some y =>
          obtain ⟨a, k⟩ := y
          rw [he] at h
          obtain ⟨h7, h8⟩ := escV_more (u := u) (last := last) he
          rw [h7]
          simp only at h h8 ⊢
          obtain ⟨g1, g2⟩ := ih (t.drop k) (by rw [List.length_drop]; omega) _ _ _ _ h
          rw [List.drop_append_of_le_length h8]
          rw [List.length_drop] at g2
          exact ⟨g1, by omega⟩
      rw [if_neg h1] at h ⊢
      by_cases h2 : c = 13
      · rw [if_pos h2] at h ⊢
        cases he : lineV false t with
        | none => rw [he] at h; cases h
        | some k =>
          rw [he] at h
          obtain ⟨h7, h8⟩ := lineV_more (u := u) (last := last) he
          rw [h7]
          simp only at h ⊢
          obtain ⟨g1, g2⟩ := ih (t.drop k) (by rw [List.length_drop]; omega) _ _ _ _ h
          rw [List.drop_append_of_le_length h8]
          rw [List.length_drop] at g2
          exact ⟨g1, by omega⟩
      rw [if_neg h2] at h ⊢
      by_cases h3 : c = 40
      · rw [if_pos h3] at h ⊢
        obtain ⟨g1, g2⟩ := ih t (by omega) _ _ _ _ h
        exact ⟨g1, by omega⟩
      rw [if_neg h3] at h ⊢
      by_cases h4 : c = 41
      · rw [if_pos h4] at h ⊢
        by_cases h5 : deep = 1
        · rw [if_pos h5] at h ⊢
          cases h
          exact ⟨rfl, by omega⟩
        · rw [if_neg h5] at h ⊢
          obtain ⟨g1, g2⟩ := ih t (by omega) _ _ _ _ h
          exact ⟨g1, by omega⟩
      rw [if_neg h4] at h ⊢
      obtain ⟨g1, g2⟩ := ih t (by omega) _ _ _ _ h
      exact ⟨g1, by omega⟩
theorem hexV_more (u : List UInt8) : ∀ (l : List UInt8) (out : List UInt8) (half : Int), ((hexV out half l).1 = 0 → hexV out half (l ++ u) = (0, (hexV out half l).2.1, (hexV out half l).2.2 ++ u) ∧ (hexV out half l).2.2.length < l.length) ∧
    ((hexV out half l).1 ≠ 0 → (hexV out half l).1 ≠ 1 → (hexV out half l).1 = 11 ∧ hexV out half (l ++ u) = (11, [], []))
  | [], out, half => by simp [hexV]
  | c :: t, out, half => by
    rw [List.cons_append]
    simp only [hexV, List.length_cons]
    by_cases h1 : c = 62
    · simp only [if_pos h1]
      exact ⟨fun _ => ⟨by simp, by omega⟩, fun h => absurd rfl h⟩
    simp only [if_neg h1]
    by_cases h2 : isSp c = true
    · simp only [if_pos h2]
      obtain ⟨g1, g2⟩ := hexV_more u t out half
      exact ⟨fun h => ⟨(g1 h).1, by have := (g1 h).2; omega⟩, g2⟩
    simp only [if_neg h2]
    by_cases h3 : hexD c < 0
    · simp only [if_pos h3]
      exact ⟨fun h => by simp at h, fun _ _ => ⟨by simp, by simp⟩⟩
    simp only [if_neg h3]
    by_cases h4 : half < 0
    · simp only [if_pos h4]
      obtain ⟨g1, g2⟩ := hexV_more u t out (hexD c)
      exact ⟨fun h => ⟨(g1 h).1, by have := (g1 h).2; omega⟩, g2⟩
    simp only [if_neg h4]
    obtain ⟨g1, g2⟩ := hexV_more u t (out ++ [UInt8.ofNat (16 * half + hexD c).toNat]) (-1)
    exact ⟨fun h => ⟨(g1 h).1, by have := (g1 h).2; omega⟩, g2⟩
theorem hexV_err : ∀ (l : List UInt8) (out : List UInt8) (half : Int), (hexV out half l).1 = 0 ∨ (hexV out half l).1 = 1 ∨ (hexV out half l).1 = 11
  | [], out, half => by simp [hexV]
  | c :: t, out, half => by
    simp only [hexV]
    split
    · exact .inl rfl
    · split
      · exact hexV_err t _ _
      · split
        · exact .inr (.inr rfl)
        · split
          · exact hexV_err t _ _
          · exact hexV_err t _ _
theorem while_more (p : UInt8 → Bool) (u : List UInt8) : ∀ (l : List UInt8), l.dropWhile p ≠ [] → (l ++ u).takeWhile p = l.takeWhile p ∧ (l ++ u).dropWhile p = l.dropWhile p ++ u
  | [] => by simp
  | c :: t => by
    intro h
    rw [List.cons_append]
    by_cases hp : p c = true
    · rw [List.dropWhile_cons_of_pos hp] at h
      obtain ⟨g1, g2⟩ := while_more p u t h
      rw [List.takeWhile_cons_of_pos hp, List.dropWhile_cons_of_pos hp, List.takeWhile_cons_of_pos hp, List.dropWhile_cons_of_pos hp, g1, g2]
      exact ⟨rfl, rfl⟩
    · rw [List.takeWhile_cons_of_neg hp, List.dropWhile_cons_of_neg hp, List.takeWhile_cons_of_neg hp, List.dropWhile_cons_of_neg hp]
      exact ⟨rfl, rfl⟩
theorem drop_len (p : UInt8 → Bool) (l : List UInt8) : (l.dropWhile p).length ≤ l.length := List.Sublist.length_le (List.dropWhile_sublist _)

/-- The token of the first bytes, if no more are needed, is the token of all; it is not empty. -/
theorem tokV_more (last : Bool) (c : UInt8) (t u : List UInt8) :
    ((tokV false c t).1 = 0 → tokV last c (t ++ u) = (0, (tokV false c t).2.1, (tokV false c t).2.2 ++ u)) ∧ ((tokV false c t).1 ≠ 0 → (tokV false c t).1 ≠ 6 → (tokV last c (t ++ u)).1 = (tokV false c t).1) := by
  by_cases hr : isRg c = true
  · have hc : tokV false c t = if (c :: t).dropWhile isRg = [] ∧ false = false then (6, { kind := 0 }, []) else if isDg c = true ∨ c = 43 ∨ c = 45 ∨ c = 46 then ((parseV ((c :: t).takeWhile isRg)).2.2, { kind := 1, vk := (parseV ((c :: t).takeWhile isRg)).1, vn := (parseV ((c :: t).takeWhile isRg)).2.1 }, (c :: t).dropWhile isRg) else (0, { kind := 6, s := (c :: t).takeWhile isRg }, (c :: t).dropWhile isRg) := by
      unfold tokV; rw [if_pos hr]
    have hc2 : tokV last c (t ++ u) = if (c :: (t ++ u)).dropWhile isRg = [] ∧ last = false then (6, { kind := 0 }, []) else if isDg c = true ∨ c = 43 ∨ c = 45 ∨ c = 46 then ((parseV ((c :: (t ++ u)).takeWhile isRg)).2.2, { kind := 1, vk := (parseV ((c :: (t ++ u)).takeWhile isRg)).1, vn := (parseV ((c :: (t ++ u)).takeWhile isRg)).2.1 }, (c :: (t ++ u)).dropWhile isRg) else (0, { kind := 6, s := (c :: (t ++ u)).takeWhile isRg }, (c :: (t ++ u)).dropWhile isRg) := by
      unfold tokV; rw [if_pos hr]
    by_cases h0 : (c :: t).dropWhile isRg = []
    · rw [hc, if_pos ⟨h0, rfl⟩]
      exact ⟨fun h => by simp at h, fun _ h => absurd rfl h⟩
    · obtain ⟨g1, g2⟩ := while_more isRg u _ h0
      rw [List.cons_append] at g1 g2
      rw [hc, hc2, g1, g2, if_neg (show ¬ ((c :: t).dropWhile isRg = [] ∧ false = false) from fun h => h0 h.1), if_neg (show ¬ ((c :: t).dropWhile isRg ++ u = [] ∧ last = false) from fun h => h0 (List.append_eq_nil_iff.1 h.1).1)]
      by_cases hd : isDg c = true ∨ c = 43 ∨ c = 45 ∨ c = 46
      · rw [if_pos hd, if_pos hd]
        exact ⟨fun h => by rw [show (parseV (List.takeWhile isRg (c :: t))).2.2 = 0 from h], fun _ _ => rfl⟩
      · rw [if_neg hd, if_neg hd]
        exact ⟨fun _ => rfl, fun _ _ => rfl⟩
  · unfold tokV
    rw [if_neg hr, if_neg hr]
    by_cases h1 : c = 91
    · rw [if_pos h1, if_pos h1]; exact ⟨fun _ => rfl, fun _ _ => rfl⟩
    rw [if_neg h1, if_neg h1]
    by_cases h2 : c = 93
    · rw [if_pos h2, if_pos h2]; exact ⟨fun _ => rfl, fun _ _ => rfl⟩
    rw [if_neg h2, if_neg h2]
    by_cases h3 : c = 60
    · rw [if_pos h3, if_pos h3]
      cases t with
      | nil => exact ⟨fun h => by simp [openE] at h, fun _ h => by simp [openE] at h⟩
      | cons d t =>
        simp only [List.cons_append]
        by_cases hd : d = 60
        · rw [if_pos hd, if_pos hd]; exact ⟨fun _ => rfl, fun _ _ => rfl⟩
        rw [if_neg hd, if_neg hd]
        obtain ⟨g1, g2⟩ := hexV_more u (d :: t) [] (-1)
        have g3 := hexV_err (d :: t) [] (-1)
        rw [List.cons_append] at g1 g2
        obtain ⟨H, hH⟩ : ∃ H, hexV [] (-1) (d :: t) = H := ⟨_, rfl⟩
        rw [hH] at g1 g2 g3 ⊢
        obtain ⟨e, x, r⟩ := H
        simp only at g1 g2 g3 ⊢
        rcases g3 with rfl | rfl | rfl
        · rw [(g1 rfl).1, if_pos rfl]
          exact ⟨fun _ => rfl, fun h => absurd rfl h⟩
        · rw [if_neg (by decide), if_pos rfl]
          exact ⟨fun h => by simp [openE] at h, fun _ h => by simp [openE] at h⟩
        · rw [(g2 (by decide) (by decide)).2, if_neg (by decide), if_neg (by decide)]
          exact ⟨fun h => by simp at h, fun _ _ => rfl⟩
    rw [if_neg h3, if_neg h3]
    by_cases h4 : c = 62
    · rw [if_pos h4, if_pos h4]
      cases t with
      | nil => exact ⟨fun h => by simp at h, fun _ h => by simp at h⟩
      | cons d t =>
        simp only [List.cons_append]
        by_cases hd : d = 62
        · rw [if_pos hd, if_pos hd]; exact ⟨fun _ => rfl, fun _ _ => rfl⟩
        · rw [if_neg hd, if_neg hd]; exact ⟨fun h => by simp at h, fun _ _ => rfl⟩
    rw [if_neg h4, if_neg h4]
    by_cases h5 : c = 40
    · rw [if_pos h5, if_pos h5]
      cases he : textV false 1 [] t with
      | none => exact ⟨fun h => by simp [openE] at h, fun _ h => by simp [openE] at h⟩
      | some y =>
        obtain ⟨x, r⟩ := y
        rw [(textV_more last u _ t (Nat.le_refl _) _ _ _ _ he).1]
        exact ⟨fun _ => rfl, fun h => absurd rfl h⟩
    rw [if_neg h5, if_neg h5]
    by_cases h6 : c = 47
    · rw [if_pos h6, if_pos h6]
      simp only
      by_cases h0 : t.dropWhile isRg = []
      · rw [if_pos (show t.dropWhile isRg = [] ∧ True from ⟨h0, trivial⟩)]
        exact ⟨fun h => by simp at h, fun _ h => absurd rfl h⟩
      · obtain ⟨g1, g2⟩ := while_more isRg u _ h0
        rw [g1, g2, if_neg (fun h => h0 h.1), if_neg (fun h => h0 (List.append_eq_nil_iff.1 h.1).1)]
        cases nameV (t.takeWhile isRg) with
        | none => exact ⟨fun h => by simp at h, fun _ _ => rfl⟩
        | some o => exact ⟨fun _ => rfl, fun _ _ => rfl⟩
    rw [if_neg h6, if_neg h6]
    exact ⟨fun h => by simp at h, fun _ _ => rfl⟩
theorem textV_len (last : Bool) : ∀ (n : Nat) (l : List UInt8), l.length ≤ n → ∀ (deep : Nat) (out x r : List UInt8), textV last deep out l = some (x, r) → r.length < l.length := by
  intro n
  induction n with
  | zero =>
    intro l hl deep out x r h
    obtain rfl : l = [] := List.eq_nil_of_length_eq_zero (by omega)
    rw [textV] at h; cases h
  | succ n ih =>
    intro l hl deep out x r h
    cases l with
    | nil => rw [textV] at h; cases h
    | cons c t =>
      simp only [List.length_cons] at hl ⊢
      rw [textV.eq_def] at h
      simp only at h
      split at h
      · split at h
        · cases h
        · have := ih _ (by rw [List.length_drop]; omega) _ _ _ _ h
          rw [List.length_drop] at this; omega
      · split at h
        · split at h
          · cases h
          · have := ih _ (by rw [List.length_drop]; omega) _ _ _ _ h
            rw [List.length_drop] at this; omega
        · split at h
          · have := ih _ (by omega) _ _ _ _ h
            omega
          · split at h
            · split at h
              · cases h; omega
              · have := ih _ (by omega) _ _ _ _ h
                omega
            · have := ih _ (by omega) _ _ _ _ h
              omega
/-- A token is some, and takes its bytes. -/
theorem tokV_some (last : Bool) (c : UInt8) (t : List UInt8) (h : (tokV last c t).1 = 0) : (tokV last c t).2.1.kind ≠ 0 ∧ (tokV last c t).2.2.length ≤ t.length := by
  obtain ⟨V, hV⟩ : ∃ V, tokV last c t = V := ⟨_, rfl⟩
  rw [hV] at h ⊢
  unfold tokV at hV
  split at hV
  · next hr =>
    have hd : ((c :: t).dropWhile isRg).length ≤ t.length := by rw [List.dropWhile_cons_of_pos hr]; exact drop_len _ _
    simp only at hV
    split at hV
    · subst hV; simp at h
    · split at hV
      · subst hV; exact ⟨by simp, hd⟩
      · subst hV; exact ⟨by simp, hd⟩
  split at hV
  · subst hV; exact ⟨by simp, Nat.le_refl _⟩
  split at hV
  · subst hV; exact ⟨by simp, Nat.le_refl _⟩
  split at hV
  · cases t with
    | nil => subst hV; cases last <;> simp [openE] at h
    | cons d t =>
      simp only at hV
      split at hV
      · subst hV; exact ⟨by simp, by simp⟩
      · have hx := (hexV_more [] (d :: t) [] (-1)).1
        split at hV
        · subst hV
          exact ⟨by simp, Nat.le_of_lt (hx ‹_›).2⟩
        · split at hV
          · subst hV; cases last <;> simp [openE] at h
          · subst hV; simp at h
  split at hV
  · cases t with
    | nil => subst hV; cases last <;> simp at h
    | cons d t =>
      simp only at hV
      split at hV
      · subst hV; exact ⟨by simp, by simp⟩
      · subst hV; simp at h
  split at hV
  · cases he : textV last 1 [] t with
    | none => rw [he] at hV; subst hV; cases last <;> simp [openE] at h
    | some y =>
      obtain ⟨x, r⟩ := y
      rw [he] at hV
      subst hV
      exact ⟨by simp, by have := textV_len last _ t (Nat.le_refl _) _ _ _ _ he; simp only; omega⟩
  split at hV
  · simp only at hV
    split at hV
    · subst hV; simp at h
    · split at hV
      · subst hV; simp at h
      · subst hV; exact ⟨by simp, drop_len _ _⟩
  · subst hV; simp at h

/-- The token that stands at a place where no space is. -/
def nextF (bs : List UInt8) (f : Nat) (last : Bool) : Tk × Int × Int × Int :=
  match bs.drop f with
  | [] => ({ kind := 0 }, (f : Int), (f : Int), if last then 0 else 6)
  | c :: t => if (tokV last c t).1 = 0 then ((tokV last c t).2.1, (f : Int), (bs.length : Int) - ((tokV last c t).2.2.length : Int), 0) else ({ kind := 0 }, (f : Int), (f : Int), (tokV last c t).1)
theorem nextV_in {bs : List UInt8} {k : Int} (last : Bool) (h : 0 ≤ k) (h2 : k ≤ bs.length) : nextV bs k last = nextF bs (skipV bs k) last := by
  have h3 : ¬ (k < 0 ∨ (bs.length : Int) < k) := by omega
  unfold nextV
  rw [if_neg h3]
  show (match bs.drop (skipV bs k) with | [] => _ | c :: t => _) = _
  unfold nextF
  cases bs.drop (skipV bs k) <;> rfl
theorem nextF_nil {bs : List UInt8} {f : Nat} (last : Bool) (h : bs.drop f = []) : nextF bs f last = ({ kind := 0 }, (f : Int), (f : Int), if last then 0 else 6) := by unfold nextF; rw [h]
theorem nextF_cons {bs : List UInt8} {f : Nat} (last : Bool) {c : UInt8} {t : List UInt8} (h : bs.drop f = c :: t) : nextF bs f last = if (tokV last c t).1 = 0 then ((tokV last c t).2.1, (f : Int), (bs.length : Int) - ((tokV last c t).2.2.length : Int), 0) else ({ kind := 0 }, (f : Int), (f : Int), (tokV last c t).1) := by unfold nextF; rw [h]
/-- What LexPlaces asks. -/
theorem nextV_places {bs : List UInt8} {k : Int} (last : Bool) (h : 0 ≤ k) (h2 : k ≤ bs.length) :
    ((nextV bs k last).2.2.2 ≠ 0 → (nextV bs k last).1 = { kind := 0 } ∧ (nextV bs k last).2.1 = (nextV bs k last).2.2.1 ∧ k ≤ (nextV bs k last).2.1 ∧ (nextV bs k last).2.1 ≤ bs.length) ∧
    ((nextV bs k last).2.2.2 = 0 → (nextV bs k last).1.kind = 0 → last = true ∧ (nextV bs k last).2.1 = bs.length ∧ (nextV bs k last).2.2.1 = bs.length) ∧
    ((nextV bs k last).2.2.2 = 0 → (nextV bs k last).1.kind ≠ 0 → nextV bs (nextV bs k last).2.1 last = nextV bs k last ∧ k ≤ (nextV bs k last).2.1 ∧ (nextV bs k last).2.1 < (nextV bs k last).2.2.1 ∧ (nextV bs k last).2.2.1 ≤ bs.length) := by
  obtain ⟨hb1, hb2⟩ := skipV_bd h h2
  have hi := skipV_idem h h2
  have hV := nextV_in (bs := bs) last h h2
  have hV2 := nextV_in (bs := bs) (k := (skipV bs k : Nat)) last (by omega) (by omega)
  rw [hi] at hV2
  generalize skipV bs k = f at *
  rw [hV]
  cases hd : bs.drop f with
  | nil =>
    have hn := nextF_nil last hd
    rw [hn] at hV2 ⊢
    have hfl : f = bs.length := by have := List.drop_eq_nil_iff.1 hd; omega
    refine ⟨fun _ => ⟨rfl, rfl, hb1, by simp only; omega⟩, fun h0 _ => ⟨?_, by simp only; omega, by simp only; omega⟩, fun _ h => absurd rfl h⟩
    cases last
    · simp at h0
    · rfl
  | cons c t =>
    have hn := nextF_cons last hd
    have hlen : f + (t.length + 1) = bs.length := by
      have := congrArg List.length hd
      rw [List.length_drop, List.length_cons] at this; omega
    by_cases h0 : (tokV last c t).1 = 0
    · obtain ⟨g1, g2⟩ := tokV_some last c t h0
      rw [if_pos h0] at hn
      rw [hn] at hV2 ⊢
      generalize tokV last c t = T at *
      obtain ⟨e, x, r⟩ := T
      simp only at g1 g2 hV2 ⊢
      exact ⟨fun h => absurd rfl h, fun _ h => absurd h g1, fun _ _ => ⟨hV2, hb1, by omega, by omega⟩⟩
    · rw [if_neg h0] at hn
      rw [hn]
      exact ⟨fun _ => ⟨rfl, rfl, hb1, by simp only; omega⟩, fun h => absurd h h0, fun h => absurd h h0⟩

theorem nextV_gen {l : List UInt8} (u : List UInt8) (la : Bool) {k : Int} (h : 0 ≤ k) (hk : k ≤ l.length) (h6 : (nextV l k false).2.2.2 ≠ 6) : nextV (l ++ u) k la = nextV l k false := by
  obtain ⟨hb1, hb2⟩ := skipV_bd h hk
  have hV := nextV_in (bs := l) false h hk
  have hV2 := nextV_in (bs := l ++ u) la h (by rw [List.length_append]; omega)
  by_cases hl : skipV l k = l.length
  · exfalso; apply h6
    rw [hV, hl, nextF_nil false (by simp)]
    rfl
  · have hkl : k < l.length := by omega
    have e : skipV l k = k.toNat + skipN false (l.drop k.toNat) := by
      unfold skipV; rw [if_neg (by omega), if_neg (by omega)]
    have e2 : skipV (l ++ u) k = skipV l k := by
      rw [e]; unfold skipV
      rw [if_neg (by omega), if_neg (by rw [List.length_append]; omega), List.drop_append_of_le_length (by omega), skipN_more _ _ _ (by rw [List.length_drop]; omega)]
    rw [e2] at hV2
    rw [hV] at h6
    rw [hV, hV2]
    clear hV hV2 e e2
    generalize skipV l k = f at *
    cases hd : l.drop f with
    | nil => have := List.drop_eq_nil_iff.1 hd; omega
    | cons c t =>
      have hd2 : (l ++ u).drop f = c :: (t ++ u) := by rw [List.drop_append_of_le_length (by omega), hd]; rfl
      have hn := nextF_cons false hd
      rw [nextF_cons la hd2, hn]
      rw [hn] at h6
      obtain ⟨g1, g2⟩ := tokV_more la c t u
      by_cases h0 : (tokV false c t).1 = 0
      · rw [g1 h0, if_pos rfl, if_pos h0]
        simp only
        rw [List.length_append, List.length_append]
        congr 3; omega
      · rw [if_neg h0] at h6
        have g3 := g2 h0 h6
        rw [if_neg (by rw [g3]; exact h0), if_neg h0, g3]
/-- What LexStays asks. -/
theorem nextV_stays {bs : List UInt8} {n : Nat} {k : Int} (last : Bool) (h : 0 ≤ k) (h2 : k ≤ n) (hn : n ≤ bs.length) (h6 : (nextV (bs.take n) k false).2.2.2 ≠ 6) : nextV bs k last = nextV (bs.take n) k false ∧ nextV (bs.take n) k true = nextV (bs.take n) k false := by
  have hk : k ≤ (bs.take n).length := by rw [List.length_take]; omega
  refine ⟨?_, ?_⟩
  · have := nextV_gen (l := bs.take n) (bs.drop n) last h hk h6
    rwa [List.take_append_drop] at this
  · have := nextV_gen (l := bs.take n) [] true h hk h6
    rwa [List.append_nil] at this
end Go.Proofs.YtnkodejgiabamaaDoor
