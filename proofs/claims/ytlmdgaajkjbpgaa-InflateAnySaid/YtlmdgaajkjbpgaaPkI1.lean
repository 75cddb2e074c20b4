/-
  Our texts Base to HuffM, in one.
-/
import Derived.WalkKit
import Derived.WalkSpells
import Derived.WalkLawsBesides
import Derived.Lib.Hide
import Derived.Sort.LotA
import Derived.Sort.Lot0
import Derived.Deep.Draws
import Derived.Test.YtlmdgaajkjbpgaaProg
import Derived.BigQuiet
import Derived.Deep.QuietTactic
/-
  General lemmas on slices in memory that name no program: what a slice value reads as ('Row'), how that is kept by a call that leaves old memory alone ('Below'), and how it stands to the kit's 'ownsRow'.
-/
namespace Go.Proofs.Ytlmdgaajkjbpgaa
open Go.RowKit

/-- A slice (its address, length, capacity) that reads as the cells xs: n elements of sz cells each. -/
def Row (w : World) (sz : Nat) (a : Option Addr) (n cap : Nat) (xs : List Value) : Prop :=
  xs.length = n * sz ∧ n ≤ cap ∧ cap ≤ maxLen ∧ (a = none → cap = 0) ∧
    (0 < n → ∃ b off, a = some ⟨b, off, none⟩ ∧ b < w.heap.size ∧ ∀ j u, xs[j]? = some u → w.cell? ⟨b, off + j, none⟩ = some u)

theorem cell?_keep {w w' : World} (hb : Below w.heap.size w w') {a : Addr} {v : Value} (h : w.cell? a = some v) : w'.cell? a = some v :=
  (hb.cell (World.block_lt_of_cell? w a h)).trans h

theorem Row.mono {w w' : World} {sz : Nat} {a : Option Addr} {n cap : Nat} {xs : List Value} (h : Row w sz a n cap xs) (hb : Below w.heap.size w w') : Row w' sz a n cap xs := by
  obtain ⟨h1, h2, h3, h4, h5⟩ := h
  refine ⟨h1, h2, h3, h4, fun hn => ?_⟩
  obtain ⟨b, off, ha, hlt, hc⟩ := h5 hn
  exact ⟨b, off, ha, Nat.lt_of_lt_of_le hlt hb.size, fun j u hj => cell?_keep hb (hc j u hj)⟩

theorem Row.i64 {w : World} {sz : Nat} {a : Option Addr} {n cap : Nat} {xs : List Value} (h : Row w sz a n cap xs) : (n : Int) ≤ 9223372036854775807 := by
  have := h.2.1; have := h.2.2.1; unfold maxLen at this; omega
theorem Row.i64c {w : World} {sz : Nat} {a : Option Addr} {n cap : Nat} {xs : List Value} (h : Row w sz a n cap xs) : (cap : Int) ≤ 9223372036854775807 := by
  have := h.2.2.1; unfold maxLen at this; omega

/-- Its elements, where each takes one cell. -/
theorem Row.at {α : Type} {enc : α → Value} (d : α) {w : World} {a : Option Addr} {n cap : Nat} {l : List α} (h : Row w 1 a n cap (l.map enc)) (k : Nat) (hk : k < n) :
    ∃ b off, a = some ⟨b, off, none⟩ ∧ b < w.heap.size ∧ ∀ k, k < n → w.cell? ⟨b, off + k, none⟩ = some (enc (l.getD k d)) := by
  obtain ⟨h1, h2, h3, h4, h5⟩ := h
  obtain ⟨b, off, rfl, hb, hc⟩ := h5 (by omega)
  refine ⟨b, off, rfl, hb, fun k hk => hc k _ ?_⟩
  simp at h1 ⊢
  have : k < l.length := by omega
  simp [this]

theorem Row.len1 {α : Type} {enc : α → Value} {w : World} {a : Option Addr} {n cap : Nat} {l : List α} (h : Row w 1 a n cap (l.map enc)) : l.length = n := by
  have := h.1; simpa using this

theorem Row.nil (w : World) (sz : Nat) : Row w sz none 0 0 [] := ⟨by simp, Nat.le_refl _, by simp [maxLen], fun _ => rfl, fun h => by omega⟩

/-- What the call owns reads as a row. -/
theorem Row.of_owns {w : World} {base e sz : Nat} {v : Value} {n : Nat} {xs : List Value} (h : w.ownsRow base e sz v n xs) :
    ∃ a cap, v = .slice a n cap ∧ Row w sz a n cap xs ∧ ∀ x, a = some x → base ≤ x.block := by
  obtain ⟨h1, h2⟩ := h
  rcases h2 with ⟨rfl, rfl⟩ | ⟨g, cap, cur, rfl, hb, hg, hn, hm, hs, ht⟩
  · have : xs = [] := List.eq_nil_of_length_eq_zero (by simpa using h1)
    subst this
    exact ⟨none, 0, rfl, Row.nil w sz, fun x hx => by cases hx⟩
  · refine ⟨some ⟨g, 0, none⟩, cap, rfl, ⟨h1, hn, hm, fun h => (by cases h), fun _ => ⟨g, 0, rfl, (Array.getElem?_eq_some_iff.1 hg).1, fun j u hj => ?_⟩⟩, fun x hx => by cases hx; exact hb⟩
    rw [Nat.zero_add, cell_of_row w g j cur e (0, 0) hg]
    rw [← ht, List.getElem?_take] at hj
    split at hj
    · simpa using hj
    · cases hj

theorem Row.of_own {w : World} {base e sz : Nat} {a : Option Addr} {n m cap : Nat} {xs : List Value} (h : w.ownsRow base e sz (.slice a n cap) m xs) : n = m ∧ Row w sz a n cap xs := by
  obtain ⟨a', cap', hv, hr, _⟩ := Row.of_owns h
  simp only [Value.slice.injEq] at hv
  obtain ⟨rfl, rfl, rfl⟩ := hv
  exact ⟨rfl, hr⟩

theorem ownsRow_keep {w w' : World} {base e sz : Nat} {v : Value} {n : Nat} {xs : List Value} (h : w.ownsRow base e sz v n xs) (hb : Below w.heap.size w w') : w'.ownsRow base e sz v n xs := by
  obtain ⟨h1, h2⟩ := h
  refine ⟨h1, ?_⟩
  rcases h2 with h2 | ⟨g, cap, cur, hv, hg, hh, r⟩
  · exact .inl h2
  · exact .inr ⟨g, cap, cur, hv, hg, by rw [hb.block g (Array.getElem?_eq_some_iff.1 hh).1]; exact hh, r⟩

theorem ownsRow_base {w : World} {base base' e sz : Nat} {v : Value} {n : Nat} {xs : List Value} (h : w.ownsRow base e sz v n xs) (hb : base' ≤ base) : w.ownsRow base' e sz v n xs := by
  obtain ⟨h1, h2⟩ := h
  refine ⟨h1, ?_⟩
  rcases h2 with h2 | ⟨g, cap, cur, hv, hg, r⟩
  · exact .inl h2
  · exact .inr ⟨g, cap, cur, hv, by omega, r⟩

theorem block_keep {w w' : World} (hb : Below w.heap.size w w') {b : Nat} {o : Obj} (h : w.heap[b]? = some o) : w'.heap[b]? = some o := by
  rw [hb.block b (Array.getElem?_eq_some_iff.1 h).1]; exact h

/-- The element type's facts of a slice type, in one. -/
structure ElemT (P : Program) (t e : TypeId) (z : Value) (size bytes : Nat) : Prop where
  und : P.underlying t = some (.slice e)
  info : (P.info? e).map (fun i => (i.zero, i.size, i.bytes)) = some (some z, size, bytes)
  cells : z.cells.size = size
  pos : 0 < size

theorem ret_int {k : IntKind} {a b : Int} (h : a = b) : Ending.returned (.int k a) = .returned (.int k b) := by rw [h]
theorem ret_bool {a b : Bool} (h : a = b) : Ending.returned (.bool a) = .returned (.bool b) := by rw [h]

/-- 'make([]T, n)'. -/
theorem make_full {P : Program} {w : World} {ops : Array Oper} {rest : List Oper} {o : Oper} {a : Act} {Q : Exit → Act → World → Prop} {t e : TypeId} {z : Value} {size bytes : Nat} (T : ElemT P t e z size bytes)
    (hg : o.guard = none) (l c : Operand) (hop : o.op = Op.makeSlice t l c)
    (kl kc : IntKind) (L C : Int) (n : Nat) (hl : a.eval l = .int kl L) (hc : a.eval c = .int kc C) (hL : L = (n : Int)) (hC : C = (n : Int)) (b2 : bytes * n ≤ 281474976710656) (b3 : n ≤ maxLen)
    (hK : ∀ w', w'.ownsRow w.heap.size e size (.slice (some ⟨w.heap.size, 0, none⟩) n n) n (madeCells z.cells (n * size)).toList → Below w.heap.size w w' → wpList P ops Q rest (a.put o.dst (.slice (some ⟨w.heap.size, 0, none⟩) n n)) w') :
    wpList P ops Q (o :: rest) a w := by
  obtain ⟨i, hi, hz, hs, hb⟩ := info_parts T.info
  subst hb
  exact wpList_make_full w hg l c t hop w.heap.size e i z size T.und hi hz hs kl kc L C n hl hc hL hC b2 b3 (Nat.le_refl _)
    fun w' h1 h2 => hK w' h1 ((Below.refl _ _).grown h2 (Nat.le_refl _) (fun k hk => by cases hk))


/-- n cells, the i-th as enc says. -/
def fl (n : Nat) (enc : Nat → Value) : List Value := (List.range n).map enc
theorem fl_length (n : Nat) (enc : Nat → Value) : (fl n enc).length = n := by simp [fl]
theorem fl_get {n : Nat} (enc : Nat → Value) {i : Nat} (h : i < n) : (fl n enc)[i]? = some (enc i) := by simp [fl, h]
theorem fl_set (n : Nat) (enc : Nat → Value) (i : Nat) (v : Value) : (fl n enc).set i v = fl n (fun j => if j = i then v else enc j) := by
  apply List.ext_getElem?
  intro j
  simp only [fl, List.getElem?_set, List.getElem?_map, List.length_map, List.length_range]
  by_cases hj : j < n
  · by_cases hi : i = j
    · subst hi; simp [hj]
    · simp [hi, hj, Ne.symm hi]
  · by_cases hi : i = j
    · subst hi; simp [hj]
    · simp [hi, hj]
theorem fl_congr {n : Nat} {f g : Nat → Value} (h : ∀ i, i < n → f i = g i) : fl n f = fl n g := by
  apply List.map_congr_left
  intro i hi
  exact h i (by simpa using hi)
theorem fl_replicate (n : Nat) (v : Value) : List.replicate n v = fl n (fun _ => v) := by
  apply List.ext_getElem?
  intro j
  by_cases hj : j < n <;> simp [fl, hj]
theorem map_fl {α : Type} (d : α) (l : List α) (enc : α → Value) : l.map enc = fl l.length (fun i => enc (l.getD i d)) := by
  apply List.ext_getElem?
  intro j
  by_cases hj : j < l.length <;> simp [fl, hj]

theorem heapA_new {w : World} {b : Nat} (o : Obj) (h : b = w.heap.size) : (w.alloc o).heap[b]? = some o := by subst h; exact heap_alloc_new w o
theorem heapA_old {w : World} {b : Nat} (o : Obj) {o' : Obj} (h : w.heap[b]? = some o') : (w.alloc o).heap[b]? = some o' := by
  rw [Below.heap_alloc w o b (Array.getElem?_eq_some_iff.1 h).1]; exact h
theorem sizeA (w : World) (o : Obj) : (w.alloc o).heap.size = w.heap.size + 1 := by
  show (w.heap.push o).size = _
  simp
theorem belowA (w : World) (o : Obj) : Below w.heap.size w (w.alloc o) := (Below.refl _ _).alloc (Nat.le_refl _) o
theorem belowA2 (w : World) (o o2 : Obj) : Below w.heap.size w ((w.alloc o).alloc o2) := (belowA w o).alloc (by rw [sizeA]; omega) o2
theorem belowA3 (w : World) (o o2 o3 : Obj) : Below w.heap.size w (((w.alloc o).alloc o2).alloc o3) := (belowA2 w o o2).alloc (by rw [sizeA, sizeA]; omega) o3
theorem below_setRow {B : Nat} {w0 w : World} (h : Below B w0 w) {g : Nat} (hg : B ≤ g) (cs : Array Value) : Below B w0 (w.setRow g cs) :=
  h.trans ⟨rfl, rfl, rfl, by simp, fun j hj => setRow_other _ _ _ _ (by omega)⟩

/-- A block whose cells are known: one is read, one is written, the rest stands. -/
theorem blk_cell {w : World} {b n : Nat} {enc : Nat → Value} {t : TypeId} {fr : Nat × Nat} (h : w.heap[b]? = some (.cells (fl n enc).toArray t fr)) (i : Nat) (hi : i < n) : w.cell? ⟨b, i, none⟩ = some (enc i) := by
  rw [cell_of_row w b i _ t fr h]; simp [fl, hi]
theorem blk_free {w : World} {b : Nat} {cs : Array Value} {t : TypeId} (h : w.heap[b]? = some (.cells cs t (0, 0))) (i : Nat) : w.frozen? ⟨b, i, none⟩ = false := frozen_of_row w b i cs t h
theorem blk_set {w : World} {b n : Nat} {enc : Nat → Value} {t : TypeId} (h : w.heap[b]? = some (.cells (fl n enc).toArray t (0, 0))) (i : Nat) (v : Value) :
    (w.setCell ⟨b, i, none⟩ v).heap[b]? = some (.cells (fl n (fun j => if j = i then v else enc j)).toArray t (0, 0)) := by
  rw [heap_setCell_same w b i _ t v h, List.setIfInBounds_toArray, fl_set]
theorem blk_other {w : World} {b : Nat} {o : Obj} (h : w.heap[b]? = some o) {a : Addr} (ha : a.block ≠ b) (v : Value) : (w.setCell a v).heap[b]? = some o := by
  rw [heap_setCell_other w a b v (Ne.symm ha)]; exact h

/-- 'x := f()' where x's variable has just been laid and f's array or struct goes in whole. -/
theorem store_fresh {P : Program} {ops : Array Oper} {rest : List Oper} {o : Oper} {a : Act} {w0 : World} {Q : Exit → Act → World → Prop} (hgd : o.guard = none) (ty : TypeId) (x y : Operand) (ho : o.op = .store ty x y)
    (z : Array Value) (t : TypeId) (cells : Array Value) (hx : a.eval x = .pointer (some ⟨w0.heap.size, 0, none⟩)) (hy : a.eval y = .agg cells)
    (hi : (P.info? ty).map (·.size) = some cells.size) (hold : z.size = cells.size) (h1 : cells.all (·.oneCell') = true)
    (h : ∀ w', w'.heap[w0.heap.size]? = some (.cells cells t (0, 0)) → Below w0.heap.size w0 w' → w'.heap.size = w0.heap.size + 1 → wpList P ops Q rest (a.put o.dst undef) w') : wpList P ops Q (o :: rest) a (w0.alloc (.cells z t)) :=
  wpList_store_row hgd ty x y ho w0.heap.size cells hx hy t z (heapA_new _ rfl) hi hold h1
    (h _ (setRow_heap _ _ _ _ _ _ (heapA_new _ rfl)) (below_setRow (belowA w0 _) (Nat.le_refl _) _) (by rw [size_setRow, sizeA]))

theorem oneCell_mem {enc : Nat → Value} (h : ∀ i, (enc i).oneCell' = true) (n : Nat) : ∀ u ∈ fl n enc, u.oneCell' = true := by
  intro u hu
  simp [fl] at hu
  obtain ⟨i, _, rfl⟩ := hu
  exact h i

/-- 'append(v, x...)', v the call's own, x whatever slice that reads as a row: it may grow. -/
theorem append_row {P : Program} {w : World} {ops : Array Oper} {rest : List Oper} {o : Oper} {a : Act} {Q : Exit → Act → World → Prop} {t e : TypeId} {z : Value} {size bytes : Nat} (T : ElemT P t e z size bytes)
    (hgd : o.guard = none) (s x : Operand) (ho : o.op = .call { callee := .builtin .append, args := #[s, x], argTypes := #[t, t] })
    (base : Nat) (v : Value) (n : Nat) (xs : List Value) (hs : a.eval s = v) (hown : w.ownsRow base e size v n xs)
    (ao : Option Addr) (m c : Nat) (news : List Value) (hx : a.eval x = .slice ao m c) (hr : Row w size ao m c news) (h1 : ∀ u ∈ news, u.oneCell' = true)
    (h63 : n + m ≤ maxLen) (hbytes : (n + m) * bytes ≤ 140737488355328) (hbase : base ≤ w.heap.size)
    (h : ∀ v' w', w'.ownsRow base e size v' (n + m) (xs ++ news) → w.grownBy w' v.ownBlock → (v' = .slice none 0 0 ↔ v = .slice none 0 0 ∧ m = 0) → wpList P ops Q rest (a.put o.dst v') w') : wpList P ops Q (o :: rest) a w := by
  obtain ⟨i, hi, hz, hs', hb⟩ := info_parts T.info
  subst hb
  obtain ⟨r1, r2, r3, r4, r5⟩ := hr
  cases ao with
  | some ad =>
    refine wpList_append_own w hgd s x t ho base e i z size i.bytes T.und hi hz hs' rfl T.cells T.pos v n xs hs hown ad m c news hx r1 (fun j u hj => ?_) h1 h63 hbytes hbase h
    by_cases hm : 0 < m
    · obtain ⟨b, off, hab, _, hc⟩ := r5 hm
      obtain rfl := Option.some.inj hab
      rw [Addr.add_lit]; exact hc j u hj
    · obtain rfl : m = 0 := by omega
      have : news = [] := List.eq_nil_of_length_eq_zero (by simpa using r1)
      subst this; simp at hj
  | none =>
    obtain rfl := r4 rfl
    obtain rfl : m = 0 := by omega
    have : news = [] := List.eq_nil_of_length_eq_zero (by simpa using r1)
    subst this
    refine wpList_plain hgd fun K hK => ?_
    have hrun := run_append_owned_none (P := P) w base t o.type e i size T.und hi v n xs hown
    unfold Oper.wp
    simp [execOp, ho, resolve, invoke, builtin, hs, hx, hrun, Result.andThen]
    exact hK _ _ (h v w (by simpa using hown) ⟨rfl, rfl, rfl, Nat.le_refl _, fun _ _ _ => rfl⟩ (by simp))

/-- Where the one is not nil the other is not. -/
def NN (a : Option Addr) (v : Value) : Prop := a ≠ none → v ≠ .slice none 0 0
theorem below_grown {B : Nat} {w0 w w' : World} {row : Option Nat} (h : Below B w0 w) (hg : w.grownBy w' row) (hB : B ≤ w.heap.size) (hr : ∀ k, row = some k → B ≤ k) : Below B w0 w' := h.grown hg hB hr

/-- The one element that 'append(v, x)' lays first. -/
theorem row_new1 (w : World) (x : Value) (e : TypeId) : Row (w.alloc (.cells #[x] e)) 1 (some ⟨w.heap.size, 0, none⟩) 1 1 [x] :=
  ⟨rfl, Nat.le_refl _, by simp [maxLen], fun h => (by cases h), fun _ => ⟨w.heap.size, 0, rfl, by rw [sizeA]; omega, fun j u hj => by
    rw [cell_of_row _ _ _ _ _ _ (heapA_new _ rfl)]
    rcases j with _ | j
    · simpa using hj
    · simp at hj⟩⟩
theorem one_mem {x : Value} (h : x.oneCell' = true) : ∀ u ∈ [x], u.oneCell' = true := by
  intro u hu; simp at hu; subst hu; exact h
theorem below_cell {B : Nat} {w w' : World} (h : Below B w w') {b o : Nat} {v : Value} (hb : b < B) (hc : w.cell? ⟨b, o, none⟩ = some v) : w'.cell? ⟨b, o, none⟩ = some v := (h.cell (p := ⟨b, o, none⟩) hb).trans hc
theorem Row.below {B : Nat} {w w' : World} {sz : Nat} {a : Option Addr} {n cap : Nat} {xs : List Value} (h : Row w sz a n cap xs) (hb : Below B w w') (ha : ∀ x, a = some x → x.block < B) : Row w' sz a n cap xs := by
  obtain ⟨h1, h2, h3, h4, h5⟩ := h
  refine ⟨h1, h2, h3, h4, fun hn => ?_⟩
  obtain ⟨b, off, ha', hlt, hc⟩ := h5 hn
  exact ⟨b, off, ha', Nat.lt_of_lt_of_le hlt hb.size, fun j u hj => below_cell hb (ha _ ha') (hc j u hj)⟩
theorem Row.lt {w : World} {sz : Nat} {a : Option Addr} {n cap : Nat} {xs : List Value} (h : Row w sz a n cap xs) (hn : 0 < n) : ∀ x, a = some x → x.block < w.heap.size := by
  obtain ⟨b, off, ha, hlt, _⟩ := h.2.2.2.2 hn
  intro x hx
  rw [ha] at hx; cases hx; exact hlt
theorem below_of_grown {w w' : World} {row : Option Nat} {B : Nat} (hg : w.grownBy w' row) (hB : B ≤ w.heap.size) (hr : ∀ k, row = some k → B ≤ k) : Below B w w' :=
  (Below.refl B w).grown hg hB hr

/-- A slice literal. -/
theorem row_lit (w : World) (cs : Array Value) (e : TypeId) (hm : cs.size ≤ maxLen) : Row (w.alloc (.cells cs e)) 1 (some ⟨w.heap.size, 0, none⟩) cs.size cs.size cs.toList :=
  ⟨by simp, Nat.le_refl _, hm, fun h => (by cases h), fun _ => ⟨w.heap.size, 0, rfl, by rw [sizeA]; omega, fun j u hj => by
    rw [Nat.zero_add, cell_of_row _ _ _ _ _ _ (heapA_new _ rfl)]; simpa using hj⟩⟩

end Go.Proofs.Ytlmdgaajkjbpgaa
/-
  The row that a sort works on, and what its comparing function must do: words that name no program.
-/
namespace Go.Proofs.Ytlmdgaajkjbpgaa
open Go.RowKit Go.Sort

/-- From w0 on only block g has been written (and draws made); it holds the elements of d, then rest. -/
structure SB {α : Type} (enc : α → Value) (w0 : World) (g : Nat) (t : TypeId) (rest : List Value) (d : Array α) (w : World) : Prop where
  grown : w0.grownBy w (some g)
  blk : w.heap[g]? = some (.cells (d.toList.map enc ++ rest).toArray t (0, 0))

section
variable {α : Type} {enc : α → Value} {w0 w : World} {g : Nat} {t : TypeId} {rest : List Value} {d : Array α}

theorem SB.cell [Inhabited α] (h : SB enc w0 g t rest d w) (i : Nat) (hi : i < d.size) : w.cell? ⟨g, i, none⟩ = some (enc d[i]!) := by
  rw [cell_of_row w g i _ t (0, 0) h.blk]
  simp [List.getElem?_append, hi]
theorem SB.free (h : SB enc w0 g t rest d w) (i : Nat) : w.frozen? ⟨g, i, none⟩ = false := frozen_of_row w g i _ t h.blk
theorem SB.drewN (h : SB enc w0 g t rest d w) (n : Nat) : SB enc w0 g t rest d (w.drewN n) := ⟨⟨h.grown.os, h.grown.tape, h.grown.output, h.grown.size, h.grown.block⟩, h.blk⟩
theorem grownBy_setCell {w0 w : World} {g i : Nat} (h : w0.grownBy w (some g)) (v : Value) : w0.grownBy (w.setCell ⟨g, i, none⟩ v) (some g) :=
  ⟨h.os, h.tape, h.output, by simp [World.setCell]; exact h.size, fun k hk hne => by rw [heap_setCell_other w ⟨g, i, none⟩ k v (fun e => hne (by simp [e]))]; exact h.block k hk hne⟩
theorem grownBy_trans {a b c : World} {row : Option Nat} (h : a.grownBy b row) (k : b.grownBy c row) : a.grownBy c row :=
  ⟨k.os.trans h.os, k.tape.trans h.tape, k.output.trans h.output, Nat.le_trans h.size k.size, fun i hi hne => (k.block i (Nat.lt_of_lt_of_le hi h.size) hne).trans (h.block i hi hne)⟩
theorem grownBy_refl (w : World) (row : Option Nat) : w.grownBy w row := ⟨rfl, rfl, rfl, Nat.le_refl _, fun _ _ _ => rfl⟩
theorem grownBy_drewN {w0 w : World} {row : Option Nat} (h : w0.grownBy w row) (n : Nat) : w0.grownBy (w.drewN n) row := ⟨h.os, h.tape, h.output, h.size, h.block⟩
theorem SB.set (h : SB enc w0 g t rest d w) (i : Nat) (hi : i < d.size) (x : α) : SB enc w0 g t rest (d.setIfInBounds i x) (w.setCell ⟨g, i, none⟩ (enc x)) := by
  refine ⟨grownBy_setCell h.grown _, ?_⟩
  rw [heap_setCell_same w g i _ t _ h.blk, List.setIfInBounds_toArray, List.set_append]
  simp [hi, List.map_set]
theorem SB.swp [Inhabited α] (h : SB enc w0 g t rest d w) (i j : Nat) (hi : i < d.size) (hj : j < d.size) (q : Nat) :
    SB enc w0 g t rest (swp d i j) (((w.drewN q).setCell ⟨g, i, none⟩ (enc d[j]!)).setCell ⟨g, j, none⟩ (enc d[i]!)) :=
  ((h.drewN q).set i hi _).set j (by simpa using hj) _
theorem SB.row (h : SB enc w0 g t rest d w) {cap : Nat} (h1 : d.size ≤ cap) (h2 : cap ≤ maxLen) : Row w 1 (some ⟨g, 0, none⟩) d.size cap (d.toList.map enc) := by
  refine ⟨by simp, h1, h2, fun e => (by cases e), fun _ => ⟨g, 0, rfl, (Array.getElem?_eq_some_iff.1 h.blk).1, fun j u hj => ?_⟩⟩
  rw [Nat.zero_add, cell_of_row w g j _ t (0, 0) h.blk]
  have hjl := (List.getElem?_eq_some_iff.1 hj).1
  rw [List.getElem?_toArray, List.getElem?_append_left hjl]; exact hj
theorem SB.start {cs : Array Value} {n : Nat} (hb : w.heap[g]? = some (.cells cs t (0, 0))) (hx : cs.toList.take n = d.toList.map enc) : SB enc w g t (cs.toList.drop n) d w :=
  ⟨⟨rfl, rfl, rfl, Nat.le_refl _, fun _ _ _ => rfl⟩, by rw [← hx, List.take_append_drop]; exact hb⟩
end

/-- What is asked of the comparing function: of elements that D knows, in every world that the sort passes through, it tells cf, and turns nothing but the count of draws. -/
structure CmpQ {α : Type} (P : Program) (f : FuncId) (cb : Array Value) (enc : α → Value) (cf : α → α → Int) (D : α → Prop) (w0 : World) (g : Nat) : Prop where
  enters : ∀ args w, (callFunc f args).run P w = .ok (.enter f args) w
  calls : ∀ W, w0.grownBy W (some g) → ∀ x y, D x → D y → Calls P f (#[enc x, enc y] ++ cb) W fun e w' => e = .returned (.int .i64 (cf x y)) ∧ ∃ q, w' = W.drewN q

def ltOf {α : Type} (cf : α → α → Int) (x y : α) : Bool := decide (cf x y < 0)

section
variable {α : Type} [Inhabited α] (lt : α → α → Bool)
theorem inner_go (a j : Nat) (d : Array α) (hj : a < j) (hl : lt d[j]! d[j - 1]! = true) : insInner lt a j d = insInner lt a (j - 1) (swp d j (j - 1)) := by
  rcases j with _ | k
  · omega
  · have h1 : (decide (k + 1 > a) && lt d[k + 1]! d[k]!) = true := by simp only [Nat.add_sub_cancel] at hl; simp [hl, hj]
    rw [insInner, if_pos h1]; rfl
theorem inner_stop (a j : Nat) (d : Array α) (h : j ≤ a ∨ lt d[j]! d[j - 1]! = false) : insInner lt a j d = d := by
  rcases j with _ | k
  · rfl
  · rw [insInner, if_neg]
    simp only [Nat.add_sub_cancel] at h
    rcases h with h | h
    · simp; omega
    · simp [h]
theorem outer_go (a b i : Nat) (d : Array α) (h : i < b) : insOuter lt a b i d = insOuter lt a b (i + 1) (insInner lt a i d) := by rw [insOuter, if_pos h]
theorem outer_stop (a b i : Nat) (d : Array α) (h : ¬ i < b) : insOuter lt a b i d = d := by rw [insOuter, if_neg h]
end

end Go.Proofs.Ytlmdgaajkjbpgaa
/-
  Go's insertion sort by a comparing function, at elements of one cell ([]int).
-/
namespace Go.Proofs.Ytlmdgaajkjbpgaa
open Go.RowKit Go.Sort

set_option maxHeartbeats 2000000 in
theorem ins_any {α : Type} [Inhabited α] (enc : α → Value) (hE : ∀ x, ∃ n, enc x = .int .i64 n) (cf : α → α → Int) (D : α → Prop) (f : FuncId) (cb : Array Value) (g cap a b : Nat) (rest : List Value) (d : Array α) (w0 w : World)
    (hC : CmpQ Try.prog f cb enc cf D w0 g) (hS : SB enc w0 g 3 rest d w) (hD : ∀ i, i < d.size → D d[i]!) (hab : a ≤ b) (hb : b ≤ d.size) (hsz : d.size < 4611686018427387904) :
    Calls Try.prog 69 #[.slice (some ⟨g, 0, none⟩) d.size cap, .int .i64 a, .int .i64 b, .func (.func f) #[] cb] w fun e w' => e = .returned (.tuple #[]) ∧ SB enc w0 g 3 rest (Sort.insertionSort (ltOf cf) d a b) w' := by
  have eg := hC.enters
  have HC := Lib.hid hC
  have HS := Lib.hid hS
  have HD := Lib.hid hD
  clear hC hS hD
  go_enter Try.func69, Try.ntmps69
  go_wp2
  go_loopw [8] (fun vi wr => ∃ (i : Nat) (dk : Array α), vi = .int .i64 i ∧ a < i ∧ i ≤ b + 1 ∧ dk.size = d.size ∧ Hid (SB enc w0 g 3 rest dk wr) ∧ Hid (∀ i, i < dk.size → D dk[i]!) ∧
      Hid (insOuter (ltOf cf) a b i dk = insOuter (ltOf cf) a b (a + 1) d)) (fun vi _ => b + 1 - (intOf vi).toNat)
  case atStart => exact ⟨a + 1, d, by go_num, by omega, by omega, rfl, HS, HD, rfl⟩
  case round =>
    obtain ⟨i, dk, rfl, hai, hib, hsk, HSk, HDk, HO⟩ := hrel
    clear HS
    by_cases hlt : i < b
    · go_wp2
      go_loopw [9] (fun vj wr2 => ∃ (j : Nat) (dj : Array α), vj = .int .i64 j ∧ a ≤ j ∧ j ≤ i ∧ dj.size = d.size ∧ Hid (SB enc w0 g 3 rest dj wr2) ∧ Hid (∀ i, i < dj.size → D dj[i]!) ∧
          Hid (insInner (ltOf cf) a j dj = insInner (ltOf cf) a i dk)) (fun vj _ => (intOf vj).toNat)
      case atStart => exact ⟨i, dk, rfl, by omega, Nat.le_refl _, hsk, HSk, HDk, rfl⟩
      case round =>
        obtain ⟨j, dj, rfl, haj, hji, hsj, HSj, HDj, HI⟩ := hrel
        clear HSk HDk
        by_cases hja : a < j
        · have hc1 := HSj.out.cell j (by omega)
          have hc2 := HSj.out.cell (j - 1) (by omega)
          have hf1 := HSj.out.free j
          have hf2 := HSj.out.free (j - 1)
          have hcall := fun q => HC.out.calls (wr.drewN q) (HSj.out.drewN q).grown dj[j]! dj[j-1]! (HDj.out j (by omega)) (HDj.out (j - 1) (by omega))
          obtain ⟨X, hX⟩ : ∃ X, X = dj[j]! := ⟨_, rfl⟩
          obtain ⟨Y, hY⟩ : ∃ Y, Y = dj[j-1]! := ⟨_, rfl⟩
          rw [← hX] at hc1 hcall
          rw [← hY] at hc2 hcall
          have HX := Lib.hid hX
          have HY := Lib.hid hY
          obtain ⟨x, hx⟩ := hE X
          obtain ⟨y, hy⟩ := hE Y
          rw [hx] at hc1 hcall
          rw [hy] at hc2 hcall
          have HCALL := Lib.hid hcall
          have HEx := Lib.hid hx
          have HEy := Lib.hid hy
          clear hcall hx hy hX hY
          have hj1 : (0 : Int) ≤ (j : Int) - 1 := by omega
          have hj2 : ((j : Int) - 1).toNat = j - 1 := by omega
          have hjd : j < d.size := by omega
          have hjd1 : (j : Int) < (d.size : Int) := by omega
          have out : ltOf cf X Y = false → ∀ q, ∃ i' dk', Value.int .i64 ((i : Int) + 1) = .int .i64 (i' : Nat) ∧ a < i' ∧ i' ≤ b + 1 ∧ dk'.size = d.size ∧ Hid (SB enc w0 g 3 rest dk' (wr.drewN q)) ∧ Hid (∀ i, i < dk'.size → D dk'[i]!) ∧ Hid (insOuter (ltOf cf) a b i' dk' = insOuter (ltOf cf) a b (a + 1) d) :=
            fun hl q => ⟨i + 1, dj, by go_num, by omega, by omega, hsj, HSj.out.drewN q, HDj, by rw [← HO.out, outer_go _ _ _ _ _ hlt, ← HI.out, inner_stop _ _ _ _ (.inr (by rw [← HX.out, ← HY.out]; exact hl))]; exact Lib.hid rfl⟩
          have OUT := Lib.hid out
          clear out
          by_cases hcf : cf X Y < 0
          · have hl : ltOf cf X Y = true := by simpa [ltOf] using hcf
            have HL := Lib.hid hl
            clear hl
            go_wp2_with fail
            go_quiet ((refine Calls.quiet_of (HCALL.out _)))
            go_wp2
            go_region
            all_goals go_wp2
            go_roundw
            case rel =>
              refine ⟨j - 1, swp dj j (j - 1), by congr 1; omega, by omega, by omega, by rw [size_swp]; exact hsj, ?_, ?_, ?_⟩
              · have hw := HSj.out.swp j (j - 1) (by omega) (by omega) (nq + 1)
                rw [← HX.out, ← HY.out, HEx.out, HEy.out] at hw
                exact Lib.hid hw
              · exact Lib.hid (fun q hq => by
                  rw [size_swp] at hq
                  by_cases h1 : q = j
                  · subst h1; rw [swp_left _ _ _ hq (by omega)]; exact HDj.out _ (by omega)
                  · by_cases h2 : q = j - 1
                    · subst h2; rw [swp_right _ _ _ hq]; exact HDj.out _ (by omega)
                    · rw [swp_other _ _ _ _ h1 h2]; exact HDj.out _ hq)
              · exact Lib.hid (by rw [← HI.out, inner_go (ltOf cf) a j dj hja (by rw [← HX.out, ← HY.out]; exact HL.out)])
            case measure => simp [intOf]; omega
          · have hl : ltOf cf X Y = false := by simpa [ltOf] using hcf
            have HL := Lib.hid hl
            clear hl
            go_wp2_with fail
            go_quiet ((refine Calls.quiet_of (HCALL.out _)))
            go_wp2
            go_roundw
            case rel => exact OUT.out HL.out nq
            case measure => simp [intOf]; omega
        · have out : ∀ q, ∃ i' dk', Value.int .i64 ((i : Int) + 1) = .int .i64 (i' : Nat) ∧ a < i' ∧ i' ≤ b + 1 ∧ dk'.size = d.size ∧ Hid (SB enc w0 g 3 rest dk' (wr.drewN q)) ∧ Hid (∀ i, i < dk'.size → D dk'[i]!) ∧ Hid (insOuter (ltOf cf) a b i' dk' = insOuter (ltOf cf) a b (a + 1) d) :=
            fun q => ⟨i + 1, dj, by go_num, by omega, by omega, hsj, HSj.out.drewN q, HDj, by rw [← HO.out, outer_go _ _ _ _ _ hlt, ← HI.out, inner_stop _ _ _ _ (.inl (by omega))]; exact Lib.hid rfl⟩
          have OUT := Lib.hid out
          clear out
          have hja2 : decide ((a : Int) < (j : Int)) = false := by simp; omega
          go_wp2
          go_quiet (fail)
          go_wp2
          go_roundw
          case rel => exact OUT.out nq
          case measure => simp [intOf]; omega
    · go_wp2
      go_end0
      refine ⟨rfl, ?_⟩
      have e : Sort.insertionSort (ltOf cf) d a b = dk := by
        unfold Sort.insertionSort; rw [← HO.out, outer_stop _ _ _ _ _ hlt]
      rw [e]
      exact HSk.out
end Go.Proofs.Ytlmdgaajkjbpgaa
/-
  Plain: a stable sort's answer by a total order: insertion sort; what a sorted permutation is.
-/
namespace Go.Proofs.Ytlmdgaajkjbpgaa
open Go.RowKit Go.Sort
variable {α : Type} [Inhabited α]

theorem inner_eq (lt1 lt2 : α → α → Bool) (a : Nat) : ∀ (j : Nat) (d : Array α), j < d.size → (∀ p, a ≤ p → p < j → lt1 d[j]! d[p]! = lt2 d[j]! d[p]!) → insInner lt1 a j d = insInner lt2 a j d
  | 0, d, _, _ => rfl
  | j + 1, d, hj, h => by
    rw [insInner, insInner]
    by_cases hja : j + 1 > a
    · rw [h j (by omega) (by omega)]
      have ih := inner_eq lt1 lt2 a j (swp d (j + 1) j) (by rw [size_swp]; omega) (fun p hp hpj => by
        rw [swp_right d (j + 1) j (by omega), swp_other d (j + 1) j p (by omega) (by omega)]
        exact h p hp (by omega))
      rw [ih]
    · simp [hja]

theorem outer_eq (lt1 lt2 : α → α → Bool) (hS : SWO lt2) (a b : Nat) (d0 : Array α) (hb : b ≤ d0.size) (h : ∀ p q, a ≤ p → p < q → q < b → lt1 d0[q]! d0[p]! = lt2 d0[q]! d0[p]!) :
    ∀ (n i : Nat) (d : Array α), b - i = n → a < i → PermIn a i d0 d → SortedIn lt2 a i d → insOuter lt1 a b i d = insOuter lt2 a b i d
  | 0, i, d, hn, _, _, _ => by rw [outer_stop _ _ _ _ _ (by omega), outer_stop _ _ _ _ _ (by omega)]
  | n + 1, i, d, hn, hai, hP, hs => by
    have hib : i < b := by omega
    have e : insInner lt1 a i d = insInner lt2 a i d := inner_eq lt1 lt2 a i d (by rw [hP.1]; omega) (fun p hp hpi => by
      rw [hP.2.1 i (by omega)]
      exact permIn_all d0 d a i (fun x => lt1 d0[i]! x = lt2 d0[i]! x) (by omega) hP (fun q hq hqi => h q i hq hqi hib) p hp hpi)
    have h1 := insInner_spec hS swp_permIn permIn_refl permIn_trans a b i hib i d (by omega) (Nat.le_refl _) (by rw [hP.1]; exact hb) ⟨fun p q hap hpq hqi _ hq => hs p q hap hpq (by omega), fun q h1 h2 => by omega⟩
    rw [outer_go _ _ _ _ _ hib, outer_go _ _ _ _ _ hib, e]
    have hP1 := insInner_spec hS swp_permIn permIn_refl permIn_trans a (i + 1) i (by omega) i d (by omega) (Nat.le_refl _) (by rw [hP.1]; omega) ⟨fun p q hap hpq hqi _ hq => hs p q hap hpq (by omega), fun q h1 h2 => by omega⟩
    refine outer_eq lt1 lt2 hS a b d0 hb h n (i + 1) _ (by omega) (by omega) (permIn_trans _ _ _ _ _ (permIn_mono d0 d a i a (i + 1) (by omega) (by omega) (by omega) hP) hP1.1) hP1.2

/-- Insertion sort by a comparing function that agrees, of any two in their first order, with a total order: the sorted permutation by that order. -/
theorem ins_stable (lt1 lt2 : α → α → Bool) (hS : SWO lt2) (a b : Nat) (d : Array α) (hab : a ≤ b) (hb : b ≤ d.size) (h : ∀ p q, a ≤ p → p < q → q < b → lt1 d[q]! d[p]! = lt2 d[q]! d[p]!) :
    PermIn a b d (Sort.insertionSort lt1 d a b) ∧ SortedIn lt2 a b (Sort.insertionSort lt1 d a b) := by
  have e : Sort.insertionSort lt1 d a b = Sort.insertionSort lt2 d a b := by
    unfold Sort.insertionSort
    by_cases hb2 : a + 1 ≤ b
    · exact outer_eq lt1 lt2 hS a b d hb h _ (a + 1) d rfl (by omega) (permIn_refl _ _ _) (fun i j h1 h2 h3 => by omega)
    · rw [outer_stop _ _ _ _ _ (by omega), outer_stop _ _ _ _ _ (by omega)]
  rw [e]
  exact insertionSort_holds hS d a b hab hb
end Go.Proofs.Ytlmdgaajkjbpgaa
/-
  Go's stable sort by a comparing function, at fewer than 20 elements of one cell ([]int): one block, by insertion.
-/
namespace Go.Proofs.Ytlmdgaajkjbpgaa
open Go.RowKit Go.Sort

theorem stable_small {α : Type} [Inhabited α] (enc : α → Value) (hE : ∀ x, ∃ n, enc x = .int .i64 n) (cf : α → α → Int) (lt2 : α → α → Bool) (hO : SWO lt2) (D : α → Prop) (f : FuncId) (cb : Array Value) (g cap : Nat) (rest : List Value) (d : Array α) (w0 w : World)
    (hC : CmpQ Try.prog f cb enc cf D w0 g) (hS : SB enc w0 g 3 rest d w) (hD : ∀ i, i < d.size → D d[i]!) (hag : ∀ p q, p < q → q < d.size → ltOf cf d[q]! d[p]! = lt2 d[q]! d[p]!) (hsz : d.size < 20) :
    Calls Try.prog 59 #[.slice (some ⟨g, 0, none⟩) d.size cap, .func (.func f) #[] cb] w fun e w' => e = .returned (.tuple #[]) ∧ ∃ R, SB enc w0 g 3 rest R w' ∧ PermIn 0 d.size d R ∧ SortedIn lt2 0 d.size R := by
  have hins := ins_any enc hE cf D f cb g cap 0 d.size rest d w0 w hC hS hD (Nat.zero_le _) (Nat.le_refl _) (by omega)
  have hst := ins_stable (ltOf cf) lt2 hO 0 d.size d (Nat.zero_le _) (Nat.le_refl _) (fun p q _ h1 h2 => hag p q h1 h2)
  have HI := Lib.hid hins
  clear hins hC hS hD hag hO
  have hz : (d.size : Int) < 20 := by omega
  have hi := HI.out
  generalize d.size = n at *
  clear hi
  go_enter Try.func59, Try.ntmps59
  go_wp2_with (first | (go_at_call 69; refine HI.out.mono ?_; rintro e w' ⟨rfl, hS'⟩; have HS := Lib.hid hS'; clear hS') | go_in)
  refine wp_loop_once ?_
  go_wp2_with (first | (go_at_call 69; refine HI.out.mono ?_; rintro e w' ⟨rfl, hS'⟩; have HS := Lib.hid hS'; clear hS') | go_in)
  refine wp_loop_once ?_
  go_wp2
  go_end0
  go_wp2
  go_end0
  exact ⟨rfl, _, HS.out, hst⟩
theorem stable_nil (fv : Value) (w : World) : Calls Try.prog 59 #[.slice none 0 0, fv] w fun e w' => e = .returned (.tuple #[]) ∧ w = w' := by
  go_enter Try.func59, Try.ntmps59
  go_wp2
  refine wp_loop_once ?_
  go_wp2
  refine wp_loop_once ?_
  go_wp2
  go_end0
  go_wp2
  refine wp_loop_once ?_
  go_wp2
  go_end0
  go_wp2
  go_end0
  exact ⟨rfl, rfl⟩
end Go.Proofs.Ytlmdgaajkjbpgaa
/-
  Plain mathematics of codes of prefixes (layer 4), no program: how much room lengths take.
-/
namespace Go.Proofs.Ytlmdgaajkjbpgaa

theorem take_snoc {α : Type} (d : α) (l : List α) (k : Nat) (h : k < l.length) : l.take (k + 1) = l.take k ++ [l.getD k d] := by
  rw [List.take_succ_eq_append_getElem h]; simp [List.getD, h]

def hby (n : Int) : Int := 32768 / 2 ^ n.toNat
def hadd (s n : Int) : Int := if 0 < n then s + hby n else s
def hsum (l : List Int) : Int := l.foldl hadd 0
def hok (l : List Int) : Bool := l.all fun n => decide (0 ≤ n) && decide (n ≤ 15)
def roomV (l : List Int) : Int := if l.length = 0 ∨ 320 < l.length ∨ hok l = false then -1 else if 32768 < hsum l then -1 else hsum l

theorem hby_bd (n : Int) : 0 ≤ hby n ∧ hby n ≤ 32768 := by
  unfold hby
  have h : (0 : Int) < 2 ^ n.toNat := Int.pow_pos (by omega)
  exact ⟨Int.ediv_nonneg (by omega) (by omega), Int.ediv_le_self _ (by omega)⟩
theorem hsum_snoc (l : List Int) (x : Int) : hsum (l ++ [x]) = hadd (hsum l) x := by simp [hsum]
theorem hadd_bd (s n : Int) : s ≤ hadd s n ∧ hadd s n ≤ s + 32768 := by
  have := hby_bd n
  unfold hadd; split <;> omega
theorem foldl_hadd_bd (l : List Int) : ∀ s : Int, s ≤ l.foldl hadd s ∧ l.foldl hadd s ≤ s + 32768 * l.length := by
  induction l with
  | nil => intro s; simp
  | cons x l ih =>
    intro s
    have h1 := hadd_bd s x
    have h2 := ih (hadd s x)
    simp only [List.foldl_cons, List.length_cons]
    omega
theorem hsum_bd (l : List Int) : 0 ≤ hsum l ∧ hsum l ≤ 32768 * l.length := by
  have := foldl_hadd_bd l 0; unfold hsum; omega
theorem hok_snoc (l : List Int) (x : Int) : hok (l ++ [x]) = (hok l && (decide (0 ≤ x) && decide (x ≤ 15))) := by simp [hok]
theorem hok_not {l : List Int} {k : Nat} (hk : k < l.length) (h : l.getD k 0 < 0 ∨ 15 < l.getD k 0) : hok l = false := by
  simp only [hok, List.all_eq_false]
  refine ⟨l[k], List.getElem_mem _, ?_⟩
  simp [List.getD, hk] at h
  simp
  omega
theorem hok_mem {l : List Int} (h : hok l = true) : ∀ x ∈ l, 0 ≤ x ∧ x ≤ 15 := by
  simpa [hok] using h
theorem roomV_le (l : List Int) : -1 ≤ roomV l ∧ roomV l ≤ 32768 := by
  unfold roomV
  have := hsum_bd l
  split
  · omega
  · split <;> omega
theorem roomV_ok {l : List Int} (h : 0 ≤ roomV l) : l.length ≠ 0 ∧ l.length ≤ 320 ∧ hok l = true ∧ hsum l ≤ 32768 := by
  unfold roomV at h
  split at h
  · omega
  · rename_i h1
    split at h
    · omega
    · simp only [not_or] at h1
      exact ⟨h1.1, by omega, by simpa using h1.2.2, by omega⟩
/-- The halving loop of the reference. -/
theorem halve (j : Nat) : (32768 : Int) / 2 ^ (j + 1) = (32768 / 2 ^ j) / 2 := by
  rw [Int.pow_succ, Int.ediv_ediv_of_nonneg (Int.pow_nonneg (by omega))]

/-- How many lengths are m (m above 0). -/
def cn (l : List Int) (m : Nat) : Int := if m = 0 then 0 else ((l.filter fun x => x == (m : Int)).length : Nat)
theorem cn_snoc (l : List Int) (x : Int) (m : Nat) (hx : 0 ≤ x) : cn (l ++ [x]) m = cn l m + if 0 < x ∧ m = x.toNat then 1 else 0 := by
  unfold cn
  by_cases hm : m = 0
  · subst hm; simp; omega
  · rw [if_neg hm, if_neg hm, List.filter_append]
    by_cases h : x = (m : Int)
    · subst h
      simp
      omega
    · have h2 : ¬ (0 < x ∧ m = x.toNat) := by omega
      simp [h, h2]
theorem cn_bd (l : List Int) (m : Nat) : 0 ≤ cn l m ∧ cn l m ≤ l.length := by
  unfold cn
  have := List.length_filter_le (fun x => x == (m : Int)) l
  split <;> omega
theorem cn_take_le (l : List Int) (k m : Nat) : cn (l.take k) m ≤ cn l m := by
  unfold cn
  split
  · omega
  · have := ((List.take_sublist k l).filter (fun x => x == (m : Int))).length_le
    omega
/-- One more of its kind stands at k: so fewer before. -/
theorem cn_lt {l : List Int} {k m : Nat} (hk : k < l.length) (hm : 0 < m) (h : l.getD k 0 = (m : Int)) : cn (l.take k) m + 1 ≤ cn l m := by
  have h1 := cn_take_le l (k + 1) m
  rw [take_snoc 0 l k hk, cn_snoc _ _ _ (by omega), if_pos (by omega)] at h1
  exact h1

def fcode (c : Nat → Int) : Nat → Int
  | 0 => 0
  | n + 1 => (fcode c n + c n) * 2

theorem fcode_nonneg (c : Nat → Int) (h : ∀ m, 0 ≤ c m) : ∀ n, 0 ≤ fcode c n
  | 0 => by simp [fcode]
  | n + 1 => by have := fcode_nonneg c h n; have := h n; simp only [fcode]; omega

/-- The room that counts take: of lengths 1 to 15. -/
def weigh (c : Nat → Int) : Int := 16384 * c 1 + 8192 * c 2 + 4096 * c 3 + 2048 * c 4 + 1024 * c 5 + 512 * c 6 + 256 * c 7 + 128 * c 8 + 64 * c 9 + 32 * c 10 + 16 * c 11 + 8 * c 12 + 4 * c 13 + 2 * c 14 + c 15

theorem case15 {x : Int} (h0 : 0 < x) (h : x ≤ 15) : x = 1 ∨ x = 2 ∨ x = 3 ∨ x = 4 ∨ x = 5 ∨ x = 6 ∨ x = 7 ∨ x = 8 ∨ x = 9 ∨ x = 10 ∨ x = 11 ∨ x = 12 ∨ x = 13 ∨ x = 14 ∨ x = 15 := by omega

theorem weigh_snoc (l : List Int) (x : Int) (h0 : 0 ≤ x) (h : x ≤ 15) : weigh (cn (l ++ [x])) = weigh (cn l) + (if 0 < x then hby x else 0) := by
  unfold weigh
  simp only [cn_snoc l x _ h0]
  by_cases hp : 0 < x
  · rcases case15 hp h with rfl | rfl | rfl | rfl | rfl | rfl | rfl | rfl | rfl | rfl | rfl | rfl | rfl | rfl | rfl <;> simp [hby] <;> omega
  · simp [hp]

theorem hsum_weigh (l : List Int) (h : hok l = true) : hsum l = weigh (cn l) := by
  have key : ∀ k, k ≤ l.length → hsum (l.take k) = weigh (cn (l.take k)) := by
    intro k
    induction k with
    | zero => intro _; simp [hsum, weigh, cn]
    | succ k ih =>
      intro hk
      have hx := hok_mem h (l.getD k 0) (by simp [List.getD, show k < l.length by omega])
      rw [take_snoc 0 l k (by omega), hsum_snoc, weigh_snoc _ _ hx.1 hx.2, ih (by omega)]
      unfold hadd; split <;> omega
  have := key l.length (Nat.le_refl _)
  simpa using this

theorem fcode_weigh (c : Nat → Int) (h0 : c 0 = 0) (hc : ∀ m, 0 ≤ c m) (hw : weigh c ≤ 32768) (n : Nat) (hn : n ≤ 15) : (fcode c n + c n) * 2 ^ (15 - n) ≤ 32768 := by
  unfold weigh at hw
  have h1 := hc 1; have h2 := hc 2; have h3 := hc 3; have h4 := hc 4; have h5 := hc 5; have h6 := hc 6; have h7 := hc 7; have h8 := hc 8; have h9 := hc 9
  have h10 := hc 10; have h11 := hc 11; have h12 := hc 12; have h13 := hc 13; have h14 := hc 14; have h15 := hc 15
  rcases (by omega : n = 0 ∨ n = 1 ∨ n = 2 ∨ n = 3 ∨ n = 4 ∨ n = 5 ∨ n = 6 ∨ n = 7 ∨ n = 8 ∨ n = 9 ∨ n = 10 ∨ n = 11 ∨ n = 12 ∨ n = 13 ∨ n = 14 ∨ n = 15) with
    rfl | rfl | rfl | rfl | rfl | rfl | rfl | rfl | rfl | rfl | rfl | rfl | rfl | rfl | rfl | rfl <;> simp only [fcode, h0] <;> omega

/-- Codes of n bits are below 2^n. -/
theorem fcode_top {l : List Int} (h : 0 ≤ roomV l) (n : Nat) (hn : n ≤ 15) : 0 ≤ fcode (cn l) n ∧ fcode (cn l) n + cn l n ≤ 2 ^ n := by
  obtain ⟨_, _, h3, h4⟩ := roomV_ok h
  refine ⟨fcode_nonneg _ (fun m => (cn_bd l m).1) n, ?_⟩
  have h5 := fcode_weigh (cn l) (by simp [cn]) (fun m => (cn_bd l m).1) (by rw [← hsum_weigh l h3]; exact h4) n hn
  rcases (by omega : n = 0 ∨ n = 1 ∨ n = 2 ∨ n = 3 ∨ n = 4 ∨ n = 5 ∨ n = 6 ∨ n = 7 ∨ n = 8 ∨ n = 9 ∨ n = 10 ∨ n = 11 ∨ n = 12 ∨ n = 13 ∨ n = 14 ∨ n = 15) with
    rfl | rfl | rfl | rfl | rfl | rfl | rfl | rfl | rfl | rfl | rfl | rfl | rfl | rfl | rfl | rfl <;> omega

theorem pow_le_15 {n : Nat} (hn : n ≤ 15) : (2 : Int) ^ n ≤ 32768 := by
  rcases (by omega : n = 0 ∨ n = 1 ∨ n = 2 ∨ n = 3 ∨ n = 4 ∨ n = 5 ∨ n = 6 ∨ n = 7 ∨ n = 8 ∨ n = 9 ∨ n = 10 ∨ n = 11 ∨ n = 12 ∨ n = 13 ∨ n = 14 ∨ n = 15) with
    rfl | rfl | rfl | rfl | rfl | rfl | rfl | rfl | rfl | rfl | rfl | rfl | rfl | rfl | rfl | rfl <;> omega

/-- The code of symbol k (P4.1). -/
def codeAt (l : List Int) (k : Nat) : Int := if 0 < l.getD k 0 then fcode (cn l) (l.getD k 0).toNat + cn (l.take k) (l.getD k 0).toNat else 0

theorem codeAt_bd {l : List Int} (h : 0 ≤ roomV l) (k : Nat) : 0 ≤ codeAt l k ∧ codeAt l k ≤ 32768 := by
  unfold codeAt
  split
  · rename_i hp
    obtain ⟨_, _, h3, _⟩ := roomV_ok h
    by_cases hk : k < l.length
    · have hx := hok_mem h3 (l.getD k 0) (by simp [List.getD, hk])
      have h1 := fcode_top h (l.getD k 0).toNat (by omega)
      have h2 := cn_take_le l k (l.getD k 0).toNat
      have h4 := (cn_bd (l.take k) (l.getD k 0).toNat).1
      have h5 := pow_le_15 (n := (l.getD k 0).toNat) (by omega)
      omega
    · simp [List.getD, hk] at hp
  · omega
end Go.Proofs.Ytlmdgaajkjbpgaa
