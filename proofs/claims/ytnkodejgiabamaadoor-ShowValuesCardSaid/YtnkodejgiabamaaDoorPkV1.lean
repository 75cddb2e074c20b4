/-
  Our texts Base to Num, in one.
-/
import Derived.WalkKit
import Derived.WalkSpells
import Derived.WalkLawsBesides
import Derived.Lib.Hide
import Derived.Test.YtnkodejgiabamaaDoorProg
import Derived.BigQuiet
import Derived.Deep.QuietTactic
import Derived.Laws.RangeAny
import Derived.IntWalk
/-
  General lemmas on slices in memory that name no program: what a slice value reads as ('Row'), how that is kept by a call that leaves old memory alone ('Below'), and how it stands to the kit's 'ownsRow'.
-/
namespace Go.Proofs.YtnkodejgiabamaaDoor
open Go.RowKit

/-- A slice (its address, length, capacity) that reads as the cells xs: n elements of sz cells each. -/
def Row (w : World) (sz : Nat) (a : Option Addr) (n cap : Nat) (xs : List Value) : Prop :=
  xs.length = n * sz ∧ n ≤ cap ∧ cap ≤ maxLen ∧ (a = none → cap = 0) ∧
    (0 < n → ∃ b off, a = some ⟨b, off, none⟩ ∧ b < w.heap.size ∧ ∀ j u, xs[j]? = some u → w.cell? ⟨b, off + j, none⟩ = some u)

theorem cell?_keep {w w' : World} (hb : Below w.heap.size w w') {a : Addr} {v : Value} (h : w.cell? a = some v) : w'.cell? a = some v :=
  (hb.cell (World.block_lt_of_cell? w a h)).trans h

theorem Row.mono {w w' : World} {sz : Nat} {a : Option Addr} {n cap : Nat} {xs : List Value} (h : Row w sz a n cap xs) (hb : Below w.heap.size w w') : Row w' sz a n cap xs := by
  obtain ⟨h1, h2, h3, h4, h5⟩ := h
  refine ⟨h1, h2, h3, h4, fun hn => ?_⟩
  obtain ⟨b, off, ha, hlt, hc⟩ := h5 hn
  exact ⟨b, off, ha, Nat.lt_of_lt_of_le hlt hb.size, fun j u hj => cell?_keep hb (hc j u hj)⟩

theorem Row.i64 {w : World} {sz : Nat} {a : Option Addr} {n cap : Nat} {xs : List Value} (h : Row w sz a n cap xs) : (n : Int) ≤ 9223372036854775807 := by
  have := h.2.1; have := h.2.2.1; unfold maxLen at this; omega
theorem Row.i64c {w : World} {sz : Nat} {a : Option Addr} {n cap : Nat} {xs : List Value} (h : Row w sz a n cap xs) : (cap : Int) ≤ 9223372036854775807 := by
  have := h.2.2.1; unfold maxLen at this; omega

/-- Its elements, where each takes one cell. -/
theorem Row.at {α : Type} {enc : α → Value} (d : α) {w : World} {a : Option Addr} {n cap : Nat} {l : List α} (h : Row w 1 a n cap (l.map enc)) (k : Nat) (hk : k < n) :
    ∃ b off, a = some ⟨b, off, none⟩ ∧ b < w.heap.size ∧ ∀ k, k < n → w.cell? ⟨b, off + k, none⟩ = some (enc (l.getD k d)) := by
  obtain ⟨h1, h2, h3, h4, h5⟩ := h
  obtain ⟨b, off, rfl, hb, hc⟩ := h5 (by omega)
  refine ⟨b, off, rfl, hb, fun k hk => hc k _ ?_⟩
  simp at h1 ⊢
  have : k < l.length := by omega
  simp [this]

theorem Row.len1 {α : Type} {enc : α → Value} {w : World} {a : Option Addr} {n cap : Nat} {l : List α} (h : Row w 1 a n cap (l.map enc)) : l.length = n := by
  have := h.1; simpa using this

theorem Row.nil (w : World) (sz : Nat) : Row w sz none 0 0 [] := ⟨by simp, Nat.le_refl _, by simp [maxLen], fun _ => rfl, fun h => by omega⟩

/-- What the call owns reads as a row. -/
theorem Row.of_owns {w : World} {base e sz : Nat} {v : Value} {n : Nat} {xs : List Value} (h : w.ownsRow base e sz v n xs) :
    ∃ a cap, v = .slice a n cap ∧ Row w sz a n cap xs ∧ ∀ x, a = some x → base ≤ x.block := by
  obtain ⟨h1, h2⟩ := h
  rcases h2 with ⟨rfl, rfl⟩ | ⟨g, cap, cur, rfl, hb, hg, hn, hm, hs, ht⟩
  · have : xs = [] := List.eq_nil_of_length_eq_zero (by simpa using h1)
    subst this
    exact ⟨none, 0, rfl, Row.nil w sz, fun x hx => by cases hx⟩
  · refine ⟨some ⟨g, 0, none⟩, cap, rfl, ⟨h1, hn, hm, fun h => (by cases h), fun _ => ⟨g, 0, rfl, (Array.getElem?_eq_some_iff.1 hg).1, fun j u hj => ?_⟩⟩, fun x hx => by cases hx; exact hb⟩
    rw [Nat.zero_add, cell_of_row w g j cur e (0, 0) hg]
    rw [← ht, List.getElem?_take] at hj
    split at hj
    · simpa using hj
    · cases hj

theorem Row.of_own {w : World} {base e sz : Nat} {a : Option Addr} {n m cap : Nat} {xs : List Value} (h : w.ownsRow base e sz (.slice a n cap) m xs) : n = m ∧ Row w sz a n cap xs := by
  obtain ⟨a', cap', hv, hr, _⟩ := Row.of_owns h
  simp only [Value.slice.injEq] at hv
  obtain ⟨rfl, rfl, rfl⟩ := hv
  exact ⟨rfl, hr⟩

theorem ownsRow_keep {w w' : World} {base e sz : Nat} {v : Value} {n : Nat} {xs : List Value} (h : w.ownsRow base e sz v n xs) (hb : Below w.heap.size w w') : w'.ownsRow base e sz v n xs := by
  obtain ⟨h1, h2⟩ := h
  refine ⟨h1, ?_⟩
  rcases h2 with h2 | ⟨g, cap, cur, hv, hg, hh, r⟩
  · exact .inl h2
  · exact .inr ⟨g, cap, cur, hv, hg, by rw [hb.block g (Array.getElem?_eq_some_iff.1 hh).1]; exact hh, r⟩

theorem ownsRow_base {w : World} {base base' e sz : Nat} {v : Value} {n : Nat} {xs : List Value} (h : w.ownsRow base e sz v n xs) (hb : base' ≤ base) : w.ownsRow base' e sz v n xs := by
  obtain ⟨h1, h2⟩ := h
  refine ⟨h1, ?_⟩
  rcases h2 with h2 | ⟨g, cap, cur, hv, hg, r⟩
  · exact .inl h2
  · exact .inr ⟨g, cap, cur, hv, by omega, r⟩

theorem block_keep {w w' : World} (hb : Below w.heap.size w w') {b : Nat} {o : Obj} (h : w.heap[b]? = some o) : w'.heap[b]? = some o := by
  rw [hb.block b (Array.getElem?_eq_some_iff.1 h).1]; exact h

/-- The element type's facts of a slice type, in one. -/
structure ElemT (P : Program) (t e : TypeId) (z : Value) (size bytes : Nat) : Prop where
  und : P.underlying t = some (.slice e)
  info : (P.info? e).map (fun i => (i.zero, i.size, i.bytes)) = some (some z, size, bytes)
  cells : z.cells.size = size
  pos : 0 < size

theorem ret_int {k : IntKind} {a b : Int} (h : a = b) : Ending.returned (.int k a) = .returned (.int k b) := by rw [h]
theorem ret_bool {a b : Bool} (h : a = b) : Ending.returned (.bool a) = .returned (.bool b) := by rw [h]

/-- 'make([]T, n)'. -/
theorem make_full {P : Program} {w : World} {ops : Array Oper} {rest : List Oper} {o : Oper} {a : Act} {Q : Exit → Act → World → Prop} {t e : TypeId} {z : Value} {size bytes : Nat} (T : ElemT P t e z size bytes)
    (hg : o.guard = none) (l c : Operand) (hop : o.op = Op.makeSlice t l c)
    (kl kc : IntKind) (L C : Int) (n : Nat) (hl : a.eval l = .int kl L) (hc : a.eval c = .int kc C) (hL : L = (n : Int)) (hC : C = (n : Int)) (b2 : bytes * n ≤ 281474976710656) (b3 : n ≤ maxLen)
    (hK : ∀ w', w'.ownsRow w.heap.size e size (.slice (some ⟨w.heap.size, 0, none⟩) n n) n (madeCells z.cells (n * size)).toList → Below w.heap.size w w' → wpList P ops Q rest (a.put o.dst (.slice (some ⟨w.heap.size, 0, none⟩) n n)) w') :
    wpList P ops Q (o :: rest) a w := by
  obtain ⟨i, hi, hz, hs, hb⟩ := info_parts T.info
  subst hb
  exact wpList_make_full w hg l c t hop w.heap.size e i z size T.und hi hz hs kl kc L C n hl hc hL hC b2 b3 (Nat.le_refl _)
    fun w' h1 h2 => hK w' h1 ((Below.refl _ _).grown h2 (Nat.le_refl _) (fun k hk => by cases hk))


/-- n cells, the i-th as enc says. -/
def fl (n : Nat) (enc : Nat → Value) : List Value := (List.range n).map enc
theorem fl_length (n : Nat) (enc : Nat → Value) : (fl n enc).length = n := by simp [fl]
theorem fl_get {n : Nat} (enc : Nat → Value) {i : Nat} (h : i < n) : (fl n enc)[i]? = some (enc i) := by simp [fl, h]
theorem fl_set (n : Nat) (enc : Nat → Value) (i : Nat) (v : Value) : (fl n enc).set i v = fl n (fun j => if j = i then v else enc j) := by
  apply List.ext_getElem?
  intro j
  simp only [fl, List.getElem?_set, List.getElem?_map, List.length_map, List.length_range]
  by_cases hj : j < n
  · by_cases hi : i = j
    · subst hi; simp [hj]
    · simp [hi, hj, Ne.symm hi]
  · by_cases hi : i = j
    · subst hi; simp [hj]
    · simp [hi, hj]
theorem fl_congr {n : Nat} {f g : Nat → Value} (h : ∀ i, i < n → f i = g i) : fl n f = fl n g := by
  apply List.map_congr_left
  intro i hi
  exact h i (by simpa using hi)
theorem fl_replicate (n : Nat) (v : Value) : List.replicate n v = fl n (fun _ => v) := by
  apply List.ext_getElem?
  intro j
  by_cases hj : j < n <;> simp [fl, hj]
theorem map_fl {α : Type} (d : α) (l : List α) (enc : α → Value) : l.map enc = fl l.length (fun i => enc (l.getD i d)) := by
  apply List.ext_getElem?
  intro j
  by_cases hj : j < l.length <;> simp [fl, hj]

theorem heapA_new {w : World} {b : Nat} (o : Obj) (h : b = w.heap.size) : (w.alloc o).heap[b]? = some o := by subst h; exact heap_alloc_new w o
theorem heapA_old {w : World} {b : Nat} (o : Obj) {o' : Obj} (h : w.heap[b]? = some o') : (w.alloc o).heap[b]? = some o' := by
  rw [Below.heap_alloc w o b (Array.getElem?_eq_some_iff.1 h).1]; exact h
theorem sizeA (w : World) (o : Obj) : (w.alloc o).heap.size = w.heap.size + 1 := by
  show (w.heap.push o).size = _
  simp
theorem belowA (w : World) (o : Obj) : Below w.heap.size w (w.alloc o) := (Below.refl _ _).alloc (Nat.le_refl _) o
theorem belowA2 (w : World) (o o2 : Obj) : Below w.heap.size w ((w.alloc o).alloc o2) := (belowA w o).alloc (by rw [sizeA]; omega) o2
theorem belowA3 (w : World) (o o2 o3 : Obj) : Below w.heap.size w (((w.alloc o).alloc o2).alloc o3) := (belowA2 w o o2).alloc (by rw [sizeA, sizeA]; omega) o3
theorem below_setRow {B : Nat} {w0 w : World} (h : Below B w0 w) {g : Nat} (hg : B ≤ g) (cs : Array Value) : Below B w0 (w.setRow g cs) :=
  h.trans ⟨rfl, rfl, rfl, by simp, fun j hj => setRow_other _ _ _ _ (by omega)⟩

/-- A block whose cells are known: one is read, one is written, the rest stands. -/
theorem blk_cell {w : World} {b n : Nat} {enc : Nat → Value} {t : TypeId} {fr : Nat × Nat} (h : w.heap[b]? = some (.cells (fl n enc).toArray t fr)) (i : Nat) (hi : i < n) : w.cell? ⟨b, i, none⟩ = some (enc i) := by
  rw [cell_of_row w b i _ t fr h]; simp [fl, hi]
theorem blk_free {w : World} {b : Nat} {cs : Array Value} {t : TypeId} (h : w.heap[b]? = some (.cells cs t (0, 0))) (i : Nat) : w.frozen? ⟨b, i, none⟩ = false := frozen_of_row w b i cs t h
theorem blk_set {w : World} {b n : Nat} {enc : Nat → Value} {t : TypeId} (h : w.heap[b]? = some (.cells (fl n enc).toArray t (0, 0))) (i : Nat) (v : Value) :
    (w.setCell ⟨b, i, none⟩ v).heap[b]? = some (.cells (fl n (fun j => if j = i then v else enc j)).toArray t (0, 0)) := by
  rw [heap_setCell_same w b i _ t v h, List.setIfInBounds_toArray, fl_set]
theorem blk_other {w : World} {b : Nat} {o : Obj} (h : w.heap[b]? = some o) {a : Addr} (ha : a.block ≠ b) (v : Value) : (w.setCell a v).heap[b]? = some o := by
  rw [heap_setCell_other w a b v (Ne.symm ha)]; exact h

/-- 'x := f()' where x's variable has just been laid and f's array or struct goes in whole. -/
theorem store_fresh {P : Program} {ops : Array Oper} {rest : List Oper} {o : Oper} {a : Act} {w0 : World} {Q : Exit → Act → World → Prop} (hgd : o.guard = none) (ty : TypeId) (x y : Operand) (ho : o.op = .store ty x y)
    (z : Array Value) (t : TypeId) (cells : Array Value) (hx : a.eval x = .pointer (some ⟨w0.heap.size, 0, none⟩)) (hy : a.eval y = .agg cells)
    (hi : (P.info? ty).map (·.size) = some cells.size) (hold : z.size = cells.size) (h1 : cells.all (·.oneCell') = true)
    (h : ∀ w', w'.heap[w0.heap.size]? = some (.cells cells t (0, 0)) → Below w0.heap.size w0 w' → w'.heap.size = w0.heap.size + 1 → wpList P ops Q rest (a.put o.dst undef) w') : wpList P ops Q (o :: rest) a (w0.alloc (.cells z t)) :=
  wpList_store_row hgd ty x y ho w0.heap.size cells hx hy t z (heapA_new _ rfl) hi hold h1
    (h _ (setRow_heap _ _ _ _ _ _ (heapA_new _ rfl)) (below_setRow (belowA w0 _) (Nat.le_refl _) _) (by rw [size_setRow, sizeA]))

theorem oneCell_mem {enc : Nat → Value} (h : ∀ i, (enc i).oneCell' = true) (n : Nat) : ∀ u ∈ fl n enc, u.oneCell' = true := by
  intro u hu
  simp [fl] at hu
  obtain ⟨i, _, rfl⟩ := hu
  exact h i

/-- 'append(v, x...)', v the call's own, x whatever slice that reads as a row: it may grow. -/
theorem append_row {P : Program} {w : World} {ops : Array Oper} {rest : List Oper} {o : Oper} {a : Act} {Q : Exit → Act → World → Prop} {t e : TypeId} {z : Value} {size bytes : Nat} (T : ElemT P t e z size bytes)
    (hgd : o.guard = none) (s x : Operand) (ho : o.op = .call { callee := .builtin .append, args := #[s, x], argTypes := #[t, t] })
    (base : Nat) (v : Value) (n : Nat) (xs : List Value) (hs : a.eval s = v) (hown : w.ownsRow base e size v n xs)
    (ao : Option Addr) (m c : Nat) (news : List Value) (hx : a.eval x = .slice ao m c) (hr : Row w size ao m c news) (h1 : ∀ u ∈ news, u.oneCell' = true)
    (h63 : n + m ≤ maxLen) (hbytes : (n + m) * bytes ≤ 140737488355328) (hbase : base ≤ w.heap.size)
    (h : ∀ v' w', w'.ownsRow base e size v' (n + m) (xs ++ news) → w.grownBy w' v.ownBlock → (v' = .slice none 0 0 ↔ v = .slice none 0 0 ∧ m = 0) → wpList P ops Q rest (a.put o.dst v') w') : wpList P ops Q (o :: rest) a w := by
  obtain ⟨i, hi, hz, hs', hb⟩ := info_parts T.info
  subst hb
  obtain ⟨r1, r2, r3, r4, r5⟩ := hr
  cases ao with
  | some ad =>
    refine wpList_append_own w hgd s x t ho base e i z size i.bytes T.und hi hz hs' rfl T.cells T.pos v n xs hs hown ad m c news hx r1 (fun j u hj => ?_) h1 h63 hbytes hbase h
    by_cases hm : 0 < m
    · obtain ⟨b, off, hab, _, hc⟩ := r5 hm
      obtain rfl := Option.some.inj hab
      rw [Addr.add_lit]; exact hc j u hj
    · obtain rfl : m = 0 := by omega
      have : news = [] := List.eq_nil_of_length_eq_zero (by simpa using r1)
      subst this; simp at hj
  | none =>
    obtain rfl := r4 rfl
    obtain rfl : m = 0 := by omega
    have : news = [] := List.eq_nil_of_length_eq_zero (by simpa using r1)
    subst this
    refine wpList_plain hgd fun K hK => ?_
    have hrun := run_append_owned_none (P := P) w base t o.type e i size T.und hi v n xs hown
    unfold Oper.wp
    simp [execOp, ho, resolve, invoke, builtin, hs, hx, hrun, Result.andThen]
    exact hK _ _ (h v w (by simpa using hown) ⟨rfl, rfl, rfl, Nat.le_refl _, fun _ _ _ => rfl⟩ (by simp))

/-- Where the one is not nil the other is not. -/
def NN (a : Option Addr) (v : Value) : Prop := a ≠ none → v ≠ .slice none 0 0
theorem below_grown {B : Nat} {w0 w w' : World} {row : Option Nat} (h : Below B w0 w) (hg : w.grownBy w' row) (hB : B ≤ w.heap.size) (hr : ∀ k, row = some k → B ≤ k) : Below B w0 w' := h.grown hg hB hr

/-- The one element that 'append(v, x)' lays first. -/
theorem row_new1 (w : World) (x : Value) (e : TypeId) : Row (w.alloc (.cells #[x] e)) 1 (some ⟨w.heap.size, 0, none⟩) 1 1 [x] :=
  ⟨rfl, Nat.le_refl _, by simp [maxLen], fun h => (by cases h), fun _ => ⟨w.heap.size, 0, rfl, by rw [sizeA]; omega, fun j u hj => by
    rw [cell_of_row _ _ _ _ _ _ (heapA_new _ rfl)]
    rcases j with _ | j
    · simpa using hj
    · simp at hj⟩⟩
theorem one_mem {x : Value} (h : x.oneCell' = true) : ∀ u ∈ [x], u.oneCell' = true := by
  intro u hu; simp at hu; subst hu; exact h
theorem below_cell {B : Nat} {w w' : World} (h : Below B w w') {b o : Nat} {v : Value} (hb : b < B) (hc : w.cell? ⟨b, o, none⟩ = some v) : w'.cell? ⟨b, o, none⟩ = some v := (h.cell (p := ⟨b, o, none⟩) hb).trans hc
theorem Row.below {B : Nat} {w w' : World} {sz : Nat} {a : Option Addr} {n cap : Nat} {xs : List Value} (h : Row w sz a n cap xs) (hb : Below B w w') (ha : ∀ x, a = some x → x.block < B) : Row w' sz a n cap xs := by
  obtain ⟨h1, h2, h3, h4, h5⟩ := h
  refine ⟨h1, h2, h3, h4, fun hn => ?_⟩
  obtain ⟨b, off, ha', hlt, hc⟩ := h5 hn
  exact ⟨b, off, ha', Nat.lt_of_lt_of_le hlt hb.size, fun j u hj => below_cell hb (ha _ ha') (hc j u hj)⟩
theorem Row.lt {w : World} {sz : Nat} {a : Option Addr} {n cap : Nat} {xs : List Value} (h : Row w sz a n cap xs) (hn : 0 < n) : ∀ x, a = some x → x.block < w.heap.size := by
  obtain ⟨b, off, ha, hlt, _⟩ := h.2.2.2.2 hn
  intro x hx
  rw [ha] at hx; cases hx; exact hlt
theorem below_of_grown {w w' : World} {row : Option Nat} {B : Nat} (hg : w.grownBy w' row) (hB : B ≤ w.heap.size) (hr : ∀ k, row = some k → B ≤ k) : Below B w w' :=
  (Below.refl B w).grown hg hB hr

/-- A slice literal. -/
theorem row_lit (w : World) (cs : Array Value) (e : TypeId) (hm : cs.size ≤ maxLen) : Row (w.alloc (.cells cs e)) 1 (some ⟨w.heap.size, 0, none⟩) cs.size cs.size cs.toList :=
  ⟨by simp, Nat.le_refl _, hm, fun h => (by cases h), fun _ => ⟨w.heap.size, 0, rfl, by rw [sizeA]; omega, fun j u hj => by
    rw [Nat.zero_add, cell_of_row _ _ _ _ _ _ (heapA_new _ rfl)]; simpa using hj⟩⟩

end Go.Proofs.YtnkodejgiabamaaDoor
/-
  Plain half of layer 9: digits, the number of a text, the text of a number.
-/
namespace Go.Proofs.YtnkodejgiabamaaDoor

theorem snoc_ind {α : Type} {p : List α → Prop} (h0 : p []) (h1 : ∀ l c, p l → p (l ++ [c])) (l : List α) : p l := by
  have h : ∀ r : List α, p r.reverse := by
    intro r
    induction r with
    | nil => exact h0
    | cons c r ih => rw [List.reverse_cons]; exact h1 _ _ ih
  have h2 := h l.reverse
  rwa [List.reverse_reverse] at h2

def isDg (c : UInt8) : Bool := decide (48 ≤ c.toNat) && decide (c.toNat ≤ 57)
def dgV (c : UInt8) : Nat := c.toNat - 48
def decV : List UInt8 → Nat → Nat
  | [], n => n
  | c :: l, n => decV l (10 * n + dgV c)
/-- The number that digits are. -/
def valD (l : List UInt8) : Nat := decV l 0

theorem isDg_iff {c : UInt8} : isDg c = true ↔ 48 ≤ c.toNat ∧ c.toNat ≤ 57 := by unfold isDg; simp
theorem isDg_no {c : UInt8} : isDg c = false ↔ c.toNat < 48 ∨ 57 < c.toNat := by
  rw [← Bool.not_eq_true, isDg_iff]; omega
theorem dgV_le {c : UInt8} (h : isDg c = true) : dgV c ≤ 9 := by rw [isDg_iff] at h; unfold dgV; omega
theorem dgV_int {c : UInt8} (h : isDg c = true) : (dgV c : Int) = (c.toNat : Int) - 48 := by rw [isDg_iff] at h; unfold dgV; omega

theorem decV_append : ∀ (l m : List UInt8) (n : Nat), decV (l ++ m) n = decV m (decV l n)
  | [], _, _ => rfl
  | c :: l, m, n => decV_append l m (10 * n + dgV c)
theorem decV_ge : ∀ (l : List UInt8) (n : Nat), n ≤ decV l n
  | [], _ => Nat.le_refl _
  | c :: l, n => Nat.le_trans (by omega) (decV_ge l (10 * n + dgV c))
theorem valD_nil : valD [] = 0 := rfl
theorem valD_snoc (l : List UInt8) (c : UInt8) : valD (l ++ [c]) = 10 * valD l + dgV c := by unfold valD; rw [decV_append]; rfl
theorem valD_append_ge (l m : List UInt8) : valD l ≤ valD (l ++ m) := by unfold valD; rw [decV_append]; exact decV_ge _ _
theorem valD_zeros (l : List UInt8) : ∀ j, valD (l ++ List.replicate j 48) = valD l * 10 ^ j
  | 0 => by simp
  | j + 1 => by
    rw [List.replicate_succ', ← List.append_assoc, valD_snoc, valD_zeros l j, Nat.pow_succ, show dgV 48 = 0 from rfl]
    rw [Nat.add_zero, Nat.mul_comm (10 ^ j) 10, ← Nat.mul_assoc, ← Nat.mul_assoc, Nat.mul_comm (valD l) 10]
theorem all_snoc (l : List UInt8) (c : UInt8) (h : l.all isDg = true) (hc : isDg c = true) : (l ++ [c]).all isDg = true := by simp [hc]; simpa using h
theorem valD_lt : ∀ (l : List UInt8), l.all isDg = true → valD l < 10 ^ l.length := by
  refine snoc_ind (fun _ => by decide) fun l c ih => ?_
  · intro h
    rw [List.all_append, Bool.and_eq_true] at h
    have h1 := ih h.1
    have h2 := dgV_le (c := c) (by simpa using h.2)
    rw [valD_snoc, List.length_append, List.length_singleton, Nat.pow_succ]
    omega

/-- The number that digits alone are, and an error. -/
def digitsV (l : List UInt8) : Int × Int := if l = [] ∨ l.all isDg = false then (0, 11) else if 2147483647 < valD l then (0, 5) else (((valD l : Nat) : Int), 0)
theorem digitsV_nil : digitsV [] = (0, 11) := by simp [digitsV]
theorem digitsV_form {l : List UInt8} (h : l.all isDg = false) : digitsV l = (0, 11) := by unfold digitsV; rw [if_pos (.inr h)]
theorem digitsV_over {l : List UInt8} (hn : l ≠ []) (h : l.all isDg = true) (ho : 2147483647 < valD l) : digitsV l = (0, 5) := by
  unfold digitsV; rw [if_neg (by rw [h]; simpa using hn), if_pos ho]
theorem digitsV_ok {l : List UInt8} (hn : l ≠ []) (h : l.all isDg = true) (ho : valD l ≤ 2147483647) : digitsV l = (((valD l : Nat) : Int), 0) := by
  unfold digitsV; rw [if_neg (by rw [h]; simpa using hn), if_neg (by omega)]

/-- The millionths that digits behind a point are. -/
def mil (r : List UInt8) : Nat := valD ((r ++ List.replicate 6 48).take 6)
theorem mil_short {r : List UInt8} (h : r.length ≤ 6) : mil r = valD r * 10 ^ (6 - r.length) := by
  unfold mil
  rw [List.take_append, List.take_of_length_le h, List.take_replicate, Nat.min_eq_left (by omega), valD_zeros]
theorem mil_long {r : List UInt8} (h : 6 ≤ r.length) : mil r = valD (r.take 6) := by
  unfold mil
  rw [List.take_append_of_le_length h]
theorem mil_nil : mil [] = 0 := by decide
theorem mil_snoc_lt (r : List UInt8) (c : UInt8) (h : r.length < 6) : mil (r ++ [c]) = mil r + 10 ^ (5 - r.length) * dgV c := by
  rw [mil_short (by simp; omega), mil_short (by omega), valD_snoc, List.length_append, List.length_singleton]
  rw [show 6 - r.length = (5 - r.length) + 1 from by omega, show 6 - (r.length + 1) = 5 - r.length from by omega, Nat.pow_succ, Nat.add_mul]
  rw [Nat.mul_comm (dgV c)]
  congr 1
  rw [Nat.mul_comm 10 (valD r), Nat.mul_assoc, Nat.mul_comm 10]
theorem mil_snoc_ge (r : List UInt8) (c : UInt8) (h : 6 ≤ r.length) : mil (r ++ [c]) = mil r := by
  rw [mil_long h, mil_long (by simp; omega), List.take_append_of_le_length h]
theorem mil_lt (r : List UInt8) (h : r.all isDg = true) : mil r < 1000000 := by
  by_cases hl : r.length ≤ 6
  · have := valD_lt ((r ++ List.replicate 6 48).take 6) (by
      rw [List.all_eq_true]
      intro x hx
      have hx := List.mem_of_mem_take hx
      rw [List.mem_append] at hx
      rcases hx with hx | hx
      · exact List.all_eq_true.1 h x hx
      · rw [List.mem_replicate] at hx; rw [hx.2]; rfl)
    unfold mil
    have hlen : ((r ++ List.replicate 6 48).take 6 : List UInt8).length = 6 := by simp
    rw [hlen] at this
    omega
  · rw [mil_long (by omega)]
    have := valD_lt (r.take 6) (by rw [List.all_eq_true]; intro x hx; exact List.all_eq_true.1 h x (List.mem_of_mem_take hx))
    rw [List.length_take, Nat.min_eq_left (by omega)] at this
    omega

/-- The sign, and what stands behind it; what stands ahead of the first point, and behind it. -/
def signOf (s : List UInt8) : Int := if s.head? = some 45 then -1 else 1
def bodyOf (s : List UInt8) : List UInt8 := if s.head? = some 45 ∨ s.head? = some 43 then s.tail else s
def wholeOf (b : List UInt8) : List UInt8 := b.takeWhile (· != 46)
def restOf (b : List UInt8) : List UInt8 := (b.dropWhile (· != 46)).tail
def hasPt (b : List UInt8) : Bool := b.any (· == 46)

/-- A text's number: kind, number, error. -/
def parseB (sg : Int) (b : List UInt8) : Int × Int × Int :=
  if (wholeOf b).length + (restOf b).length = 0 ∨ (wholeOf b).all isDg = false ∨ (restOf b).all isDg = false then (0, 0, 11)
  else if 2147483647 < valD (wholeOf b) then (0, 0, 5)
  else if hasPt b = false then (2, sg * (valD (wholeOf b) : Nat), 0)
  else if 2147483647000000 < valD (wholeOf b) * 1000000 + mil (restOf b) then (0, 0, 5)
  else (3, sg * ((valD (wholeOf b) * 1000000 + mil (restOf b) : Nat) : Int), 0)
def parseV (s : List UInt8) : Int × Int × Int := parseB (signOf s) (bodyOf s)

theorem tw_app (w t : List UInt8) (hw : ∀ x ∈ w, x ≠ 46) : wholeOf (w ++ 46 :: t) = w ∧ restOf (w ++ 46 :: t) = t ∧ hasPt (w ++ 46 :: t) = true := by
  induction w with
  | nil => simp [wholeOf, restOf, hasPt]
  | cons x w ih =>
    have hx : x ≠ 46 := hw x (List.mem_cons_self)
    obtain ⟨h1, h2, h3⟩ := ih fun y hy => hw y (List.mem_cons_of_mem _ hy)
    refine ⟨?_, ?_, by simp [hasPt]⟩
    · unfold wholeOf at *
      rw [List.cons_append, List.takeWhile_cons_of_pos (by simpa using hx), h1]
    · unfold restOf at *
      rw [List.cons_append, List.dropWhile_cons_of_pos (by simpa using hx), h2]
theorem tw_none (b : List UInt8) (hb : ∀ x ∈ b, x ≠ 46) : wholeOf b = b ∧ restOf b = [] ∧ hasPt b = false := by
  induction b with
  | nil => simp [wholeOf, restOf, hasPt]
  | cons x w ih =>
    have hx : x ≠ 46 := hb x (List.mem_cons_self)
    obtain ⟨h1, h2, h3⟩ := ih fun y hy => hb y (List.mem_cons_of_mem _ hy)
    refine ⟨?_, ?_, ?_⟩
    · unfold wholeOf at *
      rw [List.takeWhile_cons_of_pos (by simpa using hx), h1]
    · unfold restOf at *
      rw [List.dropWhile_cons_of_pos (by simpa using hx), h2]
    · unfold hasPt at *
      rw [List.any_cons, h3]; simpa using hx
theorem dg_ne {x : UInt8} (h : isDg x = true) : x ≠ 46 := by rintro rfl; revert h; decide
theorem all_ne {w : List UInt8} (h : w.all isDg = true) : ∀ x ∈ w, x ≠ 46 := fun x hx => dg_ne (List.all_eq_true.1 h x hx)
theorem tw_mem (w t : List UInt8) (c : UInt8) (hw : ∀ x ∈ w, x ≠ 46) (hc : c ≠ 46) : c ∈ wholeOf (w ++ c :: t) := by
  induction w with
  | nil => unfold wholeOf; rw [List.nil_append, List.takeWhile_cons_of_pos (by simpa using hc)]; exact List.mem_cons_self
  | cons x w ih =>
    have hx : x ≠ 46 := hw x (List.mem_cons_self)
    unfold wholeOf at *
    rw [List.cons_append, List.takeWhile_cons_of_pos (by simpa using hx)]
    exact List.mem_cons_of_mem _ (ih fun y hy => hw y (List.mem_cons_of_mem _ hy))
theorem all_false {l : List UInt8} {c : UInt8} (h : c ∈ l) (hc : isDg c = false) : l.all isDg = false := by
  rw [← Bool.not_eq_true, List.all_eq_true]; intro h2; rw [h2 c h] at hc; exact absurd hc (by decide)

/-- A byte that may not be, ahead of a point. -/
theorem parseB_bad1 (sg : Int) (w t : List UInt8) (c : UInt8) (hw : w.all isDg = true) (hc : c ≠ 46) (hd : isDg c = false) : parseB sg (w ++ c :: t) = (0, 0, 11) := by
  unfold parseB
  rw [if_pos (.inr (.inl (all_false (tw_mem w t c (all_ne hw) hc) hd)))]
/-- .. and behind it. -/
theorem parseB_bad2 (sg : Int) (w r t : List UInt8) (c : UInt8) (hw : w.all isDg = true) (hd : isDg c = false) : parseB sg (w ++ 46 :: (r ++ c :: t)) = (0, 0, 11) := by
  obtain ⟨h1, h2, h3⟩ := tw_app w (r ++ c :: t) (all_ne hw)
  unfold parseB
  rw [h2, if_pos (.inr (.inr (all_false (c := c) (by simp) hd)))]
theorem parseB_int (sg : Int) (b : List UInt8) (h : b.all isDg = true) : parseB sg b = if b.length = 0 then (0, 0, 11) else if 2147483647 < valD b then (0, 0, 5) else (2, sg * (valD b : Nat), 0) := by
  obtain ⟨h1, h2, h3⟩ := tw_none b (all_ne h)
  unfold parseB
  rw [h1, h2, h3]
  by_cases hb : b.length = 0
  · rw [if_pos (.inl (by simp [hb])), if_pos hb]
  · rw [if_neg (by rw [h]; simp; intro e; exact hb (by simp [e])), if_neg hb]; rfl
theorem parseB_real (sg : Int) (w r : List UInt8) (hw : w.all isDg = true) (hr : r.all isDg = true) :
    parseB sg (w ++ 46 :: r) = if w.length + r.length = 0 then (0, 0, 11) else if 2147483647 < valD w ∨ (valD w = 2147483647 ∧ 0 < mil r) then (0, 0, 5) else (3, sg * ((valD w * 1000000 + mil r : Nat) : Int), 0) := by
  obtain ⟨h1, h2, h3⟩ := tw_app w r (all_ne hw)
  have hm := mil_lt r hr
  unfold parseB
  rw [h1, h2, h3]
  by_cases hb : w.length + r.length = 0
  · rw [if_pos (.inl hb), if_pos hb]
  · rw [if_neg (by rw [hw, hr]; simp; intro e1 e2; exact hb (by simp [e1, e2])), if_neg hb, if_neg (by decide : ¬ (true = false))]
    by_cases h4 : 2147483647 < valD w
    · rw [if_pos h4, if_pos (.inl h4)]
    · rw [if_neg h4]
      by_cases h5 : valD w = 2147483647 ∧ 0 < mil r
      · rw [if_pos (by omega), if_pos (.inr h5)]
      · rw [if_neg (by omega), if_neg (by omega)]

/-- A number's digits. -/
def decL (n : Nat) : List UInt8 := if n < 10 then [UInt8.ofNat (48 + n)] else decL (n / 10) ++ [UInt8.ofNat (48 + n % 10)]
termination_by n
theorem decL_small {n : Nat} (h : n < 10) : decL n = [UInt8.ofNat (48 + n)] := by rw [decL, if_pos h]
theorem decL_big {n : Nat} (h : 10 ≤ n) : decL n = decL (n / 10) ++ [UInt8.ofNat (48 + n % 10)] := by rw [decL, if_neg (by omega)]
theorem dig_isDg {d : Nat} (h : d < 10) : isDg (UInt8.ofNat (48 + d)) = true := by
  rw [isDg_iff, UInt8.toNat_ofNat']; omega
theorem dig_dgV {d : Nat} (h : d < 10) : dgV (UInt8.ofNat (48 + d)) = d := by
  unfold dgV; rw [UInt8.toNat_ofNat']; omega
theorem decL_spec (n : Nat) : (decL n).all isDg = true ∧ valD (decL n) = n ∧ 1 ≤ (decL n).length := by
  induction n using Nat.strongRecOn with
  | ind n ih =>
    by_cases h : n < 10
    · rw [decL_small h]
      refine ⟨by rw [List.all_cons, dig_isDg h]; rfl, ?_, by simp⟩
      show valD ([] ++ [_]) = n
      rw [valD_snoc, valD_nil, dig_dgV h]; omega
    · obtain ⟨h1, h2, h3⟩ := ih (n / 10) (by omega)
      rw [decL_big (by omega)]
      refine ⟨all_snoc _ _ h1 (dig_isDg (by omega)), ?_, by simp⟩
      rw [valD_snoc, h2, dig_dgV (by omega)]; omega
theorem decL_len : ∀ (k n : Nat), n < 10 ^ (k + 1) → (decL n).length ≤ k + 1
  | 0, n, h => by rw [decL_small (by simpa using h)]; simp
  | k + 1, n, h => by
    by_cases h10 : n < 10
    · rw [decL_small h10]; simp
    · rw [decL_big (by omega), List.length_append, List.length_singleton]
      have := decL_len k (n / 10) (by rw [Nat.div_lt_iff_lt_mul (by omega)]; rwa [Nat.pow_succ] at h)
      omega
theorem decL_len_ge : ∀ (k n : Nat), 10 ^ k ≤ n → k + 1 ≤ (decL n).length
  | 0, n, _ => (decL_spec n).2.2
  | k + 1, n, h => by
    have hp : 1 ≤ 10 ^ k := Nat.pow_pos (by omega)
    rw [Nat.pow_succ] at h
    rw [decL_big (by omega), List.length_append, List.length_singleton]
    have := decL_len_ge k (n / 10) (by rw [Nat.le_div_iff_mul_le (by omega)]; exact h)
    omega

/-- A number's last k digits. -/
def fixD (n : Nat) : Nat → List UInt8
  | 0 => []
  | k + 1 => UInt8.ofNat (48 + n / 10 ^ k % 10) :: fixD n k
theorem fixD_len (n : Nat) : ∀ k, (fixD n k).length = k
  | 0 => rfl
  | k + 1 => by simp [fixD, fixD_len n k]
theorem fixD_snoc (n : Nat) : ∀ k, fixD n (k + 1) = fixD (n / 10) k ++ [UInt8.ofNat (48 + n % 10)]
  | 0 => by simp [fixD]
  | k + 1 => by
    rw [fixD, fixD_snoc n k]
    show _ = (UInt8.ofNat (48 + n / 10 / 10 ^ k % 10) :: fixD (n / 10) k) ++ _
    rw [Nat.div_div_eq_div_mul, Nat.pow_succ, Nat.mul_comm 10, List.cons_append]
theorem fixD_zero : ∀ k, fixD 0 k = List.replicate k 48
  | 0 => rfl
  | k + 1 => by rw [fixD, fixD_zero k, List.replicate_succ, Nat.zero_div]; rfl
/-- Digits, so many at least. -/
def padL (n d : Nat) : List UInt8 := List.replicate (d - (decL n).length) 48 ++ decL n
theorem fixD_pad : ∀ (k n : Nat), n < 10 ^ (k + 1) → fixD n (k + 1) = padL n (k + 1)
  | 0, n, h => by
    have h10 : n < 10 := by simpa using h
    unfold padL
    rw [decL_small h10, fixD_snoc]
    simp [fixD, Nat.mod_eq_of_lt h10]
  | k + 1, n, h => by
    rw [fixD_snoc]
    by_cases h10 : n < 10
    · unfold padL
      rw [decL_small h10, show n / 10 = 0 from by omega, fixD_zero, Nat.mod_eq_of_lt h10]; rfl
    · rw [fixD_pad k (n / 10) (by rw [Nat.div_lt_iff_lt_mul (by omega)]; rwa [Nat.pow_succ] at h)]
      unfold padL
      rw [decL_big (n := n) (by omega), List.length_append, List.length_singleton, show k + 1 + 1 - ((decL (n / 10)).length + 1) = k + 1 - (decL (n / 10)).length from by omega, List.append_assoc]
theorem padL_of_ge {n d : Nat} (h : d ≤ (decL n).length) : padL n d = decL n := by
  unfold padL; rw [show d - (decL n).length = 0 from by omega]; rfl
/-- Where the reference's loop ends. -/
theorem fixD_end (n least k : Nat) (hl : 1 ≤ least) (hk : least ≤ k) (h0 : n / 10 ^ k = 0) (h1 : least < k → n / 10 ^ (k - 1) ≠ 0) : fixD n k = padL n least := by
  have hn : n < 10 ^ k := by
    rcases Nat.lt_or_ge n (10 ^ k) with h | h
    · exact h
    · have := (Nat.le_div_iff_mul_le (Nat.pow_pos (by omega : 0 < 10))).2 (by rwa [Nat.one_mul] : 1 * 10 ^ k ≤ n)
      omega
  obtain ⟨j, rfl⟩ : ∃ j, k = j + 1 := ⟨k - 1, by omega⟩
  rw [fixD_pad j n hn]
  by_cases he : least = j + 1
  · rw [he]
  · have h2 : 10 ^ j ≤ n := by
      have := h1 (by omega)
      rw [show j + 1 - 1 = j from rfl] at this
      rcases Nat.lt_or_ge n (10 ^ j) with h | h
      · exact absurd (Nat.div_eq_of_lt h) this
      · exact h
    have h3 := decL_len_ge j n h2
    rw [padL_of_ge h3, padL_of_ge (by omega)]

/-- Digits with zeros ahead, and an error. -/
def padV (n digits : Int) : List UInt8 × Int :=
  if n < 0 ∨ digits < 1 ∨ 20 < digits ∨ digits < ((decL n.toNat).length : Int) then ([], 2) else (padL n.toNat digits.toNat, 0)

/-- May a number be? -/
def checkV (k n : Int) (bare : Bool) : Int :=
  if bare = true ∧ ((k = 2 ∧ -2147483647 ≤ n ∧ n ≤ 2147483647) ∨ (k = 3 ∧ -2147483647000000 ≤ n ∧ n ≤ 2147483647000000)) then 0 else 2

/-- Zeros behind the first digit struck off. -/
def trimR (l : List UInt8) : List UInt8 := (l.reverse.dropWhile (· == 48)).reverse
def trimF (f : List UInt8) : List UInt8 := f.take 1 ++ trimR (f.drop 1)
def absL (k : Int) (n : Nat) : List UInt8 := if k = 2 then decL n else decL (n / 1000000) ++ 46 :: trimF (padL (n % 1000000) 6)
def signL (n : Int) : List UInt8 := if n < 0 then [45] else []
def printV (k n : Int) (bare : Bool) : List UInt8 × Int := if checkV k n bare = 0 then (signL n ++ absL k n.natAbs, 0) else ([], 2)

theorem trimR_snoc (l : List UInt8) : trimR (l ++ [48]) = trimR l := by unfold trimR; simp
theorem trimR_stop (l : List UInt8) (c : UInt8) (h : c ≠ 48) : trimR (l ++ [c]) = l ++ [c] := by
  unfold trimR
  rw [List.reverse_append, List.reverse_singleton, List.singleton_append, List.dropWhile_cons_of_neg (by simpa using h)]
  simp
theorem trimR_zeros (l : List UInt8) : ∃ j, l = trimR l ++ List.replicate j 48 := by
  refine snoc_ind (p := fun l => ∃ j, l = trimR l ++ List.replicate j 48) ⟨0, by simp [trimR]⟩ (fun l c ih => ?_) l
  · by_cases h : c = 48
    · subst h
      obtain ⟨j, hj⟩ := ih
      refine ⟨j + 1, ?_⟩
      rw [trimR_snoc, List.replicate_succ', ← List.append_assoc, ← hj]
    · exact ⟨0, by rw [trimR_stop l c h]; simp⟩
theorem padL_len {n d : Nat} (h : (decL n).length ≤ d) : (padL n d).length = d := by unfold padL; simp; omega
theorem padL_all (n d : Nat) : (padL n d).all isDg = true := by
  unfold padL
  rw [List.all_append, (decL_spec n).1, Bool.and_true, List.all_eq_true]
  intro x hx; rw [List.mem_replicate] at hx; rw [hx.2]; rfl
theorem valD_zl (j : Nat) (l : List UInt8) : valD (List.replicate j 48 ++ l) = valD l := by
  have := valD_zeros [] j
  simp only [List.nil_append, valD_nil, Nat.zero_mul] at this
  unfold valD at *
  rw [decV_append, this]
theorem valD_pad (n d : Nat) : valD (padL n d) = n := by unfold padL; rw [valD_zl, (decL_spec n).2.1]
theorem mil_trimF (m : Nat) (h : m < 1000000) : mil (trimF (padL m 6)) = m ∧ (trimF (padL m 6)).all isDg = true ∧ 1 ≤ (trimF (padL m 6)).length ∧ (trimF (padL m 6)).length ≤ 6 := by
  have hl : (padL m 6).length = 6 := padL_len (by have := decL_len 5 m (by omega); omega)
  have ha := padL_all m 6
  have hv := valD_pad m 6
  generalize padL m 6 = f at *
  obtain ⟨j, hj⟩ := trimR_zeros (f.drop 1)
  have hf : f = trimF f ++ List.replicate j 48 := by
    unfold trimF; rw [List.append_assoc, ← hj, List.take_append_drop]
  have hlen : (trimF f).length + j = 6 := by have := congrArg List.length hf; simpa [hl] using this.symm
  have hal : (trimF f).all isDg = true := by
    rw [hf, List.all_append, Bool.and_eq_true] at ha; exact ha.1
  refine ⟨?_, hal, ?_, by omega⟩
  · rw [mil_short (by omega), show 6 - (trimF f).length = j from by omega, ← valD_zeros, ← hf, hv]
  · unfold trimF; rw [List.length_append, List.length_take]; omega

theorem checkV_cases {k n : Int} {b : Bool} (h : checkV k n b = 0) : b = true ∧ ((k = 2 ∧ -2147483647 ≤ n ∧ n ≤ 2147483647) ∨ (k = 3 ∧ -2147483647000000 ≤ n ∧ n ≤ 2147483647000000)) := by
  unfold checkV at h
  split at h
  · assumption
  · omega
theorem checkV_two {k n : Int} {b : Bool} (h : checkV k n b ≠ 0) : checkV k n b = 2 := by
  unfold checkV at *
  split <;> simp_all

theorem head_dg {l t : List UInt8} (h : l.all isDg = true) (hl : 1 ≤ l.length) : (l ++ t).head? ≠ some 45 ∧ (l ++ t).head? ≠ some 43 := by
  cases l with
  | nil => simp at hl
  | cons x l =>
    have hx : isDg x = true := List.all_eq_true.1 h x List.mem_cons_self
    constructor <;> (intro e; simp at e; subst e; revert hx; decide)
theorem absL_parts (k : Int) (n : Nat) : ∃ l t, absL k n = l ++ t ∧ l.all isDg = true ∧ 1 ≤ l.length := by
  unfold absL
  split
  · exact ⟨decL n, [], by simp, (decL_spec n).1, (decL_spec n).2.2⟩
  · exact ⟨_, _, rfl, (decL_spec _).1, (decL_spec _).2.2⟩
theorem signB (k n : Int) (m : Nat) : signOf (signL n ++ absL k m) = (if n < 0 then -1 else 1) ∧ bodyOf (signL n ++ absL k m) = absL k m := by
  obtain ⟨l, t, he, h1, h2⟩ := absL_parts k m
  unfold signL
  by_cases hn : n < 0
  · rw [if_pos hn, if_pos hn]
    exact ⟨by simp [signOf], by simp [bodyOf]⟩
  · rw [if_neg hn, if_neg hn, List.nil_append, he]
    obtain ⟨a, b⟩ := head_dg (t := t) h1 h2
    exact ⟨by unfold signOf; rw [if_neg a], by unfold bodyOf; rw [if_neg (by rintro (h | h) <;> contradiction)]⟩

/-- What is printed is read. -/
theorem parse_print (k n : Int) (b : Bool) (h : checkV k n b = 0) : parseV (printV k n b).1 = (k, n, 0) := by
  unfold printV
  rw [if_pos h]
  obtain ⟨-, hc⟩ := checkV_cases h
  obtain ⟨s1, s2⟩ := signB k n n.natAbs
  show parseV (signL n ++ absL k n.natAbs) = _
  unfold parseV
  rw [s1, s2]
  obtain ⟨m, hm⟩ : ∃ m, m = n.natAbs := ⟨_, rfl⟩
  rw [← hm]
  have hsg : ∀ x : Nat, x = m → (if n < 0 then (-1 : Int) else 1) * (x : Int) = n := by
    rintro x rfl
    split <;> omega
  rcases hc with ⟨rfl, h1, h2⟩ | ⟨rfl, h1, h2⟩
  · unfold absL
    rw [if_pos rfl, parseB_int _ _ (decL_spec m).1, if_neg (by have := (decL_spec m).2.2; omega), (decL_spec m).2.1, if_neg (by omega), hsg m rfl]
  · unfold absL
    obtain ⟨t1, t2, t3, t4⟩ := mil_trimF (m % 1000000) (by omega)
    rw [if_neg (by decide : ¬ (3 : Int) = 2), parseB_real _ _ _ (decL_spec _).1 t2, if_neg (by omega), (decL_spec _).2.1, t1, if_neg (by omega), hsg _ (by omega)]

/-- What is read may be printed. -/
theorem parseV_check (s : List UInt8) (h : (parseV s).2.2 = 0) : checkV (parseV s).1 (parseV s).2.1 true = 0 := by
  unfold parseV parseB at *
  have hsg : signOf s = 1 ∨ signOf s = -1 := by unfold signOf; split <;> simp
  generalize signOf s = sg at *
  generalize wholeOf (bodyOf s) = w at *
  generalize restOf (bodyOf s) = r at *
  generalize hasPt (bodyOf s) = p at *
  split at h
  · simp at h
  · rename_i c1
    rw [if_neg c1]
    split at h
    · simp at h
    · rename_i c2
      rw [if_neg c2]
      split at h
      · rename_i c3
        rw [if_pos c3]
        unfold checkV
        rw [if_pos]
        refine ⟨rfl, .inl ⟨rfl, ?_⟩⟩
        simp only
        rcases hsg with rfl | rfl <;> omega
      · rename_i c3
        rw [if_neg c3]
        split at h
        · simp at h
        · rename_i c4
          rw [if_neg c4]
          unfold checkV
          rw [if_pos]
          refine ⟨rfl, .inr ⟨rfl, ?_⟩⟩
          simp only
          rcases hsg with rfl | rfl <;> omega
theorem parseV_err (s : List UInt8) (h : (parseV s).2.2 ≠ 0) : (parseV s).1 = 0 ∧ (parseV s).2.1 = 0 := by
  unfold parseV parseB at *
  split at h
  · rename_i c; rw [if_pos c]; exact ⟨rfl, rfl⟩
  · rename_i c1
    rw [if_neg c1]
    split at h
    · rename_i c; rw [if_pos c]; exact ⟨rfl, rfl⟩
    · rename_i c2
      rw [if_neg c2]
      split at h
      · simp at h
      · rename_i c3
        rw [if_neg c3]
        split at h
        · rename_i c; rw [if_pos c]; exact ⟨rfl, rfl⟩
        · simp at h
/-- Digits with zeros ahead come back. -/
theorem digits_pad (n digits : Int) (h : (padV n digits).2 = 0) : 0 ≤ n ∧ ((padV n digits).1.length : Int) = digits ∧ digitsV (padV n digits).1 = if 2147483647 < n then (0, 5) else (n, 0) := by
  unfold padV at *
  split at h
  · simp at h
  · rename_i c
    rw [if_neg c]
    have h1 : 0 ≤ n := by omega
    have hl : (padL n.toNat digits.toNat).length = digits.toNat := padL_len (by omega)
    have hv := valD_pad n.toNat digits.toNat
    have ha := padL_all n.toNat digits.toNat
    have hne : padL n.toNat digits.toNat ≠ [] := by intro e; rw [e] at hl; simp at hl; omega
    refine ⟨h1, by simp only [hl]; omega, ?_⟩
    show digitsV (padL n.toNat digits.toNat) = _
    by_cases h2 : 2147483647 < n
    · rw [if_pos h2, digitsV_over hne ha (by omega)]
    · rw [if_neg h2, digitsV_ok hne ha (by omega), hv]
      congr 1
      omega
end Go.Proofs.YtnkodejgiabamaaDoor
/-
  Walks of layer 9: digits' number; are all digits; may a number be.
-/
namespace Go.Proofs.YtnkodejgiabamaaDoor
open Go.RowKit

def digitI (r : Int) : Int := if r < 48 ∨ 57 < r then -1 else r - 48

/-- A string's bytes. -/
abbrev bl (s : ByteArray) : List UInt8 := s.data.toList
theorem bl_len (s : ByteArray) : (bl s).length = s.size := Array.length_toList
theorem bl_get (s : ByteArray) (k : Nat) (h : k < s.size) : (bl s)[k]'(by rw [bl_len]; exact h) = s[k] := rfl
theorem bl_take (s : ByteArray) (k : Nat) (h : k < s.size) : (bl s).take (k + 1) = (bl s).take k ++ [s[k]] := by
  rw [List.take_succ_eq_append_getElem (by rw [bl_len]; exact h)]; rfl
theorem bl_drop (s : ByteArray) (k : Nat) (h : k < s.size) : (bl s).drop k = s[k] :: (bl s).drop (k + 1) := by
  rw [List.drop_eq_getElem_cons (by rw [bl_len]; exact h)]; rfl
theorem bl_mem (s : ByteArray) (k : Nat) (h : k < s.size) : s[k] ∈ bl s := by rw [← bl_get s k h]; exact List.getElem_mem _
theorem toL (s : ByteArray) : s.toList = bl s := ByteArray.toList_eq s

theorem dec_yes (s : ByteArray) (k : Nat) (h : k < s.size) (hd : isDg s[k] = true) : Utf8.decode s k = (s[k].toNat, 1) := by
  rw [isDg_iff] at hd; exact decode_ascii s k h (by omega)
theorem dec_no (s : ByteArray) (k : Nat) (h : k < s.size) (hd : isDg s[k] = false) : digitI (Utf8.decode s k).1 = -1 := by
  rw [isDg_no] at hd
  unfold digitI
  by_cases h2 : s[k].toNat < 128
  · rw [decode_ascii s k h h2, if_pos]
    simp only; omega
  · have := (decode_high s k h (by omega)).1
    rw [if_pos]; omega

theorem iterPos_of (w : World) (s : ByteArray) (k : Nat) : (w.iter s k).iterPos w.heap.size = k := World.iterPos_iter w s k
theorem below_iter (w : World) (s : ByteArray) (k : Nat) : Below w.heap.size w (w.iter s k) := belowA w _

def DigEnd (V : Int × Int) (w : World) (e : Ending) (w' : World) : Prop := e = .returned (.tuple #[.int .i64 V.1, .int .i64 V.2]) ∧ Below w.heap.size w w'

end Go.Proofs.YtnkodejgiabamaaDoor
