/-
  Our texts Base to Num2, in one.
-/
import Derived.Test.YtmejhjgdofncfaaPkP3
import Derived.WalkKit
import Derived.WalkSpells
import Derived.WalkLawsBesides
import Derived.Lib.Hide
import Derived.Test.YtmejhjgdofncfaaProg
import Derived.BigQuiet
import Derived.Deep.QuietTactic
import Derived.Laws.RangeAny
import Derived.IntWalk
import Derived.Lib.Bytealg
/-
  General lemmas on slices in memory that name no program: what a slice value reads as ('Row'), how that is kept by a call that leaves old memory alone ('Below'), and how it stands to the kit's 'ownsRow'.
-/
namespace Go.Proofs.Ytmejhjgdofncfaa
open Go.RowKit

/-- A slice (its address, length, capacity) that reads as the cells xs: n elements of sz cells each. -/
def Row (w : World) (sz : Nat) (a : Option Addr) (n cap : Nat) (xs : List Value) : Prop :=
  xs.length = n * sz ∧ n ≤ cap ∧ cap ≤ maxLen ∧ (a = none → cap = 0) ∧
    (0 < n → ∃ b off, a = some ⟨b, off, none⟩ ∧ b < w.heap.size ∧ ∀ j u, xs[j]? = some u → w.cell? ⟨b, off + j, none⟩ = some u)

theorem cell?_keep {w w' : World} (hb : Below w.heap.size w w') {a : Addr} {v : Value} (h : w.cell? a = some v) : w'.cell? a = some v :=
  (hb.cell (World.block_lt_of_cell? w a h)).trans h

theorem Row.mono {w w' : World} {sz : Nat} {a : Option Addr} {n cap : Nat} {xs : List Value} (h : Row w sz a n cap xs) (hb : Below w.heap.size w w') : Row w' sz a n cap xs := by
  obtain ⟨h1, h2, h3, h4, h5⟩ := h
  refine ⟨h1, h2, h3, h4, fun hn => ?_⟩
  obtain ⟨b, off, ha, hlt, hc⟩ := h5 hn
  exact ⟨b, off, ha, Nat.lt_of_lt_of_le hlt hb.size, fun j u hj => cell?_keep hb (hc j u hj)⟩

theorem Row.i64 {w : World} {sz : Nat} {a : Option Addr} {n cap : Nat} {xs : List Value} (h : Row w sz a n cap xs) : (n : Int) ≤ 9223372036854775807 := by
  have := h.2.1; have := h.2.2.1; unfold maxLen at this; omega
theorem Row.i64c {w : World} {sz : Nat} {a : Option Addr} {n cap : Nat} {xs : List Value} (h : Row w sz a n cap xs) : (cap : Int) ≤ 9223372036854775807 := by
  have := h.2.2.1; unfold maxLen at this; omega

/-- Its elements, where each takes one cell. -/
theorem Row.at {α : Type} {enc : α → Value} (d : α) {w : World} {a : Option Addr} {n cap : Nat} {l : List α} (h : Row w 1 a n cap (l.map enc)) (k : Nat) (hk : k < n) :
    ∃ b off, a = some ⟨b, off, none⟩ ∧ b < w.heap.size ∧ ∀ k, k < n → w.cell? ⟨b, off + k, none⟩ = some (enc (l.getD k d)) := by
  obtain ⟨h1, h2, h3, h4, h5⟩ := h
  obtain ⟨b, off, rfl, hb, hc⟩ := h5 (by omega)
  refine ⟨b, off, rfl, hb, fun k hk => hc k _ ?_⟩
  simp at h1 ⊢
  have : k < l.length := by omega
  simp [this]

theorem Row.len1 {α : Type} {enc : α → Value} {w : World} {a : Option Addr} {n cap : Nat} {l : List α} (h : Row w 1 a n cap (l.map enc)) : l.length = n := by
  have := h.1; simpa using this

theorem Row.nil (w : World) (sz : Nat) : Row w sz none 0 0 [] := ⟨by simp, Nat.le_refl _, by simp [maxLen], fun _ => rfl, fun h => by omega⟩

/-- What the call owns reads as a row. -/
theorem Row.of_owns {w : World} {base e sz : Nat} {v : Value} {n : Nat} {xs : List Value} (h : w.ownsRow base e sz v n xs) :
    ∃ a cap, v = .slice a n cap ∧ Row w sz a n cap xs ∧ ∀ x, a = some x → base ≤ x.block := by
  obtain ⟨h1, h2⟩ := h
  rcases h2 with ⟨rfl, rfl⟩ | ⟨g, cap, cur, rfl, hb, hg, hn, hm, hs, ht⟩
  · have : xs = [] := List.eq_nil_of_length_eq_zero (by simpa using h1)
    subst this
    exact ⟨none, 0, rfl, Row.nil w sz, fun x hx => by cases hx⟩
  · refine ⟨some ⟨g, 0, none⟩, cap, rfl, ⟨h1, hn, hm, fun h => (by cases h), fun _ => ⟨g, 0, rfl, (Array.getElem?_eq_some_iff.1 hg).1, fun j u hj => ?_⟩⟩, fun x hx => by cases hx; exact hb⟩
    rw [Nat.zero_add, cell_of_row w g j cur e (0, 0) hg]
    rw [← ht, List.getElem?_take] at hj
    split at hj
    · simpa using hj
    · cases hj

theorem Row.of_own {w : World} {base e sz : Nat} {a : Option Addr} {n m cap : Nat} {xs : List Value} (h : w.ownsRow base e sz (.slice a n cap) m xs) : n = m ∧ Row w sz a n cap xs := by
  obtain ⟨a', cap', hv, hr, _⟩ := Row.of_owns h
  simp only [Value.slice.injEq] at hv
  obtain ⟨rfl, rfl, rfl⟩ := hv
  exact ⟨rfl, hr⟩

theorem ownsRow_keep {w w' : World} {base e sz : Nat} {v : Value} {n : Nat} {xs : List Value} (h : w.ownsRow base e sz v n xs) (hb : Below w.heap.size w w') : w'.ownsRow base e sz v n xs := by
  obtain ⟨h1, h2⟩ := h
  refine ⟨h1, ?_⟩
  rcases h2 with h2 | ⟨g, cap, cur, hv, hg, hh, r⟩
  · exact .inl h2
  · exact .inr ⟨g, cap, cur, hv, hg, by rw [hb.block g (Array.getElem?_eq_some_iff.1 hh).1]; exact hh, r⟩

theorem ownsRow_base {w : World} {base base' e sz : Nat} {v : Value} {n : Nat} {xs : List Value} (h : w.ownsRow base e sz v n xs) (hb : base' ≤ base) : w.ownsRow base' e sz v n xs := by
  obtain ⟨h1, h2⟩ := h
  refine ⟨h1, ?_⟩
  rcases h2 with h2 | ⟨g, cap, cur, hv, hg, r⟩
  · exact .inl h2
  · exact .inr ⟨g, cap, cur, hv, by omega, r⟩

theorem block_keep {w w' : World} (hb : Below w.heap.size w w') {b : Nat} {o : Obj} (h : w.heap[b]? = some o) : w'.heap[b]? = some o := by
  rw [hb.block b (Array.getElem?_eq_some_iff.1 h).1]; exact h

/-- The element type's facts of a slice type, in one. -/
structure ElemT (P : Program) (t e : TypeId) (z : Value) (size bytes : Nat) : Prop where
  und : P.underlying t = some (.slice e)
  info : (P.info? e).map (fun i => (i.zero, i.size, i.bytes)) = some (some z, size, bytes)
  cells : z.cells.size = size
  pos : 0 < size

theorem ret_int {k : IntKind} {a b : Int} (h : a = b) : Ending.returned (.int k a) = .returned (.int k b) := by rw [h]
theorem ret_bool {a b : Bool} (h : a = b) : Ending.returned (.bool a) = .returned (.bool b) := by rw [h]

/-- 'make([]T, n)'. -/
theorem make_full {P : Program} {w : World} {ops : Array Oper} {rest : List Oper} {o : Oper} {a : Act} {Q : Exit → Act → World → Prop} {t e : TypeId} {z : Value} {size bytes : Nat} (T : ElemT P t e z size bytes)
    (hg : o.guard = none) (l c : Operand) (hop : o.op = Op.makeSlice t l c)
    (kl kc : IntKind) (L C : Int) (n : Nat) (hl : a.eval l = .int kl L) (hc : a.eval c = .int kc C) (hL : L = (n : Int)) (hC : C = (n : Int)) (b2 : bytes * n ≤ 281474976710656) (b3 : n ≤ maxLen)
    (hK : ∀ w', w'.ownsRow w.heap.size e size (.slice (some ⟨w.heap.size, 0, none⟩) n n) n (madeCells z.cells (n * size)).toList → Below w.heap.size w w' → wpList P ops Q rest (a.put o.dst (.slice (some ⟨w.heap.size, 0, none⟩) n n)) w') :
    wpList P ops Q (o :: rest) a w := by
  obtain ⟨i, hi, hz, hs, hb⟩ := info_parts T.info
  subst hb
  exact wpList_make_full w hg l c t hop w.heap.size e i z size T.und hi hz hs kl kc L C n hl hc hL hC b2 b3 (Nat.le_refl _)
    fun w' h1 h2 => hK w' h1 ((Below.refl _ _).grown h2 (Nat.le_refl _) (fun k hk => by cases hk))


/-- n cells, the i-th as enc says. -/
def fl (n : Nat) (enc : Nat → Value) : List Value := (List.range n).map enc
theorem fl_length (n : Nat) (enc : Nat → Value) : (fl n enc).length = n := by simp [fl]
theorem fl_get {n : Nat} (enc : Nat → Value) {i : Nat} (h : i < n) : (fl n enc)[i]? = some (enc i) := by simp [fl, h]
theorem fl_set (n : Nat) (enc : Nat → Value) (i : Nat) (v : Value) : (fl n enc).set i v = fl n (fun j => if j = i then v else enc j) := by
  apply List.ext_getElem?
  intro j
  simp only [fl, List.getElem?_set, List.getElem?_map, List.length_map, List.length_range]
  by_cases hj : j < n
  · by_cases hi : i = j
    · subst hi; simp [hj]
    · simp [hi, hj, Ne.symm hi]
  · by_cases hi : i = j
    · subst hi; simp [hj]
    · simp [hi, hj]
theorem fl_congr {n : Nat} {f g : Nat → Value} (h : ∀ i, i < n → f i = g i) : fl n f = fl n g := by
  apply List.map_congr_left
  intro i hi
  exact h i (by simpa using hi)
theorem fl_replicate (n : Nat) (v : Value) : List.replicate n v = fl n (fun _ => v) := by
  apply List.ext_getElem?
  intro j
  by_cases hj : j < n <;> simp [fl, hj]
theorem map_fl {α : Type} (d : α) (l : List α) (enc : α → Value) : l.map enc = fl l.length (fun i => enc (l.getD i d)) := by
  apply List.ext_getElem?
  intro j
  by_cases hj : j < l.length <;> simp [fl, hj]

theorem heapA_new {w : World} {b : Nat} (o : Obj) (h : b = w.heap.size) : (w.alloc o).heap[b]? = some o := by subst h; exact heap_alloc_new w o
theorem heapA_old {w : World} {b : Nat} (o : Obj) {o' : Obj} (h : w.heap[b]? = some o') : (w.alloc o).heap[b]? = some o' := by
  rw [Below.heap_alloc w o b (Array.getElem?_eq_some_iff.1 h).1]; exact h
theorem sizeA (w : World) (o : Obj) : (w.alloc o).heap.size = w.heap.size + 1 := by
  show (w.heap.push o).size = _
  simp
theorem belowA (w : World) (o : Obj) : Below w.heap.size w (w.alloc o) := (Below.refl _ _).alloc (Nat.le_refl _) o
theorem belowA2 (w : World) (o o2 : Obj) : Below w.heap.size w ((w.alloc o).alloc o2) := (belowA w o).alloc (by rw [sizeA]; omega) o2
theorem belowA3 (w : World) (o o2 o3 : Obj) : Below w.heap.size w (((w.alloc o).alloc o2).alloc o3) := (belowA2 w o o2).alloc (by rw [sizeA, sizeA]; omega) o3
theorem below_setRow {B : Nat} {w0 w : World} (h : Below B w0 w) {g : Nat} (hg : B ≤ g) (cs : Array Value) : Below B w0 (w.setRow g cs) :=
  h.trans ⟨rfl, rfl, rfl, by simp, fun j hj => setRow_other _ _ _ _ (by omega)⟩

/-- A block whose cells are known: one is read, one is written, the rest stands. -/
theorem blk_cell {w : World} {b n : Nat} {enc : Nat → Value} {t : TypeId} {fr : Nat × Nat} (h : w.heap[b]? = some (.cells (fl n enc).toArray t fr)) (i : Nat) (hi : i < n) : w.cell? ⟨b, i, none⟩ = some (enc i) := by
  rw [cell_of_row w b i _ t fr h]; simp [fl, hi]
theorem blk_free {w : World} {b : Nat} {cs : Array Value} {t : TypeId} (h : w.heap[b]? = some (.cells cs t (0, 0))) (i : Nat) : w.frozen? ⟨b, i, none⟩ = false := frozen_of_row w b i cs t h
theorem blk_set {w : World} {b n : Nat} {enc : Nat → Value} {t : TypeId} (h : w.heap[b]? = some (.cells (fl n enc).toArray t (0, 0))) (i : Nat) (v : Value) :
    (w.setCell ⟨b, i, none⟩ v).heap[b]? = some (.cells (fl n (fun j => if j = i then v else enc j)).toArray t (0, 0)) := by
  rw [heap_setCell_same w b i _ t v h, List.setIfInBounds_toArray, fl_set]
theorem blk_other {w : World} {b : Nat} {o : Obj} (h : w.heap[b]? = some o) {a : Addr} (ha : a.block ≠ b) (v : Value) : (w.setCell a v).heap[b]? = some o := by
  rw [heap_setCell_other w a b v (Ne.symm ha)]; exact h

/-- 'x := f()' where x's variable has just been laid and f's array or struct goes in whole. -/
theorem store_fresh {P : Program} {ops : Array Oper} {rest : List Oper} {o : Oper} {a : Act} {w0 : World} {Q : Exit → Act → World → Prop} (hgd : o.guard = none) (ty : TypeId) (x y : Operand) (ho : o.op = .store ty x y)
    (z : Array Value) (t : TypeId) (cells : Array Value) (hx : a.eval x = .pointer (some ⟨w0.heap.size, 0, none⟩)) (hy : a.eval y = .agg cells)
    (hi : (P.info? ty).map (·.size) = some cells.size) (hold : z.size = cells.size) (h1 : cells.all (·.oneCell') = true)
    (h : ∀ w', w'.heap[w0.heap.size]? = some (.cells cells t (0, 0)) → Below w0.heap.size w0 w' → w'.heap.size = w0.heap.size + 1 → wpList P ops Q rest (a.put o.dst undef) w') : wpList P ops Q (o :: rest) a (w0.alloc (.cells z t)) :=
  wpList_store_row hgd ty x y ho w0.heap.size cells hx hy t z (heapA_new _ rfl) hi hold h1
    (h _ (setRow_heap _ _ _ _ _ _ (heapA_new _ rfl)) (below_setRow (belowA w0 _) (Nat.le_refl _) _) (by rw [size_setRow, sizeA]))

theorem oneCell_mem {enc : Nat → Value} (h : ∀ i, (enc i).oneCell' = true) (n : Nat) : ∀ u ∈ fl n enc, u.oneCell' = true := by
  intro u hu
  simp [fl] at hu
  obtain ⟨i, _, rfl⟩ := hu
  exact h i

/-- 'append(v, x...)', v the call's own, x whatever slice that reads as a row: it may grow. -/
theorem append_row {P : Program} {w : World} {ops : Array Oper} {rest : List Oper} {o : Oper} {a : Act} {Q : Exit → Act → World → Prop} {t e : TypeId} {z : Value} {size bytes : Nat} (T : ElemT P t e z size bytes)
    (hgd : o.guard = none) (s x : Operand) (ho : o.op = .call { callee := .builtin .append, args := #[s, x], argTypes := #[t, t] })
    (base : Nat) (v : Value) (n : Nat) (xs : List Value) (hs : a.eval s = v) (hown : w.ownsRow base e size v n xs)
    (ao : Option Addr) (m c : Nat) (news : List Value) (hx : a.eval x = .slice ao m c) (hr : Row w size ao m c news) (h1 : ∀ u ∈ news, u.oneCell' = true)
    (h63 : n + m ≤ maxLen) (hbytes : (n + m) * bytes ≤ 140737488355328) (hbase : base ≤ w.heap.size)
    (h : ∀ v' w', w'.ownsRow base e size v' (n + m) (xs ++ news) → w.grownBy w' v.ownBlock → (v' = .slice none 0 0 ↔ v = .slice none 0 0 ∧ m = 0) → wpList P ops Q rest (a.put o.dst v') w') : wpList P ops Q (o :: rest) a w := by
  obtain ⟨i, hi, hz, hs', hb⟩ := info_parts T.info
  subst hb
  obtain ⟨r1, r2, r3, r4, r5⟩ := hr
  cases ao with
  | some ad =>
    refine wpList_append_own w hgd s x t ho base e i z size i.bytes T.und hi hz hs' rfl T.cells T.pos v n xs hs hown ad m c news hx r1 (fun j u hj => ?_) h1 h63 hbytes hbase h
    by_cases hm : 0 < m
    · obtain ⟨b, off, hab, _, hc⟩ := r5 hm
      obtain rfl := Option.some.inj hab
      rw [Addr.add_lit]; exact hc j u hj
    · obtain rfl : m = 0 := by omega
      have : news = [] := List.eq_nil_of_length_eq_zero (by simpa using r1)
      subst this; simp at hj
  | none =>
    obtain rfl := r4 rfl
    obtain rfl : m = 0 := by omega
    have : news = [] := List.eq_nil_of_length_eq_zero (by simpa using r1)
    subst this
    refine wpList_plain hgd fun K hK => ?_
    have hrun := run_append_owned_none (P := P) w base t o.type e i size T.und hi v n xs hown
    unfold Oper.wp
    simp [execOp, ho, resolve, invoke, builtin, hs, hx, hrun, Result.andThen]
    exact hK _ _ (h v w (by simpa using hown) ⟨rfl, rfl, rfl, Nat.le_refl _, fun _ _ _ => rfl⟩ (by simp))

/-- Where the one is not nil the other is not. -/
def NN (a : Option Addr) (v : Value) : Prop := a ≠ none → v ≠ .slice none 0 0
theorem below_grown {B : Nat} {w0 w w' : World} {row : Option Nat} (h : Below B w0 w) (hg : w.grownBy w' row) (hB : B ≤ w.heap.size) (hr : ∀ k, row = some k → B ≤ k) : Below B w0 w' := h.grown hg hB hr

/-- The one element that 'append(v, x)' lays first. -/
theorem row_new1 (w : World) (x : Value) (e : TypeId) : Row (w.alloc (.cells #[x] e)) 1 (some ⟨w.heap.size, 0, none⟩) 1 1 [x] :=
  ⟨rfl, Nat.le_refl _, by simp [maxLen], fun h => (by cases h), fun _ => ⟨w.heap.size, 0, rfl, by rw [sizeA]; omega, fun j u hj => by
    rw [cell_of_row _ _ _ _ _ _ (heapA_new _ rfl)]
    rcases j with _ | j
    · simpa using hj
    · simp at hj⟩⟩
theorem one_mem {x : Value} (h : x.oneCell' = true) : ∀ u ∈ [x], u.oneCell' = true := by
  intro u hu; simp at hu; subst hu; exact h
theorem below_cell {B : Nat} {w w' : World} (h : Below B w w') {b o : Nat} {v : Value} (hb : b < B) (hc : w.cell? ⟨b, o, none⟩ = some v) : w'.cell? ⟨b, o, none⟩ = some v := (h.cell (p := ⟨b, o, none⟩) hb).trans hc
theorem Row.below {B : Nat} {w w' : World} {sz : Nat} {a : Option Addr} {n cap : Nat} {xs : List Value} (h : Row w sz a n cap xs) (hb : Below B w w') (ha : ∀ x, a = some x → x.block < B) : Row w' sz a n cap xs := by
  obtain ⟨h1, h2, h3, h4, h5⟩ := h
  refine ⟨h1, h2, h3, h4, fun hn => ?_⟩
  obtain ⟨b, off, ha', hlt, hc⟩ := h5 hn
  exact ⟨b, off, ha', Nat.lt_of_lt_of_le hlt hb.size, fun j u hj => below_cell hb (ha _ ha') (hc j u hj)⟩
theorem Row.lt {w : World} {sz : Nat} {a : Option Addr} {n cap : Nat} {xs : List Value} (h : Row w sz a n cap xs) (hn : 0 < n) : ∀ x, a = some x → x.block < w.heap.size := by
  obtain ⟨b, off, ha, hlt, _⟩ := h.2.2.2.2 hn
  intro x hx
  rw [ha] at hx; cases hx; exact hlt
theorem below_of_grown {w w' : World} {row : Option Nat} {B : Nat} (hg : w.grownBy w' row) (hB : B ≤ w.heap.size) (hr : ∀ k, row = some k → B ≤ k) : Below B w w' :=
  (Below.refl B w).grown hg hB hr

/-- A slice literal. -/
theorem row_lit (w : World) (cs : Array Value) (e : TypeId) (hm : cs.size ≤ maxLen) : Row (w.alloc (.cells cs e)) 1 (some ⟨w.heap.size, 0, none⟩) cs.size cs.size cs.toList :=
  ⟨by simp, Nat.le_refl _, hm, fun h => (by cases h), fun _ => ⟨w.heap.size, 0, rfl, by rw [sizeA]; omega, fun j u hj => by
    rw [Nat.zero_add, cell_of_row _ _ _ _ _ _ (heapA_new _ rfl)]; simpa using hj⟩⟩

end Go.Proofs.Ytmejhjgdofncfaa
/-
  'append' on a slice of the call's own, told more sharply: where the new value lies.
-/
namespace Go.Proofs.Ytmejhjgdofncfaa
open Go.RowKit

/-- Where the one lies if not where the other lay: in memory that is new. -/
def NewAt (w : World) (v v' : Value) : Prop := ∀ b, v'.ownBlock = some b → v.ownBlock = some b ∨ w.heap.size ≤ b

theorem run_append_at {P : Program} (w : World) (base : Nat) (t ty e : TypeId) (i : TypeInfo) (z : Value) (size bytes : Nat) (ht : P.underlying t = some (.slice e)) (hi : P.info? e = some i) (hz : i.zero = some z)
    (hsize : i.size = size) (hby : i.bytes = bytes) (hzs : z.cells.size = size) (hsz : 0 < size)
    (v : Value) (n : Nat) (xs : List Value) (hown : w.ownsRow base e size v n xs)
    (a : Addr) (m c : Nat) (news : List Value) (hl : news.length = m * size) (hnews : ∀ j u, news[j]? = some u → w.cell? (a.add j) = some u) (h1 : ∀ u ∈ news, u.oneCell' = true)
    (h63 : n + m ≤ maxLen) (hbytes : (n + m) * bytes ≤ 140737488355328) (hbase : base ≤ w.heap.size) :
    ∃ v' w', (Builtin.append_ #[t, t] ty #[v, .slice (some a) m c]).run P w = .ok v' w' ∧ w'.ownsRow base e size v' (n + m) (xs ++ news) ∧ w.grownBy w' v.ownBlock ∧
      (v' = .slice none 0 0 ↔ v = .slice none 0 0 ∧ m = 0) ∧ NewAt w v v' := by
  obtain ⟨v', w', hr, h2, h3, h4⟩ := run_append_own (P := P) w base t ty e i z size bytes ht hi hz hsize hby hzs hsz v n xs hown a m c news hl hnews h1 h63 hbytes hbase
  refine ⟨v', w', hr, h2, h3, h4, ?_⟩
  have hsmall : n + m ≤ 9223372036854775807 := by simp only [maxLen] at h63; omega
  rcases hown.2 with ⟨rfl, hx⟩ | ⟨g, cap, cur, rfl, hbg, hg, hnc, hcm, hcs, htake⟩
  · obtain ⟨v2, w2, hr2, g2, _, _⟩ := run_append_own (P := P) w w.heap.size t ty e i z size bytes ht hi hz hsize hby hzs hsz _ n xs ⟨hown.1, .inl ⟨rfl, hx⟩⟩ a m c news hl hnews h1 h63 hbytes (Nat.le_refl _)
    rw [hr] at hr2
    simp only [Result.ok.injEq] at hr2
    obtain ⟨rfl, rfl⟩ := hr2
    exact fun b hb => .inr (g2.lt b hb).1
  · subst hsize hby
    by_cases hroom : n + m ≤ cap
    · have hfit : n * i.size + news.length ≤ cur.size := by rw [hl, hcs, ← Nat.add_mul]; exact Nat.mul_le_mul_right _ hroom
      have hr2 := run_append_room (P := P) w t ty e i ht hi g n cap cur hg a m c news hl hnews h1 hroom hfit
      rw [hr] at hr2
      simp only [Result.ok.injEq] at hr2
      obtain ⟨rfl, rfl⟩ := hr2
      exact fun b hb => .inl hb
    · have hr2 := run_append_grow (P := P) w t ty e i z ht hi hz ⟨g, 0, none⟩ n cap xs hown.1 (hown.cells (g := g) rfl) a m c news hl hnews (by omega) (by omega) (growslice_fits (by omega) hbytes)
      rw [hr] at hr2
      simp only [Result.ok.injEq] at hr2
      obtain ⟨rfl, rfl⟩ := hr2
      intro b hb
      simp [Value.ownBlock] at hb
      right; omega

/-- 'append(v, x...)', v the call's own, x whatever slice that reads as a row; where the new value lies. -/
theorem append_at {P : Program} {w : World} {ops : Array Oper} {rest : List Oper} {o : Oper} {a : Act} {Q : Exit → Act → World → Prop} {t e : TypeId} {z : Value} {size bytes : Nat} (T : ElemT P t e z size bytes)
    (hgd : o.guard = none) (s x : Operand) (ho : o.op = .call { callee := .builtin .append, args := #[s, x], argTypes := #[t, t] })
    (base : Nat) (v : Value) (n : Nat) (xs : List Value) (hs : a.eval s = v) (hown : w.ownsRow base e size v n xs)
    (ao : Option Addr) (m c : Nat) (news : List Value) (hx : a.eval x = .slice ao m c) (hr : Row w size ao m c news) (h1 : ∀ u ∈ news, u.oneCell' = true)
    (h63 : n + m ≤ maxLen) (hbytes : (n + m) * bytes ≤ 140737488355328) (hbase : base ≤ w.heap.size)
    (h : ∀ v' w', w'.ownsRow base e size v' (n + m) (xs ++ news) → w.grownBy w' v.ownBlock → NewAt w v v' → wpList P ops Q rest (a.put o.dst v') w') : wpList P ops Q (o :: rest) a w := by
  obtain ⟨i, hi, hz, hs', hb⟩ := info_parts T.info
  subst hb
  obtain ⟨r1, r2, r3, r4, r5⟩ := hr
  cases ao with
  | some ad =>
    refine wpList_plain hgd fun K hK => ?_
    obtain ⟨v', w', hrun, g2, g3, _, g5⟩ := run_append_at (P := P) w base t o.type e i z size i.bytes T.und hi hz hs' rfl T.cells T.pos v n xs hown ad m c news r1 (fun j u hj => by
      by_cases hm : 0 < m
      · obtain ⟨b, off, hab, _, hc⟩ := r5 hm
        obtain rfl := Option.some.inj hab
        rw [Addr.add_lit]; exact hc j u hj
      · obtain rfl : m = 0 := by omega
        have : news = [] := List.eq_nil_of_length_eq_zero (by simpa using r1)
        subst this; simp at hj) h1 h63 hbytes hbase
    unfold Oper.wp
    simp [execOp, ho, resolve, invoke, builtin, hs, hx, hrun, Result.andThen]
    exact hK _ _ (h v' w' g2 g3 g5)
  | none =>
    obtain rfl := r4 rfl
    obtain rfl : m = 0 := by omega
    have : news = [] := List.eq_nil_of_length_eq_zero (by simpa using r1)
    subst this
    refine wpList_plain hgd fun K hK => ?_
    have hrun := run_append_owned_none (P := P) w base t o.type e i size T.und hi v n xs hown
    unfold Oper.wp
    simp [execOp, ho, resolve, invoke, builtin, hs, hx, hrun, Result.andThen]
    exact hK _ _ (h v w (by simpa using hown) ⟨rfl, rfl, rfl, Nat.le_refl _, fun _ _ _ => rfl⟩ (fun b hb => .inl hb))

/-- What stays: all blocks but those that S knows. -/
structure Keeps (S : Nat → Prop) (w w' : World) : Prop where
  os : w'.os = w.os
  tape : w'.tape = w.tape
  output : w'.output = w.output
  size : w.heap.size ≤ w'.heap.size
  block : ∀ b, b < w.heap.size → ¬ S b → w'.heap[b]? = w.heap[b]?

theorem Keeps.refl (S : Nat → Prop) (w : World) : Keeps S w w := ⟨rfl, rfl, rfl, Nat.le_refl _, fun _ _ _ => rfl⟩
theorem Keeps.trans {S S' : Nat → Prop} {a b c : World} (h : Keeps S a b) (k : Keeps S' b c) (hS : ∀ x, S' x → S x ∨ a.heap.size ≤ x) : Keeps S a c :=
  ⟨k.os.trans h.os, k.tape.trans h.tape, k.output.trans h.output, Nat.le_trans h.size k.size, fun x hx hn => (k.block x (Nat.lt_of_lt_of_le hx h.size) (fun e => (hS x e).elim hn (fun h => by omega))).trans (h.block x hx hn)⟩
theorem Keeps.of_grown {S : Nat → Prop} {w w' : World} {row : Option Nat} (h : w.grownBy w' row) (hr : ∀ k, row = some k → S k) : Keeps S w w' :=
  ⟨h.os, h.tape, h.output, h.size, fun b hb hn => h.block b hb (fun e => hn (hr b e.symm))⟩
theorem Keeps.of_below {S : Nat → Prop} {w w' : World} {B : Nat} (h : Below B w w') (hS : ∀ b, B ≤ b → S b) : Keeps S w w' :=
  ⟨h.os, h.tape, h.output, h.size, fun b _ hn => h.block b (Nat.lt_of_not_le fun e => hn (hS b e))⟩
theorem Keeps.below {S : Nat → Prop} {w w' : World} {B : Nat} (h : Keeps S w w') (hB : B ≤ w.heap.size) (hS : ∀ b, S b → B ≤ b) : Below B w w' :=
  ⟨h.os, h.tape, h.output, h.size, fun b hb => h.block b (by omega) (fun e => by have := hS b e; omega)⟩
theorem Keeps.cell {S : Nat → Prop} {w w' : World} (h : Keeps S w w') {b o : Nat} {v : Value} (hc : w.cell? ⟨b, o, none⟩ = some v) (hn : ¬ S b) : w'.cell? ⟨b, o, none⟩ = some v := by
  have hlt : b < w.heap.size := World.block_lt_of_cell? w _ hc
  rw [World.cell?_of_block (w := w) (a := ⟨b, o, none⟩) (h.block b hlt hn)]; exact hc
theorem Keeps.obj {S : Nat → Prop} {w w' : World} (h : Keeps S w w') {b : Nat} {o : Obj} (hc : w.heap[b]? = some o) (hn : ¬ S b) : w'.heap[b]? = some o := by
  rw [h.block b (Array.getElem?_eq_some_iff.1 hc).1 hn]; exact hc
theorem Row.keeps {S : Nat → Prop} {w w' : World} {sz : Nat} {a : Option Addr} {n cap : Nat} {xs : List Value} (h : Row w sz a n cap xs) (hk : Keeps S w w') (hne : ∀ x, a = some x → ¬ S x.block) : Row w' sz a n cap xs := by
  obtain ⟨h1, h2, h3, h4, h5⟩ := h
  refine ⟨h1, h2, h3, h4, fun hn => ?_⟩
  obtain ⟨b, off, ha, hlt, hc⟩ := h5 hn
  exact ⟨b, off, ha, Nat.lt_of_lt_of_le hlt hk.size, fun j u hj => hk.cell (hc j u hj) (hne _ ha)⟩
theorem owns_keeps {S : Nat → Prop} {w w' : World} {base e sz : Nat} {v : Value} {n : Nat} {xs : List Value} (h : w.ownsRow base e sz v n xs) (hk : Keeps S w w') (hne : ∀ b, v.ownBlock = some b → ¬ S b) : w'.ownsRow base e sz v n xs := by
  obtain ⟨h1, h2⟩ := h
  refine ⟨h1, ?_⟩
  rcases h2 with h2 | ⟨g, cap, cur, hv, hg, hh, r⟩
  · exact .inl h2
  · exact .inr ⟨g, cap, cur, hv, hg, hk.obj hh (hne g (by rw [hv]; rfl)), r⟩
theorem Keeps.weaken {S S' : Nat → Prop} {w w' : World} (h : Keeps S w w') (hS : ∀ b, S b → S' b) : Keeps S' w w' := ⟨h.os, h.tape, h.output, h.size, fun b hb hn => h.block b hb (fun e => hn (hS b e))⟩
theorem Keeps.drewN {S : Nat → Prop} {w w' : World} (h : Keeps S w w') (q : Nat) : Keeps S w (w'.drewN q) := ⟨h.os, h.tape, h.output, h.size, h.block⟩
theorem Keeps.alloc {S : Nat → Prop} {w w' : World} (h : Keeps S w w') (o : Obj) : Keeps S w (w'.alloc o) :=
  ⟨h.os, h.tape, h.output, by rw [sizeA]; have := h.size; omega, fun b hb hn => (Below.heap_alloc w' o b (Nat.lt_of_lt_of_le hb h.size)).trans (h.block b hb hn)⟩
theorem Keeps.setCell {S : Nat → Prop} {w w' : World} (h : Keeps S w w') {a : Addr} (ha : S a.block ∨ w.heap.size ≤ a.block) (v : Value) : Keeps S w (w'.setCell a v) :=
  ⟨h.os, h.tape, h.output, by simpa [World.setCell] using h.size, fun b hb hn => (heap_setCell_other w' a b v (fun e => by rcases ha with h1 | h1; exact hn (e ▸ h1); omega)).trans (h.block b hb hn)⟩
theorem Keeps.grown {S : Nat → Prop} {w w' w2 : World} {row : Option Nat} (h : Keeps S w w') (hg : w'.grownBy w2 row) (hr : ∀ k, row = some k → S k ∨ w.heap.size ≤ k) : Keeps S w w2 :=
  h.trans (Keeps.of_grown (S := fun k => row = some k) hg fun _ hk => hk) hr
end Go.Proofs.Ytmejhjgdofncfaa
/-
  Walks of layer 9: digits' number; are all digits; may a number be.
-/
namespace Go.Proofs.Ytmejhjgdofncfaa
open Go.RowKit

def digitI (r : Int) : Int := if r < 48 ∨ 57 < r then -1 else r - 48

theorem digit_any (r : Int) (w : World) (h0 : 0 ≤ r) (h1 : r ≤ 2147483647) :
    Calls Try.prog 75 #[.int .i32 r] w fun e w' => e = .returned (.int .i64 (digitI r)) ∧ w = w' := by
  obtain ⟨V, hV⟩ : ∃ V, V = digitI r := ⟨_, rfl⟩
  rw [← hV]
  unfold digitI at hV
  by_cases h2 : r < 48
  · rw [if_pos (.inl h2)] at hV
    have HV := Lib.hid hV
    clear hV
    go_enter Try.func75, Try.ntmps75
    go_wp2
    go_ret
    exact ⟨ret_int HV.out.symm, rfl⟩
  · have h2d : decide (r < 48) = false := by simpa using h2
    by_cases h3 : 57 < r
    · rw [if_pos (.inr h3)] at hV
      have HV := Lib.hid hV
      clear hV
      go_enter Try.func75, Try.ntmps75
      go_wp2
      go_ret
      exact ⟨ret_int HV.out.symm, rfl⟩
    · rw [if_neg (by omega)] at hV
      have HV := Lib.hid hV
      have h3d : decide (57 < r) = false := by simpa using h3
      have h2' : 48 ≤ r := by omega
      have h3' : r ≤ 57 := by omega
      clear hV h2 h3
      go_enter Try.func75, Try.ntmps75
      go_wp2
      go_ret
      exact ⟨ret_int HV.out.symm, rfl⟩

/-- A string's bytes. -/
abbrev bl (s : ByteArray) : List UInt8 := s.data.toList
theorem bl_len (s : ByteArray) : (bl s).length = s.size := Array.length_toList
theorem bl_get (s : ByteArray) (k : Nat) (h : k < s.size) : (bl s)[k]'(by rw [bl_len]; exact h) = s[k] := rfl
theorem bl_take (s : ByteArray) (k : Nat) (h : k < s.size) : (bl s).take (k + 1) = (bl s).take k ++ [s[k]] := by
  rw [List.take_succ_eq_append_getElem (by rw [bl_len]; exact h)]; rfl
theorem bl_drop (s : ByteArray) (k : Nat) (h : k < s.size) : (bl s).drop k = s[k] :: (bl s).drop (k + 1) := by
  rw [List.drop_eq_getElem_cons (by rw [bl_len]; exact h)]; rfl
theorem bl_mem (s : ByteArray) (k : Nat) (h : k < s.size) : s[k] ∈ bl s := by rw [← bl_get s k h]; exact List.getElem_mem _
theorem toL (s : ByteArray) : s.toList = bl s := ByteArray.toList_eq s

theorem dec_yes (s : ByteArray) (k : Nat) (h : k < s.size) (hd : isDg s[k] = true) : Utf8.decode s k = (s[k].toNat, 1) := by
  rw [isDg_iff] at hd; exact decode_ascii s k h (by omega)
theorem dec_no (s : ByteArray) (k : Nat) (h : k < s.size) (hd : isDg s[k] = false) : digitI (Utf8.decode s k).1 = -1 := by
  rw [isDg_no] at hd
  unfold digitI
  by_cases h2 : s[k].toNat < 128
  · rw [decode_ascii s k h h2, if_pos]
    simp only; omega
  · have := (decode_high s k h (by omega)).1
    rw [if_pos]; omega

theorem iterPos_of (w : World) (s : ByteArray) (k : Nat) : (w.iter s k).iterPos w.heap.size = k := World.iterPos_iter w s k
theorem below_iter (w : World) (s : ByteArray) (k : Nat) : Below w.heap.size w (w.iter s k) := belowA w _

def DigEnd (V : Int × Int) (w : World) (e : Ending) (w' : World) : Prop := e = .returned (.tuple #[.int .i64 V.1, .int .i64 V.2]) ∧ Below w.heap.size w w'

set_option maxHeartbeats 1000000 in
theorem digits_any (s : ByteArray) (w : World) :
    Calls Try.prog 64 #[.string s] w (DigEnd (digitsV (bl s)) w) := by
  obtain ⟨V, hV⟩ : ∃ V, V = digitsV (bl s) := ⟨_, rfl⟩
  rw [← hV]
  have HV := Lib.hid hV
  clear hV
  by_cases he : s.toList = []
  · have HE := Lib.hid (show V = (0, 11) by rw [HV.out, ← toL, he]; exact digitsV_nil)
    go_enter Try.func64, Try.ntmps64
    go_wp2
    go_ret2
    exact ⟨by rw [HE.out]; rfl, Below.refl _ _⟩
  have he2 : s.toList.isEmpty = false := by simpa using he
  have hne : bl s ≠ [] := by rw [← toL]; exact he
  have HNE := Lib.hid hne
  clear he hne
  go_enter Try.func64, Try.ntmps64
  go_wp2
  go_loopw [4, 5] (fun n o wr => ∃ (k : Nat) (N : Int) (ov : Bool), k ≤ s.size ∧ n = .int .i64 N ∧ o = .bool ov ∧ wr = w.iter s k ∧ 0 ≤ N ∧ N ≤ 2147483647 ∧ Hid (((bl s).take k).all isDg = true) ∧ Hid (ov = decide (2147483647 < valD ((bl s).take k))) ∧ Hid (ov = false → N = (valD ((bl s).take k) : Nat)))
    (fun _ _ wr => s.size - wr.iterPos w.heap.size)
  case atStart => exact ⟨0, 0, false, Nat.zero_le _, rfl, rfl, rfl, by omega, by omega, Lib.hid rfl, Lib.hid rfl, Lib.hid fun _ => rfl⟩
  case round =>
    obtain ⟨k, N, ov, hk, rfl, rfl, rfl, hN0, hN1, HA, HO, HN⟩ := hrel
    by_cases hlt : k < s.size
    · have hnx := fun ty => run_next_any (P := Try.prog) w s k ty hlt
      have hle := decode_le s k
      by_cases hd : isDg s[k] = true
      · rw [dec_yes s k hlt hd] at hnx hle
        have hd1 := isDg_iff.1 hd
        have HDV := Lib.hid (dgV_int hd)
        have HD9 := dgV_le hd
        have HTA := Lib.hid (show ((bl s).take (k + 1)).all isDg = true by rw [bl_take s k hlt]; exact all_snoc _ _ HA.out hd)
        have HTV := Lib.hid (show valD ((bl s).take (k + 1)) = 10 * valD ((bl s).take k) + dgV s[k] by rw [bl_take s k hlt]; exact valD_snoc _ _)
        have HDI := Lib.hid (show digitI ((s[k].toNat : Nat) : Int) = (dgV s[k] : Nat) by unfold digitI; rw [if_neg (by omega), dgV_int hd])
        generalize dgV s[k] = d at *
        generalize s[k].toNat = c at *
        clear hd
        simp only at hnx hle
        cases ov
        · have hval := HN.out rfl
          have HVAL := Lib.hid hval
          clear hval
          by_cases hov : (2147483647 - (d : Int)) / 10 < N
          · have HOV2 := Lib.hid (show true = decide (2147483647 < valD ((bl s).take (k + 1))) by
              have h1 := HVAL.out
              rw [HTV.out, eq_comm, decide_eq_true_iff]; omega)
            go_wp2_with (go_at_call 75; refine (digit_any _ _ (by omega) (by omega)).mono ?_; rintro e w' ⟨rfl, rfl⟩; rw [HDI.out])
            go_roundw
            case rel => exact ⟨k + 1, N, true, by omega, rfl, rfl, rfl, hN0, hN1, HTA, HOV2, Lib.hid (fun h => by cases h)⟩
            case measure => simp; omega
          · have HOV2 := Lib.hid (show false = decide (2147483647 < valD ((bl s).take (k + 1))) by
              have h1 := HVAL.out
              rw [HTV.out, eq_comm, decide_eq_false_iff_not]; omega)
            have HVL2 := Lib.hid (show 10 * N + (d : Int) = ((valD ((bl s).take (k + 1)) : Nat) : Int) by rw [HTV.out, HVAL.out]; omega)
            have hovd : decide ((2147483647 - (d : Int)) / 10 < N) = false := by simpa using hov
            go_wp2_with (go_at_call 75; refine (digit_any _ _ (by omega) (by omega)).mono ?_; rintro e w' ⟨rfl, rfl⟩; rw [HDI.out])
            go_roundw
            case rel => exact ⟨k + 1, 10 * N + d, false, by omega, rfl, rfl, rfl, by omega, by omega, HTA, HOV2, Lib.hid (fun _ => HVL2.out)⟩
            case measure => simp; omega
        · have HOV2 := Lib.hid (show true = decide (2147483647 < valD ((bl s).take (k + 1))) by
            have h1 := HO.out
            rw [eq_comm, decide_eq_true_iff] at h1
            rw [HTV.out, eq_comm, decide_eq_true_iff]; omega)
          go_wp2_with (go_at_call 75; refine (digit_any _ _ (by omega) (by omega)).mono ?_; rintro e w' ⟨rfl, rfl⟩; rw [HDI.out])
          go_roundw
          case rel => exact ⟨k + 1, N, true, by omega, rfl, rfl, rfl, hN0, hN1, HTA, HOV2, Lib.hid (fun h => by cases h)⟩
          case measure => simp; omega
      · have hd2 : isDg s[k] = false := by simpa using hd
        have HDI := Lib.hid (dec_no s k hlt hd2)
        have h128 : 0 ≤ (Utf8.decode s k).1 := by omega
        have HF := Lib.hid (show V = (0, 11) by rw [HV.out]; exact digitsV_form (all_false (bl_mem s k hlt) hd2))
        clear hd hd2
        go_wp2_with (go_at_call 75; refine (digit_any _ _ (by omega) (by omega)).mono ?_; rintro e w' ⟨rfl, rfl⟩; rw [HDI.out])
        go_ret2
        exact ⟨by rw [HF.out]; rfl, below_iter _ _ _⟩
    · obtain rfl : k = s.size := by omega
      have hnx := fun ty => run_next_end (P := Try.prog) w s s.size ty hlt
      have htk : (bl s).take s.size = bl s := by rw [← bl_len]; exact List.take_length
      have HT := Lib.hid htk
      clear htk
      cases ov
      · have HR := Lib.hid (show V = (N, 0) by
          have h1 := HA.out; have h2 := HO.out; have h3 := HN.out rfl
          rw [HT.out] at h1 h2 h3
          rw [eq_comm, decide_eq_false_iff_not] at h2
          rw [HV.out, digitsV_ok HNE.out h1 (by omega), h3])
        go_wp2
        go_ret2
        exact ⟨by rw [HR.out]; rfl, below_iter _ _ _⟩
      · have HR := Lib.hid (show V = (0, 5) by
          have h1 := HA.out; have h2 := HO.out
          rw [HT.out] at h1 h2
          rw [eq_comm, decide_eq_true_iff] at h2
          rw [HV.out, digitsV_over HNE.out h1 h2])
        go_wp2
        go_ret2
        exact ⟨by rw [HR.out]; rfl, below_iter _ _ _⟩

set_option maxHeartbeats 1000000 in
theorem all_any (s : ByteArray) (w : World) :
    Calls Try.prog 63 #[.string s] w fun e w' => e = .returned (.bool ((bl s).all isDg)) ∧ Below w.heap.size w w' := by
  obtain ⟨V, hV⟩ : ∃ V, V = (bl s).all isDg := ⟨_, rfl⟩
  rw [← hV]
  have HV := Lib.hid hV
  clear hV
  go_enter Try.func63, Try.ntmps63
  go_wp2
  go_loopw [] (fun wr => ∃ k : Nat, k ≤ s.size ∧ wr = w.iter s k ∧ Hid (((bl s).take k).all isDg = true)) (fun wr => s.size - wr.iterPos w.heap.size)
  case atStart => exact ⟨0, Nat.zero_le _, rfl, Lib.hid rfl⟩
  case round =>
    obtain ⟨k, hk, rfl, HA⟩ := hrel
    by_cases hlt : k < s.size
    · have hnx := fun ty => run_next_any (P := Try.prog) w s k ty hlt
      have hle := decode_le s k
      by_cases hd : isDg s[k] = true
      · rw [dec_yes s k hlt hd] at hnx hle
        have hd1 := isDg_iff.1 hd
        have hd9 := dgV_le hd
        have HTA := Lib.hid (show ((bl s).take (k + 1)).all isDg = true by rw [bl_take s k hlt]; exact all_snoc _ _ HA.out hd)
        have HDI := Lib.hid (show digitI ((s[k].toNat : Nat) : Int) = (dgV s[k] : Nat) by unfold digitI; rw [if_neg (by omega), dgV_int hd])
        generalize dgV s[k] = d at *
        generalize s[k].toNat = c at *
        clear hd
        simp only at hnx hle
        go_wp2_with (go_at_call 75; refine (digit_any _ _ (by omega) (by omega)).mono ?_; rintro e w' ⟨rfl, rfl⟩; rw [HDI.out])
        go_roundw
        case rel => exact ⟨k + 1, by omega, rfl, HTA⟩
        case measure => simp; omega
      · have hd2 : isDg s[k] = false := by simpa using hd
        have HDI := Lib.hid (dec_no s k hlt hd2)
        have HF := Lib.hid (show V = false by rw [HV.out]; exact all_false (bl_mem s k hlt) hd2)
        clear hd hd2
        go_wp2_with (go_at_call 75; refine (digit_any _ _ (by omega) (by omega)).mono ?_; rintro e w' ⟨rfl, rfl⟩; rw [HDI.out])
        go_ret
        exact ⟨ret_bool (HF.out).symm, below_iter _ _ _⟩
    · obtain rfl : k = s.size := by omega
      have hnx := fun ty => run_next_end (P := Try.prog) w s s.size ty hlt
      have htk : (bl s).take s.size = bl s := by rw [← bl_len]; exact List.take_length
      have HR := Lib.hid (show V = true by rw [HV.out, ← htk]; exact HA.out)
      clear htk
      go_wp2
      go_ret
      exact ⟨ret_bool (HR.out).symm, below_iter _ _ _⟩
end Go.Proofs.Ytmejhjgdofncfaa
/-
  Walks of layer 9: what it calls of package strings (a prefix of one byte, a cut at one byte).
-/
namespace Go.Proofs.Ytmejhjgdofncfaa
open Go.RowKit

theorem idx_none : ∀ (l : List UInt8) (c : UInt8), Lib.indexByte l c = -1 → c ∉ l
  | [], _, _ => by simp
  | b :: l, c, h => by
    have hg := Lib.indexByte_ge l c
    unfold Lib.indexByte at h
    split at h
    · omega
    · rename_i hb
      split at h
      · rename_i h1
        have := idx_none l c (by simpa using h1)
        simp at hb
        simp [this, Ne.symm hb]
      · rename_i h1
        simp at h1; omega
theorem idx_some : ∀ (l : List UInt8) (c : UInt8) (i : Nat), Lib.indexByte l c = (i : Int) → ∃ w t, l = w ++ c :: t ∧ w.length = i ∧ c ∉ w
  | [], _, _, h => by unfold Lib.indexByte at h; omega
  | b :: l, c, i, h => by
    have hg := Lib.indexByte_ge l c
    unfold Lib.indexByte at h
    split at h
    · rename_i hb
      have : b = c := by simpa using hb
      exact ⟨[], l, by simp [this], by simp; omega, by simp⟩
    · rename_i hb
      split at h
      · omega
      · rename_i h1
        simp at h1
        obtain ⟨w, t, e1, e2, e3⟩ := idx_some l c (i - 1) (by omega)
        simp at hb
        exact ⟨b :: w, t, by simp [e1], by simp; omega, by simp [e3, Ne.symm hb]⟩

set_option maxHeartbeats 1000000 in
theorem sidx_any (s : ByteArray) (c : Int) (w : World) :
    Calls Try.prog 72 #[.string s, .int .u8 c] w fun e w' => e = .returned (.int .i64 (Lib.indexByte (bl s) c.toNat.toUInt8)) ∧ w = w' := by
  go_enter Try.func72, Try.ntmps72
  go_wp2
  rw [run_callFunc_extern Try.func78 (by kernel_rfl) (by kernel_rfl) (by kernel_rfl) (e := Extern.BytealgIndexByte.indexByte) (by kernel_rfl), Lib.run_indexByteString]
  simp only [Result.andThen]
  rw [Oper.upon_value]
  go_wp2
  go_ret
  exact ⟨rfl, rfl⟩

set_option maxHeartbeats 1000000 in
theorem sidx2_any (s : ByteArray) (c : Int) (w : World) :
    Calls Try.prog 60 #[.string s, .int .u8 c] w fun e w' => e = .returned (.int .i64 (Lib.indexByte (bl s) c.toNat.toUInt8)) ∧ w = w' := by
  go_enter Try.func60, Try.ntmps60
  go_wp2_with (go_at_call 72; refine (sidx_any _ _ _).mono ?_; rintro e w' ⟨rfl, rfl⟩)
  go_ret
  exact ⟨rfl, rfl⟩

set_option maxHeartbeats 1000000 in
theorem index46_any (s : ByteArray) (w : World) :
    Calls Try.prog 79 #[.string s, .string ⟨#[46]⟩] w fun e w' => e = .returned (.int .i64 (Lib.indexByte (bl s) 46)) ∧ w = w' := by
  obtain ⟨V, hV⟩ : ∃ V, V = Lib.indexByte (bl s) 46 := ⟨_, rfl⟩
  rw [← hV]
  have HV := Lib.hid hV
  clear hV
  by_cases h : s.toList = [46]
  · have HE := Lib.hid (show V = 0 by rw [HV.out, ← toL, h]; rfl)
    go_enter Try.func79, Try.ntmps79
    go_wp2
    go_ret
    exact ⟨ret_int HE.out.symm, rfl⟩
  · have h2 : ([46] == s.toList) = false := by rw [beq_eq_false_iff_ne]; exact fun e => h e.symm
    clear h
    go_enter Try.func79, Try.ntmps79
    go_wp2_with (go_at_call 72; refine (sidx_any _ _ _).mono ?_; rintro e w' ⟨rfl, rfl⟩)
    go_ret
    exact ⟨ret_int HV.out.symm, rfl⟩

def CutEnd (s : ByteArray) (w : World) (e : Ending) (w' : World) : Prop :=
  ∃ W R : ByteArray, e = .returned (.tuple #[.string W, .string R, .bool (hasPt (bl s))]) ∧ bl W = wholeOf (bl s) ∧ bl R = restOf (bl s) ∧ W.size ≤ s.size ∧ R.size ≤ s.size ∧ ∃ q, w' = w.drewN q

theorem bl_ext (s : ByteArray) (i j : Nat) : bl (s.extract i j) = ((bl s).drop i).take (j - i) := by
  unfold bl; rw [ByteArray.data_extract, Array.toList_extract]
theorem bl_to (s : ByteArray) (i : Nat) : bl (s.extract 0 i) = (bl s).take i := by rw [bl_ext]; rfl
theorem bl_from (s : ByteArray) (i : Nat) : bl (s.extract i s.size) = (bl s).drop i := by
  rw [bl_ext, List.take_of_length_le]
  rw [List.length_drop, bl_len]; exact Nat.le_refl _

theorem ret_tup3 {a b a' b' : ByteArray} {p p' : Bool} (h1 : a = a') (h2 : b = b') (h3 : p = p') : Ending.returned (.tuple #[.string a, .string b, .bool p]) = Ending.returned (.tuple #[.string a', .string b', .bool p']) := by rw [h1, h2, h3]

set_option maxHeartbeats 1000000 in
theorem cut1_any (s : ByteArray) (w : World) (hs : s.size ≤ 4611686018427387904) :
    Calls Try.prog 74 #[.string s, .string ⟨#[46]⟩] w (CutEnd s w) := by
  have hge := Lib.indexByte_ge (bl s) 46
  by_cases hneg : Lib.indexByte (bl s) 46 = -1
  · have hn := idx_none _ _ hneg
    obtain ⟨t1, t2, t3⟩ := tw_none (bl s) (fun x hx e => hn (e ▸ hx))
    have HT := Lib.hid (And.intro t1 (And.intro t2 t3))
    clear t1 t2 t3 hn hge
    go_enter Try.func74, Try.ntmps74
    go_wp2_with (go_at_call 79; refine (index46_any _ _).mono ?_; rintro e w' ⟨rfl, rfl⟩; rw [hneg])
    go_ret3
    exact ⟨s, ⟨#[]⟩, ret_tup3 rfl rfl HT.out.2.2.symm, HT.out.1.symm, HT.out.2.1.symm, Nat.le_refl _, Nat.zero_le _, 0, rfl⟩
  · obtain ⟨i, hi⟩ := Int.eq_ofNat_of_zero_le (show 0 ≤ Lib.indexByte (bl s) 46 by omega)
    obtain ⟨a, t, e1, e2, e3⟩ := idx_some _ _ _ hi
    have hlen := congrArg List.length e1
    rw [bl_len] at hlen
    simp only [List.length_append, List.length_cons, e2] at hlen
    have hlt : i < s.size := by omega
    obtain ⟨t1, t2, t3⟩ := tw_app a t (fun x hx e => e3 (e ▸ hx))
    have h1 : bl (s.extract 0 i) = wholeOf (bl s) := by rw [bl_to, e1, t1, ← e2]; simp
    have h2 : bl (s.extract (i + 1) s.size) = restOf (bl s) := by
      rw [bl_from, e1, t2, ← e2, List.drop_append, Nat.add_sub_cancel_left, List.drop_of_length_le (by omega)]; rfl
    have HT := Lib.hid (And.intro h1 (And.intro h2 (show hasPt (bl s) = true by rw [e1]; exact t3)))
    have HI := Lib.hid hi
    clear t1 t2 t3 h1 h2 e1 e2 e3 hlen hge hi hneg
    go_enter Try.func74, Try.ntmps74
    go_wp2_with (go_at_call 79; refine (index46_any _ _).mono ?_; rintro e w' ⟨rfl, rfl⟩; rw [HI.out])
    go_quiet (fail)
    go_wp2
    go_ret3
    exact ⟨_, _, ret_tup3 rfl rfl HT.out.2.2.symm, HT.out.1, HT.out.2.1, by rw [ByteArray.size_extract]; omega, by rw [ByteArray.size_extract]; omega, _, rfl⟩

set_option maxHeartbeats 1000000 in
theorem cut_any (s : ByteArray) (w : World) (hs : s.size ≤ 4611686018427387904) :
    Calls Try.prog 62 #[.string s, .string ⟨#[46]⟩] w (CutEnd s w) := by
  have HC := Lib.hid (fun W => cut1_any s W hs)
  go_enter Try.func62, Try.ntmps62
  go_wp2_with (go_at_call 74; refine (HC.out _).mono ?_; rintro e w' ⟨W, R, rfl, h1, h2, h3, h4, q, rfl⟩; have H1 := Lib.hid h1; have H2 := Lib.hid h2; clear h1 h2)
  go_ret3
  exact ⟨W, R, rfl, H1.out, H2.out, h3, h4, q, rfl⟩

def hd1 (s : ByteArray) (c : UInt8) : Bool := decide ((bl s).head? = some c)
set_option maxHeartbeats 1000000 in
theorem pre1_any (s : ByteArray) (c : UInt8) (w : World) (hs : s.size ≤ 4611686018427387904) :
    Calls Try.prog 73 #[.string s, .string ⟨#[c]⟩] w fun e w' => e = .returned (.bool (hd1 s c)) ∧ w = w' := by
  by_cases h0 : 0 < s.size
  · have hx : (s.extract 0 1).toList = [s[0]] := by
      rw [toL, bl_to]
      have := bl_take s 0 h0
      simpa using this
    have HV := Lib.hid (show hd1 s c = (s[0] == c) by
      unfold hd1
      have h1 := bl_drop s 0 h0
      rw [List.drop_zero] at h1
      rw [h1, List.head?_cons, Bool.eq_iff_iff]
      simp)
    have h1 : (1 : Int) ≤ s.size := by omega
    have h1d : decide (1 ≤ s.size) = true := decide_eq_true (by omega)
    go_enter Try.func73, Try.ntmps73
    go_wp2
    go_ret
    exact ⟨ret_bool HV.out.symm, rfl⟩
  · have h1 : ¬ (1 : Int) ≤ s.size := by omega
    have h1d : decide ((1 : Int) ≤ s.size) = false := by simpa using h1
    have h1e : decide (1 ≤ s.size) = false := decide_eq_false (by omega)
    have HV := Lib.hid (show hd1 s c = false by
      unfold hd1
      have h1 : bl s = [] := List.eq_nil_of_length_eq_zero (by rw [bl_len]; omega)
      rw [h1]; rfl)
    go_enter Try.func73, Try.ntmps73
    go_wp2
    go_ret
    exact ⟨ret_bool HV.out.symm, rfl⟩
set_option maxHeartbeats 1000000 in
theorem pre_any (s : ByteArray) (c : UInt8) (w : World) (hs : s.size ≤ 4611686018427387904) :
    Calls Try.prog 61 #[.string s, .string ⟨#[c]⟩] w fun e w' => e = .returned (.bool (hd1 s c)) ∧ w = w' := by
  have HC := Lib.hid (fun W => pre1_any s c W hs)
  go_enter Try.func61, Try.ntmps61
  go_wp2_with (go_at_call 73; refine (HC.out _).mono ?_; rintro e w' ⟨rfl, rfl⟩)
  go_ret
  exact ⟨rfl, rfl⟩
end Go.Proofs.Ytmejhjgdofncfaa
