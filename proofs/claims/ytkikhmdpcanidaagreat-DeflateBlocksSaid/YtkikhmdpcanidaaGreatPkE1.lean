/-
  Our texts Base to New, in one.
-/
import Derived.WalkKit
import Derived.WalkSpells
import Derived.WalkLawsBesides
import Derived.Lib.Hide
import Derived.Sort.LotA
import Derived.Sort.Lot0
import Derived.Deep.Draws
import Derived.Test.YtkikhmdpcanidaaGreatProg
import Derived.BigQuiet
import Derived.Deep.QuietTactic
import Derived.Deep.RegionHeld3
set_option maxRecDepth 8000
set_option maxHeartbeats 8000000
namespace Go.Proofs.YtkikhmdpcanidaaGreat
open Go.RowKit
def Row (w : World) (sz : Nat) (a : Option Addr) (n cap : Nat) (xs : List Value) : Prop :=
 xs.length = n * sz ∧ n ≤ cap ∧ cap ≤ maxLen ∧ (a = none → cap = 0) ∧
   (0 < n → ∃ b off, a = some ⟨b, off, none⟩ ∧ b < w.heap.size ∧ ∀ j u, xs[j]? = some u → w.cell? ⟨b, off + j, none⟩ = some u)
theorem cell?_keep {w w' : World} (hb : Below w.heap.size w w') {a : Addr} {v : Value} (h : w.cell? a = some v) : w'.cell? a = some v :=
 (hb.cell (World.block_lt_of_cell? w a h)).trans h
theorem Row.mono {w w' : World} {sz : Nat} {a : Option Addr} {n cap : Nat} {xs : List Value} (h : Row w sz a n cap xs) (hb : Below w.heap.size w w') : Row w' sz a n cap xs := by
 obtain ⟨h1, h2, h3, h4, h5⟩ := h
 refine ⟨h1, h2, h3, h4, fun hn => ?_⟩
 obtain ⟨b, off, ha, hlt, hc⟩ := h5 hn
 exact ⟨b, off, ha, Nat.lt_of_lt_of_le hlt hb.size, fun j u hj => cell?_keep hb (hc j u hj)⟩
theorem Row.i64 {w : World} {sz : Nat} {a : Option Addr} {n cap : Nat} {xs : List Value} (h : Row w sz a n cap xs) : (n : Int) ≤ 9223372036854775807 := by
 have := h.2.1; have := h.2.2.1; unfold maxLen at this; omega
theorem Row.at {α : Type} {enc : α → Value} (d : α) {w : World} {a : Option Addr} {n cap : Nat} {l : List α} (h : Row w 1 a n cap (l.map enc)) (k : Nat) (hk : k < n) :
   ∃ b off, a = some ⟨b, off, none⟩ ∧ b < w.heap.size ∧ ∀ k, k < n → w.cell? ⟨b, off + k, none⟩ = some (enc (l.getD k d)) := by
 obtain ⟨h1, h2, h3, h4, h5⟩ := h
 obtain ⟨b, off, rfl, hb, hc⟩ := h5 (by omega)
 refine ⟨b, off, rfl, hb, fun k hk => hc k _ ?_⟩
 simp at h1 ⊢
 have : k < l.length := by omega
 simp [this]
theorem Row.len1 {α : Type} {enc : α → Value} {w : World} {a : Option Addr} {n cap : Nat} {l : List α} (h : Row w 1 a n cap (l.map enc)) : l.length = n := by
 have := h.1; simpa using this
theorem Row.nil (w : World) (sz : Nat) : Row w sz none 0 0 [] := ⟨by simp, Nat.le_refl _, by simp [maxLen], fun _ => rfl, fun h => by omega⟩
theorem Row.of_owns {w : World} {base e sz : Nat} {v : Value} {n : Nat} {xs : List Value} (h : w.ownsRow base e sz v n xs) :
   ∃ a cap, v = .slice a n cap ∧ Row w sz a n cap xs ∧ ∀ x, a = some x → base ≤ x.block := by
 obtain ⟨h1, h2⟩ := h
 rcases h2 with ⟨rfl, rfl⟩ | ⟨g, cap, cur, rfl, hb, hg, hn, hm, hs, ht⟩
 · have : xs = [] := List.eq_nil_of_length_eq_zero (by simpa using h1)
   subst this
   exact ⟨none, 0, rfl, Row.nil w sz, fun x hx => by cases hx⟩
 · refine ⟨some ⟨g, 0, none⟩, cap, rfl, ⟨h1, hn, hm, fun h => (by cases h), fun _ => ⟨g, 0, rfl, (Array.getElem?_eq_some_iff.1 hg).1, fun j u hj => ?_⟩⟩, fun x hx => by cases hx; exact hb⟩
   rw [Nat.zero_add, cell_of_row w g j cur e (0, 0) hg]
   rw [← ht, List.getElem?_take] at hj
   split at hj
   · simpa using hj
   · cases hj
theorem Row.of_own {w : World} {base e sz : Nat} {a : Option Addr} {n m cap : Nat} {xs : List Value} (h : w.ownsRow base e sz (.slice a n cap) m xs) : n = m ∧ Row w sz a n cap xs := by
 obtain ⟨a', cap', hv, hr, _⟩ := Row.of_owns h
 simp only [Value.slice.injEq] at hv
 obtain ⟨rfl, rfl, rfl⟩ := hv
 exact ⟨rfl, hr⟩
theorem zab {w w' : World} {base e sz : Nat} {v : Value} {n : Nat} {xs : List Value} (h : w.ownsRow base e sz v n xs) (hb : Below w.heap.size w w') : w'.ownsRow base e sz v n xs := by
 obtain ⟨h1, h2⟩ := h
 refine ⟨h1, ?_⟩
 rcases h2 with h2 | ⟨g, cap, cur, hv, hg, hh, r⟩
 · exact .inl h2
 · exact .inr ⟨g, cap, cur, hv, hg, by rw [hb.block g (Array.getElem?_eq_some_iff.1 hh).1]; exact hh, r⟩
theorem zaI {w : World} {base base' e sz : Nat} {v : Value} {n : Nat} {xs : List Value} (h : w.ownsRow base e sz v n xs) (hb : base' ≤ base) : w.ownsRow base' e sz v n xs := by
 obtain ⟨h1, h2⟩ := h
 refine ⟨h1, ?_⟩
 rcases h2 with h2 | ⟨g, cap, cur, hv, hg, r⟩
 · exact .inl h2
 · exact .inr ⟨g, cap, cur, hv, by omega, r⟩
theorem za3 {w w' : World} (hb : Below w.heap.size w w') {b : Nat} {o : Obj} (h : w.heap[b]? = some o) : w'.heap[b]? = some o := by
 rw [hb.block b (Array.getElem?_eq_some_iff.1 h).1]; exact h
structure zcZ (P : Program) (t e : TypeId) (z : Value) (size bytes : Nat) : Prop where
 und : P.underlying t = some (.slice e)
 info : (P.info? e).map (fun i => (i.zero, i.size, i.bytes)) = some (some z, size, bytes)
 cells : z.cells.size = size
 pos : 0 < size
theorem zav {k : IntKind} {a b : Int} (h : a = b) : Ending.returned (.int k a) = .returned (.int k b) := by rw [h]
theorem zfT {a b : Bool} (h : a = b) : Ending.returned (.bool a) = .returned (.bool b) := by rw [h]
theorem zcu {P : Program} {w : World} {ops : Array Oper} {rest : List Oper} {o : Oper} {a : Act} {Q : Exit → Act → World → Prop} {t e : TypeId} {z : Value} {size bytes : Nat} (T : zcZ P t e z size bytes)
   (hg : o.guard = none) (l c : Operand) (hop : o.op = Op.makeSlice t l c)
   (kl kc : IntKind) (L C : Int) (n : Nat) (hl : a.eval l = .int kl L) (hc : a.eval c = .int kc C) (hL : L = (n : Int)) (hC : C = (n : Int)) (b2 : bytes * n ≤ 281474976710656) (b3 : n ≤ maxLen)
   (hK : ∀ w', w'.ownsRow w.heap.size e size (.slice (some ⟨w.heap.size, 0, none⟩) n n) n (madeCells z.cells (n * size)).toList → Below w.heap.size w w' → wpList P ops Q rest (a.put o.dst (.slice (some ⟨w.heap.size, 0, none⟩) n n)) w') :
   wpList P ops Q (o :: rest) a w := by
 obtain ⟨i, hi, hz, hs, hb⟩ := info_parts T.info
 subst hb
 exact wpList_make_full w hg l c t hop w.heap.size e i z size T.und hi hz hs kl kc L C n hl hc hL hC b2 b3 (Nat.le_refl _)
   fun w' h1 h2 => hK w' h1 ((Below.refl _ _).grown h2 (Nat.le_refl _) (fun k hk => by cases hk))
def fl (n : Nat) (enc : Nat → Value) : List Value := (List.range n).map enc
theorem za6 (n : Nat) (enc : Nat → Value) : (fl n enc).length = n := by simp [fl]
theorem fl_get {n : Nat} (enc : Nat → Value) {i : Nat} (h : i < n) : (fl n enc)[i]? = some (enc i) := by simp [fl, h]
theorem fl_set (n : Nat) (enc : Nat → Value) (i : Nat) (v : Value) : (fl n enc).set i v = fl n (fun j => if j = i then v else enc j) := by
 apply List.ext_getElem?
 intro j
 simp only [fl, List.getElem?_set, List.getElem?_map, List.length_map, List.length_range]
 by_cases hj : j < n
 · by_cases hi : i = j
   · subst hi; simp [hj]
   · simp [hi, hj, Ne.symm hi]
 · by_cases hi : i = j
   · subst hi; simp [hj]
   · simp [hi, hj]
theorem zal {n : Nat} {f g : Nat → Value} (h : ∀ i, i < n → f i = g i) : fl n f = fl n g := by
 apply List.map_congr_left
 intro i hi
 exact h i (by simpa using hi)
theorem zcx (n : Nat) (v : Value) : List.replicate n v = fl n (fun _ => v) := by
 apply List.ext_getElem?
 intro j
 by_cases hj : j < n <;> simp [fl, hj]
theorem map_fl {α : Type} (d : α) (l : List α) (enc : α → Value) : l.map enc = fl l.length (fun i => enc (l.getD i d)) := by
 apply List.ext_getElem?
 intro j
 by_cases hj : j < l.length <;> simp [fl, hj]
theorem zah {w : World} {b : Nat} (o : Obj) (h : b = w.heap.size) : (w.alloc o).heap[b]? = some o := by subst h; exact heap_alloc_new w o
theorem zaL {w : World} {b : Nat} (o : Obj) {o' : Obj} (h : w.heap[b]? = some o') : (w.alloc o).heap[b]? = some o' := by
 rw [Below.heap_alloc w o b (Array.getElem?_eq_some_iff.1 h).1]; exact h
theorem zad (w : World) (o : Obj) : (w.alloc o).heap.size = w.heap.size + 1 := by
 show (w.heap.push o).size = _
 simp
theorem zai (w : World) (o : Obj) : Below w.heap.size w (w.alloc o) := (Below.refl _ _).alloc (Nat.le_refl _) o
theorem zeF (w : World) (o o2 : Obj) : Below w.heap.size w ((w.alloc o).alloc o2) := (zai w o).alloc (by rw [zad]; omega) o2
theorem belowA3 (w : World) (o o2 o3 : Obj) : Below w.heap.size w (((w.alloc o).alloc o2).alloc o3) := (zeF w o o2).alloc (by rw [zad, zad]; omega) o3
theorem zdK {B : Nat} {w0 w : World} (h : Below B w0 w) {g : Nat} (hg : B ≤ g) (cs : Array Value) : Below B w0 (w.setRow g cs) :=
 h.trans ⟨rfl, rfl, rfl, by simp, fun j hj => setRow_other _ _ _ _ (by omega)⟩
theorem zan {w : World} {b n : Nat} {enc : Nat → Value} {t : TypeId} {fr : Nat × Nat} (h : w.heap[b]? = some (.cells (fl n enc).toArray t fr)) (i : Nat) (hi : i < n) : w.cell? ⟨b, i, none⟩ = some (enc i) := by
 rw [cell_of_row w b i _ t fr h]; simp [fl, hi]
theorem zaT {w : World} {b : Nat} {cs : Array Value} {t : TypeId} (h : w.heap[b]? = some (.cells cs t (0, 0))) (i : Nat) : w.frozen? ⟨b, i, none⟩ = false := frozen_of_row w b i cs t h
theorem zaM {w : World} {b n : Nat} {enc : Nat → Value} {t : TypeId} (h : w.heap[b]? = some (.cells (fl n enc).toArray t (0, 0))) (i : Nat) (v : Value) :
   (w.setCell ⟨b, i, none⟩ v).heap[b]? = some (.cells (fl n (fun j => if j = i then v else enc j)).toArray t (0, 0)) := by
 rw [heap_setCell_same w b i _ t v h, List.setIfInBounds_toArray, fl_set]
theorem zaE {w : World} {b : Nat} {o : Obj} (h : w.heap[b]? = some o) {a : Addr} (ha : a.block ≠ b) (v : Value) : (w.setCell a v).heap[b]? = some o := by
 rw [heap_setCell_other w a b v (Ne.symm ha)]; exact h
theorem store_fresh {P : Program} {ops : Array Oper} {rest : List Oper} {o : Oper} {a : Act} {w0 : World} {Q : Exit → Act → World → Prop} (hgd : o.guard = none) (ty : TypeId) (x y : Operand) (ho : o.op = .store ty x y)
   (z : Array Value) (t : TypeId) (cells : Array Value) (hx : a.eval x = .pointer (some ⟨w0.heap.size, 0, none⟩)) (hy : a.eval y = .agg cells)
   (hi : (P.info? ty).map (·.size) = some cells.size) (hold : z.size = cells.size) (h1 : cells.all (·.oneCell') = true)
   (h : ∀ w', w'.heap[w0.heap.size]? = some (.cells cells t (0, 0)) → Below w0.heap.size w0 w' → w'.heap.size = w0.heap.size + 1 → wpList P ops Q rest (a.put o.dst undef) w') : wpList P ops Q (o :: rest) a (w0.alloc (.cells z t)) :=
 wpList_store_row hgd ty x y ho w0.heap.size cells hx hy t z (zah _ rfl) hi hold h1
   (h _ (setRow_heap _ _ _ _ _ _ (zah _ rfl)) (zdK (zai w0 _) (Nat.le_refl _) _) (by rw [size_setRow, zad]))
theorem zae {P : Program} {w : World} {ops : Array Oper} {rest : List Oper} {o : Oper} {a : Act} {Q : Exit → Act → World → Prop} {t e : TypeId} {z : Value} {size bytes : Nat} (T : zcZ P t e z size bytes)
   (hgd : o.guard = none) (s x : Operand) (ho : o.op = .call { callee := .builtin .append, args := #[s, x], argTypes := #[t, t] })
   (base : Nat) (v : Value) (n : Nat) (xs : List Value) (hs : a.eval s = v) (hown : w.ownsRow base e size v n xs)
   (ao : Option Addr) (m c : Nat) (news : List Value) (hx : a.eval x = .slice ao m c) (hr : Row w size ao m c news) (h1 : ∀ u ∈ news, u.oneCell' = true)
   (h63 : n + m ≤ maxLen) (hbytes : (n + m) * bytes ≤ 140737488355328) (hbase : base ≤ w.heap.size)
   (h : ∀ v' w', w'.ownsRow base e size v' (n + m) (xs ++ news) → w.grownBy w' v.ownBlock → (v' = .slice none 0 0 ↔ v = .slice none 0 0 ∧ m = 0) → wpList P ops Q rest (a.put o.dst v') w') : wpList P ops Q (o :: rest) a w := by
 obtain ⟨i, hi, hz, hs', hb⟩ := info_parts T.info
 subst hb
 obtain ⟨r1, r2, r3, r4, r5⟩ := hr
 cases ao with
 | some ad =>
   refine wpList_append_own w hgd s x t ho base e i z size i.bytes T.und hi hz hs' rfl T.cells T.pos v n xs hs hown ad m c news hx r1 (fun j u hj => ?_) h1 h63 hbytes hbase h
   by_cases hm : 0 < m
   · obtain ⟨b, off, hab, _, hc⟩ := r5 hm
     obtain rfl := Option.some.inj hab
     rw [Addr.add_lit]; exact hc j u hj
   · obtain rfl : m = 0 := by omega
     have : news = [] := List.eq_nil_of_length_eq_zero (by simpa using r1)
     subst this; simp at hj
 | none =>
   obtain rfl := r4 rfl
   obtain rfl : m = 0 := by omega
   have : news = [] := List.eq_nil_of_length_eq_zero (by simpa using r1)
   subst this
   refine wpList_plain hgd fun K hK => ?_
   have hrun := run_append_owned_none (P := P) w base t o.type e i size T.und hi v n xs hown
   unfold Oper.wp
   simp [execOp, ho, resolve, invoke, builtin, hs, hx, hrun, Result.andThen]
   exact hK _ _ (h v w (by simpa using hown) ⟨rfl, rfl, rfl, Nat.le_refl _, fun _ _ _ => rfl⟩ (by simp))
def NN (a : Option Addr) (v : Value) : Prop := a ≠ none → v ≠ .slice none 0 0
theorem zd4 {B : Nat} {w0 w w' : World} {row : Option Nat} (h : Below B w0 w) (hg : w.grownBy w' row) (hB : B ≤ w.heap.size) (hr : ∀ k, row = some k → B ≤ k) : Below B w0 w' := h.grown hg hB hr
theorem zaS (w : World) (x : Value) (e : TypeId) : Row (w.alloc (.cells #[x] e)) 1 (some ⟨w.heap.size, 0, none⟩) 1 1 [x] :=
 ⟨rfl, Nat.le_refl _, by simp [maxLen], fun h => (by cases h), fun _ => ⟨w.heap.size, 0, rfl, by rw [zad]; omega, fun j u hj => by
   rw [cell_of_row _ _ _ _ _ _ (zah _ rfl)]
   rcases j with _ | j
   · simpa using hj
   · simp at hj⟩⟩
theorem zbN {x : Value} (h : x.oneCell' = true) : ∀ u ∈ [x], u.oneCell' = true := by
 intro u hu; simp at hu; subst hu; exact h
theorem zam {B : Nat} {w w' : World} (h : Below B w w') {b o : Nat} {v : Value} (hb : b < B) (hc : w.cell? ⟨b, o, none⟩ = some v) : w'.cell? ⟨b, o, none⟩ = some v := (h.cell (p := ⟨b, o, none⟩) hb).trans hc
theorem Row.below {B : Nat} {w w' : World} {sz : Nat} {a : Option Addr} {n cap : Nat} {xs : List Value} (h : Row w sz a n cap xs) (hb : Below B w w') (ha : ∀ x, a = some x → x.block < B) : Row w' sz a n cap xs := by
 obtain ⟨h1, h2, h3, h4, h5⟩ := h
 refine ⟨h1, h2, h3, h4, fun hn => ?_⟩
 obtain ⟨b, off, ha', hlt, hc⟩ := h5 hn
 exact ⟨b, off, ha', Nat.lt_of_lt_of_le hlt hb.size, fun j u hj => zam hb (ha _ ha') (hc j u hj)⟩
theorem Row.lt {w : World} {sz : Nat} {a : Option Addr} {n cap : Nat} {xs : List Value} (h : Row w sz a n cap xs) (hn : 0 < n) : ∀ x, a = some x → x.block < w.heap.size := by
 obtain ⟨b, off, ha, hlt, _⟩ := h.2.2.2.2 hn
 intro x hx
 rw [ha] at hx; cases hx; exact hlt
end Go.Proofs.YtkikhmdpcanidaaGreat
namespace Go.Proofs.YtkikhmdpcanidaaGreat
open Go.RowKit Go.Sort
structure SB {α : Type} (enc : α → Value) (w0 : World) (g : Nat) (t : TypeId) (rest : List Value) (d : Array α) (w : World) : Prop where
 grown : w0.grownBy w (some g)
 blk : w.heap[g]? = some (.cells (d.toList.map enc ++ rest).toArray t (0, 0))
section
variable {α : Type} {enc : α → Value} {w0 w : World} {g : Nat} {t : TypeId} {rest : List Value} {d : Array α}
theorem SB.cell [Inhabited α] (h : SB enc w0 g t rest d w) (i : Nat) (hi : i < d.size) : w.cell? ⟨g, i, none⟩ = some (enc d[i]!) := by
 rw [cell_of_row w g i _ t (0, 0) h.blk]
 simp [List.getElem?_append, hi]
theorem SB.free (h : SB enc w0 g t rest d w) (i : Nat) : w.frozen? ⟨g, i, none⟩ = false := frozen_of_row w g i _ t h.blk
theorem SB.drewN (h : SB enc w0 g t rest d w) (n : Nat) : SB enc w0 g t rest d (w.drewN n) := ⟨⟨h.grown.os, h.grown.tape, h.grown.output, h.grown.size, h.grown.block⟩, h.blk⟩
theorem za1 {w0 w : World} {g i : Nat} (h : w0.grownBy w (some g)) (v : Value) : w0.grownBy (w.setCell ⟨g, i, none⟩ v) (some g) :=
 ⟨h.os, h.tape, h.output, by simp [World.setCell]; exact h.size, fun k hk hne => by rw [heap_setCell_other w ⟨g, i, none⟩ k v (fun e => hne (by simp [e]))]; exact h.block k hk hne⟩
theorem zdc {a b c : World} {row : Option Nat} (h : a.grownBy b row) (k : b.grownBy c row) : a.grownBy c row :=
 ⟨k.os.trans h.os, k.tape.trans h.tape, k.output.trans h.output, Nat.le_trans h.size k.size, fun i hi hne => (k.block i (Nat.lt_of_lt_of_le hi h.size) hne).trans (h.block i hi hne)⟩
theorem grownBy_refl (w : World) (row : Option Nat) : w.grownBy w row := ⟨rfl, rfl, rfl, Nat.le_refl _, fun _ _ _ => rfl⟩
theorem zcl {w0 w : World} {row : Option Nat} (h : w0.grownBy w row) (n : Nat) : w0.grownBy (w.drewN n) row := ⟨h.os, h.tape, h.output, h.size, h.block⟩
theorem SB.set (h : SB enc w0 g t rest d w) (i : Nat) (hi : i < d.size) (x : α) : SB enc w0 g t rest (d.setIfInBounds i x) (w.setCell ⟨g, i, none⟩ (enc x)) := by
 refine ⟨za1 h.grown _, ?_⟩
 rw [heap_setCell_same w g i _ t _ h.blk, List.setIfInBounds_toArray, List.set_append]
 simp [hi, List.map_set]
theorem SB.swp [Inhabited α] (h : SB enc w0 g t rest d w) (i j : Nat) (hi : i < d.size) (hj : j < d.size) (q : Nat) :
   SB enc w0 g t rest (swp d i j) (((w.drewN q).setCell ⟨g, i, none⟩ (enc d[j]!)).setCell ⟨g, j, none⟩ (enc d[i]!)) :=
 ((h.drewN q).set i hi _).set j (by simpa using hj) _
theorem SB.row (h : SB enc w0 g t rest d w) {cap : Nat} (h1 : d.size ≤ cap) (h2 : cap ≤ maxLen) : Row w 1 (some ⟨g, 0, none⟩) d.size cap (d.toList.map enc) := by
 refine ⟨by simp, h1, h2, fun e => (by cases e), fun _ => ⟨g, 0, rfl, (Array.getElem?_eq_some_iff.1 h.blk).1, fun j u hj => ?_⟩⟩
 rw [Nat.zero_add, cell_of_row w g j _ t (0, 0) h.blk]
 have hjl := (List.getElem?_eq_some_iff.1 hj).1
 rw [List.getElem?_toArray, List.getElem?_append_left hjl]; exact hj
theorem SB.start {cs : Array Value} {n : Nat} (hb : w.heap[g]? = some (.cells cs t (0, 0))) (hx : cs.toList.take n = d.toList.map enc) : SB enc w g t (cs.toList.drop n) d w :=
 ⟨⟨rfl, rfl, rfl, Nat.le_refl _, fun _ _ _ => rfl⟩, by rw [← hx, List.take_append_drop]; exact hb⟩
end
structure CmpQ {α : Type} (P : Program) (f : FuncId) (cb : Array Value) (enc : α → Value) (cf : α → α → Int) (D : α → Prop) (w0 : World) (g : Nat) : Prop where
 enters : ∀ args w, (callFunc f args).run P w = .ok (.enter f args) w
 calls : ∀ W, w0.grownBy W (some g) → ∀ x y, D x → D y → Calls P f (#[enc x, enc y] ++ cb) W fun e w' => e = .returned (.int .i64 (cf x y)) ∧ ∃ q, w' = W.drewN q
def ltOf {α : Type} (cf : α → α → Int) (x y : α) : Bool := decide (cf x y < 0)
section
variable {α : Type} [Inhabited α] (lt : α → α → Bool)
theorem inner_go (a j : Nat) (d : Array α) (hj : a < j) (hl : lt d[j]! d[j - 1]! = true) : insInner lt a j d = insInner lt a (j - 1) (swp d j (j - 1)) := by
 rcases j with _ | k
 · omega
 · have h1 : (decide (k + 1 > a) && lt d[k + 1]! d[k]!) = true := by simp only [Nat.add_sub_cancel] at hl; simp [hl, hj]
   rw [insInner, if_pos h1]; rfl
theorem zcP (a j : Nat) (d : Array α) (h : j ≤ a ∨ lt d[j]! d[j - 1]! = false) : insInner lt a j d = d := by
 rcases j with _ | k
 · rfl
 · rw [insInner, if_neg]
   simp only [Nat.add_sub_cancel] at h
   rcases h with h | h
   · simp; omega
   · simp [h]
theorem zcH (a b i : Nat) (d : Array α) (h : i < b) : insOuter lt a b i d = insOuter lt a b (i + 1) (insInner lt a i d) := by rw [insOuter, if_pos h]
theorem zbJ (a b i : Nat) (d : Array α) (h : ¬ i < b) : insOuter lt a b i d = d := by rw [insOuter, if_neg h]
end
end Go.Proofs.YtkikhmdpcanidaaGreat
namespace Go.Proofs.YtkikhmdpcanidaaGreat
open Go.RowKit Go.Sort
theorem ins_any {α : Type} [Inhabited α] (enc : α → Value) (hE : ∀ x, ∃ n, enc x = .int .i64 n) (cf : α → α → Int) (D : α → Prop) (f : FuncId) (cb : Array Value) (g cap a b : Nat) (rest : List Value) (d : Array α) (w0 w : World)
   (hC : CmpQ Tryz.prog f cb enc cf D w0 g) (hS : SB enc w0 g 3 rest d w) (hD : ∀ i, i < d.size → D d[i]!) (hab : a ≤ b) (hb : b ≤ d.size) (hsz : d.size < 4611686018427387904) :
   Calls Tryz.prog 137 #[.slice (some ⟨g, 0, none⟩) d.size cap, .int .i64 a, .int .i64 b, .func (.func f) #[] cb] w fun e w' => e = .returned (.tuple #[]) ∧ SB enc w0 g 3 rest (Sort.insertionSort (ltOf cf) d a b) w' := by
 have eg := hC.enters
 have HC := Lib.hid hC
 have HS := Lib.hid hS
 have HD := Lib.hid hD
 clear hC hS hD
 go_enter Tryz.func137, Tryz.ntmps137
 go_wp2
 go_loopw [8] (fun vi wr => ∃ (i : Nat) (dk : Array α), vi = .int .i64 i ∧ a < i ∧ i ≤ b + 1 ∧ dk.size = d.size ∧ Hid (SB enc w0 g 3 rest dk wr) ∧ Hid (∀ i, i < dk.size → D dk[i]!) ∧
     Hid (insOuter (ltOf cf) a b i dk = insOuter (ltOf cf) a b (a + 1) d)) (fun vi _ => b + 1 - (intOf vi).toNat)
 case atStart => exact ⟨a + 1, d, by go_num, by omega, by omega, rfl, HS, HD, rfl⟩
 case round =>
   obtain ⟨i, dk, rfl, hai, hib, hsk, HSk, HDk, HO⟩ := hrel
   clear HS
   by_cases hlt : i < b
   · go_wp2
     go_loopw [9] (fun vj wr2 => ∃ (j : Nat) (dj : Array α), vj = .int .i64 j ∧ a ≤ j ∧ j ≤ i ∧ dj.size = d.size ∧ Hid (SB enc w0 g 3 rest dj wr2) ∧ Hid (∀ i, i < dj.size → D dj[i]!) ∧
         Hid (insInner (ltOf cf) a j dj = insInner (ltOf cf) a i dk)) (fun vj _ => (intOf vj).toNat)
     case atStart => exact ⟨i, dk, rfl, by omega, Nat.le_refl _, hsk, HSk, HDk, rfl⟩
     case round =>
       obtain ⟨j, dj, rfl, haj, hji, hsj, HSj, HDj, HI⟩ := hrel
       clear HSk HDk
       by_cases hja : a < j
       · have hc1 := HSj.out.cell j (by omega)
         have hc2 := HSj.out.cell (j - 1) (by omega)
         have hf1 := HSj.out.free j
         have hf2 := HSj.out.free (j - 1)
         have hcall := fun q => HC.out.calls (wr.drewN q) (HSj.out.drewN q).grown dj[j]! dj[j-1]! (HDj.out j (by omega)) (HDj.out (j - 1) (by omega))
         obtain ⟨X, hX⟩ : ∃ X, X = dj[j]! := ⟨_, rfl⟩
         obtain ⟨Y, hY⟩ : ∃ Y, Y = dj[j-1]! := ⟨_, rfl⟩
         rw [← hX] at hc1 hcall
         rw [← hY] at hc2 hcall
         have HX := Lib.hid hX
         have HY := Lib.hid hY
         obtain ⟨x, hx⟩ := hE X
         obtain ⟨y, hy⟩ := hE Y
         rw [hx] at hc1 hcall
         rw [hy] at hc2 hcall
         have HCALL := Lib.hid hcall
         have HEx := Lib.hid hx
         have HEy := Lib.hid hy
         clear hcall hx hy hX hY
         have hj1 : (0 : Int) ≤ (j : Int) - 1 := by omega
         have hj2 : ((j : Int) - 1).toNat = j - 1 := by omega
         have hjd : j < d.size := by omega
         have hjd1 : (j : Int) < (d.size : Int) := by omega
         have out : ltOf cf X Y = false → ∀ q, ∃ i' dk', Value.int .i64 ((i : Int) + 1) = .int .i64 (i' : Nat) ∧ a < i' ∧ i' ≤ b + 1 ∧ dk'.size = d.size ∧ Hid (SB enc w0 g 3 rest dk' (wr.drewN q)) ∧ Hid (∀ i, i < dk'.size → D dk'[i]!) ∧ Hid (insOuter (ltOf cf) a b i' dk' = insOuter (ltOf cf) a b (a + 1) d) :=
           fun hl q => ⟨i + 1, dj, by go_num, by omega, by omega, hsj, HSj.out.drewN q, HDj, by rw [← HO.out, zcH _ _ _ _ _ hlt, ← HI.out, zcP _ _ _ _ (.inr (by rw [← HX.out, ← HY.out]; exact hl))]; exact Lib.hid rfl⟩
         have OUT := Lib.hid out
         clear out
         by_cases hcf : cf X Y < 0
         · have hl : ltOf cf X Y = true := by simpa [ltOf] using hcf
           have HL := Lib.hid hl
           clear hl
           go_wp2_with fail
           go_quiet ((refine Calls.quiet_of (HCALL.out _)))
           go_wp2
           go_region
           all_goals go_wp2
           go_roundw
           case rel =>
             refine ⟨j - 1, swp dj j (j - 1), by congr 1; omega, by omega, by omega, by rw [size_swp]; exact hsj, ?_, ?_, ?_⟩
             · have hw := HSj.out.swp j (j - 1) (by omega) (by omega) (nq + 1)
               rw [← HX.out, ← HY.out, HEx.out, HEy.out] at hw
               exact Lib.hid hw
             · exact Lib.hid (fun q hq => by
                 rw [size_swp] at hq
                 by_cases h1 : q = j
                 · subst h1; rw [swp_left _ _ _ hq (by omega)]; exact HDj.out _ (by omega)
                 · by_cases h2 : q = j - 1
                   · subst h2; rw [swp_right _ _ _ hq]; exact HDj.out _ (by omega)
                   · rw [swp_other _ _ _ _ h1 h2]; exact HDj.out _ hq)
             · exact Lib.hid (by rw [← HI.out, inner_go (ltOf cf) a j dj hja (by rw [← HX.out, ← HY.out]; exact HL.out)])
           case measure => simp [intOf]; omega
         · have hl : ltOf cf X Y = false := by simpa [ltOf] using hcf
           have HL := Lib.hid hl
           clear hl
           go_wp2_with fail
           go_quiet ((refine Calls.quiet_of (HCALL.out _)))
           go_wp2
           go_roundw
           case rel => exact OUT.out HL.out nq
           case measure => simp [intOf]; omega
       · have out : ∀ q, ∃ i' dk', Value.int .i64 ((i : Int) + 1) = .int .i64 (i' : Nat) ∧ a < i' ∧ i' ≤ b + 1 ∧ dk'.size = d.size ∧ Hid (SB enc w0 g 3 rest dk' (wr.drewN q)) ∧ Hid (∀ i, i < dk'.size → D dk'[i]!) ∧ Hid (insOuter (ltOf cf) a b i' dk' = insOuter (ltOf cf) a b (a + 1) d) :=
           fun q => ⟨i + 1, dj, by go_num, by omega, by omega, hsj, HSj.out.drewN q, HDj, by rw [← HO.out, zcH _ _ _ _ _ hlt, ← HI.out, zcP _ _ _ _ (.inl (by omega))]; exact Lib.hid rfl⟩
         have OUT := Lib.hid out
         clear out
         have hja2 : decide ((a : Int) < (j : Int)) = false := by simp; omega
         go_wp2
         go_quiet (fail)
         go_wp2
         go_roundw
         case rel => exact OUT.out nq
         case measure => simp [intOf]; omega
   · go_wp2
     go_end0
     refine ⟨rfl, ?_⟩
     have e : Sort.insertionSort (ltOf cf) d a b = dk := by
       unfold Sort.insertionSort; rw [← HO.out, zbJ _ _ _ _ _ hlt]
     rw [e]
     exact HSk.out
end Go.Proofs.YtkikhmdpcanidaaGreat
namespace Go.Proofs.YtkikhmdpcanidaaGreat
open Go.RowKit Go.Sort
variable {α : Type} [Inhabited α]
theorem inner_eq (lt1 lt2 : α → α → Bool) (a : Nat) : ∀ (j : Nat) (d : Array α), j < d.size → (∀ p, a ≤ p → p < j → lt1 d[j]! d[p]! = lt2 d[j]! d[p]!) → insInner lt1 a j d = insInner lt2 a j d
 | 0, d, _, _ => rfl
 | j + 1, d, hj, h => by
   rw [insInner, insInner]
   by_cases hja : j + 1 > a
   · rw [h j (by omega) (by omega)]
     have ih := inner_eq lt1 lt2 a j (swp d (j + 1) j) (by rw [size_swp]; omega) (fun p hp hpj => by
       rw [swp_right d (j + 1) j (by omega), swp_other d (j + 1) j p (by omega) (by omega)]
       exact h p hp (by omega))
     rw [ih]
   · simp [hja]
theorem outer_eq (lt1 lt2 : α → α → Bool) (hS : SWO lt2) (a b : Nat) (d0 : Array α) (hb : b ≤ d0.size) (h : ∀ p q, a ≤ p → p < q → q < b → lt1 d0[q]! d0[p]! = lt2 d0[q]! d0[p]!) :
   ∀ (n i : Nat) (d : Array α), b - i = n → a < i → PermIn a i d0 d → SortedIn lt2 a i d → insOuter lt1 a b i d = insOuter lt2 a b i d
 | 0, i, d, hn, _, _, _ => by rw [zbJ _ _ _ _ _ (by omega), zbJ _ _ _ _ _ (by omega)]
 | n + 1, i, d, hn, hai, hP, hs => by
   have hib : i < b := by omega
   have e : insInner lt1 a i d = insInner lt2 a i d := inner_eq lt1 lt2 a i d (by rw [hP.1]; omega) (fun p hp hpi => by
     rw [hP.2.1 i (by omega)]
     exact permIn_all d0 d a i (fun x => lt1 d0[i]! x = lt2 d0[i]! x) (by omega) hP (fun q hq hqi => h q i hq hqi hib) p hp hpi)
   have h1 := insInner_spec hS swp_permIn permIn_refl permIn_trans a b i hib i d (by omega) (Nat.le_refl _) (by rw [hP.1]; exact hb) ⟨fun p q hap hpq hqi _ hq => hs p q hap hpq (by omega), fun q h1 h2 => by omega⟩
   rw [zcH _ _ _ _ _ hib, zcH _ _ _ _ _ hib, e]
   have hP1 := insInner_spec hS swp_permIn permIn_refl permIn_trans a (i + 1) i (by omega) i d (by omega) (Nat.le_refl _) (by rw [hP.1]; omega) ⟨fun p q hap hpq hqi _ hq => hs p q hap hpq (by omega), fun q h1 h2 => by omega⟩
   refine outer_eq lt1 lt2 hS a b d0 hb h n (i + 1) _ (by omega) (by omega) (permIn_trans _ _ _ _ _ (permIn_mono d0 d a i a (i + 1) (by omega) (by omega) (by omega) hP) hP1.1) hP1.2
theorem zcN (lt1 lt2 : α → α → Bool) (hS : SWO lt2) (a b : Nat) (d : Array α) (hab : a ≤ b) (hb : b ≤ d.size) (h : ∀ p q, a ≤ p → p < q → q < b → lt1 d[q]! d[p]! = lt2 d[q]! d[p]!) :
   PermIn a b d (Sort.insertionSort lt1 d a b) ∧ SortedIn lt2 a b (Sort.insertionSort lt1 d a b) := by
 have e : Sort.insertionSort lt1 d a b = Sort.insertionSort lt2 d a b := by
   unfold Sort.insertionSort
   by_cases hb2 : a + 1 ≤ b
   · exact outer_eq lt1 lt2 hS a b d hb h _ (a + 1) d rfl (by omega) (permIn_refl _ _ _) (fun i j h1 h2 h3 => by omega)
   · rw [zbJ _ _ _ _ _ (by omega), zbJ _ _ _ _ _ (by omega)]
 rw [e]
 exact insertionSort_holds hS d a b hab hb
end Go.Proofs.YtkikhmdpcanidaaGreat
namespace Go.Proofs.YtkikhmdpcanidaaGreat
open Go.RowKit Go.Sort
theorem stable_nil (fv : Value) (w : World) : Calls Tryz.prog 111 #[.slice none 0 0, fv] w fun e w' => e = .returned (.tuple #[]) ∧ w = w' := by
 go_enter Tryz.func111, Tryz.ntmps111
 go_wp2
 refine wp_loop_once ?_
 go_wp2
 refine wp_loop_once ?_
 go_wp2
 go_end0
 go_wp2
 refine wp_loop_once ?_
 go_wp2
 go_end0
 go_wp2
 go_end0
 exact ⟨rfl, rfl⟩
end Go.Proofs.YtkikhmdpcanidaaGreat
namespace Go.Proofs.YtkikhmdpcanidaaGreat
theorem zaO {α : Type} (d : α) (l : List α) (k : Nat) (h : k < l.length) : l.take (k + 1) = l.take k ++ [l.getD k d] := by
 rw [List.take_succ_eq_append_getElem h]; simp [List.getD, h]
def hby (n : Int) : Int := 32768 / 2 ^ n.toNat
def hadd (s n : Int) : Int := if 0 < n then s + hby n else s
def hsum (l : List Int) : Int := l.foldl hadd 0
def hok (l : List Int) : Bool := l.all fun n => decide (0 ≤ n) && decide (n ≤ 15)
def zas (l : List Int) : Int := if l.length = 0 ∨ 320 < l.length ∨ hok l = false then -1 else if 32768 < hsum l then -1 else hsum l
theorem hby_bd (n : Int) : 0 ≤ hby n ∧ hby n ≤ 32768 := by
 unfold hby
 have h : (0 : Int) < 2 ^ n.toNat := Int.pow_pos (by omega)
 exact ⟨Int.ediv_nonneg (by omega) (by omega), Int.ediv_le_self _ (by omega)⟩
theorem zcv (l : List Int) (x : Int) : hsum (l ++ [x]) = hadd (hsum l) x := by simp [hsum]
theorem hadd_bd (s n : Int) : s ≤ hadd s n ∧ hadd s n ≤ s + 32768 := by
 have := hby_bd n
 unfold hadd; split <;> omega
theorem zgb (l : List Int) : ∀ s : Int, s ≤ l.foldl hadd s ∧ l.foldl hadd s ≤ s + 32768 * l.length := by
 induction l with
 | nil => intro s; simp
 | cons x l ih =>
   intro s
   have h1 := hadd_bd s x
   have h2 := ih (hadd s x)
   simp only [List.foldl_cons, List.length_cons]
   omega
theorem hsum_bd (l : List Int) : 0 ≤ hsum l ∧ hsum l ≤ 32768 * l.length := by
 have := zgb l 0; unfold hsum; omega
theorem zd1 (l : List Int) (x : Int) : hok (l ++ [x]) = (hok l && (decide (0 ≤ x) && decide (x ≤ 15))) := by simp [hok]
theorem zfC {l : List Int} {k : Nat} (hk : k < l.length) (h : l.getD k 0 < 0 ∨ 15 < l.getD k 0) : hok l = false := by
 simp only [hok, List.all_eq_false]
 refine ⟨l[k], List.getElem_mem _, ?_⟩
 simp [List.getD, hk] at h
 simp
 omega
theorem zbf {l : List Int} (h : hok l = true) : ∀ x ∈ l, 0 ≤ x ∧ x ≤ 15 := by
 simpa [hok] using h
theorem zar {l : List Int} (h : 0 ≤ zas l) : l.length ≠ 0 ∧ l.length ≤ 320 ∧ hok l = true ∧ hsum l ≤ 32768 := by
 unfold zas at h
 split at h
 · omega
 · rename_i h1
   split at h
   · omega
   · simp only [not_or] at h1
     exact ⟨h1.1, by omega, by simpa using h1.2.2, by omega⟩
theorem halve (j : Nat) : (32768 : Int) / 2 ^ (j + 1) = (32768 / 2 ^ j) / 2 := by
 rw [Int.pow_succ, Int.ediv_ediv_of_nonneg (Int.pow_nonneg (by omega))]
def cn (l : List Int) (m : Nat) : Int := if m = 0 then 0 else ((l.filter fun x => x == (m : Int)).length : Nat)
theorem zbA (l : List Int) (x : Int) (m : Nat) (hx : 0 ≤ x) : cn (l ++ [x]) m = cn l m + if 0 < x ∧ m = x.toNat then 1 else 0 := by
 unfold cn
 by_cases hm : m = 0
 · subst hm; simp; omega
 · rw [if_neg hm, if_neg hm, List.filter_append]
   by_cases h : x = (m : Int)
   · subst h
     simp
     omega
   · have h2 : ¬ (0 < x ∧ m = x.toNat) := by omega
     simp [h, h2]
theorem zcX (l : List Int) (m : Nat) : 0 ≤ cn l m ∧ cn l m ≤ l.length := by
 unfold cn
 have := List.length_filter_le (fun x => x == (m : Int)) l
 split <;> omega
theorem zcJ (l : List Int) (k m : Nat) : cn (l.take k) m ≤ cn l m := by
 unfold cn
 split
 · omega
 · have := ((List.take_sublist k l).filter (fun x => x == (m : Int))).length_le
   omega
theorem cn_lt {l : List Int} {k m : Nat} (hk : k < l.length) (hm : 0 < m) (h : l.getD k 0 = (m : Int)) : cn (l.take k) m + 1 ≤ cn l m := by
 have h1 := zcJ l (k + 1) m
 rw [zaO 0 l k hk, zbA _ _ _ (by omega), if_pos (by omega)] at h1
 exact h1
def zaz (c : Nat → Int) : Nat → Int
 | 0 => 0
 | n + 1 => (zaz c n + c n) * 2
theorem zdN (c : Nat → Int) (h : ∀ m, 0 ≤ c m) : ∀ n, 0 ≤ zaz c n
 | 0 => by simp [zaz]
 | n + 1 => by have := zdN c h n; have := h n; simp only [zaz]; omega
def weigh (c : Nat → Int) : Int := 16384 * c 1 + 8192 * c 2 + 4096 * c 3 + 2048 * c 4 + 1024 * c 5 + 512 * c 6 + 256 * c 7 + 128 * c 8 + 64 * c 9 + 32 * c 10 + 16 * c 11 + 8 * c 12 + 4 * c 13 + 2 * c 14 + c 15
theorem case15 {x : Int} (h0 : 0 < x) (h : x ≤ 15) : x = 1 ∨ x = 2 ∨ x = 3 ∨ x = 4 ∨ x = 5 ∨ x = 6 ∨ x = 7 ∨ x = 8 ∨ x = 9 ∨ x = 10 ∨ x = 11 ∨ x = 12 ∨ x = 13 ∨ x = 14 ∨ x = 15 := by omega
theorem weigh_snoc (l : List Int) (x : Int) (h0 : 0 ≤ x) (h : x ≤ 15) : weigh (cn (l ++ [x])) = weigh (cn l) + (if 0 < x then hby x else 0) := by
 unfold weigh
 simp only [zbA l x _ h0]
 by_cases hp : 0 < x
 · rcases case15 hp h with rfl | rfl | rfl | rfl | rfl | rfl | rfl | rfl | rfl | rfl | rfl | rfl | rfl | rfl | rfl <;> simp [hby] <;> omega
 · simp [hp]
theorem hsum_weigh (l : List Int) (h : hok l = true) : hsum l = weigh (cn l) := by
 have key : ∀ k, k ≤ l.length → hsum (l.take k) = weigh (cn (l.take k)) := by
   intro k
   induction k with
   | zero => intro _; simp [hsum, weigh, cn]
   | succ k ih =>
     intro hk
     have hx := zbf h (l.getD k 0) (by simp [List.getD, show k < l.length by omega])
     rw [zaO 0 l k (by omega), zcv, weigh_snoc _ _ hx.1 hx.2, ih (by omega)]
     unfold hadd; split <;> omega
 have := key l.length (Nat.le_refl _)
 simpa using this
theorem fcode_weigh (c : Nat → Int) (h0 : c 0 = 0) (hc : ∀ m, 0 ≤ c m) (hw : weigh c ≤ 32768) (n : Nat) (hn : n ≤ 15) : (zaz c n + c n) * 2 ^ (15 - n) ≤ 32768 := by
 unfold weigh at hw
 have h1 := hc 1; have h2 := hc 2; have h3 := hc 3; have h4 := hc 4; have h5 := hc 5; have h6 := hc 6; have h7 := hc 7; have h8 := hc 8; have h9 := hc 9
 have h10 := hc 10; have h11 := hc 11; have h12 := hc 12; have h13 := hc 13; have h14 := hc 14; have h15 := hc 15
 rcases (by omega : n = 0 ∨ n = 1 ∨ n = 2 ∨ n = 3 ∨ n = 4 ∨ n = 5 ∨ n = 6 ∨ n = 7 ∨ n = 8 ∨ n = 9 ∨ n = 10 ∨ n = 11 ∨ n = 12 ∨ n = 13 ∨ n = 14 ∨ n = 15) with
   rfl | rfl | rfl | rfl | rfl | rfl | rfl | rfl | rfl | rfl | rfl | rfl | rfl | rfl | rfl | rfl <;> simp only [zaz, h0] <;> omega
theorem zbt {l : List Int} (h : 0 ≤ zas l) (n : Nat) (hn : n ≤ 15) : 0 ≤ zaz (cn l) n ∧ zaz (cn l) n + cn l n ≤ 2 ^ n := by
 obtain ⟨_, _, h3, h4⟩ := zar h
 refine ⟨zdN _ (fun m => (zcX l m).1) n, ?_⟩
 have h5 := fcode_weigh (cn l) (by simp [cn]) (fun m => (zcX l m).1) (by rw [← hsum_weigh l h3]; exact h4) n hn
 rcases (by omega : n = 0 ∨ n = 1 ∨ n = 2 ∨ n = 3 ∨ n = 4 ∨ n = 5 ∨ n = 6 ∨ n = 7 ∨ n = 8 ∨ n = 9 ∨ n = 10 ∨ n = 11 ∨ n = 12 ∨ n = 13 ∨ n = 14 ∨ n = 15) with
   rfl | rfl | rfl | rfl | rfl | rfl | rfl | rfl | rfl | rfl | rfl | rfl | rfl | rfl | rfl | rfl <;> omega
theorem zca {n : Nat} (hn : n ≤ 15) : (2 : Int) ^ n ≤ 32768 := by
 rcases (by omega : n = 0 ∨ n = 1 ∨ n = 2 ∨ n = 3 ∨ n = 4 ∨ n = 5 ∨ n = 6 ∨ n = 7 ∨ n = 8 ∨ n = 9 ∨ n = 10 ∨ n = 11 ∨ n = 12 ∨ n = 13 ∨ n = 14 ∨ n = 15) with
   rfl | rfl | rfl | rfl | rfl | rfl | rfl | rfl | rfl | rfl | rfl | rfl | rfl | rfl | rfl | rfl <;> omega
def zay (l : List Int) (k : Nat) : Int := if 0 < l.getD k 0 then zaz (cn l) (l.getD k 0).toNat + cn (l.take k) (l.getD k 0).toNat else 0
theorem zcw {l : List Int} (h : 0 ≤ zas l) (k : Nat) : 0 ≤ zay l k ∧ zay l k ≤ 32768 := by
 unfold zay
 split
 · rename_i hp
   obtain ⟨_, _, h3, _⟩ := zar h
   by_cases hk : k < l.length
   · have hx := zbf h3 (l.getD k 0) (by simp [List.getD, hk])
     have h1 := zbt h (l.getD k 0).toNat (by omega)
     have h2 := zcJ l k (l.getD k 0).toNat
     have h4 := (zcX (l.take k) (l.getD k 0).toNat).1
     have h5 := zca (n := (l.getD k 0).toNat) (by omega)
     omega
   · simp [List.getD, hk] at hp
 · omega
end Go.Proofs.YtkikhmdpcanidaaGreat
namespace Go.Proofs.YtkikhmdpcanidaaGreat
open Go.Sort
def ats (l : List Int) : Nat → Int
 | 0 => 0
 | n + 1 => ats l n + cn l n
theorem zcI (l : List Int) (n : Nat) : ∀ m, n ≤ m → ats l n ≤ ats l m
 | 0, h => by obtain rfl : n = 0 := by omega
              exact Int.le_refl _
 | m + 1, h => by
   by_cases e : n = m + 1
   · subst e; exact Int.le_refl _
   · have := zcI l n m (by omega)
     have := (zcX l m).1
     simp only [ats]; omega
theorem ats_nonneg (l : List Int) (n : Nat) : 0 ≤ ats l n := zcI l 0 n (Nat.zero_le _)
def zbp (l : List Int) (n : Nat) : Bool := l.any fun x => decide ((n : Int) ≤ x)
theorem cn_pos {l : List Int} {m : Nat} (hm : 0 < m) (h : (m : Int) ∈ l) : 1 ≤ cn l m := by
 obtain ⟨k, hk, he⟩ := List.mem_iff_getElem.1 h
 have := cn_lt (l := l) (k := k) (m := m) hk hm (by simp [List.getD, hk, he])
 have := (zcX (l.take k) m).1
 omega
theorem cn_zero {l : List Int} {m : Nat} (h : ¬ (m : Int) ∈ l) : cn l m = 0 := by
 unfold cn
 split
 · rfl
 · have : l.filter (fun x => x == (m : Int)) = [] := by
     rw [List.filter_eq_nil_iff]
     intro x hx
     simp
     intro e; subst e; exact h hx
   simp [this]
theorem ats_long {l : List Int} (hok1 : hok l = true) {n : Nat} (hn : 1 ≤ n) (hn2 : n ≤ 16) : (ats l n = ats l 16) ↔ zbp l n = false := by
 constructor
 · intro h
   rw [zbp, List.any_eq_false]
   intro x hx
   have hx15 := zbf hok1 x hx
   simp
   refine Int.not_le.1 fun hnx => ?_
   have hp := cn_pos (l := l) (m := x.toNat) (by omega) (by rw [Int.toNat_of_nonneg hx15.1]; exact hx)
   have h1 := zcI l n x.toNat (by omega)
   have h2 := zcI l (x.toNat + 1) 16 (by omega)
   rw [show ats l (x.toNat + 1) = ats l x.toNat + cn l x.toNat from rfl] at h2
   omega
 · intro h
   rw [zbp, List.any_eq_false] at h
   have key : ∀ m, n ≤ m → m ≤ 16 → ats l m = ats l n := by
     intro m
     induction m with
     | zero => intro h1 _; obtain rfl : n = 0 := by omega
               rfl
     | succ m ih =>
       intro h1 h2
       by_cases e : n = m + 1
       · subst e; rfl
       · simp only [ats]
         rw [ih (by omega) (by omega), cn_zero (fun hm => by have := h _ hm; simp at this; omega)]
         omega
   exact (key 16 hn2 (Nat.le_refl _)).symm
def zbo (l : List Int) (n : Nat) (x : Int) : Option Nat := (List.range l.length).find? fun k => l.getD k 0 == (n : Int) && zay l k == x
theorem zc2 {l : List Int} {n : Nat} (hn : 0 < n) : ∀ (N : Nat), N ≤ l.length → ∀ r : Int, 0 ≤ r → r < cn (l.take N) n → ∃ k, k < N ∧ l.getD k 0 = (n : Int) ∧ cn (l.take k) n = r
 | 0, _, r, h0, h => by simp [cn] at h; omega
 | N + 1, hN, r, h0, h => by
   rw [zaO 0 l N (by omega)] at h
   by_cases he : l.getD N 0 = (n : Int)
   · rw [zbA _ _ _ (by omega), if_pos (by omega)] at h
     by_cases hr : r < cn (l.take N) n
     · obtain ⟨k, hk, h1, h2⟩ := zc2 hn N (by omega) r h0 hr
       exact ⟨k, by omega, h1, h2⟩
     · exact ⟨N, by omega, he, by omega⟩
   · have hr : r < cn (l.take N) n := by
       have e : cn (l.take N ++ [l.getD N 0]) n = cn (l.take N) n := by
         unfold cn
         rw [if_neg (by omega), if_neg (by omega), List.filter_append]
         have : ¬ (l.getD N 0 == (n : Int)) = true := by simpa using he
         simp only [List.getD] at this
         simp [this]
       omega
     obtain ⟨k, hk, h1, h2⟩ := zc2 hn N (by omega) r h0 hr
     exact ⟨k, by omega, h1, h2⟩
theorem cn_take_mono (l : List Int) (n : Nat) {j k : Nat} (h : j ≤ k) : cn (l.take j) n ≤ cn (l.take k) n := by
 have := zcJ (l.take k) j n
 rwa [List.take_take, Nat.min_eq_left h] at this
theorem findSym_some {l : List Int} {n : Nat} {x : Int} (hn : 0 < n) (h0 : zaz (cn l) n ≤ x) (h1 : x - zaz (cn l) n < cn l n) :
   ∃ k, zbo l n x = some k ∧ k < l.length ∧ l.getD k 0 = (n : Int) ∧ cn (l.take k) n = x - zaz (cn l) n := by
 obtain ⟨k, hk, hl, hc⟩ := zc2 (l := l) hn l.length (Nat.le_refl _) (x - zaz (cn l) n) (by omega) (by rw [List.take_length]; exact h1)
 have hkx : zay l k = x := by unfold zay; rw [if_pos (by omega), hl]; simp only [Int.toNat_natCast]; omega
 have hs : (zbo l n x).isSome := by
   rw [zbo, List.find?_isSome]
   exact ⟨k, by simpa using hk, by simp only [hl, hkx]; simp⟩
 obtain ⟨k', hk'⟩ := Option.isSome_iff_exists.1 hs
 have hp := List.find?_some hk'
 have hm := List.mem_of_find?_eq_some hk'
 simp only [Bool.and_eq_true, beq_iff_eq] at hp
 have hc' : cn (l.take k') n = x - zaz (cn l) n := by
   have := hp.2
   unfold zay at this
   rw [if_pos (by omega), hp.1] at this
   simp only [Int.toNat_natCast] at this
   omega
 exact ⟨k', hk', by simpa using hm, hp.1, hc'⟩
theorem findSym_none {l : List Int} {n : Nat} {x : Int} (hn : 0 < n) (h : ¬ (zaz (cn l) n ≤ x ∧ x - zaz (cn l) n < cn l n)) : zbo l n x = none := by
 rw [zbo, List.find?_eq_none]
 intro k hk
 simp only [Bool.and_eq_true, beq_iff_eq, not_and]
 intro hl hc
 apply h
 have hkl : k < l.length := by simpa using hk
 have h1 := cn_lt hkl hn hl
 have h2 := (zcX (l.take k) n).1
 unfold zay at hc
 rw [if_pos (by omega), hl] at hc
 simp only [Int.toNat_natCast] at hc
 omega
def valN (f : Nat → Bool) : Nat → Nat
 | 0 => 0
 | n + 1 => 2 * valN f n + if f n then 1 else 0
theorem zge (f : Nat → Bool) : ∀ n, valN f n < 2 ^ n
 | 0 => by simp [valN]
 | n + 1 => by have := zge f n; simp only [valN, Nat.pow_succ]; split <;> omega
def za7 (l : List Int) (f : Nat → Bool) (left : Nat) : Nat → Nat → Nat × Nat × Int
 | 0, n => (0, n - 1, 13)
 | fuel + 1, n =>
   if zbp l n = false then (0, n - 1, 13) else
   if left < n then (0, n - 1, 10) else
   match zbo l n (valN f n) with
   | some k => (k, n, 0)
   | none => za7 l f left fuel (n + 1)
def zbF (l : List Int) (f : Nat → Bool) (left : Nat) : Nat × Nat × Int := za7 l f left 15 1
structure SrtOf (l srt : List Int) : Prop where
 len : (srt.length : Int) = ats l 16
 at_ : ∀ k, k < l.length → 0 < l.getD k 0 → srt.getD (ats l (l.getD k 0).toNat + cn (l.take k) (l.getD k 0).toNat).toNat 0 = (k : Int)
def zaf (l : List Int) (N : Nat) : List Int := ((List.range N).filter fun k => decide (0 < l.getD k 0)).map fun (k : Nat) => (k : Int)
theorem zc6 (l : List Int) (N : Nat) : zaf l (N + 1) = zaf l N ++ if 0 < l.getD N 0 then [(N : Int)] else [] := by
 unfold zaf
 rw [List.range_succ, List.filter_append, List.map_append]
 by_cases h : 0 < l.getD N 0
 · simp only [if_pos h]; simp only [List.getD] at h; simp [h]
 · simp only [if_neg h]; simp only [List.getD] at h; simp [h]
def zbD (l : List Int) (x y : Int) : Bool := decide (l.getD x.toNat 0 < l.getD y.toNat 0) || (decide (l.getD x.toNat 0 = l.getD y.toNat 0) && decide (x < y))
theorem zcc (l : List Int) : SWO (zbD l) := by
 refine ⟨fun x => ?_, fun x y z h1 h2 => ?_, fun x y z h1 h2 => ?_⟩
 · simp [zbD]
 · simp only [zbD, Bool.or_eq_true, Bool.and_eq_true, decide_eq_true_eq] at *; omega
 · simp only [zbD, Bool.or_eq_false_iff, Bool.and_eq_false_iff, decide_eq_false_iff_not] at *; omega
theorem zcO {l : List Int} {N : Nat} {x : Int} : x ∈ zaf l N ↔ ∃ k : Nat, k < N ∧ 0 < l.getD k 0 ∧ x = (k : Int) := by
 simp only [zaf, List.mem_map, List.mem_filter, List.mem_range, decide_eq_true_eq]
 constructor
 · rintro ⟨k, ⟨h1, h2⟩, rfl⟩; exact ⟨k, h1, h2, rfl⟩
 · rintro ⟨k, h1, h2, rfl⟩; exact ⟨k, ⟨h1, h2⟩, rfl⟩
theorem zfN (l : List Int) (x : Int) (hx : 0 ≤ x) : ∀ L : Nat, ats (l ++ [x]) L = ats l L + if 0 < x ∧ x < (L : Int) then 1 else 0
 | 0 => by simp [ats]; omega
 | L + 1 => by
   simp only [ats]
   rw [zfN l x hx L, zbA l x L hx]
   by_cases h1 : 0 < x ∧ x < (L : Int)
   · rw [if_pos h1, if_neg (by omega), if_pos (by omega)]; omega
   · by_cases h2 : 0 < x ∧ L = x.toNat
     · rw [if_neg h1, if_pos h2, if_pos (by omega)]; omega
     · rw [if_neg h1, if_neg h2, if_neg (by omega)]; omega
theorem cnt1 (X Y : Int) (b : Bool) : (((if (decide (X < Y) || decide (X = Y) && b) = true then 1 else 0 : Nat)) : Int) = if X < Y ∨ (X = Y ∧ b = true) then 1 else 0 := by
 by_cases h : X < Y
 · simp [h]
 · by_cases h' : X = Y <;> cases b <;> simp [h, h']
theorem count_one (l : List Int) (N k : Nat) : [(N : Int)].countP (fun y => zbD l y (k : Int)) = if (decide (l.getD N 0 < l.getD k 0) || decide (l.getD N 0 = l.getD k 0) && decide ((N : Int) < (k : Int))) = true then 1 else 0 := by
 rw [List.countP_cons, List.countP_nil, Nat.zero_add]; rfl
theorem zes {l : List Int} (hok1 : hok l = true) (k : Nat) (hk : k < l.length) (hp : 0 < l.getD k 0) : ∀ N, N ≤ l.length →
   (((zaf l N).countP fun y => zbD l y (k : Int) : Nat) : Int) = ats (l.take N) (l.getD k 0).toNat + cn (l.take (min N k)) (l.getD k 0).toNat
 | 0, _ => by
   have e : ats (l.take 0) (l.getD k 0).toNat = 0 := by
     have : ∀ L, ats ([] : List Int) L = 0 := by intro L; induction L with
       | zero => rfl
       | succ L ih => simp [ats, ih, cn]
     simpa using this _
   rw [e]; simp [zaf, cn]
 | N + 1, hN => by
   have ih := zes hok1 k hk hp N (by omega)
   have hx := zbf hok1 (l.getD N 0) (by simp [List.getD, show N < l.length by omega])
   rw [zc6, List.countP_append, zaO 0 l N (by omega), zfN _ _ hx.1]
   push_cast
   rw [ih]
   by_cases hNk : N < k
   · have e1 : min (N + 1) k = N + 1 := by omega
     have e2 : min N k = N := by omega
     rw [e1, e2, zaO 0 l N (by omega), zbA _ _ _ hx.1]
     by_cases hpos : 0 < l.getD N 0
     · rw [if_pos hpos]
       have e3 : (([(N : Int)].countP fun y => zbD l y (k : Int) : Nat) : Int) = if l.getD N 0 < l.getD k 0 ∨ l.getD N 0 = l.getD k 0 then 1 else 0 := by
         rw [count_one, cnt1]; simp [hNk]
       rw [e3]
       by_cases h : l.getD N 0 < l.getD k 0
       · rw [if_pos (.inl h), if_pos (by omega), if_neg (by omega)]; omega
       · by_cases h' : l.getD N 0 = l.getD k 0
         · rw [if_pos (.inr h'), if_neg (by omega), if_pos (by omega)]; omega
         · rw [if_neg (by omega), if_neg (by omega), if_neg (by omega)]; omega
     · rw [if_neg hpos, if_neg (by omega), if_neg (by omega)]; simp
   · have e1 : min (N + 1) k = k := by omega
     have e2 : min N k = k := by omega
     rw [e1, e2]
     by_cases hpos : 0 < l.getD N 0
     · rw [if_pos hpos]
       have e3 : (([(N : Int)].countP fun y => zbD l y (k : Int) : Nat) : Int) = if l.getD N 0 < l.getD k 0 then 1 else 0 := by
         rw [count_one, cnt1]; simp [hNk]
       rw [e3]
       by_cases h : l.getD N 0 < l.getD k 0
       · rw [if_pos h, if_pos (by omega)]; omega
       · rw [if_neg h, if_neg (by omega)]; omega
     · rw [if_neg hpos, if_neg (by omega)]; simp
theorem zcg {l : List Int} (hok1 : hok l = true) : ∀ N, N ≤ l.length → ((zaf l N).length : Int) = ats (l.take N) 16
 | 0, _ => by simp [zaf, ats, cn]
 | N + 1, hN => by
   have hx := zbf hok1 (l.getD N 0) (by simp [List.getD, show N < l.length by omega])
   rw [zc6, List.length_append, zaO 0 l N (by omega), zfN _ _ hx.1]
   push_cast
   rw [zcg hok1 N (by omega)]
   by_cases hpos : 0 < l.getD N 0
   · rw [if_pos hpos, if_pos (by omega)]; simp
   · rw [if_neg hpos, if_neg (by omega)]; simp
theorem zdn {α : Type} (p : α → Bool) : ∀ (R : List α) (i : Nat), i ≤ R.length → (∀ j (h : j < R.length), p R[j] = decide (j < i)) → R.countP p = i
 | [], i, h, _ => by simp at h; simp [h]
 | x :: R, 0, _, hp => by
   rw [List.countP_eq_zero]
   intro y hy
   obtain ⟨j, hj, rfl⟩ := List.mem_iff_getElem.1 hy
   rw [hp j hj]; simp
 | x :: R, i + 1, h, hp => by
   have h0 := hp 0 (by simp)
   simp only [List.getElem_cons_zero] at h0
   rw [List.countP_cons_of_pos (by rw [h0]; simp), zdn p R i (by simpa using h) (fun j hj => by
     have := hp (j + 1) (by simpa using hj)
     simpa using this)]
theorem srt_of {l : List Int} (hok1 : hok l = true) (R : Array Int) (hP : PermIn 0 (zaf l l.length).length (zaf l l.length).toArray R) (hS : SortedIn (zbD l) 0 (zaf l l.length).length R) : SrtOf l R.toList := by
 obtain ⟨hsz, _, hperm⟩ := hP
 have hsz' : R.size = (zaf l l.length).length := by simpa using hsz
 have hperm' : R.toList.Perm (zaf l l.length) := by
   have e1 : R.extract 0 (zaf l l.length).length = R := by rw [← hsz']; simp
   have e2 : (zaf l l.length).toArray.extract 0 (zaf l l.length).length = (zaf l l.length).toArray := by simp
   rw [e1, e2] at hperm
   simpa using hperm
 have hnd : (zaf l l.length).Nodup := by
   unfold zaf
   refine List.Pairwise.map _ (R := fun a b : Nat => a ≠ b) (fun a b h e => h (by omega)) ?_
   exact List.Pairwise.filter _ List.nodup_range
 have hnd' : R.toList.Nodup := hperm'.symm.nodup hnd
 have hstrict : ∀ i j (hi : i < R.toList.length) (hj : j < R.toList.length), i < j → zbD l R.toList[i] R.toList[j] = true := by
   intro i j hi hj hij
   have h1 := hS i j (Nat.zero_le _) hij (by rw [← hsz']; simpa using hj)
   have hi' : i < R.size := by simpa using hi
   have hj' : j < R.size := by simpa using hj
   simp only [getElem!_pos, hi', hj'] at h1
   have hne : R.toList[i] ≠ R.toList[j] := fun e => by
     have := (List.getElem_inj hnd').1 e
     omega
   simp only [Array.getElem_toList] at hne ⊢
   simp only [zbD, Bool.or_eq_false_iff, Bool.and_eq_false_iff, decide_eq_false_iff_not] at h1
   simp only [zbD, Bool.or_eq_true, Bool.and_eq_true, decide_eq_true_eq]
   omega
 refine ⟨?_, fun k hk hp => ?_⟩
 · rw [hperm'.length_eq, zcg hok1 _ (Nat.le_refl _), List.take_length]
 · have hmem : (k : Int) ∈ R.toList := hperm'.mem_iff.2 (zcO.2 ⟨k, hk, hp, rfl⟩)
   obtain ⟨i, hi, he⟩ := List.mem_iff_getElem.1 hmem
   have hc := zdn (fun y => zbD l y (k : Int)) R.toList i (by omega) (fun j hj => by
     by_cases hji : j < i
     · have := hstrict j i hj hi hji
       rw [he] at this
       simpa [hji] using this
     · by_cases e : j = i
       · subst e; rw [he]; simp [(zcc l).irrefl]
       · have h1 := hstrict i j hi hj (by omega)
         rw [he] at h1
         have h2 : zbD l R.toList[j] (k : Int) = false := by
           cases h3 : zbD l R.toList[j] (k : Int) with
           | false => rfl
           | true => have := (zcc l).trans _ _ _ h1 h3; rw [(zcc l).irrefl] at this; cases this
         rw [h2]; simp [hji])
   rw [hperm'.countP_eq] at hc
   have hcount := zes hok1 k hk hp l.length (Nat.le_refl _)
   rw [hc, List.take_length, Nat.min_eq_right (by omega)] at hcount
   have e : (ats l (l.getD k 0).toNat + cn (l.take k) (l.getD k 0).toNat).toNat = i := by omega
   rw [e, ← List.getElem_eq_getD (h := hi), he]
end Go.Proofs.YtkikhmdpcanidaaGreat
namespace Go.Proofs.YtkikhmdpcanidaaGreat
open Go.RowKit
theorem kraft_end {l : List Int} {n : Nat} (hl : l.length = n) (h1 : ¬ (n : Int) < 1) (h2 : ¬ 320 < (n : Int)) (hok1 : hok (l.take n) = true) :
   zas l = if 32768 < hsum (l.take n) then -1 else hsum (l.take n) := by
 subst hl
 rw [List.take_length] at hok1 ⊢
 unfold zas
 rw [if_neg (by rintro (h | h | h) <;> first | omega | simp_all)]
theorem kraft_any (a : Option Addr) (n cap : Nat) (l : List Int) (w : World) (hr : Row w 1 a n cap (l.map (Value.int .i64))) :
   Calls Tryz.prog 127 #[.slice a n cap] w fun e w' => e = .returned (.int .i64 (zas l)) ∧ w = w' := by
 have hm := hr.i64
 have hl := hr.len1
 by_cases h1 : (n : Int) < 1
 · have hv : zas l = -1 := by unfold zas; rw [if_pos (by omega)]
   have HV := Lib.hid hv; clear hv
   go_enter Tryz.func127, Tryz.ntmps127
   go_wp2
   go_ret
   exact ⟨zav HV.out.symm, rfl⟩
 by_cases h2 : 320 < (n : Int)
 · have hv : zas l = -1 := by unfold zas; rw [if_pos (by omega)]
   have HV := Lib.hid hv; clear hv
   go_enter Tryz.func127, Tryz.ntmps127
   go_wp2
   go_ret
   exact ⟨zav HV.out.symm, rfl⟩
 have HL := Lib.hid hl; clear hl
 go_enter Tryz.func127, Tryz.ntmps127
 go_wp2
 go_loop [3, 16] (fun s i => ∃ k : Nat, k ≤ n ∧ i = .int .i64 k ∧ s = .int .i64 (hsum (l.take k)) ∧ Hid (hok (l.take k) = true)) (fun s i => n - (intOf i).toNat)
 case atStart => exact ⟨0, by omega, rfl, rfl, Lib.hid rfl⟩
 case round =>
   obtain ⟨k, hk, rfl, rfl, hok1⟩ := hrel
   by_cases hlt : k < n
   · obtain ⟨b, off, rfl, hb, hc⟩ := hr.at 0 k hlt
     have hck := hc k hlt
     have hs := hsum_bd (l.take k)
     have hs2 : (l.take k).length ≤ k := List.length_take_le _ _
     have ht := zaO 0 l k (by rw [HL.out]; exact hlt)
     obtain ⟨x, hx⟩ : ∃ x, x = l.getD k 0 := ⟨_, rfl⟩
     rw [← hx] at hck ht
     have HX := Lib.hid hx
     have HT := Lib.hid ht
     clear hc hx ht
     by_cases hneg : x < 0
     · have hv : zas l = -1 := by unfold zas; rw [if_pos (.inr (.inr (zfC (k := k) (by rw [HL.out]; exact hlt) (by rw [← HX.out]; omega))))]
       have HV := Lib.hid hv; clear hv
       go_wp2
       go_ret
       exact ⟨zav HV.out.symm, rfl⟩
     by_cases h15 : 15 < x
     · have hv : zas l = -1 := by unfold zas; rw [if_pos (.inr (.inr (zfC (k := k) (by rw [HL.out]; exact hlt) (by rw [← HX.out]; omega))))]
       have HV := Lib.hid hv; clear hv
       go_wp2
       go_ret
       exact ⟨zav HV.out.symm, rfl⟩
     have hbd := hby_bd x
     unfold hby at hbd
     by_cases hp : 0 < x
     · go_wp2
       go_round
       case rel => exact ⟨k + 1, by omega, by go_num, by rw [HT.out, zcv]; unfold hadd hby; rw [if_pos hp], Lib.hid (by rw [HT.out, zd1, hok1.out]; simp; omega)⟩
       case measure => simp [intOf]; omega
     · go_wp2
       go_round
       case rel => exact ⟨k + 1, by omega, by go_num, by rw [HT.out, zcv]; unfold hadd; rw [if_neg hp], Lib.hid (by rw [HT.out, zd1, hok1.out]; simp; omega)⟩
       case measure => simp [intOf]; omega
   · obtain rfl : k = n := by omega
     have hv := kraft_end HL.out (by omega) (by omega) hok1.out
     by_cases hw : 32768 < hsum (l.take k)
     · rw [if_pos hw] at hv
       have HV := Lib.hid hv; clear hv
       go_wp2
       go_ret
       exact ⟨zav HV.out.symm, rfl⟩
     · rw [if_neg hw] at hv
       have HV := Lib.hid hv; clear hv
       go_wp2
       go_ret
       exact ⟨zav HV.out.symm, rfl⟩
theorem room_any (a : Option Addr) (n cap : Nat) (l : List Int) (w : World) (hr : Row w 1 a n cap (l.map (Value.int .i64))) :
   Calls Tryz.prog 136 #[.slice a n cap] w fun e w' => e = .returned (.int .i64 (zas l)) ∧ w = w' := by
 have hm := hr.i64
 have hl := hr.len1
 by_cases h1 : n = 0
 · have hv : zas l = -1 := by unfold zas; rw [if_pos (by omega)]
   have HV := Lib.hid hv; clear hv
   subst h1
   go_enter Tryz.func136, Tryz.ntmps136
   go_wp2
   go_ret
   exact ⟨zav HV.out.symm, rfl⟩
 have h1' : ((n : Int) == 0) = false := by simp; omega
 by_cases h2 : 320 < (n : Int)
 · have hv : zas l = -1 := by unfold zas; rw [if_pos (by omega)]
   have HV := Lib.hid hv; clear hv
   go_enter Tryz.func136, Tryz.ntmps136
   go_wp2
   go_ret
   exact ⟨zav HV.out.symm, rfl⟩
 have HL := Lib.hid hl; clear hl
 go_enter Tryz.func136, Tryz.ntmps136
 go_wp2
 go_loop [3, 4] (fun s i => ∃ k : Nat, k ≤ n ∧ i = .int .i64 k ∧ s = .int .i64 (hsum (l.take k)) ∧ Hid (hok (l.take k) = true)) (fun s i => n - (intOf i).toNat)
 case atStart => exact ⟨0, by omega, rfl, rfl, Lib.hid rfl⟩
 case round =>
   obtain ⟨k, hk, rfl, rfl, hok1⟩ := hrel
   by_cases hlt : k < n
   · obtain ⟨b, off, rfl, hb, hc⟩ := hr.at 0 k hlt
     have hck := hc k hlt
     have hs := hsum_bd (l.take k)
     have hs2 : (l.take k).length ≤ k := List.length_take_le _ _
     have ht := zaO 0 l k (by rw [HL.out]; exact hlt)
     obtain ⟨x, hx⟩ : ∃ x, x = l.getD k 0 := ⟨_, rfl⟩
     rw [← hx] at hck ht
     have HX := Lib.hid hx
     have HT := Lib.hid ht
     clear hc hx ht
     by_cases hneg : x < 0
     · have hv : zas l = -1 := by unfold zas; rw [if_pos (.inr (.inr (zfC (k := k) (by rw [HL.out]; exact hlt) (by rw [← HX.out]; omega))))]
       have HV := Lib.hid hv; clear hv
       go_wp2
       go_ret
       exact ⟨zav HV.out.symm, rfl⟩
     by_cases h15 : 15 < x
     · have hv : zas l = -1 := by unfold zas; rw [if_pos (.inr (.inr (zfC (k := k) (by rw [HL.out]; exact hlt) (by rw [← HX.out]; omega))))]
       have HV := Lib.hid hv; clear hv
       go_wp2
       go_ret
       exact ⟨zav HV.out.symm, rfl⟩
     go_wp2
     go_loop [5, 6] (fun by_ j => ∃ m : Nat, (m : Int) ≤ x ∧ j = .int .i64 m ∧ by_ = .int .i64 (32768 / 2 ^ m)) (fun _ j => x.toNat - (intOf j).toNat)
     case atStart => exact ⟨0, by omega, rfl, rfl⟩
     case round =>
       obtain ⟨m, hmx, rfl, rfl⟩ := hrel
       have hb1 := hby_bd (m : Int)
       unfold hby at hb1
       rw [Int.toNat_natCast] at hb1
       by_cases hmlt : (m : Int) < x
       · go_wp2
         go_round
         case rel => exact ⟨m + 1, by omega, by go_num, by rw [halve]⟩
         case measure => simp [intOf]; omega
       · obtain rfl : x = (m : Int) := by omega
         by_cases hp : 0 < (m : Int)
         · go_wp2
           go_round
           case rel => exact ⟨k + 1, by omega, by go_num, by rw [HT.out, zcv]; unfold hadd hby; rw [if_pos hp, Int.toNat_natCast], Lib.hid (by rw [HT.out, zd1, hok1.out]; simp; omega)⟩
           case measure => simp [intOf]; omega
         · go_wp2
           go_round
           case rel => exact ⟨k + 1, by omega, by go_num, by rw [HT.out, zcv]; unfold hadd; rw [if_neg hp], Lib.hid (by rw [HT.out, zd1, hok1.out]; simp; omega)⟩
           case measure => simp [intOf]; omega
   · obtain rfl : k = n := by omega
     have hv := kraft_end HL.out (by omega) (by omega) hok1.out
     by_cases hw : 32768 < hsum (l.take k)
     · rw [if_pos hw] at hv
       have HV := Lib.hid hv; clear hv
       go_wp2
       go_ret
       exact ⟨zav HV.out.symm, rfl⟩
     · rw [if_neg hw] at hv
       have HV := Lib.hid hv; clear hv
       go_wp2
       go_ret
       exact ⟨zav HV.out.symm, rfl⟩
theorem may_any (a : Option Addr) (n cap : Nat) (l : List Int) (w : World) (hr : Row w 1 a n cap (l.map (Value.int .i64))) :
   Calls Tryz.prog 126 #[.slice a n cap] w fun e w' => e = .returned (.bool (decide (0 ≤ zas l))) ∧ w = w' := by
 go_enter Tryz.func126, Tryz.ntmps126
 go_wp2_with (go_at_call 136; refine (room_any _ _ _ l _ hr).mono ?_; rintro e w' ⟨rfl, rfl⟩)
 go_ret
 exact ⟨rfl, rfl⟩
theorem infoA16 : (Tryz.prog.info? 152).map (·.size) = some 16 := by kernel_rfl
theorem zdY : (Tryz.prog.info? 174).map (·.size) = some 16 := by kernel_rfl
def cnV (l : List Int) (m : Nat) : Value := .int .i64 (cn l m)
theorem zb4 {n : Nat} {f : Nat → Value} (h : ∀ i, (f i).oneCell' = true) : (fl n f).toArray.all (·.oneCell') = true := by
 rw [Array.all_eq_true_iff_forall_mem]
 intro v hv
 simp [fl] at hv
 obtain ⟨i, _, rfl⟩ := hv
 exact h i
theorem zeb (a : Option Addr) (n cap : Nat) (l : List Int) (w : World) (hr : Row w 1 a n cap (l.map (Value.int .i64))) (hok1 : hok l = true) :
   Calls Tryz.prog 110 #[.slice a n cap] w fun e w' => e = .returned (.agg (fl 16 (cnV l)).toArray) ∧ Below w.heap.size w w' := by
 have hm := hr.i64
 have hl := hr.len1
 have h15 := zbf hok1
 have HL := Lib.hid hl; clear hl
 go_enter Tryz.func110, Tryz.ntmps110
 go_wp2
 obtain ⟨Z, hZ⟩ : ∃ Z : List Value, #[Value.int IntKind.i64 0, Value.int IntKind.i64 0, Value.int IntKind.i64 0, Value.int IntKind.i64 0,
         Value.int IntKind.i64 0, Value.int IntKind.i64 0, Value.int IntKind.i64 0, Value.int IntKind.i64 0,
         Value.int IntKind.i64 0, Value.int IntKind.i64 0, Value.int IntKind.i64 0, Value.int IntKind.i64 0,
         Value.int IntKind.i64 0, Value.int IntKind.i64 0, Value.int IntKind.i64 0, Value.int IntKind.i64 0] = Z.toArray := ⟨_, rfl⟩
 rw [hZ]
 have hZ2 : Z = fl 16 (cnV []) := by
   have := congrArg Array.toList hZ
   simpa [fl, cnV, cn, List.range_succ] using this.symm
 subst hZ2
 clear hZ
 go_loopw [8] (fun i wr => ∃ k : Nat, k ≤ n ∧ i = .int .i64 k ∧ wr.heap[w.heap.size + 1]? = some (.cells (fl 16 (cnV (l.take k))).toArray 152 (0, 0)) ∧
    wr.heap[w.heap.size]? = some (.cells (fl 16 (cnV [])).toArray 152 (0, 0)) ∧ Below w.heap.size w wr) (fun i _ => n - (intOf i).toNat)
 case atStart => exact ⟨0, by omega, rfl, heap_alloc2_new _ _ _, heap_alloc2_old _ _ _, ((Below.refl _ _).alloc (Nat.le_refl _) _).alloc (by simp) _⟩
 case round =>
   obtain ⟨k, hk, rfl, hB1, hB0, hbel⟩ := hrel
   by_cases hlt : k < n
   · obtain ⟨b, off, rfl, hb, hc⟩ := (hr.mono hbel).at 0 k hlt
     have hck := hc k hlt
     have hkl : k < l.length := by rw [HL.out]; exact hlt
     have ht := zaO 0 l k hkl
     have hx15 := h15 (l.getD k 0) (by simp [List.getD, hkl])
     obtain ⟨x, hx⟩ : ∃ x, x = l.getD k 0 := ⟨_, rfl⟩
     rw [← hx] at hck ht hx15
     have HT := Lib.hid ht
     have HB0 := Lib.hid hB0
     have HB1 := Lib.hid hB1
     clear hc hx ht h15 hB0 hB1
     have hcb := zcX (l.take k) x.toNat
     have hs2 : (l.take k).length ≤ k := List.length_take_le _ _
     by_cases hp : 0 < x
     · have hcell := zan HB1.out x.toNat (by omega)
       unfold cnV at hcell
       have hfree := zaT HB1.out x.toNat
       go_wp2
       go_roundw
       case rel =>
         refine ⟨k + 1, by omega, by go_num, ?_, zaE HB0.out (by simp) _, hbel.setCell (by simp) _⟩
         rw [zaM HB1.out]
         have e : fl 16 (fun j => if j = x.toNat then Value.int IntKind.i64 (cn (l.take k) x.toNat + 1) else cnV (l.take k) j) = fl 16 (cnV (l.take (k + 1))) := zal fun i _ => by
           unfold cnV
           rw [HT.out, zbA _ _ _ hx15.1]
           by_cases hi : i = x.toNat
           · subst hi; simp [hp]
           · simp [hi]
         rw [e]
       case measure => simp [intOf]; omega
     · go_wp2
       go_roundw
       case rel =>
         refine ⟨k + 1, by omega, by go_num, ?_, HB0.out, hbel⟩
         rw [HB1.out]
         have e : fl 16 (cnV (l.take k)) = fl 16 (cnV (l.take (k + 1))) := zal fun i _ => by
           unfold cnV
           rw [HT.out, zbA _ _ _ hx15.1]
           simp [hp]
         rw [e]
       case measure => simp [intOf]; omega
   · obtain rfl : k = n := by omega
     have hT : l.take k = l := by rw [← HL.out]; exact List.take_length
     rw [hT] at hB1
     have HB0 := Lib.hid hB0
     have HB1 := Lib.hid hB1
     clear hB0 hB1 hT
     go_wp2_with (first
       | (refine wpList_load_row rfl 152 (.tmp 3) rfl (w.heap.size + 1) rfl 152 _ (0, 0) _ HB1.out Tryz.underlying152 rfl (by rw [infoA16]; simp [za6]) ?_)
       | (refine wpList_store_row rfl 152 (.tmp 2) (.tmp 20) rfl w.heap.size _ rfl rfl 152 _ HB0.out (by rw [infoA16]; simp [za6]) (by simp [za6]) (zb4 fun _ => rfl) ?_))
     refine bodyPost_ret (results_cell_row rfl _ _ w.heap.size 152 _ (0, 0) _ rfl (setRow_heap _ _ _ _ _ _ HB0.out) Tryz.underlying152 rfl (by rw [infoA16]; simp [za6])) rfl ⟨rfl, ?_⟩
     exact hbel.trans ⟨rfl, rfl, rfl, by simp, fun j hj => setRow_other _ _ _ _ (by omega)⟩
def fcV (l : List Int) (k : Nat) (m : Nat) : Value := .int .u32 (if m < k then zaz (cn l) m else 0)
theorem firsts_any (l : List Int) (w : World) (hroom : 0 ≤ zas l) :
   Calls Tryz.prog 128 #[.agg (fl 16 (cnV l)).toArray] w fun e w' => e = .returned (.agg (fl 16 (fcV l 16)).toArray) ∧ Below w.heap.size w w' := by
 have hlen := (zar hroom).2.1
 have HR := Lib.hid hroom; clear hroom
 go_enter Tryz.func128, Tryz.ntmps128
 go_wp2
 obtain ⟨Z, hZ⟩ : ∃ Z : List Value, #[Value.int IntKind.u32 0, Value.int IntKind.u32 0, Value.int IntKind.u32 0, Value.int IntKind.u32 0,
         Value.int IntKind.u32 0, Value.int IntKind.u32 0, Value.int IntKind.u32 0, Value.int IntKind.u32 0,
         Value.int IntKind.u32 0, Value.int IntKind.u32 0, Value.int IntKind.u32 0, Value.int IntKind.u32 0,
         Value.int IntKind.u32 0, Value.int IntKind.u32 0, Value.int IntKind.u32 0, Value.int IntKind.u32 0] = Z.toArray := ⟨_, rfl⟩
 rw [hZ]
 have hZ2 : Z = fl 16 (fcV l 0) := by
   have := congrArg Array.toList hZ
   simpa [fl, fcV, List.range_succ] using this.symm
 subst hZ2
 clear hZ
 go_loopw [4, 6] (fun c i wr => ∃ k : Nat, k ≤ 16 ∧ i = .int .i64 k ∧ c = .int .u32 (zaz (cn l) (k - 1)) ∧ wr.heap[w.heap.size + 2]? = some (.cells (fl 16 (fcV l k)).toArray 174 (0, 0)) ∧
    wr.heap[w.heap.size + 1]? = some (.cells (fl 16 (fcV l 0)).toArray 174 (0, 0)) ∧ wr.heap[w.heap.size]? = some (.cells (fl 16 (cnV l)).toArray 152 (0, 0)) ∧ Below w.heap.size w wr) (fun _ i _ => 16 - (intOf i).toNat)
 case atStart => exact ⟨0, by omega, rfl, rfl, zah _ (by simp), zaL _ (zah _ (by simp)), zaL _ (zaL _ (zah _ rfl)), belowA3 _ _ _ _⟩
 case round =>
   obtain ⟨k, hk, rfl, rfl, hB2, hB1, hB0, hbel⟩ := hrel
   have HB0 := Lib.hid hB0
   have HB1 := Lib.hid hB1
   have HB2 := Lib.hid hB2
   clear hB0 hB1 hB2
   by_cases hlt : k < 16
   · rcases k with _ | k
     · go_wp2
       go_roundw
       case rel =>
         refine ⟨1, by omega, by go_num, rfl, ?_, HB1.out, HB0.out, hbel⟩
         rw [HB2.out]
         have e : fl 16 (fcV l 0) = fl 16 (fcV l 1) := zal fun i _ => by
           unfold fcV
           by_cases hi : i = 0
           · subst hi; simp [zaz]
           · simp [show ¬ i < 1 by omega]
         rw [e]
       case measure => simp [intOf]
     · have hcell := zan HB0.out k (by omega)
       unfold cnV at hcell
       have hcell2 := zan HB2.out (k + 1) (by omega)
       have hfree2 := zaT HB2.out (k + 1)
       unfold fcV at hcell2
       have hcb := zcX l k
       have hft := zbt HR.out k (by omega)
       have hp := zca (n := k) (by omega)
       go_wp2
       go_roundw
       case rel =>
         refine ⟨k + 2, by omega, by go_num, ?_, ?_, zaE HB1.out (by simp) _, zaE HB0.out (by simp; omega) _, hbel.setCell (by simp; omega) _⟩
         · rfl
         · rw [show w.heap.size + 1 + 1 = w.heap.size + 2 from rfl, zaM HB2.out]
           exact congrArg (fun x => some (Obj.cells (List.toArray x) _ _)) (zal fun i _ => by
             unfold fcV
             by_cases hi : i = k + 1
             · subst hi; simp; rfl
             · have : (i < k + 1) = (i < k + 2) := by simp; omega
               simp [hi, this])
       case measure => simp [intOf]; omega
   · obtain rfl : k = 16 := by omega
     go_wp2_with (first
       | (refine wpList_load_row rfl 174 (.tmp 3) rfl (w.heap.size + 2) rfl 174 _ (0, 0) _ HB2.out Tryz.underlying174 rfl (by rw [zdY]; simp [za6]) ?_)
       | (refine wpList_store_row rfl 174 (.tmp 2) (.tmp 23) rfl (w.heap.size + 1) _ rfl rfl 174 _ HB1.out (by rw [zdY]; simp [za6]) (by simp [za6]) (zb4 fun _ => rfl) ?_))
     refine bodyPost_ret (results_cell_row rfl _ _ (w.heap.size + 1) 174 _ (0, 0) _ rfl (setRow_heap _ _ _ _ _ _ HB1.out) Tryz.underlying174 rfl (by rw [zdY]; simp [za6])) rfl ⟨rfl, ?_⟩
     exact zdK hbel (by omega) _
theorem EU32 : zcZ Tryz.prog 100 79 (.int .u32 0) 1 4 := ⟨Tryz.underlying100, by kernel_rfl, rfl, by omega⟩
theorem zey (z : Value) (n : Nat) : (madeCells #[z] (n * 1)).toList = fl n (fun _ => z) := by
 rw [Nat.mul_one, toList_madeCells_one, zcx]
theorem own_cell {w : World} {base e g n cap : Nat} {enc : Nat → Value} (h : w.ownsRow base e 1 (.slice (some ⟨g, 0, none⟩) n cap) n (fl n enc)) (i : Nat) (hi : i < n) : w.cell? ⟨g, i, none⟩ = some (enc i) := by
 rw [h.cellAt i (by omega), fl_get enc hi]
theorem own_set {w : World} {base e g n cap : Nat} {enc : Nat → Value} (h : w.ownsRow base e 1 (.slice (some ⟨g, 0, none⟩) n cap) n (fl n enc)) (i : Nat) (v : Value) :
   (w.setCell ⟨g, i, none⟩ v).ownsRow base e 1 (.slice (some ⟨g, 0, none⟩) n cap) n (fl n (fun j => if j = i then v else enc j)) := by
 rw [← fl_set]; exact (h.stored i v).1
theorem zba {w : World} {base e sz : Nat} {v : Value} {n : Nat} {xs : List Value} (h : w.ownsRow base e sz v n xs) {a : Addr} (ha : v.ownBlock ≠ some a.block) (u : Value) : (w.setCell a u).ownsRow base e sz v n xs := ownsRow_setCell_other h ha u
theorem zaJ {w : World} {base e sz : Nat} {v : Value} {n : Nat} {xs ys : List Value} (h : w.ownsRow base e sz v n xs) (hx : xs = ys) : w.ownsRow base e sz v n ys := hx ▸ h
def cdV (l : List Int) (k i : Nat) : Value := .int .u32 (if i < k then zay l i else 0)
def nxV (l : List Int) (k m : Nat) : Value := .int .u32 (zaz (cn l) m + cn (l.take k) m)
theorem codes_ok (a : Option Addr) (n cap : Nat) (l : List Int) (w : World) (hr : Row w 1 a n cap (l.map (Value.int .i64))) (hroom : 0 ≤ zas l) :
   Calls Tryz.prog 108 #[.slice a n cap] w fun e w' => ∃ v, e = .returned (.tuple #[v, .int .i64 0]) ∧ w'.ownsRow w.heap.size 79 1 v n (fl n (cdV l n)) ∧ Below w.heap.size w w' := by
 have hm := hr.i64
 have hl := hr.len1
 have hok1 := (zar hroom).2.2.1
 have hlen := (zar hroom).2.1
 have h15 := zbf hok1
 have hn : n ≤ 320 := by omega
 have HL := Lib.hid hl
 have HR := Lib.hid hroom
 have H15 := Lib.hid h15
 have HOK := Lib.hid hok1
 clear hl hroom h15 hok1
 go_enter Tryz.func108, Tryz.ntmps108
 go_wp2_with (first
   | (go_at_call 127; refine (kraft_any _ _ _ l _ hr).mono ?_; rintro e w' ⟨rfl, rfl⟩; have hrr := HR.out))
 refine (zeb _ _ _ l _ hr HOK.out).mono ?_
 rintro e w1 ⟨rfl, hb1⟩
 go_wp2_with fail
 refine (firsts_any l _ HR.out).mono ?_
 rintro e w2 ⟨rfl, hb2⟩
 have hn2 : (n : Int) ≤ 320 := by omega
 go_wp2_with (first
   | (with_reducible show wpList _ _ _ (Oper.mk _ (Op.store 174 (Operand.tmp 4) _) _ _ _ _ :: _) _ _; refine store_fresh rfl 174 (.tmp 4) (.tmp 13) rfl _ _ (fl 16 (fcV l 16)).toArray rfl rfl (by rw [zdY]; simp [za6]) (by simp [za6]) (zb4 fun _ => rfl) ?_; intro w3 hB3 hb3 hs3; have HB3 := Lib.hid hB3; have HS3 := Lib.hid hs3; clear hB3 hs3)
   | (at_make; refine zcu EU32 rfl (.tmp 15) (.tmp 15) rfl .i64 .i64 _ _ n rfl rfl rfl rfl (by omega) (by unfold maxLen; omega) ?_; intro w4 hown hb4; have HO := Lib.hid (zaJ hown (zey _ n)); clear hown))
 have hbA := hb1.trans (hb2.mono hb1.size)
 have hbB := hbA.trans (hb3.mono hbA.size)
 have hbC := hbB.trans (hb4.mono hbB.size)
 have hne : ¬ w3.heap.size = w2.heap.size := by have := HS3.out; omega
 have hne2 : ¬ w2.heap.size = w3.heap.size := by have := HS3.out; omega
 have hB4 := za3 hb4 HB3.out
 have hgeB := hbA.size
 have hgeG := hbB.size
 have HB4 := Lib.hid hB4
 clear hB4 HB3 HS3 hb1 hb2 hb3 hb4 hbA hbB
 generalize w2.heap.size = B at *
 generalize w3.heap.size = G at *
 go_loopw [19] (fun i wr => ∃ k : Nat, k ≤ n ∧ i = .int .i64 k ∧ wr.ownsRow w.heap.size 79 1 (.slice (some ⟨G, 0, none⟩) n n) n (fl n (cdV l k)) ∧
    wr.heap[B]? = some (.cells (fl 16 (nxV l k)).toArray 174 (0, 0)) ∧ Below w.heap.size w wr) (fun i _ => n - (intOf i).toNat)
 case atStart =>
   refine ⟨0, by omega, rfl, zaJ (zaI HO.out hgeG) (zal fun i _ => by simp [cdV]), ?_, hbC⟩
   rw [HB4.out]
   exact congrArg (fun x => some (Obj.cells (List.toArray x) _ _)) (zal fun i hi => by simp [fcV, nxV, hi]; simp [cn])
 case round =>
   obtain ⟨k, hk, rfl, hO, hBk, hbel⟩ := hrel
   clear HO HB4 hbC
   have HO := Lib.hid hO
   have HB := Lib.hid hBk
   clear hO hBk
   by_cases hlt : k < n
   · obtain ⟨b, off, rfl, hb, hc⟩ := (hr.mono hbel).at 0 k hlt
     have hck := hc k hlt
     have hkl : k < l.length := by rw [HL.out]; exact hlt
     have ht := zaO 0 l k hkl
     have hx15 := H15.out (l.getD k 0) (by simp [List.getD, hkl])
     have hcl := fun hp : 0 < l.getD k 0 => cn_lt (m := (l.getD k 0).toNat) hkl (by omega) (by omega)
     have hcA : zay l k = if 0 < l.getD k 0 then zaz (cn l) (l.getD k 0).toNat + cn (l.take k) (l.getD k 0).toNat else 0 := rfl
     obtain ⟨x, hx⟩ : ∃ x, x = l.getD k 0 := ⟨_, rfl⟩
     rw [← hx] at hck ht hx15 hcl hcA
     have HT := Lib.hid ht
     have HC := Lib.hid hcA
     clear hc ht hx hcA
     by_cases hp : 0 < x
     · have hft := zbt HR.out x.toNat (by omega)
       have hcl' := hcl hp
       have hpw := zca (n := x.toNat) (by omega)
       have hcb := zcX (l.take k) x.toNat
       clear hcl
       have hcell := zan HB.out x.toNat (by omega)
       unfold nxV at hcell
       have hfree := zaT HB.out x.toNat
       have hcell2 := own_cell HO.out k hlt
       have hfree2 := HO.out.frozenAt k
       go_wp2
       go_roundw
       case rel =>
         refine ⟨k + 1, by omega, by go_num, zaJ (zba (own_set HO.out k _) (by simp [Value.ownBlock]; omega) _) (zal fun i _ => ?_), ?_, (hbel.setCell (by simp; omega) _).setCell (by simp; omega) _⟩
         · unfold cdV
           by_cases hi : i = k
           · subst hi; simp [HC.out, hp]
           · have : (i < k) = (i < k + 1) := by simp; omega
             simp [hi, this]
         · rw [zaM (zaE HB.out (by simp; omega) _)]
           exact congrArg (fun x => some (Obj.cells (List.toArray x) _ _)) (zal fun i _ => by
             unfold nxV
             rw [HT.out, zbA _ _ _ hx15.1]
             by_cases hi : i = x.toNat
             · subst hi; simp [hp]; omega
             · simp [hi])
       case measure => simp [intOf]; omega
     · go_wp2
       go_roundw
       case rel =>
         refine ⟨k + 1, by omega, by go_num, zaJ HO.out (zal fun i _ => ?_), ?_, hbel⟩
         · unfold cdV
           by_cases hi : i = k
           · subst hi; simp [HC.out, hp]
           · have : (i < k) = (i < k + 1) := by simp; omega
             simp [this]
         · rw [HB.out]
           exact congrArg (fun x => some (Obj.cells (List.toArray x) _ _)) (zal fun i _ => by
             unfold nxV
             rw [HT.out, zbA _ _ _ hx15.1]
             simp [hp])
       case measure => simp [intOf]; omega
   · obtain rfl : k = n := by omega
     go_wp2
     go_ret2
     exact ⟨_, rfl, HO.out, hbel⟩
theorem codes_bad (a : Option Addr) (n cap : Nat) (l : List Int) (w : World) (hr : Row w 1 a n cap (l.map (Value.int .i64))) (hroom : zas l < 0) :
   Calls Tryz.prog 108 #[.slice a n cap] w fun e w' => e = .returned (.tuple #[.slice none 0 0, .int .i64 13]) ∧ w = w' := by
 go_enter Tryz.func108, Tryz.ntmps108
 go_wp2_with (first
   | (go_at_call 127; refine (kraft_any _ _ _ l _ hr).mono ?_; rintro e w' ⟨rfl, rfl⟩))
 go_ret2
 exact ⟨rfl, rfl⟩
def rdV (l : List Int) (m k i : Nat) : Value := .int .u32 (if 0 < l.getD i 0 ∧ (l.getD i 0 < (m : Int) ∨ l.getD i 0 = (m : Int) ∧ i < k) then zay l i else 0)
theorem rcodes_ok (a : Option Addr) (n cap : Nat) (l : List Int) (w : World) (hr : Row w 1 a n cap (l.map (Value.int .i64))) (hroom : 0 ≤ zas l) :
   Calls Tryz.prog 103 #[.slice a n cap] w fun e w' => ∃ v, e = .returned (.tuple #[v, .int .i64 0]) ∧ w'.ownsRow w.heap.size 79 1 v n (fl n (cdV l n)) ∧ Below w.heap.size w w' := by
 have hm := hr.i64
 have hl := hr.len1
 have hok1 := (zar hroom).2.2.1
 have hlen := (zar hroom).2.1
 have h15 := zbf hok1
 have hn : n ≤ 320 := by omega
 have hd : decide (0 ≤ zas l) = true := by simpa using hroom
 have HL := Lib.hid hl
 have HR := Lib.hid hroom
 have H15 := Lib.hid h15
 clear hl hroom h15 hok1
 go_enter Tryz.func103, Tryz.ntmps103
 go_wp2_with (first
   | (go_at_call 126; refine (may_any _ _ _ l _ hr).mono ?_; rintro e w' ⟨rfl, rfl⟩)
   | (at_make; refine zcu EU32 rfl (.tmp 12) (.tmp 12) rfl .i64 .i64 _ _ n rfl rfl rfl rfl (by omega) (by unfold maxLen; omega) ?_; intro w4 hown hb4; have HO := Lib.hid (zaJ hown (zey _ n)); clear hown))
 have hgeG := Nat.le_refl w.heap.size
 generalize hG : w.heap.size = G at HO hgeG
 have HG := Lib.hid hG
 clear hG hgeG
 go_loopw [5, 6] (fun c i wr => ∃ j : Nat, j ≤ 15 ∧ i = .int .i64 (j + 1 : Nat) ∧ c = .int .u32 (zaz (cn l) j + cn l j) ∧ wr.ownsRow G 79 1 (.slice (some ⟨G, 0, none⟩) n n) n (fl n (rdV l (j + 1) 0)) ∧ Below G w wr) (fun _ i _ => 16 - (intOf i).toNat)
 case atStart =>
   refine ⟨0, by omega, rfl, by simp [zaz, cn], zaJ HO.out (zal fun i _ => ?_), by rw [← HG.out]; exact hb4⟩
   unfold rdV
   rw [if_neg (by omega)]
 case round =>
   obtain ⟨j, hj, rfl, rfl, hO, hbel⟩ := hrel
   clear HO hb4
   have HO := Lib.hid hO
   clear hO
   have hft := zbt HR.out j hj
   have hpw := zca hj
   have hcb := zcX l j
   by_cases hlt : j < 15
   · go_wp2
     go_loopw [5, 7] (fun c i wr => ∃ k : Nat, k ≤ n ∧ i = .int .i64 k ∧ c = .int .u32 (zaz (cn l) (j + 1) + cn (l.take k) (j + 1)) ∧ wr.ownsRow G 79 1 (.slice (some ⟨G, 0, none⟩) n n) n (fl n (rdV l (j + 1) k)) ∧ Below G w wr) (fun _ i _ => n - (intOf i).toNat)
     case atStart => exact ⟨0, by omega, rfl, by simp [zaz, cn]; omega, HO.out, hbel⟩
     case round =>
       obtain ⟨k, hk, rfl, rfl, hO, hbel2⟩ := hrel
       clear HO hbel
       have HO := Lib.hid hO
       clear hO
       have hft1 := zbt HR.out (j + 1) (by omega)
       have hpw1 := zca (n := j + 1) (by omega)
       have hcb1 := zcX (l.take k) (j + 1)
       have hct := zcJ l k (j + 1)
       by_cases hkn : k < n
       · obtain ⟨b, off, rfl, hb, hc⟩ := (hr.mono (by rw [HG.out]; exact hbel2)).at 0 k hkn
         have hck := hc k hkn
         have hkl : k < l.length := by rw [HL.out]; exact hkn
         have ht := zaO 0 l k hkl
         have hx15 := H15.out (l.getD k 0) (by simp [List.getD, hkl])
         have hcl := fun hp : l.getD k 0 = ((j + 1 : Nat) : Int) => cn_lt (m := j + 1) hkl (by omega) hp
         have hcA : zay l k = if 0 < l.getD k 0 then zaz (cn l) (l.getD k 0).toNat + cn (l.take k) (l.getD k 0).toNat else 0 := rfl
         obtain ⟨x, hx⟩ : ∃ x, x = l.getD k 0 := ⟨_, rfl⟩
         rw [← hx] at hck ht hx15 hcl hcA
         have HT := Lib.hid ht
         have HC := Lib.hid hcA
         have HX := Lib.hid hx
         clear hc ht hx hcA
         by_cases he : x = ((j + 1 : Nat) : Int)
         · have hcl' := hcl he
           have heq : (x == (j : Int) + 1) = true := by simp; omega
           have HE := Lib.hid he
           clear hcl he
           have hcell2 := own_cell HO.out k hkn
           have hfree2 := HO.out.frozenAt k
           go_wp2
           go_roundw
           case rel =>
             have he := HE.out
             refine ⟨k + 1, by omega, by go_num, ?_, zaJ (own_set HO.out k _) (zal fun i _ => ?_), hbel2.setCell (by simp) _⟩
             · rw [HT.out, zbA _ _ _ hx15.1, if_pos (by omega)]; go_num
             · unfold rdV
               by_cases hi : i = k
               · subst hi
                 rw [if_pos rfl, ← HX.out, if_pos ⟨by omega, .inr ⟨he, by omega⟩⟩, HC.out, if_pos (by omega), he]
                 rfl
               · have : (i < k) = (i < k + 1) := by simp; omega
                 simp [hi, this]
           case measure => simp [intOf]; omega
         · have heq : (x == (j : Int) + 1) = false := by simp; omega
           have HE := Lib.hid he
           clear hcl he
           go_wp2
           go_roundw
           case rel =>
             have he := HE.out
             refine ⟨k + 1, by omega, by go_num, ?_, zaJ HO.out (zal fun i _ => ?_), hbel2⟩
             · rw [HT.out, zbA _ _ _ hx15.1, if_neg (by omega)]; go_num
             · unfold rdV
               by_cases hi : i = k
               · subst hi
                 rw [← HX.out]
                 have e : (0 < x ∧ (x < ((j + 1 : Nat) : Int) ∨ x = ((j + 1 : Nat) : Int) ∧ i < i)) = (0 < x ∧ (x < ((j + 1 : Nat) : Int) ∨ x = ((j + 1 : Nat) : Int) ∧ i < i + 1)) := by
                   simp only [eq_iff_iff]; omega
                 simp only [e]
               · have : (i < k) = (i < k + 1) := by simp; omega
                 simp [this]
           case measure => simp [intOf]; omega
       · obtain rfl : k = n := by omega
         have hT : l.take k = l := by rw [← HL.out]; exact List.take_length
         rw [hT] at *
         clear hT
         go_wp2
         go_roundw
         case rel =>
           refine ⟨j + 1, by omega, by go_num, rfl, zaJ HO.out (zal fun i hi => ?_), hbel2⟩
           unfold rdV
           have e : (0 < l.getD i 0 ∧ (l.getD i 0 < ((j + 1 : Nat) : Int) ∨ l.getD i 0 = ((j + 1 : Nat) : Int) ∧ i < k)) = (0 < l.getD i 0 ∧ (l.getD i 0 < ((j + 1 + 1 : Nat) : Int) ∨ l.getD i 0 = ((j + 1 + 1 : Nat) : Int) ∧ i < 0)) := by
             simp only [eq_iff_iff]; omega
           simp only [e]
         case measure => simp [intOf]; omega
   · obtain rfl : j = 15 := by omega
     go_wp2
     go_ret2
     refine ⟨_, rfl, ?_, by rw [HG.out]; exact hbel⟩
     rw [HG.out]
     refine zaJ HO.out (zal fun i hi => ?_)
     unfold rdV cdV
     have hx15 := H15.out (l.getD i 0) (by simp [List.getD, show i < l.length by rw [HL.out]; exact hi])
     by_cases hp : 0 < l.getD i 0
     · rw [if_pos ⟨hp, .inl (by omega)⟩, if_pos hi]
     · rw [if_neg (by omega), if_pos hi]
       unfold zay
       rw [if_neg hp]
theorem rcodes_bad (a : Option Addr) (n cap : Nat) (l : List Int) (w : World) (hr : Row w 1 a n cap (l.map (Value.int .i64))) (hroom : zas l < 0) :
   Calls Tryz.prog 103 #[.slice a n cap] w fun e w' => e = .returned (.tuple #[.slice none 0 0, .int .i64 13]) ∧ w = w' := by
 have hd : decide (0 ≤ zas l) = false := by simpa using hroom
 go_enter Tryz.func103, Tryz.ntmps103
 go_wp2_with (first
   | (go_at_call 126; refine (may_any _ _ _ l _ hr).mono ?_; rintro e w' ⟨rfl, rfl⟩))
 go_ret2
 exact ⟨rfl, rfl⟩
theorem ETI : zcZ Tryz.prog 34 3 (.int .i64 0) 1 8 := ⟨Tryz.underlying34, by kernel_rfl, rfl, by omega⟩
theorem cloneI (a : Option Addr) (n cap : Nat) (xs : List Value) (w : World) (hr : Row w 1 a n cap xs) (h1 : ∀ u ∈ xs, u.oneCell' = true) (hby : n * 8 ≤ 140737488355328) :
   Calls Tryz.prog 109 #[.slice a n cap] w fun e w' => ∃ v, e = .returned v ∧ w'.ownsRow w.heap.size 3 1 v n xs ∧ Below w.heap.size w w' ∧ NN a v := by
 rcases a with _ | ad
 · obtain ⟨r1, r2, r3, r4, r5⟩ := hr
   obtain rfl := r4 rfl
   obtain rfl : n = 0 := by omega
   obtain rfl : xs = [] := List.eq_nil_of_length_eq_zero (by simpa using r1)
   have hnil := fun W : World => Lib.run_eql_slice_nil (P := Tryz.prog) W 34 3 none 0 0 0 0 Tryz.underlying34
   go_enter Tryz.func109, Tryz.ntmps109
   go_wp2
   go_ret
   exact ⟨_, rfl, World.ownsRow_nil _ _ _ _, Below.refl _ _, fun h => absurd rfl h⟩
 · have hm : n ≤ maxLen := Nat.le_trans hr.2.1 hr.2.2.1
   have hnil := fun W : World => Lib.run_eql_slice_nil (P := Tryz.prog) W 34 3 (some ad) n cap 0 0 Tryz.underlying34
   have HR := Lib.hid (hr.mono (zai w (.cells #[] 3)))
   have hO := World.ownsRow_lit (base := w.heap.size) (e := 3) (size := 1) w #[] 0 (Nat.le_refl _) (by simp [maxLen]) (by simp)
   have HO := Lib.hid hO
   clear hO hr
   go_enter Tryz.func109, Tryz.ntmps109
   go_wp2_with (at_builtin; refine zae ETI rfl (.tmp 5) (.tmp 6) rfl w.heap.size (.slice (some ⟨w.heap.size, 0, none⟩) 0 0) 0 _ rfl HO.out _ n _ _ rfl HR.out h1 (by omega) (by omega) (by simp) ?_; intro v' w1 hO1 hg hnil; have HO1 := Lib.hid hO1; have HN := Lib.hid hnil; have HG := Lib.hid hg; clear hO1 hnil hg)
   go_ret
   refine ⟨_, rfl, by simpa using HO1.out, zd4 (zai w _) HG.out (by rw [zad]; omega) (fun k hk => by simp [Value.ownBlock] at hk; omega), fun _ h => ?_⟩
   have := HN.out.1 h; simp at this
theorem ETB : zcZ Tryz.prog 22 5 (.int .u8 0) 1 1 := ⟨Tryz.underlying22, by kernel_rfl, rfl, by omega⟩
theorem cloneB (a : Option Addr) (n cap : Nat) (xs : List Value) (w : World) (hr : Row w 1 a n cap xs) (h1 : ∀ u ∈ xs, u.oneCell' = true) (hby : n * 1 ≤ 140737488355328) :
   Calls Tryz.prog 57 #[.slice a n cap] w fun e w' => ∃ v, e = .returned v ∧ w'.ownsRow w.heap.size 5 1 v n xs ∧ Below w.heap.size w w' ∧ NN a v := by
 rcases a with _ | ad
 · obtain ⟨r1, r2, r3, r4, r5⟩ := hr
   obtain rfl := r4 rfl
   obtain rfl : n = 0 := by omega
   obtain rfl : xs = [] := List.eq_nil_of_length_eq_zero (by simpa using r1)
   have hnil := fun W : World => Lib.run_eql_slice_nil (P := Tryz.prog) W 22 5 none 0 0 0 0 Tryz.underlying22
   go_enter Tryz.func57, Tryz.ntmps57
   go_wp2
   go_ret
   exact ⟨_, rfl, World.ownsRow_nil _ _ _ _, Below.refl _ _, fun h => absurd rfl h⟩
 · have hm : n ≤ maxLen := Nat.le_trans hr.2.1 hr.2.2.1
   have hnil := fun W : World => Lib.run_eql_slice_nil (P := Tryz.prog) W 22 5 (some ad) n cap 0 0 Tryz.underlying22
   have HR := Lib.hid (hr.mono (zai w (.cells #[] 5)))
   have hO := World.ownsRow_lit (base := w.heap.size) (e := 5) (size := 1) w #[] 0 (Nat.le_refl _) (by simp [maxLen]) (by simp)
   have HO := Lib.hid hO
   clear hO hr
   go_enter Tryz.func57, Tryz.ntmps57
   go_wp2_with (at_builtin; refine zae ETB rfl (.tmp 5) (.tmp 6) rfl w.heap.size (.slice (some ⟨w.heap.size, 0, none⟩) 0 0) 0 _ rfl HO.out _ n _ _ rfl HR.out h1 (by omega) (by omega) (by simp) ?_; intro v' w1 hO1 hg hnil; have HO1 := Lib.hid hO1; have HN := Lib.hid hnil; have HG := Lib.hid hg; clear hO1 hnil hg)
   go_ret
   refine ⟨_, rfl, by simpa using HO1.out, zd4 (zai w _) HG.out (by rw [zad]; omega) (fun k hk => by simp [Value.ownBlock] at hk; omega), fun _ h => ?_⟩
   have := HN.out.1 h; simp at this
theorem zch (n : Int) : bits .and .i64 n 7 = n % 8 := by
 have h7 : (BitVec.ofInt 64 7).toNat = 2 ^ 3 - 1 := by decide
 have key : (BitVec.ofInt 64 n &&& BitVec.ofInt 64 7).toNat = (n % ((2 ^ 64 : Nat) : Int)).toNat % 2 ^ 3 := by
   rw [BitVec.toNat_and, BitVec.toNat_ofInt, h7, Nat.and_two_pow_sub_one_eq_mod]
 show IntKind.i64.wrap ((BitVec.ofInt 64 n &&& BitVec.ofInt 64 7).toNat : Nat) = n % 8
 rw [key, IntKind.wrap_i64]
 omega
theorem case8 (s : Nat) (h : s < 8) : s = 0 ∨ s = 1 ∨ s = 2 ∨ s = 3 ∨ s = 4 ∨ s = 5 ∨ s = 6 ∨ s = 7 := by omega
def zbj (at_ : Nat) (high : Bool) : Nat := if high then 7 - at_ % 8 else at_ % 8
def zee (at_ : Nat) (high : Bool) : Int := ((2 ^ zbj at_ high : Nat) : Int)
theorem zdv (at_ : Nat) (high : Bool) : zbj at_ high < 8 := by unfold zbj; split <;> omega
theorem zdT (b off at_ : Nat) (high : Bool) (w : World) (h0 : w.cell? ⟨b, off, none⟩ = some (.int .i64 at_)) (h1 : w.cell? ⟨b, off + 1, none⟩ = some (.bool high)) :
   Calls Tryz.prog 124 #[.pointer (some ⟨b, off, none⟩)] w fun e w' => e = .returned (.int .u8 (zee at_ high)) ∧ w = w' := by
 obtain ⟨s, hs⟩ : ∃ s, s = at_ % 8 := ⟨_, rfl⟩
 have hand : bits .and .i64 (at_ : Int) 7 = (s : Int) := by rw [zch]; omega
 have hv : zee at_ high = if high then ((2 ^ (7 - s) : Nat) : Int) else ((2 ^ s : Nat) : Int) := by
   unfold zee zbj; rw [← hs]; cases high <;> rfl
 have hs8 : s < 8 := by omega
 have HV := Lib.hid hv
 clear hv hs
 rcases case8 s hs8 with rfl | rfl | rfl | rfl | rfl | rfl | rfl | rfl <;> cases high
 all_goals
   clear hs8
   go_enter Tryz.func124, Tryz.ntmps124
   go_wp2
   go_ret
   exact ⟨congrArg (fun x => Ending.returned (.int .u8 x)) HV.out.symm, rfl⟩
def zbv (k n : Nat) (high : Bool) : Nat := if high then n - 1 - k else k
theorem turn_any (b off k n : Nat) (high : Bool) (w : World) (h1 : w.cell? ⟨b, off + 1, none⟩ = some (.bool high)) (hk : k < n) (hn : n ≤ 32) :
   Calls Tryz.prog 107 #[.pointer (some ⟨b, off, none⟩), .int .i64 k, .int .i64 n] w fun e w' => e = .returned (.int .i64 (zbv k n high : Nat)) ∧ w = w' := by
 have hv : ((zbv k n high : Nat) : Int) = if high then (n : Int) - 1 - k else (k : Int) := by unfold zbv; cases high <;> simp <;> omega
 have HV := Lib.hid hv
 clear hv
 cases high
 all_goals
   go_enter Tryz.func107, Tryz.ntmps107
   go_wp2
   go_ret
   exact ⟨congrArg (fun x => Ending.returned (.int .i64 x)) HV.out.symm, rfl⟩
structure IsRd (w : World) (r : Nat) (bs : List UInt8) (high : Bool) (at_ : Nat) : Prop where
 ex : ∃ a cap, w.heap[r]? = some (.cells (fl 4 (fun i => if i = 0 then .int .i64 at_ else if i = 1 then .bool high else if i = 2 then .bool true else .slice a bs.length cap)).toArray 91 (0, 0)) ∧
   Row w 1 a bs.length cap (bs.map fun b => .int .u8 b.toNat) ∧ ∀ x, a = some x → x.block < r
 le : at_ ≤ 8 * bs.length
 small : 8 * bs.length < 4611686018427387904
theorem zct (r : Nat) (bs : List UInt8) (high : Bool) (at_ : Nat) (w : World) (h : IsRd w r bs high at_) :
   Calls Tryz.prog 65 #[.pointer (some ⟨r, 0, none⟩)] w fun e w' => e = .returned (.bool false) ∧ w = w' := by
 obtain ⟨⟨a, cap, hb, hr, hne⟩, hle, hsm⟩ := h
 have h2 := zan hb 2 (by omega)
 simp only [if_pos, Nat.reduceEqDiff, if_false] at h2
 go_enter Tryz.func65, Tryz.ntmps65
 go_wp2
 go_ret
 exact ⟨rfl, rfl⟩
theorem left_any (r : Nat) (bs : List UInt8) (high : Bool) (at_ : Nat) (w : World) (h : IsRd w r bs high at_) :
   Calls Tryz.prog 123 #[.pointer (some ⟨r, 0, none⟩)] w fun e w' => e = .returned (.int .i64 ((8 * bs.length - at_ : Nat) : Int)) ∧ ∃ q, w' = w.drewN q := by
 have hdead := zct r bs high at_ w h
 have HD := Lib.hid hdead
 obtain ⟨⟨a, cap, hb, hr, hne⟩, hle, hsm⟩ := h
 have h0 := zan hb 0 (by omega)
 have h3 := zan hb 3 (by omega)
 simp only [if_pos, Nat.reduceEqDiff, if_false] at h0 h3
 have hv : ((8 * bs.length - at_ : Nat) : Int) = 8 * (bs.length : Int) - at_ := by omega
 have HV := Lib.hid hv
 clear hv hb hr hne hdead
 generalize bs.length = n at *
 go_enter Tryz.func123, Tryz.ntmps123
 go_wp2_with (go_at_call 65; refine HD.out.mono ?_; rintro e w' ⟨rfl, rfl⟩)
 go_quiet (fail)
 go_wp2
 go_ret
 exact ⟨congrArg (fun x => Ending.returned (.int .i64 x)) HV.out.symm, _, rfl⟩
def zaG (bs : List UInt8) (high : Bool) (i : Nat) : Bool := (bs.getD (i / 8) 0).toNat / 2 ^ zbj i high % 2 == 1
def getV (f : Nat → Bool) (high : Bool) (n : Nat) : Nat → Nat
 | 0 => 0
 | k + 1 => getV f high n k + if f k then 2 ^ zbv k n high else 0
theorem zfJ (f : Nat → Bool) (n : Nat) : ∀ k, getV f false n k < 2 ^ k
 | 0 => by simp [getV]
 | k + 1 => by
   have := zfJ f n k
   simp only [getV, zbv, Nat.pow_succ]
   split <;> simp <;> omega
theorem zez (f : Nat → Bool) (n : Nat) : ∀ k, k ≤ n → getV f true n k % 2 ^ (n - k) = 0 ∧ getV f true n k + 2 ^ (n - k) ≤ 2 ^ n
 | 0, _ => by simp [getV]
 | k + 1, h => by
   obtain ⟨h1, h2⟩ := zez f n k (by omega)
   have e : n - k = (n - (k + 1)) + 1 := by omega
   have e2 : n - 1 - k = n - (k + 1) := by omega
   rw [e, Nat.pow_succ] at h1 h2
   have hp : 0 < 2 ^ (n - (k + 1)) := Nat.pow_pos (by omega)
   have hd : 2 ^ (n - (k + 1)) ∣ getV f true n k := Nat.dvd_trans (Nat.dvd_mul_right _ 2) (Nat.dvd_of_mod_eq_zero h1)
   simp only [getV, zbv, if_true, e2]
   generalize 2 ^ (n - (k + 1)) = p at *
   split
   · exact ⟨Nat.mod_eq_zero_of_dvd ((Nat.dvd_add_right hd).2 (Nat.dvd_refl _)), by omega⟩
   · exact ⟨Nat.mod_eq_zero_of_dvd (by simpa using hd), by omega⟩
theorem zeu (f : Nat → Bool) (high : Bool) (n k : Nat) (h : k ≤ n) : getV f high n k < 2 ^ n := by
 cases high
 · exact Nat.lt_of_lt_of_le (zfJ f n k) (Nat.pow_le_pow_right (by omega) h)
 · have := (zez f n k h).2
   have hp : 0 < 2 ^ (n - k) := Nat.pow_pos (by omega)
   omega
theorem getV_or (f : Nat → Bool) (high : Bool) (n k : Nat) (h : k < n) : getV f high n k ||| 2 ^ zbv k n high = getV f high n k + 2 ^ zbv k n high := by
 cases high
 · have hl := zfJ f n k
   simp only [zbv]
   rw [Nat.or_comm, if_neg (by simp), nat_join k _ _ (Nat.mod_self _) hl]; omega
 · obtain ⟨h1, h2⟩ := zez f n k (by omega)
   have e : n - k = (n - 1 - k) + 1 := by omega
   rw [e] at h1
   simp only [zbv, if_true]
   exact nat_join (n - 1 - k + 1) _ _ h1 (Nat.pow_lt_pow_right (by omega) (by omega))
theorem zdo {P : Program} {f : FuncId} {args : Array Value} {w : World} {n : Nat} {v : Value}
   (h : Calls P f args (w.drewN n) fun e w' => e = .returned v ∧ w.drewN n = w') : Calls P f args (w.drewN n) fun e w'' => e = .returned v ∧ ∃ m, w'' = w.drewN m :=
 h.mono fun _ _ ⟨he, hm⟩ => ⟨he, n, hm.symm⟩
theorem Row.kept {w w' : World} {r sz : Nat} {a : Option Addr} {n cap : Nat} {xs : List Value} (h : Row w sz a n cap xs) (hg : w.grownBy w' (some r)) (hne : ∀ x, a = some x → x.block ≠ r) : Row w' sz a n cap xs := by
 obtain ⟨h1, h2, h3, h4, h5⟩ := h
 refine ⟨h1, h2, h3, h4, fun hn => ?_⟩
 obtain ⟨b, off, ha, hlt, hc⟩ := h5 hn
 exact ⟨b, off, ha, Nat.lt_of_lt_of_le hlt hg.size, fun j u hj => hg.cell (hc j u hj) (by have := hne _ ha; simpa using this)⟩
theorem pow32 {n : Nat} (h : n ≤ 32) : 2 ^ n ≤ 4294967296 := Nat.pow_le_pow_right (n := 2) (by omega) h
theorem or_pow (g t : Nat) (hg : g < 4294967296) (ht : t < 32) (h : g ||| 2 ^ t = g + 2 ^ t) : bits .or .u32 (g : Int) ((2 : Int) ^ t % 4294967296) = ((g + 2 ^ t : Nat) : Int) := by
 have hp : 2 ^ t < 4294967296 := Nat.lt_of_lt_of_le (Nat.pow_lt_pow_right (by omega) ht) (by omega)
 have e : (2 : Int) ^ t % 4294967296 = ((2 ^ t : Nat) : Int) := by
   have e2 : (2 : Int) ^ t = ((2 ^ t : Nat) : Int) := by simp
   rw [e2]
   generalize 2 ^ t = q at *
   omega
 rw [e, u32_or_nat _ _ hg hp, h]
theorem rbit_test (x s : Nat) (hx : x < 256) (hs : s < 8) : bits .and .u8 (x : Int) ((2 ^ s : Nat) : Int) = if x / 2 ^ s % 2 == 1 then ((2 ^ s : Nat) : Int) else 0 := by
 have hp : 2 ^ s < 256 := Nat.lt_of_lt_of_le (Nat.pow_lt_pow_right (by omega) hs) (by omega)
 rw [u8_and_nat x (2 ^ s) hx hp, nat_bit]
 have hm : x / 2 ^ s % 2 = 0 ∨ x / 2 ^ s % 2 = 1 := by omega
 rcases hm with h | h <;> simp [h]
theorem get_ok (r n : Nat) (bs : List UInt8) (high : Bool) (at_ : Nat) (w : World) (h : IsRd w r bs high at_) (hn : n ≤ 32) (hle2 : at_ + n ≤ 8 * bs.length) :
   Calls Tryz.prog 95 #[.pointer (some ⟨r, 0, none⟩), .int .i64 n] w fun e w' => e = .returned (.tuple #[.int .u32 (getV (fun k => zaG bs high (at_ + k)) high n n : Nat), .int .i64 0]) ∧ IsRd w' r bs high (at_ + n) ∧ w.grownBy w' (some r) := by
 have hdead := zct r bs high at_ w h
 have hleft := left_any r bs high at_ w h
 obtain ⟨⟨a, cap, hb, hr, hne⟩, hle, hsm⟩ := h
 have HD := Lib.hid hdead
 have HL := Lib.hid hleft
 have HB := Lib.hid hb
 have HR := Lib.hid hr
 have HNL := Lib.hid hne
 have HN := Lib.hid (show ∀ x, a = some x → x.block ≠ r from fun x hx => Nat.ne_of_lt (hne x hx))
 have hN : decide (8 * bs.length - at_ < n) = false := by simp; omega
 have hN1 : decide ((n : Int) < 0) = false := by simp
 have hN2 : decide (32 < (n : Int)) = false := by simp; omega
 clear hdead hleft hb hr hne
 go_enter Tryz.func95, Tryz.ntmps95
 go_wp2_with (first
   | (go_at_call 65; refine HD.out.mono ?_; rintro e w' ⟨rfl, rfl⟩)
   | (go_at_call 123; refine HL.out.mono ?_; rintro e w' ⟨rfl, q1, rfl⟩))
 go_loopw [6, 24] (fun x i wr => ∃ k : Nat, k ≤ n ∧ i = .int .i64 k ∧ x = .int .u32 (getV (fun k => zaG bs high (at_ + k)) high n k : Nat) ∧
     Hid (wr.heap[r]? = some (.cells (fl 4 (fun i => if i = 0 then .int .i64 ((at_ + k : Nat) : Int) else if i = 1 then .bool high else if i = 2 then .bool true else .slice a bs.length cap)).toArray 91 (0, 0))) ∧ Hid (w.grownBy wr (some r))) (fun _ i _ => n - (intOf i).toNat)
 case atStart => exact ⟨0, by omega, rfl, rfl, HB, ⟨rfl, rfl, rfl, Nat.le_refl _, fun _ _ _ => rfl⟩⟩
 case round =>
   obtain ⟨k, hk, rfl, rfl, HBk, HG⟩ := hrel
   by_cases hlt : k < n
   · have h0 := zan HBk.out 0 (by omega)
     have h1 := zan HBk.out 1 (by omega)
     have h3 := zan HBk.out 3 (by omega)
     have hfr := zaT HBk.out 0
     simp only [if_pos, Nat.reduceEqDiff, if_false] at h0 h1 h3
     obtain ⟨b, off, rfl, hblt, hc⟩ := HR.out.at 0 ((at_ + k) / 8) (by omega)
     have hck := hc ((at_ + k) / 8) (by omega)
     have hbr : b ≠ r := by have := HN.out ⟨b, off, none⟩ rfl; simpa using this
     have hck2 : wr.cell? ⟨b, off + (at_ + k) / 8, none⟩ = some (.int .u8 ((bs.getD ((at_ + k) / 8) 0).toNat : Int)) := HG.out.cell hck (by simpa using hbr)
     obtain ⟨x, hx⟩ : ∃ x, x = (bs.getD ((at_ + k) / 8) 0).toNat := ⟨_, rfl⟩
     rw [← hx] at hck2
     have hx2 : x < 256 := by rw [hx]; exact (bs.getD ((at_ + k) / 8) 0).toNat_lt
     have hbt := rbit_test x (zbj (at_ + k) high) hx2 (zdv _ _)
     have hbA : zaG bs high (at_ + k) = (x / 2 ^ zbj (at_ + k) high % 2 == 1) := by unfold zaG; rw [← hx]
     have HX := Lib.hid hx
     have HBA := Lib.hid hbA
     clear hc hck hx hbA
     have hpos : 0 < 2 ^ zbj (at_ + k) high := Nat.pow_pos (by omega)
     by_cases hbit : (x / 2 ^ zbj (at_ + k) high % 2 == 1) = true
     · rw [if_pos hbit] at hbt
       have htest : (bits BinOp.and IntKind.u8 (x : Int) (zee (at_ + k) high) != 0) = true := by
         unfold zee; rw [hbt]; rw [bne_iff_ne]; omega
       have HBT := Lib.hid (show zaG bs high (at_ + k) = true by rw [HBA.out]; exact hbit)
       clear hbt hbit hpos
       have hor := Lib.hid (getV_or (fun k => zaG bs high (at_ + k)) high n k hlt)
       have hgl := Lib.hid <| zeu (fun k => zaG bs high (at_ + k)) high n k hk
       have ht32 : zbv k n high < 32 := by unfold zbv; split <;> omega
       go_wp2
       go_quiet ((go_at_call 124; refine zdo (zdT r 0 (at_ + k) high _ (by simpa using h0) (by simpa using h1))))
       go_wp2_with (go_at_call 107; refine (turn_any r 0 k n high _ (by simpa using h1) hlt hn).mono ?_; rintro e w' ⟨rfl, rfl⟩)
       go_roundw
       case rel =>
         refine ⟨k + 1, by omega, by go_num, ?_, ?_, ?_⟩
         · have e : getV (fun k => zaG bs high (at_ + k)) high n (k + 1) = getV (fun k => zaG bs high (at_ + k)) high n k + 2 ^ zbv k n high := by
             simp [getV, HBT.out]
           rw [e, or_pow _ _ (Nat.lt_of_lt_of_le hgl.out (pow32 hn)) ht32 hor.out]
         · refine Lib.hid ?_
           have hs := zaM (w := wr.drewN nq) HBk.out 0 (Value.int IntKind.i64 ((at_ : Int) + k + 1))
           rw [hs]
           exact congrArg (fun x => some (Obj.cells (List.toArray x) _ _)) (zal fun i _ => by
             by_cases hi : i = 0
             · subst hi; simp; omega
             · simp [hi])
         · exact Lib.hid (za1 (zcl HG.out nq) _)
       case measure => simp [intOf]; omega
     · rw [if_neg hbit] at hbt
       have htest : (bits BinOp.and IntKind.u8 (x : Int) (zee (at_ + k) high) != 0) = false := by
         unfold zee; rw [hbt]; rfl
       have HBT := Lib.hid (show zaG bs high (at_ + k) = false by rw [HBA.out]; simpa using hbit)
       clear hbt hbit hpos
       go_wp2
       go_quiet ((go_at_call 124; refine zdo (zdT r 0 (at_ + k) high _ (by simpa using h0) (by simpa using h1))))
       go_wp2
       go_roundw
       case rel =>
         refine ⟨k + 1, by omega, by go_num, ?_, ?_, ?_⟩
         · have : getV (fun k => zaG bs high (at_ + k)) high n (k + 1) = getV (fun k => zaG bs high (at_ + k)) high n k := by
             simp [getV, HBT.out]
           rw [this]
         · refine Lib.hid ?_
           have hs := zaM (w := wr.drewN nq) HBk.out 0 (Value.int IntKind.i64 ((at_ : Int) + k + 1))
           rw [hs]
           exact congrArg (fun x => some (Obj.cells (List.toArray x) _ _)) (zal fun i _ => by
             by_cases hi : i = 0
             · subst hi; simp; omega
             · simp [hi])
         · exact Lib.hid (za1 (zcl HG.out nq) _)
       case measure => simp [intOf]; omega
   · obtain rfl : k = n := by omega
     go_wp2
     go_ret2
     exact ⟨rfl, ⟨⟨a, cap, HBk.out, HR.out.kept HG.out HN.out, HNL.out⟩, by omega, hsm⟩, HG.out⟩
def cmpI (x y : Int) : Int := if x < y then -1 else if y < x then 1 else 0
theorem zdH (x : Int) (w : World) : Calls Tryz.prog 130 #[.int .i64 x] w fun e w' => e = .returned (.bool false) ∧ w = w' := by
 go_enter Tryz.func130, Tryz.ntmps130
 go_wp2
 go_ret
 exact ⟨zfT (by simp), rfl⟩
theorem zdZ (x y : Int) (w : World) : Calls Tryz.prog 113 #[.int .i64 x, .int .i64 y] w fun e w' => e = .returned (.int .i64 (cmpI x y)) ∧ w = w' := by
 have hv : cmpI x y = if x < y then -1 else if y < x then 1 else 0 := rfl
 have HV := Lib.hid hv
 clear hv
 by_cases h1 : x < y
 · go_enter Tryz.func113, Tryz.ntmps113
   go_wp2_with (go_at_call 130; refine (zdH _ _).mono ?_; rintro e w' ⟨rfl, rfl⟩)
   go_ret
   exact ⟨zav (by rw [HV.out, if_pos h1]), rfl⟩
 · by_cases h2 : y < x
   · go_enter Tryz.func113, Tryz.ntmps113
     go_wp2_with (go_at_call 130; refine (zdH _ _).mono ?_; rintro e w' ⟨rfl, rfl⟩)
     go_ret
     exact ⟨zav (by rw [HV.out, if_neg (by omega), if_pos h2]), rfl⟩
   · go_enter Tryz.func113, Tryz.ntmps113
     go_wp2_with (go_at_call 130; refine (zdH _ _).mono ?_; rintro e w' ⟨rfl, rfl⟩)
     go_ret
     exact ⟨zav (by rw [HV.out, if_neg (by omega), if_neg (by omega)]), rfl⟩
end Go.Proofs.YtkikhmdpcanidaaGreat
namespace Go.Proofs.YtkikhmdpcanidaaGreat
open Go.RowKit Go.Sort
def cfL (l : List Int) (x y : Int) : Int := cmpI (l.getD x.toNat 0) (l.getD y.toNat 0)
theorem cmpNew_any (bx : Nat) (a : Option Addr) (n cap : Nat) (l : List Int) (x y : Nat) (w : World) (hb : w.cell? ⟨bx, 0, none⟩ = some (.slice a n cap)) (hr : Row w 1 a n cap (l.map (Value.int .i64))) (hx : x < n) (hy : y < n) :
   Calls Tryz.prog 112 #[.int .i64 x, .int .i64 y, .pointer (some ⟨bx, 0, none⟩)] w fun e w' => e = .returned (.int .i64 (cfL l x y)) ∧ ∃ q, w' = w.drewN q := by
 have hm := hr.i64
 have hv : cfL l x y = cmpI (l.getD x 0) (l.getD y 0) := rfl
 have HV := Lib.hid hv
 clear hv
 obtain ⟨b, off, rfl, hblt, hc⟩ := hr.at 0 x hx
 have hcx := hc x hx
 have hcy := hc y hy
 generalize l.getD x 0 = X at *
 generalize l.getD y 0 = Y at *
 clear hc hr
 go_enter Tryz.func112, Tryz.ntmps112
 go_wp2
 go_quiet ((go_at_call 113; exact zdo (zdZ _ _ _)))
 go_wp2
 go_ret
 exact ⟨zav HV.out.symm, _, rfl⟩
end Go.Proofs.YtkikhmdpcanidaaGreat
