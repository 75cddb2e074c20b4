/-
  Our texts Base to Ins, in one.
-/
import Derived.WalkKit
import Derived.WalkSpells
import Derived.WalkLawsBesides
import Derived.Lib.Hide
import Derived.Test.YtngjbhejfojpbaaGreatProg
import Derived.BigQuiet
import Derived.Deep.QuietTactic
import Derived.Sort.LotA
import Derived.Sort.Lot0
import Derived.Deep.Draws
import Derived.StillTailTactics
import Derived.Deep.DeepCutAuto
set_option maxRecDepth 8000
set_option maxHeartbeats 8000000
namespace Go.Proofs.YtngjbhejfojpbaaGreat
open Go.RowKit
def Row (w : World) (sz : Nat) (a : Option Addr) (n cap : Nat) (xs : List Value) : Prop :=
 xs.length = n * sz ∧ n ≤ cap ∧ cap ≤ maxLen ∧ (a = none → cap = 0) ∧
   (0 < n → ∃ b off, a = some ⟨b, off, none⟩ ∧ b < w.heap.size ∧ ∀ j u, xs[j]? = some u → w.cell? ⟨b, off + j, none⟩ = some u)
theorem cell?_keep {w w' : World} (hb : Below w.heap.size w w') {a : Addr} {v : Value} (h : w.cell? a = some v) : w'.cell? a = some v :=
 (hb.cell (World.block_lt_of_cell? w a h)).trans h
theorem Row.mono {w w' : World} {sz : Nat} {a : Option Addr} {n cap : Nat} {xs : List Value} (h : Row w sz a n cap xs) (hb : Below w.heap.size w w') : Row w' sz a n cap xs := by
 obtain ⟨h1, h2, h3, h4, h5⟩ := h
 refine ⟨h1, h2, h3, h4, fun hn => ?_⟩
 obtain ⟨b, off, ha, hlt, hc⟩ := h5 hn
 exact ⟨b, off, ha, Nat.lt_of_lt_of_le hlt hb.size, fun j u hj => cell?_keep hb (hc j u hj)⟩
theorem Row.i64 {w : World} {sz : Nat} {a : Option Addr} {n cap : Nat} {xs : List Value} (h : Row w sz a n cap xs) : (n : Int) ≤ 9223372036854775807 := by
 have := h.2.1; have := h.2.2.1; unfold maxLen at this; omega
theorem Row.at {α : Type} {enc : α → Value} (d : α) {w : World} {a : Option Addr} {n cap : Nat} {l : List α} (h : Row w 1 a n cap (l.map enc)) (k : Nat) (hk : k < n) :
   ∃ b off, a = some ⟨b, off, none⟩ ∧ b < w.heap.size ∧ ∀ k, k < n → w.cell? ⟨b, off + k, none⟩ = some (enc (l.getD k d)) := by
 obtain ⟨h1, h2, h3, h4, h5⟩ := h
 obtain ⟨b, off, rfl, hb, hc⟩ := h5 (by omega)
 refine ⟨b, off, rfl, hb, fun k hk => hc k _ ?_⟩
 simp at h1 ⊢
 have : k < l.length := by omega
 simp [this]
theorem Row.len1 {α : Type} {enc : α → Value} {w : World} {a : Option Addr} {n cap : Nat} {l : List α} (h : Row w 1 a n cap (l.map enc)) : l.length = n := by
 have := h.1; simpa using this
theorem Row.nil (w : World) (sz : Nat) : Row w sz none 0 0 [] := ⟨by simp, Nat.le_refl _, by simp [maxLen], fun _ => rfl, fun h => by omega⟩
theorem Row.of_owns {w : World} {base e sz : Nat} {v : Value} {n : Nat} {xs : List Value} (h : w.ownsRow base e sz v n xs) :
   ∃ a cap, v = .slice a n cap ∧ Row w sz a n cap xs ∧ ∀ x, a = some x → base ≤ x.block := by
 obtain ⟨h1, h2⟩ := h
 rcases h2 with ⟨rfl, rfl⟩ | ⟨g, cap, cur, rfl, hb, hg, hn, hm, hs, ht⟩
 · have : xs = [] := List.eq_nil_of_length_eq_zero (by simpa using h1)
   subst this
   exact ⟨none, 0, rfl, Row.nil w sz, fun x hx => by cases hx⟩
 · refine ⟨some ⟨g, 0, none⟩, cap, rfl, ⟨h1, hn, hm, fun h => (by cases h), fun _ => ⟨g, 0, rfl, (Array.getElem?_eq_some_iff.1 hg).1, fun j u hj => ?_⟩⟩, fun x hx => by cases hx; exact hb⟩
   rw [Nat.zero_add, cell_of_row w g j cur e (0, 0) hg]
   rw [← ht, List.getElem?_take] at hj
   split at hj
   · simpa using hj
   · cases hj
theorem Row.of_own {w : World} {base e sz : Nat} {a : Option Addr} {n m cap : Nat} {xs : List Value} (h : w.ownsRow base e sz (.slice a n cap) m xs) : n = m ∧ Row w sz a n cap xs := by
 obtain ⟨a', cap', hv, hr, _⟩ := Row.of_owns h
 simp only [Value.slice.injEq] at hv
 obtain ⟨rfl, rfl, rfl⟩ := hv
 exact ⟨rfl, hr⟩
theorem zaf {w w' : World} {base e sz : Nat} {v : Value} {n : Nat} {xs : List Value} (h : w.ownsRow base e sz v n xs) (hb : Below w.heap.size w w') : w'.ownsRow base e sz v n xs := by
 obtain ⟨h1, h2⟩ := h
 refine ⟨h1, ?_⟩
 rcases h2 with h2 | ⟨g, cap, cur, hv, hg, hh, r⟩
 · exact .inl h2
 · exact .inr ⟨g, cap, cur, hv, hg, by rw [hb.block g (Array.getElem?_eq_some_iff.1 hh).1]; exact hh, r⟩
theorem zaD {w : World} {base base' e sz : Nat} {v : Value} {n : Nat} {xs : List Value} (h : w.ownsRow base e sz v n xs) (hb : base' ≤ base) : w.ownsRow base' e sz v n xs := by
 obtain ⟨h1, h2⟩ := h
 refine ⟨h1, ?_⟩
 rcases h2 with h2 | ⟨g, cap, cur, hv, hg, r⟩
 · exact .inl h2
 · exact .inr ⟨g, cap, cur, hv, by omega, r⟩
theorem zbm {w w' : World} (hb : Below w.heap.size w w') {b : Nat} {o : Obj} (h : w.heap[b]? = some o) : w'.heap[b]? = some o := by
 rw [hb.block b (Array.getElem?_eq_some_iff.1 h).1]; exact h
structure zcJ (P : Program) (t e : TypeId) (z : Value) (size bytes : Nat) : Prop where
 und : P.underlying t = some (.slice e)
 info : (P.info? e).map (fun i => (i.zero, i.size, i.bytes)) = some (some z, size, bytes)
 cells : z.cells.size = size
 pos : 0 < size
theorem zaK {k : IntKind} {a b : Int} (h : a = b) : Ending.returned (.int k a) = .returned (.int k b) := by rw [h]
theorem ret_bool {a b : Bool} (h : a = b) : Ending.returned (.bool a) = .returned (.bool b) := by rw [h]
theorem zcQ {P : Program} {w : World} {ops : Array Oper} {rest : List Oper} {o : Oper} {a : Act} {Q : Exit → Act → World → Prop} {t e : TypeId} {z : Value} {size bytes : Nat} (T : zcJ P t e z size bytes)
   (hg : o.guard = none) (l c : Operand) (hop : o.op = Op.makeSlice t l c)
   (kl kc : IntKind) (L C : Int) (n : Nat) (hl : a.eval l = .int kl L) (hc : a.eval c = .int kc C) (hL : L = (n : Int)) (hC : C = (n : Int)) (b2 : bytes * n ≤ 281474976710656) (b3 : n ≤ maxLen)
   (hK : ∀ w', w'.ownsRow w.heap.size e size (.slice (some ⟨w.heap.size, 0, none⟩) n n) n (madeCells z.cells (n * size)).toList → Below w.heap.size w w' → wpList P ops Q rest (a.put o.dst (.slice (some ⟨w.heap.size, 0, none⟩) n n)) w') :
   wpList P ops Q (o :: rest) a w := by
 obtain ⟨i, hi, hz, hs, hb⟩ := info_parts T.info
 subst hb
 exact wpList_make_full w hg l c t hop w.heap.size e i z size T.und hi hz hs kl kc L C n hl hc hL hC b2 b3 (Nat.le_refl _)
   fun w' h1 h2 => hK w' h1 ((Below.refl _ _).grown h2 (Nat.le_refl _) (fun k hk => by cases hk))
def fl (n : Nat) (enc : Nat → Value) : List Value := (List.range n).map enc
theorem zaV (n : Nat) (enc : Nat → Value) : (fl n enc).length = n := by simp [fl]
theorem fl_get {n : Nat} (enc : Nat → Value) {i : Nat} (h : i < n) : (fl n enc)[i]? = some (enc i) := by simp [fl, h]
theorem fl_set (n : Nat) (enc : Nat → Value) (i : Nat) (v : Value) : (fl n enc).set i v = fl n (fun j => if j = i then v else enc j) := by
 apply List.ext_getElem?
 intro j
 simp only [fl, List.getElem?_set, List.getElem?_map, List.length_map, List.length_range]
 by_cases hj : j < n
 · by_cases hi : i = j
   · subst hi; simp [hj]
   · simp [hi, hj, Ne.symm hi]
 · by_cases hi : i = j
   · subst hi; simp [hj]
   · simp [hi, hj]
theorem zal {n : Nat} {f g : Nat → Value} (h : ∀ i, i < n → f i = g i) : fl n f = fl n g := by
 apply List.map_congr_left
 intro i hi
 exact h i (by simpa using hi)
theorem zcb (n : Nat) (v : Value) : List.replicate n v = fl n (fun _ => v) := by
 apply List.ext_getElem?
 intro j
 by_cases hj : j < n <;> simp [fl, hj]
theorem map_fl {α : Type} (d : α) (l : List α) (enc : α → Value) : l.map enc = fl l.length (fun i => enc (l.getD i d)) := by
 apply List.ext_getElem?
 intro j
 by_cases hj : j < l.length <;> simp [fl, hj]
theorem zah {w : World} {b : Nat} (o : Obj) (h : b = w.heap.size) : (w.alloc o).heap[b]? = some o := by subst h; exact heap_alloc_new w o
theorem zaL {w : World} {b : Nat} (o : Obj) {o' : Obj} (h : w.heap[b]? = some o') : (w.alloc o).heap[b]? = some o' := by
 rw [Below.heap_alloc w o b (Array.getElem?_eq_some_iff.1 h).1]; exact h
theorem zae (w : World) (o : Obj) : (w.alloc o).heap.size = w.heap.size + 1 := by
 show (w.heap.push o).size = _
 simp
theorem zam (w : World) (o : Obj) : Below w.heap.size w (w.alloc o) := (Below.refl _ _).alloc (Nat.le_refl _) o
theorem zdU (w : World) (o o2 : Obj) : Below w.heap.size w ((w.alloc o).alloc o2) := (zam w o).alloc (by rw [zae]; omega) o2
theorem belowA3 (w : World) (o o2 o3 : Obj) : Below w.heap.size w (((w.alloc o).alloc o2).alloc o3) := (zdU w o o2).alloc (by rw [zae, zae]; omega) o3
theorem zdn {B : Nat} {w0 w : World} (h : Below B w0 w) {g : Nat} (hg : B ≤ g) (cs : Array Value) : Below B w0 (w.setRow g cs) :=
 h.trans ⟨rfl, rfl, rfl, by simp, fun j hj => setRow_other _ _ _ _ (by omega)⟩
theorem zai {w : World} {b n : Nat} {enc : Nat → Value} {t : TypeId} {fr : Nat × Nat} (h : w.heap[b]? = some (.cells (fl n enc).toArray t fr)) (i : Nat) (hi : i < n) : w.cell? ⟨b, i, none⟩ = some (enc i) := by
 rw [cell_of_row w b i _ t fr h]; simp [fl, hi]
theorem zaI {w : World} {b : Nat} {cs : Array Value} {t : TypeId} (h : w.heap[b]? = some (.cells cs t (0, 0))) (i : Nat) : w.frozen? ⟨b, i, none⟩ = false := frozen_of_row w b i cs t h
theorem zaG {w : World} {b n : Nat} {enc : Nat → Value} {t : TypeId} (h : w.heap[b]? = some (.cells (fl n enc).toArray t (0, 0))) (i : Nat) (v : Value) :
   (w.setCell ⟨b, i, none⟩ v).heap[b]? = some (.cells (fl n (fun j => if j = i then v else enc j)).toArray t (0, 0)) := by
 rw [heap_setCell_same w b i _ t v h, List.setIfInBounds_toArray, fl_set]
theorem za3 {w : World} {b : Nat} {o : Obj} (h : w.heap[b]? = some o) {a : Addr} (ha : a.block ≠ b) (v : Value) : (w.setCell a v).heap[b]? = some o := by
 rw [heap_setCell_other w a b v (Ne.symm ha)]; exact h
theorem store_fresh {P : Program} {ops : Array Oper} {rest : List Oper} {o : Oper} {a : Act} {w0 : World} {Q : Exit → Act → World → Prop} (hgd : o.guard = none) (ty : TypeId) (x y : Operand) (ho : o.op = .store ty x y)
   (z : Array Value) (t : TypeId) (cells : Array Value) (hx : a.eval x = .pointer (some ⟨w0.heap.size, 0, none⟩)) (hy : a.eval y = .agg cells)
   (hi : (P.info? ty).map (·.size) = some cells.size) (hold : z.size = cells.size) (h1 : cells.all (·.oneCell') = true)
   (h : ∀ w', w'.heap[w0.heap.size]? = some (.cells cells t (0, 0)) → Below w0.heap.size w0 w' → w'.heap.size = w0.heap.size + 1 → wpList P ops Q rest (a.put o.dst undef) w') : wpList P ops Q (o :: rest) a (w0.alloc (.cells z t)) :=
 wpList_store_row hgd ty x y ho w0.heap.size cells hx hy t z (zah _ rfl) hi hold h1
   (h _ (setRow_heap _ _ _ _ _ _ (zah _ rfl)) (zdn (zam w0 _) (Nat.le_refl _) _) (by rw [size_setRow, zae]))
theorem zan {P : Program} {w : World} {ops : Array Oper} {rest : List Oper} {o : Oper} {a : Act} {Q : Exit → Act → World → Prop} {t e : TypeId} {z : Value} {size bytes : Nat} (T : zcJ P t e z size bytes)
   (hgd : o.guard = none) (s x : Operand) (ho : o.op = .call { callee := .builtin .append, args := #[s, x], argTypes := #[t, t] })
   (base : Nat) (v : Value) (n : Nat) (xs : List Value) (hs : a.eval s = v) (hown : w.ownsRow base e size v n xs)
   (ao : Option Addr) (m c : Nat) (news : List Value) (hx : a.eval x = .slice ao m c) (hr : Row w size ao m c news) (h1 : ∀ u ∈ news, u.oneCell' = true)
   (h63 : n + m ≤ maxLen) (hbytes : (n + m) * bytes ≤ 140737488355328) (hbase : base ≤ w.heap.size)
   (h : ∀ v' w', w'.ownsRow base e size v' (n + m) (xs ++ news) → w.grownBy w' v.ownBlock → (v' = .slice none 0 0 ↔ v = .slice none 0 0 ∧ m = 0) → wpList P ops Q rest (a.put o.dst v') w') : wpList P ops Q (o :: rest) a w := by
 obtain ⟨i, hi, hz, hs', hb⟩ := info_parts T.info
 subst hb
 obtain ⟨r1, r2, r3, r4, r5⟩ := hr
 cases ao with
 | some ad =>
   refine wpList_append_own w hgd s x t ho base e i z size i.bytes T.und hi hz hs' rfl T.cells T.pos v n xs hs hown ad m c news hx r1 (fun j u hj => ?_) h1 h63 hbytes hbase h
   by_cases hm : 0 < m
   · obtain ⟨b, off, hab, _, hc⟩ := r5 hm
     obtain rfl := Option.some.inj hab
     rw [Addr.add_lit]; exact hc j u hj
   · obtain rfl : m = 0 := by omega
     have : news = [] := List.eq_nil_of_length_eq_zero (by simpa using r1)
     subst this; simp at hj
 | none =>
   obtain rfl := r4 rfl
   obtain rfl : m = 0 := by omega
   have : news = [] := List.eq_nil_of_length_eq_zero (by simpa using r1)
   subst this
   refine wpList_plain hgd fun K hK => ?_
   have hrun := run_append_owned_none (P := P) w base t o.type e i size T.und hi v n xs hown
   unfold Oper.wp
   simp [execOp, ho, resolve, invoke, builtin, hs, hx, hrun, Result.andThen]
   exact hK _ _ (h v w (by simpa using hown) ⟨rfl, rfl, rfl, Nat.le_refl _, fun _ _ _ => rfl⟩ (by simp))
def NN (a : Option Addr) (v : Value) : Prop := a ≠ none → v ≠ .slice none 0 0
theorem zel {B : Nat} {w0 w w' : World} {row : Option Nat} (h : Below B w0 w) (hg : w.grownBy w' row) (hB : B ≤ w.heap.size) (hr : ∀ k, row = some k → B ≤ k) : Below B w0 w' := h.grown hg hB hr
theorem zbl (w : World) (x : Value) (e : TypeId) : Row (w.alloc (.cells #[x] e)) 1 (some ⟨w.heap.size, 0, none⟩) 1 1 [x] :=
 ⟨rfl, Nat.le_refl _, by simp [maxLen], fun h => (by cases h), fun _ => ⟨w.heap.size, 0, rfl, by rw [zae]; omega, fun j u hj => by
   rw [cell_of_row _ _ _ _ _ _ (zah _ rfl)]
   rcases j with _ | j
   · simpa using hj
   · simp at hj⟩⟩
theorem zb5 {x : Value} (h : x.oneCell' = true) : ∀ u ∈ [x], u.oneCell' = true := by
 intro u hu; simp at hu; subst hu; exact h
theorem zag {B : Nat} {w w' : World} (h : Below B w w') {b o : Nat} {v : Value} (hb : b < B) (hc : w.cell? ⟨b, o, none⟩ = some v) : w'.cell? ⟨b, o, none⟩ = some v := (h.cell (p := ⟨b, o, none⟩) hb).trans hc
theorem Row.below {B : Nat} {w w' : World} {sz : Nat} {a : Option Addr} {n cap : Nat} {xs : List Value} (h : Row w sz a n cap xs) (hb : Below B w w') (ha : ∀ x, a = some x → x.block < B) : Row w' sz a n cap xs := by
 obtain ⟨h1, h2, h3, h4, h5⟩ := h
 refine ⟨h1, h2, h3, h4, fun hn => ?_⟩
 obtain ⟨b, off, ha', hlt, hc⟩ := h5 hn
 exact ⟨b, off, ha', Nat.lt_of_lt_of_le hlt hb.size, fun j u hj => zag hb (ha _ ha') (hc j u hj)⟩
theorem Row.lt {w : World} {sz : Nat} {a : Option Addr} {n cap : Nat} {xs : List Value} (h : Row w sz a n cap xs) (hn : 0 < n) : ∀ x, a = some x → x.block < w.heap.size := by
 obtain ⟨b, off, ha, hlt, _⟩ := h.2.2.2.2 hn
 intro x hx
 rw [ha] at hx; cases hx; exact hlt
theorem ETI : zcJ Tryz.prog 59 3 (.int .i64 0) 1 8 := ⟨Tryz.underlying59, by kernel_rfl, rfl, by omega⟩
theorem cloneI (a : Option Addr) (n cap : Nat) (xs : List Value) (w : World) (hr : Row w 1 a n cap xs) (h1 : ∀ u ∈ xs, u.oneCell' = true) (hby : n * 8 ≤ 140737488355328) :
   Calls Tryz.prog 59 #[.slice a n cap] w fun e w' => ∃ v, e = .returned v ∧ w'.ownsRow w.heap.size 3 1 v n xs ∧ Below w.heap.size w w' ∧ NN a v := by
 rcases a with _ | ad
 · obtain ⟨r1, r2, r3, r4, r5⟩ := hr
   obtain rfl := r4 rfl
   obtain rfl : n = 0 := by omega
   obtain rfl : xs = [] := List.eq_nil_of_length_eq_zero (by simpa using r1)
   have hnil := fun W : World => Lib.run_eql_slice_nil (P := Tryz.prog) W 59 3 none 0 0 0 0 Tryz.underlying59
   go_enter Tryz.func59, Tryz.ntmps59
   go_wp2
   go_ret
   exact ⟨_, rfl, World.ownsRow_nil _ _ _ _, Below.refl _ _, fun h => absurd rfl h⟩
 · have hm : n ≤ maxLen := Nat.le_trans hr.2.1 hr.2.2.1
   have hnil := fun W : World => Lib.run_eql_slice_nil (P := Tryz.prog) W 59 3 (some ad) n cap 0 0 Tryz.underlying59
   have HR := Lib.hid (hr.mono (zam w (.cells #[] 3)))
   have hO := World.ownsRow_lit (base := w.heap.size) (e := 3) (size := 1) w #[] 0 (Nat.le_refl _) (by simp [maxLen]) (by simp)
   have HO := Lib.hid hO
   clear hO hr
   go_enter Tryz.func59, Tryz.ntmps59
   go_wp2_with (at_builtin; refine zan ETI rfl (.tmp 5) (.tmp 6) rfl w.heap.size (.slice (some ⟨w.heap.size, 0, none⟩) 0 0) 0 _ rfl HO.out _ n _ _ rfl HR.out h1 (by omega) (by omega) (by simp) ?_; intro v' w1 hO1 hg hnil; have HO1 := Lib.hid hO1; have HN := Lib.hid hnil; have HG := Lib.hid hg; clear hO1 hnil hg)
   go_ret
   refine ⟨_, rfl, by simpa using HO1.out, zel (zam w _) HG.out (by rw [zae]; omega) (fun k hk => by simp [Value.ownBlock] at hk; omega), fun _ h => ?_⟩
   have := HN.out.1 h; simp at this
theorem ETB : zcJ Tryz.prog 22 5 (.int .u8 0) 1 1 := ⟨Tryz.underlying22, by kernel_rfl, rfl, by omega⟩
theorem cloneB (a : Option Addr) (n cap : Nat) (xs : List Value) (w : World) (hr : Row w 1 a n cap xs) (h1 : ∀ u ∈ xs, u.oneCell' = true) (hby : n * 1 ≤ 140737488355328) :
   Calls Tryz.prog 23 #[.slice a n cap] w fun e w' => ∃ v, e = .returned v ∧ w'.ownsRow w.heap.size 5 1 v n xs ∧ Below w.heap.size w w' ∧ NN a v := by
 rcases a with _ | ad
 · obtain ⟨r1, r2, r3, r4, r5⟩ := hr
   obtain rfl := r4 rfl
   obtain rfl : n = 0 := by omega
   obtain rfl : xs = [] := List.eq_nil_of_length_eq_zero (by simpa using r1)
   have hnil := fun W : World => Lib.run_eql_slice_nil (P := Tryz.prog) W 22 5 none 0 0 0 0 Tryz.underlying22
   go_enter Tryz.func23, Tryz.ntmps23
   go_wp2
   go_ret
   exact ⟨_, rfl, World.ownsRow_nil _ _ _ _, Below.refl _ _, fun h => absurd rfl h⟩
 · have hm : n ≤ maxLen := Nat.le_trans hr.2.1 hr.2.2.1
   have hnil := fun W : World => Lib.run_eql_slice_nil (P := Tryz.prog) W 22 5 (some ad) n cap 0 0 Tryz.underlying22
   have HR := Lib.hid (hr.mono (zam w (.cells #[] 5)))
   have hO := World.ownsRow_lit (base := w.heap.size) (e := 5) (size := 1) w #[] 0 (Nat.le_refl _) (by simp [maxLen]) (by simp)
   have HO := Lib.hid hO
   clear hO hr
   go_enter Tryz.func23, Tryz.ntmps23
   go_wp2_with (at_builtin; refine zan ETB rfl (.tmp 5) (.tmp 6) rfl w.heap.size (.slice (some ⟨w.heap.size, 0, none⟩) 0 0) 0 _ rfl HO.out _ n _ _ rfl HR.out h1 (by omega) (by omega) (by simp) ?_; intro v' w1 hO1 hg hnil; have HO1 := Lib.hid hO1; have HN := Lib.hid hnil; have HG := Lib.hid hg; clear hO1 hnil hg)
   go_ret
   refine ⟨_, rfl, by simpa using HO1.out, zel (zam w _) HG.out (by rw [zae]; omega) (fun k hk => by simp [Value.ownBlock] at hk; omega), fun _ h => ?_⟩
   have := HN.out.1 h; simp at this
theorem zbZ (n : Int) : bits .and .i64 n 7 = n % 8 := by
 have h7 : (BitVec.ofInt 64 7).toNat = 2 ^ 3 - 1 := by decide
 have key : (BitVec.ofInt 64 n &&& BitVec.ofInt 64 7).toNat = (n % ((2 ^ 64 : Nat) : Int)).toNat % 2 ^ 3 := by
   rw [BitVec.toNat_and, BitVec.toNat_ofInt, h7, Nat.and_two_pow_sub_one_eq_mod]
 show IntKind.i64.wrap ((BitVec.ofInt 64 n &&& BitVec.ofInt 64 7).toNat : Nat) = n % 8
 rw [key, IntKind.wrap_i64]
 omega
theorem case8 (s : Nat) (h : s < 8) : s = 0 ∨ s = 1 ∨ s = 2 ∨ s = 3 ∨ s = 4 ∨ s = 5 ∨ s = 6 ∨ s = 7 := by omega
def za8 (at_ : Nat) (high : Bool) : Nat := if high then 7 - at_ % 8 else at_ % 8
def zdS (at_ : Nat) (high : Bool) : Int := ((2 ^ za8 at_ high : Nat) : Int)
theorem zc4 (at_ : Nat) (high : Bool) : za8 at_ high < 8 := by unfold za8; split <;> omega
theorem zdF (b off at_ : Nat) (high : Bool) (w : World) (h0 : w.cell? ⟨b, off, none⟩ = some (.int .i64 at_)) (h1 : w.cell? ⟨b, off + 1, none⟩ = some (.bool high)) :
   Calls Tryz.prog 75 #[.pointer (some ⟨b, off, none⟩)] w fun e w' => e = .returned (.int .u8 (zdS at_ high)) ∧ w = w' := by
 obtain ⟨s, hs⟩ : ∃ s, s = at_ % 8 := ⟨_, rfl⟩
 have hand : bits .and .i64 (at_ : Int) 7 = (s : Int) := by rw [zbZ]; omega
 have hv : zdS at_ high = if high then ((2 ^ (7 - s) : Nat) : Int) else ((2 ^ s : Nat) : Int) := by
   unfold zdS za8; rw [← hs]; cases high <;> rfl
 have hs8 : s < 8 := by omega
 have HV := Lib.hid hv
 clear hv hs
 rcases case8 s hs8 with rfl | rfl | rfl | rfl | rfl | rfl | rfl | rfl <;> cases high
 all_goals
   clear hs8
   go_enter Tryz.func75, Tryz.ntmps75
   go_wp2
   go_ret
   exact ⟨congrArg (fun x => Ending.returned (.int .u8 x)) HV.out.symm, rfl⟩
def zbf (k n : Nat) (high : Bool) : Nat := if high then n - 1 - k else k
theorem turn_any (b off k n : Nat) (high : Bool) (w : World) (h1 : w.cell? ⟨b, off + 1, none⟩ = some (.bool high)) (hk : k < n) (hn : n ≤ 32) :
   Calls Tryz.prog 57 #[.pointer (some ⟨b, off, none⟩), .int .i64 k, .int .i64 n] w fun e w' => e = .returned (.int .i64 (zbf k n high : Nat)) ∧ w = w' := by
 have hv : ((zbf k n high : Nat) : Int) = if high then (n : Int) - 1 - k else (k : Int) := by unfold zbf; cases high <;> simp <;> omega
 have HV := Lib.hid hv
 clear hv
 cases high
 all_goals
   go_enter Tryz.func57, Tryz.ntmps57
   go_wp2
   go_ret
   exact ⟨congrArg (fun x => Ending.returned (.int .i64 x)) HV.out.symm, rfl⟩
structure IsRd (w : World) (r : Nat) (bs : List UInt8) (high : Bool) (at_ : Nat) : Prop where
 ex : ∃ a cap, w.heap[r]? = some (.cells (fl 4 (fun i => if i = 0 then .int .i64 at_ else if i = 1 then .bool high else if i = 2 then .bool true else .slice a bs.length cap)).toArray 58 (0, 0)) ∧
   Row w 1 a bs.length cap (bs.map fun b => .int .u8 b.toNat) ∧ ∀ x, a = some x → x.block < r
 le : at_ ≤ 8 * bs.length
 small : 8 * bs.length < 4611686018427387904
theorem zb6 (r : Nat) (bs : List UInt8) (high : Bool) (at_ : Nat) (w : World) (h : IsRd w r bs high at_) :
   Calls Tryz.prog 31 #[.pointer (some ⟨r, 0, none⟩)] w fun e w' => e = .returned (.bool false) ∧ w = w' := by
 obtain ⟨⟨a, cap, hb, hr, hne⟩, hle, hsm⟩ := h
 have h2 := zai hb 2 (by omega)
 simp only [if_pos, Nat.reduceEqDiff, if_false] at h2
 go_enter Tryz.func31, Tryz.ntmps31
 go_wp2
 go_ret
 exact ⟨rfl, rfl⟩
theorem left_any (r : Nat) (bs : List UInt8) (high : Bool) (at_ : Nat) (w : World) (h : IsRd w r bs high at_) :
   Calls Tryz.prog 74 #[.pointer (some ⟨r, 0, none⟩)] w fun e w' => e = .returned (.int .i64 ((8 * bs.length - at_ : Nat) : Int)) ∧ ∃ q, w' = w.drewN q := by
 have hdead := zb6 r bs high at_ w h
 have HD := Lib.hid hdead
 obtain ⟨⟨a, cap, hb, hr, hne⟩, hle, hsm⟩ := h
 have h0 := zai hb 0 (by omega)
 have h3 := zai hb 3 (by omega)
 simp only [if_pos, Nat.reduceEqDiff, if_false] at h0 h3
 have hv : ((8 * bs.length - at_ : Nat) : Int) = 8 * (bs.length : Int) - at_ := by omega
 have HV := Lib.hid hv
 clear hv hb hr hne hdead
 generalize bs.length = n at *
 go_enter Tryz.func74, Tryz.ntmps74
 go_wp2_with (go_at_call 31; refine HD.out.mono ?_; rintro e w' ⟨rfl, rfl⟩)
 go_quiet (fail)
 go_wp2
 go_ret
 exact ⟨congrArg (fun x => Ending.returned (.int .i64 x)) HV.out.symm, _, rfl⟩
end Go.Proofs.YtngjbhejfojpbaaGreat
namespace Go.Proofs.YtngjbhejfojpbaaGreat
open Go.RowKit Go.Sort
structure SB {α : Type} (enc : α → Value) (w0 : World) (g : Nat) (t : TypeId) (rest : List Value) (d : Array α) (w : World) : Prop where
 grown : w0.grownBy w (some g)
 blk : w.heap[g]? = some (.cells (d.toList.map enc ++ rest).toArray t (0, 0))
section
variable {α : Type} {enc : α → Value} {w0 w : World} {g : Nat} {t : TypeId} {rest : List Value} {d : Array α}
theorem SB.cell [Inhabited α] (h : SB enc w0 g t rest d w) (i : Nat) (hi : i < d.size) : w.cell? ⟨g, i, none⟩ = some (enc d[i]!) := by
 rw [cell_of_row w g i _ t (0, 0) h.blk]
 simp [List.getElem?_append, hi]
theorem SB.free (h : SB enc w0 g t rest d w) (i : Nat) : w.frozen? ⟨g, i, none⟩ = false := frozen_of_row w g i _ t h.blk
theorem SB.drewN (h : SB enc w0 g t rest d w) (n : Nat) : SB enc w0 g t rest d (w.drewN n) := ⟨⟨h.grown.os, h.grown.tape, h.grown.output, h.grown.size, h.grown.block⟩, h.blk⟩
theorem zaO {w0 w : World} {g i : Nat} (h : w0.grownBy w (some g)) (v : Value) : w0.grownBy (w.setCell ⟨g, i, none⟩ v) (some g) :=
 ⟨h.os, h.tape, h.output, by simp [World.setCell]; exact h.size, fun k hk hne => by rw [heap_setCell_other w ⟨g, i, none⟩ k v (fun e => hne (by simp [e]))]; exact h.block k hk hne⟩
theorem zcK {a b c : World} {row : Option Nat} (h : a.grownBy b row) (k : b.grownBy c row) : a.grownBy c row :=
 ⟨k.os.trans h.os, k.tape.trans h.tape, k.output.trans h.output, Nat.le_trans h.size k.size, fun i hi hne => (k.block i (Nat.lt_of_lt_of_le hi h.size) hne).trans (h.block i hi hne)⟩
theorem grownBy_refl (w : World) (row : Option Nat) : w.grownBy w row := ⟨rfl, rfl, rfl, Nat.le_refl _, fun _ _ _ => rfl⟩
theorem zbW {w0 w : World} {row : Option Nat} (h : w0.grownBy w row) (n : Nat) : w0.grownBy (w.drewN n) row := ⟨h.os, h.tape, h.output, h.size, h.block⟩
theorem SB.set (h : SB enc w0 g t rest d w) (i : Nat) (hi : i < d.size) (x : α) : SB enc w0 g t rest (d.setIfInBounds i x) (w.setCell ⟨g, i, none⟩ (enc x)) := by
 refine ⟨zaO h.grown _, ?_⟩
 rw [heap_setCell_same w g i _ t _ h.blk, List.setIfInBounds_toArray, List.set_append]
 simp [hi, List.map_set]
theorem SB.swp [Inhabited α] (h : SB enc w0 g t rest d w) (i j : Nat) (hi : i < d.size) (hj : j < d.size) (q : Nat) :
   SB enc w0 g t rest (swp d i j) (((w.drewN q).setCell ⟨g, i, none⟩ (enc d[j]!)).setCell ⟨g, j, none⟩ (enc d[i]!)) :=
 ((h.drewN q).set i hi _).set j (by simpa using hj) _
theorem SB.row (h : SB enc w0 g t rest d w) {cap : Nat} (h1 : d.size ≤ cap) (h2 : cap ≤ maxLen) : Row w 1 (some ⟨g, 0, none⟩) d.size cap (d.toList.map enc) := by
 refine ⟨by simp, h1, h2, fun e => (by cases e), fun _ => ⟨g, 0, rfl, (Array.getElem?_eq_some_iff.1 h.blk).1, fun j u hj => ?_⟩⟩
 rw [Nat.zero_add, cell_of_row w g j _ t (0, 0) h.blk]
 have hjl := (List.getElem?_eq_some_iff.1 hj).1
 rw [List.getElem?_toArray, List.getElem?_append_left hjl]; exact hj
theorem SB.start {cs : Array Value} {n : Nat} (hb : w.heap[g]? = some (.cells cs t (0, 0))) (hx : cs.toList.take n = d.toList.map enc) : SB enc w g t (cs.toList.drop n) d w :=
 ⟨⟨rfl, rfl, rfl, Nat.le_refl _, fun _ _ _ => rfl⟩, by rw [← hx, List.take_append_drop]; exact hb⟩
end
structure CmpQ {α : Type} (P : Program) (f : FuncId) (cb : Array Value) (enc : α → Value) (cf : α → α → Int) (D : α → Prop) (w0 : World) (g : Nat) : Prop where
 enters : ∀ args w, (callFunc f args).run P w = .ok (.enter f args) w
 calls : ∀ W, w0.grownBy W (some g) → ∀ x y, D x → D y → Calls P f (#[enc x, enc y] ++ cb) W fun e w' => e = .returned (.int .i64 (cf x y)) ∧ ∃ q, w' = W.drewN q
def ltOf {α : Type} (cf : α → α → Int) (x y : α) : Bool := decide (cf x y < 0)
section
variable {α : Type} [Inhabited α] (lt : α → α → Bool)
theorem inner_go (a j : Nat) (d : Array α) (hj : a < j) (hl : lt d[j]! d[j - 1]! = true) : insInner lt a j d = insInner lt a (j - 1) (swp d j (j - 1)) := by
 rcases j with _ | k
 · omega
 · have h1 : (decide (k + 1 > a) && lt d[k + 1]! d[k]!) = true := by simp only [Nat.add_sub_cancel] at hl; simp [hl, hj]
   rw [insInner, if_pos h1]; rfl
theorem zcm (a j : Nat) (d : Array α) (h : j ≤ a ∨ lt d[j]! d[j - 1]! = false) : insInner lt a j d = d := by
 rcases j with _ | k
 · rfl
 · rw [insInner, if_neg]
   simp only [Nat.add_sub_cancel] at h
   rcases h with h | h
   · simp; omega
   · simp [h]
theorem zch (a b i : Nat) (d : Array α) (h : i < b) : insOuter lt a b i d = insOuter lt a b (i + 1) (insInner lt a i d) := by rw [insOuter, if_pos h]
theorem zbo (a b i : Nat) (d : Array α) (h : ¬ i < b) : insOuter lt a b i d = d := by rw [insOuter, if_neg h]
end
end Go.Proofs.YtngjbhejfojpbaaGreat
namespace Go.Proofs.YtngjbhejfojpbaaGreat
open Go.RowKit
def zaF (bs : List UInt8) (high : Bool) (i : Nat) : Bool := (bs.getD (i / 8) 0).toNat / 2 ^ za8 i high % 2 == 1
def getV (f : Nat → Bool) (high : Bool) (n : Nat) : Nat → Nat
 | 0 => 0
 | k + 1 => getV f high n k + if f k then 2 ^ zbf k n high else 0
theorem zfn (f : Nat → Bool) (n : Nat) : ∀ k, getV f false n k < 2 ^ k
 | 0 => by simp [getV]
 | k + 1 => by
   have := zfn f n k
   simp only [getV, zbf, Nat.pow_succ]
   split <;> simp <;> omega
theorem zdJ (f : Nat → Bool) (n : Nat) : ∀ k, k ≤ n → getV f true n k % 2 ^ (n - k) = 0 ∧ getV f true n k + 2 ^ (n - k) ≤ 2 ^ n
 | 0, _ => by simp [getV]
 | k + 1, h => by
   obtain ⟨h1, h2⟩ := zdJ f n k (by omega)
   have e : n - k = (n - (k + 1)) + 1 := by omega
   have e2 : n - 1 - k = n - (k + 1) := by omega
   rw [e, Nat.pow_succ] at h1 h2
   have hp : 0 < 2 ^ (n - (k + 1)) := Nat.pow_pos (by omega)
   have hd : 2 ^ (n - (k + 1)) ∣ getV f true n k := Nat.dvd_trans (Nat.dvd_mul_right _ 2) (Nat.dvd_of_mod_eq_zero h1)
   simp only [getV, zbf, if_true, e2]
   generalize 2 ^ (n - (k + 1)) = p at *
   split
   · exact ⟨Nat.mod_eq_zero_of_dvd ((Nat.dvd_add_right hd).2 (Nat.dvd_refl _)), by omega⟩
   · exact ⟨Nat.mod_eq_zero_of_dvd (by simpa using hd), by omega⟩
theorem zfl (f : Nat → Bool) (high : Bool) (n k : Nat) (h : k ≤ n) : getV f high n k < 2 ^ n := by
 cases high
 · exact Nat.lt_of_lt_of_le (zfn f n k) (Nat.pow_le_pow_right (by omega) h)
 · have := (zdJ f n k h).2
   have hp : 0 < 2 ^ (n - k) := Nat.pow_pos (by omega)
   omega
theorem getV_or (f : Nat → Bool) (high : Bool) (n k : Nat) (h : k < n) : getV f high n k ||| 2 ^ zbf k n high = getV f high n k + 2 ^ zbf k n high := by
 cases high
 · have hl := zfn f n k
   simp only [zbf]
   rw [Nat.or_comm, if_neg (by simp), nat_join k _ _ (Nat.mod_self _) hl]; omega
 · obtain ⟨h1, h2⟩ := zdJ f n k (by omega)
   have e : n - k = (n - 1 - k) + 1 := by omega
   rw [e] at h1
   simp only [zbf, if_true]
   exact nat_join (n - 1 - k + 1) _ _ h1 (Nat.pow_lt_pow_right (by omega) (by omega))
theorem zcU {P : Program} {f : FuncId} {args : Array Value} {w : World} {n : Nat} {v : Value}
   (h : Calls P f args (w.drewN n) fun e w' => e = .returned v ∧ w.drewN n = w') : Calls P f args (w.drewN n) fun e w'' => e = .returned v ∧ ∃ m, w'' = w.drewN m :=
 h.mono fun _ _ ⟨he, hm⟩ => ⟨he, n, hm.symm⟩
theorem Row.kept {w w' : World} {r sz : Nat} {a : Option Addr} {n cap : Nat} {xs : List Value} (h : Row w sz a n cap xs) (hg : w.grownBy w' (some r)) (hne : ∀ x, a = some x → x.block ≠ r) : Row w' sz a n cap xs := by
 obtain ⟨h1, h2, h3, h4, h5⟩ := h
 refine ⟨h1, h2, h3, h4, fun hn => ?_⟩
 obtain ⟨b, off, ha, hlt, hc⟩ := h5 hn
 exact ⟨b, off, ha, Nat.lt_of_lt_of_le hlt hg.size, fun j u hj => hg.cell (hc j u hj) (by have := hne _ ha; simpa using this)⟩
theorem pow32 {n : Nat} (h : n ≤ 32) : 2 ^ n ≤ 4294967296 := Nat.pow_le_pow_right (n := 2) (by omega) h
theorem or_pow (g t : Nat) (hg : g < 4294967296) (ht : t < 32) (h : g ||| 2 ^ t = g + 2 ^ t) : bits .or .u32 (g : Int) ((2 : Int) ^ t % 4294967296) = ((g + 2 ^ t : Nat) : Int) := by
 have hp : 2 ^ t < 4294967296 := Nat.lt_of_lt_of_le (Nat.pow_lt_pow_right (by omega) ht) (by omega)
 have e : (2 : Int) ^ t % 4294967296 = ((2 ^ t : Nat) : Int) := by
   have e2 : (2 : Int) ^ t = ((2 ^ t : Nat) : Int) := by simp
   rw [e2]
   generalize 2 ^ t = q at *
   omega
 rw [e, u32_or_nat _ _ hg hp, h]
theorem rbit_test (x s : Nat) (hx : x < 256) (hs : s < 8) : bits .and .u8 (x : Int) ((2 ^ s : Nat) : Int) = if x / 2 ^ s % 2 == 1 then ((2 ^ s : Nat) : Int) else 0 := by
 have hp : 2 ^ s < 256 := Nat.lt_of_lt_of_le (Nat.pow_lt_pow_right (by omega) hs) (by omega)
 rw [u8_and_nat x (2 ^ s) hx hp, nat_bit]
 have hm : x / 2 ^ s % 2 = 0 ∨ x / 2 ^ s % 2 = 1 := by omega
 rcases hm with h | h <;> simp [h]
theorem get_ok (r n : Nat) (bs : List UInt8) (high : Bool) (at_ : Nat) (w : World) (h : IsRd w r bs high at_) (hn : n ≤ 32) (hle2 : at_ + n ≤ 8 * bs.length) :
   Calls Tryz.prog 48 #[.pointer (some ⟨r, 0, none⟩), .int .i64 n] w fun e w' => e = .returned (.tuple #[.int .u32 (getV (fun k => zaF bs high (at_ + k)) high n n : Nat), .int .i64 0]) ∧ IsRd w' r bs high (at_ + n) ∧ w.grownBy w' (some r) := by
 have hdead := zb6 r bs high at_ w h
 have hleft := left_any r bs high at_ w h
 obtain ⟨⟨a, cap, hb, hr, hne⟩, hle, hsm⟩ := h
 have HD := Lib.hid hdead
 have HL := Lib.hid hleft
 have HB := Lib.hid hb
 have HR := Lib.hid hr
 have HNL := Lib.hid hne
 have HN := Lib.hid (show ∀ x, a = some x → x.block ≠ r from fun x hx => Nat.ne_of_lt (hne x hx))
 have hN : decide (8 * bs.length - at_ < n) = false := by simp; omega
 have hN1 : decide ((n : Int) < 0) = false := by simp
 have hN2 : decide (32 < (n : Int)) = false := by simp; omega
 clear hdead hleft hb hr hne
 go_enter Tryz.func48, Tryz.ntmps48
 go_wp2_with (first
   | (go_at_call 31; refine HD.out.mono ?_; rintro e w' ⟨rfl, rfl⟩)
   | (go_at_call 74; refine HL.out.mono ?_; rintro e w' ⟨rfl, q1, rfl⟩))
 go_loopw [6, 24] (fun x i wr => ∃ k : Nat, k ≤ n ∧ i = .int .i64 k ∧ x = .int .u32 (getV (fun k => zaF bs high (at_ + k)) high n k : Nat) ∧
     Hid (wr.heap[r]? = some (.cells (fl 4 (fun i => if i = 0 then .int .i64 ((at_ + k : Nat) : Int) else if i = 1 then .bool high else if i = 2 then .bool true else .slice a bs.length cap)).toArray 58 (0, 0))) ∧ Hid (w.grownBy wr (some r))) (fun _ i _ => n - (intOf i).toNat)
 case atStart => exact ⟨0, by omega, rfl, rfl, HB, ⟨rfl, rfl, rfl, Nat.le_refl _, fun _ _ _ => rfl⟩⟩
 case round =>
   obtain ⟨k, hk, rfl, rfl, HBk, HG⟩ := hrel
   by_cases hlt : k < n
   · have h0 := zai HBk.out 0 (by omega)
     have h1 := zai HBk.out 1 (by omega)
     have h3 := zai HBk.out 3 (by omega)
     have hfr := zaI HBk.out 0
     simp only [if_pos, Nat.reduceEqDiff, if_false] at h0 h1 h3
     obtain ⟨b, off, rfl, hblt, hc⟩ := HR.out.at 0 ((at_ + k) / 8) (by omega)
     have hck := hc ((at_ + k) / 8) (by omega)
     have hbr : b ≠ r := by have := HN.out ⟨b, off, none⟩ rfl; simpa using this
     have hck2 : wr.cell? ⟨b, off + (at_ + k) / 8, none⟩ = some (.int .u8 ((bs.getD ((at_ + k) / 8) 0).toNat : Int)) := HG.out.cell hck (by simpa using hbr)
     obtain ⟨x, hx⟩ : ∃ x, x = (bs.getD ((at_ + k) / 8) 0).toNat := ⟨_, rfl⟩
     rw [← hx] at hck2
     have hx2 : x < 256 := by rw [hx]; exact (bs.getD ((at_ + k) / 8) 0).toNat_lt
     have hbt := rbit_test x (za8 (at_ + k) high) hx2 (zc4 _ _)
     have hbA : zaF bs high (at_ + k) = (x / 2 ^ za8 (at_ + k) high % 2 == 1) := by unfold zaF; rw [← hx]
     have HX := Lib.hid hx
     have HBA := Lib.hid hbA
     clear hc hck hx hbA
     have hpos : 0 < 2 ^ za8 (at_ + k) high := Nat.pow_pos (by omega)
     by_cases hbit : (x / 2 ^ za8 (at_ + k) high % 2 == 1) = true
     · rw [if_pos hbit] at hbt
       have htest : (bits BinOp.and IntKind.u8 (x : Int) (zdS (at_ + k) high) != 0) = true := by
         unfold zdS; rw [hbt]; rw [bne_iff_ne]; omega
       have HBT := Lib.hid (show zaF bs high (at_ + k) = true by rw [HBA.out]; exact hbit)
       clear hbt hbit hpos
       have hor := Lib.hid (getV_or (fun k => zaF bs high (at_ + k)) high n k hlt)
       have hgl := Lib.hid <| zfl (fun k => zaF bs high (at_ + k)) high n k hk
       have ht32 : zbf k n high < 32 := by unfold zbf; split <;> omega
       go_wp2
       go_quiet ((go_at_call 75; refine zcU (zdF r 0 (at_ + k) high _ (by simpa using h0) (by simpa using h1))))
       go_wp2_with (go_at_call 57; refine (turn_any r 0 k n high _ (by simpa using h1) hlt hn).mono ?_; rintro e w' ⟨rfl, rfl⟩)
       go_roundw
       case rel =>
         refine ⟨k + 1, by omega, by go_num, ?_, ?_, ?_⟩
         · have e : getV (fun k => zaF bs high (at_ + k)) high n (k + 1) = getV (fun k => zaF bs high (at_ + k)) high n k + 2 ^ zbf k n high := by
             simp [getV, HBT.out]
           rw [e, or_pow _ _ (Nat.lt_of_lt_of_le hgl.out (pow32 hn)) ht32 hor.out]
         · refine Lib.hid ?_
           have hs := zaG (w := wr.drewN nq) HBk.out 0 (Value.int IntKind.i64 ((at_ : Int) + k + 1))
           rw [hs]
           exact congrArg (fun x => some (Obj.cells (List.toArray x) _ _)) (zal fun i _ => by
             by_cases hi : i = 0
             · subst hi; simp; omega
             · simp [hi])
         · exact Lib.hid (zaO (zbW HG.out nq) _)
       case measure => simp [intOf]; omega
     · rw [if_neg hbit] at hbt
       have htest : (bits BinOp.and IntKind.u8 (x : Int) (zdS (at_ + k) high) != 0) = false := by
         unfold zdS; rw [hbt]; rfl
       have HBT := Lib.hid (show zaF bs high (at_ + k) = false by rw [HBA.out]; simpa using hbit)
       clear hbt hbit hpos
       go_wp2
       go_quiet ((go_at_call 75; refine zcU (zdF r 0 (at_ + k) high _ (by simpa using h0) (by simpa using h1))))
       go_wp2
       go_roundw
       case rel =>
         refine ⟨k + 1, by omega, by go_num, ?_, ?_, ?_⟩
         · have : getV (fun k => zaF bs high (at_ + k)) high n (k + 1) = getV (fun k => zaF bs high (at_ + k)) high n k := by
             simp [getV, HBT.out]
           rw [this]
         · refine Lib.hid ?_
           have hs := zaG (w := wr.drewN nq) HBk.out 0 (Value.int IntKind.i64 ((at_ : Int) + k + 1))
           rw [hs]
           exact congrArg (fun x => some (Obj.cells (List.toArray x) _ _)) (zal fun i _ => by
             by_cases hi : i = 0
             · subst hi; simp; omega
             · simp [hi])
         · exact Lib.hid (zaO (zbW HG.out nq) _)
       case measure => simp [intOf]; omega
   · obtain rfl : k = n := by omega
     go_wp2
     go_ret2
     exact ⟨rfl, ⟨⟨a, cap, HBk.out, HR.out.kept HG.out HN.out, HNL.out⟩, by omega, hsm⟩, HG.out⟩
theorem zcF {α : Type} (a b : List α) (d : α) (i : Nat) (h : i < a.length) : (a ++ b).getD i d = a.getD i d := by simp [List.getD, List.getElem?_append_left h]
theorem zcj {α : Type} (a b : List α) (d : α) (i : Nat) (h : a.length ≤ i) : (a ++ b).getD i d = b.getD (i - a.length) d := by simp [List.getD, List.getElem?_append_right h]
theorem zdB (bs : List UInt8) (high : Bool) (i : Nat) : zaF bs high i = (bs.getD (i / 8) 0).toNat.testBit (za8 i high) := by
 unfold zaF
 rw [Nat.testBit_eq_decide_div_mod_eq]
 rfl
theorem or_byte (x : UInt8) (s : Nat) (h : s < 8) : (UInt8.ofNat (x.toNat ||| 2 ^ s)).toNat = x.toNat ||| 2 ^ s := by
 have h1 : x.toNat ||| 2 ^ s < 2 ^ 8 := Nat.or_lt_two_pow x.toNat_lt (Nat.pow_lt_pow_right (by omega) h)
 simp only [UInt8.toNat_ofNat']
 exact Nat.mod_eq_of_lt h1
def zbi (bs : List UInt8) (high : Bool) (B : List Bool) : Prop := bs.length = (B.length + 7) / 8 ∧ ∀ i, i < 8 * bs.length → zaF bs high i = B.getD i false
def Room (bs : List UInt8) (high : Bool) (B : List Bool) : Prop := bs.length = B.length / 8 + 1 ∧ ∀ i, i < 8 * bs.length → zaF bs high i = B.getD i false
theorem wrote_nil (high : Bool) : zbi [] high [] := ⟨rfl, fun i h => by simp at h⟩
theorem room_pad {bs : List UInt8} {high : Bool} {B : List Bool} (h : zbi bs high B) (h8 : B.length % 8 = 0) : Room (bs ++ [0]) high B := by
 obtain ⟨h1, h2⟩ := h
 refine ⟨by simp; omega, fun i hi => ?_⟩
 simp at hi
 by_cases hlt : i < 8 * bs.length
 · rw [← h2 i hlt]
   simp only [zaF]
   rw [zcF _ _ _ _ (by omega)]
 · have e : (bs ++ [(0 : UInt8)]).getD (i / 8) (0 : UInt8) = (0 : UInt8) := by
     rw [zcj _ _ _ _ (by omega), show i / 8 - bs.length = 0 from by omega]; rfl
   rw [zdB, e]
   simp [List.getD, show ¬ i < B.length from by omega]
theorem room_in {bs : List UInt8} {high : Bool} {B : List Bool} (h : zbi bs high B) (h8 : B.length % 8 ≠ 0) : Room bs high B := ⟨by have := h.1; omega, h.2⟩
theorem getD_snoc (B : List Bool) (x : Bool) (i : Nat) : (B ++ [x]).getD i false = if i = B.length then x else B.getD i false := by
 by_cases h : i = B.length
 · subst h; simp [List.getD]
 · rw [if_neg h]
   by_cases h2 : i < B.length
   · rw [zcF _ _ _ _ h2]
   · simp [List.getD, h2, List.getElem?_append, show ¬ i - B.length = 0 from by omega]
theorem wrote_zero {bs : List UInt8} {high : Bool} {B : List Bool} (h : Room bs high B) : zbi bs high (B ++ [false]) := by
 obtain ⟨h1, h2⟩ := h
 refine ⟨by simp; omega, fun i hi => ?_⟩
 rw [h2 i hi, getD_snoc]
 split
 · rename_i e; subst e; simp [List.getD]
 · rfl
theorem maskE_inj {i n : Nat} {high : Bool} (h1 : i / 8 = n / 8) (h2 : za8 i high = za8 n high) : i = n := by
 unfold za8 at h2
 cases high <;> simp at h2 <;> omega
theorem wrote_one {bs : List UInt8} {high : Bool} {B : List Bool} (h : Room bs high B) :
   zbi (bs.set (B.length / 8) (UInt8.ofNat ((bs.getD (B.length / 8) 0).toNat ||| 2 ^ za8 B.length high))) high (B ++ [true]) := by
 obtain ⟨h1, h2⟩ := h
 refine ⟨by simp; omega, fun i hi => ?_⟩
 simp only [List.length_set] at hi
 rw [getD_snoc, zdB]
 by_cases hq : i / 8 = B.length / 8
 · rw [show (bs.set (B.length / 8) (UInt8.ofNat ((bs.getD (B.length / 8) 0).toNat ||| 2 ^ za8 B.length high))).getD (i / 8) 0 = UInt8.ofNat ((bs.getD (B.length / 8) 0).toNat ||| 2 ^ za8 B.length high) from by
     rw [hq]; simp [List.getD, show B.length / 8 < bs.length from by omega]]
   rw [or_byte _ _ (zc4 _ _), Nat.testBit_or, Nat.testBit_two_pow]
   by_cases hi2 : i = B.length
   · rw [if_pos hi2, hi2]; simp
   · rw [if_neg hi2, ← h2 i hi, zdB, hq]
     have hm : ¬ za8 B.length high = za8 i high := fun e => hi2 (maskE_inj hq e.symm)
     simp [hm]
 · rw [if_neg (fun e => hq (by rw [e])), ← h2 i hi, zdB]
   simp [List.getD, Ne.symm hq]
def putL (x : Nat) (high : Bool) (n : Nat) : Nat → List Bool
 | 0 => []
 | k + 1 => putL x high n k ++ [x.testBit (zbf k n high)]
theorem zac (x : Nat) (high : Bool) (n : Nat) : ∀ k, (putL x high n k).length = k
 | 0 => rfl
 | k + 1 => by simp [putL, zac x high n k]
def NewAt (w : World) (v v' : Value) : Prop := ∀ b, v'.ownBlock = some b → v.ownBlock = some b ∨ w.heap.size ≤ b
theorem zfu {P : Program} (w : World) (base : Nat) (t ty e : TypeId) (i : TypeInfo) (z : Value) (size bytes : Nat) (ht : P.underlying t = some (.slice e)) (hi : P.info? e = some i) (hz : i.zero = some z)
   (hsize : i.size = size) (hby : i.bytes = bytes) (hzs : z.cells.size = size) (hsz : 0 < size)
   (v : Value) (n : Nat) (xs : List Value) (hown : w.ownsRow base e size v n xs)
   (a : Addr) (m c : Nat) (news : List Value) (hl : news.length = m * size) (hnews : ∀ j u, news[j]? = some u → w.cell? (a.add j) = some u) (h1 : ∀ u ∈ news, u.oneCell' = true)
   (h63 : n + m ≤ maxLen) (hbytes : (n + m) * bytes ≤ 140737488355328) (hbase : base ≤ w.heap.size) :
   ∃ v' w', (Builtin.append_ #[t, t] ty #[v, .slice (some a) m c]).run P w = .ok v' w' ∧ w'.ownsRow base e size v' (n + m) (xs ++ news) ∧ w.grownBy w' v.ownBlock ∧
     (v' = .slice none 0 0 ↔ v = .slice none 0 0 ∧ m = 0) ∧ NewAt w v v' := by
 obtain ⟨v', w', hr, h2, h3, h4⟩ := run_append_own (P := P) w base t ty e i z size bytes ht hi hz hsize hby hzs hsz v n xs hown a m c news hl hnews h1 h63 hbytes hbase
 refine ⟨v', w', hr, h2, h3, h4, ?_⟩
 have hsmall : n + m ≤ 9223372036854775807 := by simp only [maxLen] at h63; omega
 rcases hown.2 with ⟨rfl, hx⟩ | ⟨g, cap, cur, rfl, hbg, hg, hnc, hcm, hcs, htake⟩
 · obtain ⟨v2, w2, hr2, g2, _, _⟩ := run_append_own (P := P) w w.heap.size t ty e i z size bytes ht hi hz hsize hby hzs hsz _ n xs ⟨hown.1, .inl ⟨rfl, hx⟩⟩ a m c news hl hnews h1 h63 hbytes (Nat.le_refl _)
   rw [hr] at hr2
   simp only [Result.ok.injEq] at hr2
   obtain ⟨rfl, rfl⟩ := hr2
   exact fun b hb => .inr (g2.lt b hb).1
 · subst hsize hby
   by_cases hroom : n + m ≤ cap
   · have hfit : n * i.size + news.length ≤ cur.size := by rw [hl, hcs, ← Nat.add_mul]; exact Nat.mul_le_mul_right _ hroom
     have hr2 := run_append_room (P := P) w t ty e i ht hi g n cap cur hg a m c news hl hnews h1 hroom hfit
     rw [hr] at hr2
     simp only [Result.ok.injEq] at hr2
     obtain ⟨rfl, rfl⟩ := hr2
     exact fun b hb => .inl hb
   · have hr2 := run_append_grow (P := P) w t ty e i z ht hi hz ⟨g, 0, none⟩ n cap xs hown.1 (hown.cells (g := g) rfl) a m c news hl hnews (by omega) (by omega) (growslice_fits (by omega) hbytes)
     rw [hr] at hr2
     simp only [Result.ok.injEq] at hr2
     obtain ⟨rfl, rfl⟩ := hr2
     intro b hb
     simp [Value.ownBlock] at hb
     right; omega
theorem zb8 {P : Program} {w : World} {ops : Array Oper} {rest : List Oper} {o : Oper} {a : Act} {Q : Exit → Act → World → Prop} {t e : TypeId} {z : Value} {size bytes : Nat} (T : zcJ P t e z size bytes)
   (hgd : o.guard = none) (s x : Operand) (ho : o.op = .call { callee := .builtin .append, args := #[s, x], argTypes := #[t, t] })
   (base : Nat) (v : Value) (n : Nat) (xs : List Value) (hs : a.eval s = v) (hown : w.ownsRow base e size v n xs)
   (ao : Option Addr) (m c : Nat) (news : List Value) (hx : a.eval x = .slice ao m c) (hr : Row w size ao m c news) (h1 : ∀ u ∈ news, u.oneCell' = true)
   (h63 : n + m ≤ maxLen) (hbytes : (n + m) * bytes ≤ 140737488355328) (hbase : base ≤ w.heap.size)
   (h : ∀ v' w', w'.ownsRow base e size v' (n + m) (xs ++ news) → w.grownBy w' v.ownBlock → NewAt w v v' → wpList P ops Q rest (a.put o.dst v') w') : wpList P ops Q (o :: rest) a w := by
 obtain ⟨i, hi, hz, hs', hb⟩ := info_parts T.info
 subst hb
 obtain ⟨r1, r2, r3, r4, r5⟩ := hr
 cases ao with
 | some ad =>
   refine wpList_plain hgd fun K hK => ?_
   obtain ⟨v', w', hrun, g2, g3, _, g5⟩ := zfu (P := P) w base t o.type e i z size i.bytes T.und hi hz hs' rfl T.cells T.pos v n xs hown ad m c news r1 (fun j u hj => by
     by_cases hm : 0 < m
     · obtain ⟨b, off, hab, _, hc⟩ := r5 hm
       obtain rfl := Option.some.inj hab
       rw [Addr.add_lit]; exact hc j u hj
     · obtain rfl : m = 0 := by omega
       have : news = [] := List.eq_nil_of_length_eq_zero (by simpa using r1)
       subst this; simp at hj) h1 h63 hbytes hbase
   unfold Oper.wp
   simp [execOp, ho, resolve, invoke, builtin, hs, hx, hrun, Result.andThen]
   exact hK _ _ (h v' w' g2 g3 g5)
 | none =>
   obtain rfl := r4 rfl
   obtain rfl : m = 0 := by omega
   have : news = [] := List.eq_nil_of_length_eq_zero (by simpa using r1)
   subst this
   refine wpList_plain hgd fun K hK => ?_
   have hrun := run_append_owned_none (P := P) w base t o.type e i size T.und hi v n xs hown
   unfold Oper.wp
   simp [execOp, ho, resolve, invoke, builtin, hs, hx, hrun, Result.andThen]
   exact hK _ _ (h v w (by simpa using hown) ⟨rfl, rfl, rfl, Nat.le_refl _, fun _ _ _ => rfl⟩ (fun b hb => .inl hb))
structure zaa (S : Nat → Prop) (w w' : World) : Prop where
 os : w'.os = w.os
 tape : w'.tape = w.tape
 output : w'.output = w.output
 size : w.heap.size ≤ w'.heap.size
 block : ∀ b, b < w.heap.size → ¬ S b → w'.heap[b]? = w.heap[b]?
theorem zaa.refl (S : Nat → Prop) (w : World) : zaa S w w := ⟨rfl, rfl, rfl, Nat.le_refl _, fun _ _ _ => rfl⟩
theorem zaa.trans {S S' : Nat → Prop} {a b c : World} (h : zaa S a b) (k : zaa S' b c) (hS : ∀ x, S' x → S x ∨ a.heap.size ≤ x) : zaa S a c :=
 ⟨k.os.trans h.os, k.tape.trans h.tape, k.output.trans h.output, Nat.le_trans h.size k.size, fun x hx hn => (k.block x (Nat.lt_of_lt_of_le hx h.size) (fun e => (hS x e).elim hn (fun h => by omega))).trans (h.block x hx hn)⟩
theorem zaa.of_grown {S : Nat → Prop} {w w' : World} {row : Option Nat} (h : w.grownBy w' row) (hr : ∀ k, row = some k → S k) : zaa S w w' :=
 ⟨h.os, h.tape, h.output, h.size, fun b hb hn => h.block b hb (fun e => hn (hr b e.symm))⟩
theorem zaa.of_below {S : Nat → Prop} {w w' : World} {B : Nat} (h : Below B w w') (hS : ∀ b, B ≤ b → S b) : zaa S w w' :=
 ⟨h.os, h.tape, h.output, h.size, fun b _ hn => h.block b (Nat.lt_of_not_le fun e => hn (hS b e))⟩
theorem zaa.below {S : Nat → Prop} {w w' : World} {B : Nat} (h : zaa S w w') (hB : B ≤ w.heap.size) (hS : ∀ b, S b → B ≤ b) : Below B w w' :=
 ⟨h.os, h.tape, h.output, h.size, fun b hb => h.block b (by omega) (fun e => by have := hS b e; omega)⟩
theorem zaa.cell {S : Nat → Prop} {w w' : World} (h : zaa S w w') {b o : Nat} {v : Value} (hc : w.cell? ⟨b, o, none⟩ = some v) (hn : ¬ S b) : w'.cell? ⟨b, o, none⟩ = some v := by
 have hlt : b < w.heap.size := World.block_lt_of_cell? w _ hc
 rw [World.cell?_of_block (w := w) (a := ⟨b, o, none⟩) (h.block b hlt hn)]; exact hc
theorem zaa.obj {S : Nat → Prop} {w w' : World} (h : zaa S w w') {b : Nat} {o : Obj} (hc : w.heap[b]? = some o) (hn : ¬ S b) : w'.heap[b]? = some o := by
 rw [h.block b (Array.getElem?_eq_some_iff.1 hc).1 hn]; exact hc
theorem Row.keeps {S : Nat → Prop} {w w' : World} {sz : Nat} {a : Option Addr} {n cap : Nat} {xs : List Value} (h : Row w sz a n cap xs) (hk : zaa S w w') (hne : ∀ x, a = some x → ¬ S x.block) : Row w' sz a n cap xs := by
 obtain ⟨h1, h2, h3, h4, h5⟩ := h
 refine ⟨h1, h2, h3, h4, fun hn => ?_⟩
 obtain ⟨b, off, ha, hlt, hc⟩ := h5 hn
 exact ⟨b, off, ha, Nat.lt_of_lt_of_le hlt hk.size, fun j u hj => hk.cell (hc j u hj) (hne _ ha)⟩
theorem zas {S : Nat → Prop} {w w' : World} {base e sz : Nat} {v : Value} {n : Nat} {xs : List Value} (h : w.ownsRow base e sz v n xs) (hk : zaa S w w') (hne : ∀ b, v.ownBlock = some b → ¬ S b) : w'.ownsRow base e sz v n xs := by
 obtain ⟨h1, h2⟩ := h
 refine ⟨h1, ?_⟩
 rcases h2 with h2 | ⟨g, cap, cur, hv, hg, hh, r⟩
 · exact .inl h2
 · exact .inr ⟨g, cap, cur, hv, hg, hk.obj hh (hne g (by rw [hv]; rfl)), r⟩
theorem zaa.weaken {S S' : Nat → Prop} {w w' : World} (h : zaa S w w') (hS : ∀ b, S b → S' b) : zaa S' w w' := ⟨h.os, h.tape, h.output, h.size, fun b hb hn => h.block b hb (fun e => hn (hS b e))⟩
theorem zaa.drewN {S : Nat → Prop} {w w' : World} (h : zaa S w w') (q : Nat) : zaa S w (w'.drewN q) := ⟨h.os, h.tape, h.output, h.size, h.block⟩
theorem zaa.alloc {S : Nat → Prop} {w w' : World} (h : zaa S w w') (o : Obj) : zaa S w (w'.alloc o) :=
 ⟨h.os, h.tape, h.output, by rw [zae]; have := h.size; omega, fun b hb hn => (Below.heap_alloc w' o b (Nat.lt_of_lt_of_le hb h.size)).trans (h.block b hb hn)⟩
theorem zaa.setCell {S : Nat → Prop} {w w' : World} (h : zaa S w w') {a : Addr} (ha : S a.block ∨ w.heap.size ≤ a.block) (v : Value) : zaa S w (w'.setCell a v) :=
 ⟨h.os, h.tape, h.output, by simpa [World.setCell] using h.size, fun b hb hn => (heap_setCell_other w' a b v (fun e => by rcases ha with h1 | h1; exact hn (e ▸ h1); omega)).trans (h.block b hb hn)⟩
theorem zaa.grown {S : Nat → Prop} {w w' w2 : World} {row : Option Nat} (h : zaa S w w') (hg : w'.grownBy w2 row) (hr : ∀ k, row = some k → S k ∨ w.heap.size ≤ k) : zaa S w w2 :=
 h.trans (zaa.of_grown (S := fun k => row = some k) hg fun _ hk => hk) hr
end Go.Proofs.YtngjbhejfojpbaaGreat
namespace Go.Proofs.YtngjbhejfojpbaaGreat
theorem zaR {α : Type} (d : α) (l : List α) (k : Nat) (h : k < l.length) : l.take (k + 1) = l.take k ++ [l.getD k d] := by
 rw [List.take_succ_eq_append_getElem h]; simp [List.getD, h]
def hby (n : Int) : Int := 32768 / 2 ^ n.toNat
def hadd (s n : Int) : Int := if 0 < n then s + hby n else s
def hsum (l : List Int) : Int := l.foldl hadd 0
def hok (l : List Int) : Bool := l.all fun n => decide (0 ≤ n) && decide (n ≤ 15)
def zax (l : List Int) : Int := if l.length = 0 ∨ 320 < l.length ∨ hok l = false then -1 else if 32768 < hsum l then -1 else hsum l
theorem hby_bd (n : Int) : 0 ≤ hby n ∧ hby n ≤ 32768 := by
 unfold hby
 have h : (0 : Int) < 2 ^ n.toNat := Int.pow_pos (by omega)
 exact ⟨Int.ediv_nonneg (by omega) (by omega), Int.ediv_le_self _ (by omega)⟩
theorem zeb (l : List Int) (x : Int) : hsum (l ++ [x]) = hadd (hsum l) x := by simp [hsum]
theorem hadd_bd (s n : Int) : s ≤ hadd s n ∧ hadd s n ≤ s + 32768 := by
 have := hby_bd n
 unfold hadd; split <;> omega
theorem zfe (l : List Int) : ∀ s : Int, s ≤ l.foldl hadd s ∧ l.foldl hadd s ≤ s + 32768 * l.length := by
 induction l with
 | nil => intro s; simp
 | cons x l ih =>
   intro s
   have h1 := hadd_bd s x
   have h2 := ih (hadd s x)
   simp only [List.foldl_cons, List.length_cons]
   omega
theorem hsum_bd (l : List Int) : 0 ≤ hsum l ∧ hsum l ≤ 32768 * l.length := by
 have := zfe l 0; unfold hsum; omega
theorem hok_snoc (l : List Int) (x : Int) : hok (l ++ [x]) = (hok l && (decide (0 ≤ x) && decide (x ≤ 15))) := by simp [hok]
theorem hok_not {l : List Int} {k : Nat} (hk : k < l.length) (h : l.getD k 0 < 0 ∨ 15 < l.getD k 0) : hok l = false := by
 simp only [hok, List.all_eq_false]
 refine ⟨l[k], List.getElem_mem _, ?_⟩
 simp [List.getD, hk] at h
 simp
 omega
theorem za4 {l : List Int} (h : hok l = true) : ∀ x ∈ l, 0 ≤ x ∧ x ≤ 15 := by
 simpa [hok] using h
theorem zar {l : List Int} (h : 0 ≤ zax l) : l.length ≠ 0 ∧ l.length ≤ 320 ∧ hok l = true ∧ hsum l ≤ 32768 := by
 unfold zax at h
 split at h
 · omega
 · rename_i h1
   split at h
   · omega
   · simp only [not_or] at h1
     exact ⟨h1.1, by omega, by simpa using h1.2.2, by omega⟩
def cn (l : List Int) (m : Nat) : Int := if m = 0 then 0 else ((l.filter fun x => x == (m : Int)).length : Nat)
theorem zbH (l : List Int) (x : Int) (m : Nat) (hx : 0 ≤ x) : cn (l ++ [x]) m = cn l m + if 0 < x ∧ m = x.toNat then 1 else 0 := by
 unfold cn
 by_cases hm : m = 0
 · subst hm; simp; omega
 · rw [if_neg hm, if_neg hm, List.filter_append]
   by_cases h : x = (m : Int)
   · subst h
     simp
     omega
   · have h2 : ¬ (0 < x ∧ m = x.toNat) := by omega
     simp [h, h2]
theorem zdg (l : List Int) (m : Nat) : 0 ≤ cn l m ∧ cn l m ≤ l.length := by
 unfold cn
 have := List.length_filter_le (fun x => x == (m : Int)) l
 split <;> omega
theorem zda (l : List Int) (k m : Nat) : cn (l.take k) m ≤ cn l m := by
 unfold cn
 split
 · omega
 · have := ((List.take_sublist k l).filter (fun x => x == (m : Int))).length_le
   omega
theorem cn_lt {l : List Int} {k m : Nat} (hk : k < l.length) (hm : 0 < m) (h : l.getD k 0 = (m : Int)) : cn (l.take k) m + 1 ≤ cn l m := by
 have h1 := zda l (k + 1) m
 rw [zaR 0 l k hk, zbH _ _ _ (by omega), if_pos (by omega)] at h1
 exact h1
def zaw (c : Nat → Int) : Nat → Int
 | 0 => 0
 | n + 1 => (zaw c n + c n) * 2
theorem zdq (c : Nat → Int) (h : ∀ m, 0 ≤ c m) : ∀ n, 0 ≤ zaw c n
 | 0 => by simp [zaw]
 | n + 1 => by have := zdq c h n; have := h n; simp only [zaw]; omega
def weigh (c : Nat → Int) : Int := 16384 * c 1 + 8192 * c 2 + 4096 * c 3 + 2048 * c 4 + 1024 * c 5 + 512 * c 6 + 256 * c 7 + 128 * c 8 + 64 * c 9 + 32 * c 10 + 16 * c 11 + 8 * c 12 + 4 * c 13 + 2 * c 14 + c 15
theorem case15 {x : Int} (h0 : 0 < x) (h : x ≤ 15) : x = 1 ∨ x = 2 ∨ x = 3 ∨ x = 4 ∨ x = 5 ∨ x = 6 ∨ x = 7 ∨ x = 8 ∨ x = 9 ∨ x = 10 ∨ x = 11 ∨ x = 12 ∨ x = 13 ∨ x = 14 ∨ x = 15 := by omega
theorem weigh_snoc (l : List Int) (x : Int) (h0 : 0 ≤ x) (h : x ≤ 15) : weigh (cn (l ++ [x])) = weigh (cn l) + (if 0 < x then hby x else 0) := by
 unfold weigh
 simp only [zbH l x _ h0]
 by_cases hp : 0 < x
 · rcases case15 hp h with rfl | rfl | rfl | rfl | rfl | rfl | rfl | rfl | rfl | rfl | rfl | rfl | rfl | rfl | rfl <;> simp [hby] <;> omega
 · simp [hp]
theorem hsum_weigh (l : List Int) (h : hok l = true) : hsum l = weigh (cn l) := by
 have key : ∀ k, k ≤ l.length → hsum (l.take k) = weigh (cn (l.take k)) := by
   intro k
   induction k with
   | zero => intro _; simp [hsum, weigh, cn]
   | succ k ih =>
     intro hk
     have hx := za4 h (l.getD k 0) (by simp [List.getD, show k < l.length by omega])
     rw [zaR 0 l k (by omega), zeb, weigh_snoc _ _ hx.1 hx.2, ih (by omega)]
     unfold hadd; split <;> omega
 have := key l.length (Nat.le_refl _)
 simpa using this
theorem fcode_weigh (c : Nat → Int) (h0 : c 0 = 0) (hc : ∀ m, 0 ≤ c m) (hw : weigh c ≤ 32768) (n : Nat) (hn : n ≤ 15) : (zaw c n + c n) * 2 ^ (15 - n) ≤ 32768 := by
 unfold weigh at hw
 have h1 := hc 1; have h2 := hc 2; have h3 := hc 3; have h4 := hc 4; have h5 := hc 5; have h6 := hc 6; have h7 := hc 7; have h8 := hc 8; have h9 := hc 9
 have h10 := hc 10; have h11 := hc 11; have h12 := hc 12; have h13 := hc 13; have h14 := hc 14; have h15 := hc 15
 rcases (by omega : n = 0 ∨ n = 1 ∨ n = 2 ∨ n = 3 ∨ n = 4 ∨ n = 5 ∨ n = 6 ∨ n = 7 ∨ n = 8 ∨ n = 9 ∨ n = 10 ∨ n = 11 ∨ n = 12 ∨ n = 13 ∨ n = 14 ∨ n = 15) with
   rfl | rfl | rfl | rfl | rfl | rfl | rfl | rfl | rfl | rfl | rfl | rfl | rfl | rfl | rfl | rfl <;> simp only [zaw, h0] <;> omega
theorem zbN {l : List Int} (h : 0 ≤ zax l) (n : Nat) (hn : n ≤ 15) : 0 ≤ zaw (cn l) n ∧ zaw (cn l) n + cn l n ≤ 2 ^ n := by
 obtain ⟨_, _, h3, h4⟩ := zar h
 refine ⟨zdq _ (fun m => (zdg l m).1) n, ?_⟩
 have h5 := fcode_weigh (cn l) (by simp [cn]) (fun m => (zdg l m).1) (by rw [← hsum_weigh l h3]; exact h4) n hn
 rcases (by omega : n = 0 ∨ n = 1 ∨ n = 2 ∨ n = 3 ∨ n = 4 ∨ n = 5 ∨ n = 6 ∨ n = 7 ∨ n = 8 ∨ n = 9 ∨ n = 10 ∨ n = 11 ∨ n = 12 ∨ n = 13 ∨ n = 14 ∨ n = 15) with
   rfl | rfl | rfl | rfl | rfl | rfl | rfl | rfl | rfl | rfl | rfl | rfl | rfl | rfl | rfl | rfl <;> omega
theorem zcR {n : Nat} (hn : n ≤ 15) : (2 : Int) ^ n ≤ 32768 := by
 rcases (by omega : n = 0 ∨ n = 1 ∨ n = 2 ∨ n = 3 ∨ n = 4 ∨ n = 5 ∨ n = 6 ∨ n = 7 ∨ n = 8 ∨ n = 9 ∨ n = 10 ∨ n = 11 ∨ n = 12 ∨ n = 13 ∨ n = 14 ∨ n = 15) with
   rfl | rfl | rfl | rfl | rfl | rfl | rfl | rfl | rfl | rfl | rfl | rfl | rfl | rfl | rfl | rfl <;> omega
def zav (l : List Int) (k : Nat) : Int := if 0 < l.getD k 0 then zaw (cn l) (l.getD k 0).toNat + cn (l.take k) (l.getD k 0).toNat else 0
theorem zcT {l : List Int} (h : 0 ≤ zax l) (k : Nat) : 0 ≤ zav l k ∧ zav l k ≤ 32768 := by
 unfold zav
 split
 · rename_i hp
   obtain ⟨_, _, h3, _⟩ := zar h
   by_cases hk : k < l.length
   · have hx := za4 h3 (l.getD k 0) (by simp [List.getD, hk])
     have h1 := zbN h (l.getD k 0).toNat (by omega)
     have h2 := zda l k (l.getD k 0).toNat
     have h4 := (zdg (l.take k) (l.getD k 0).toNat).1
     have h5 := zcR (n := (l.getD k 0).toNat) (by omega)
     omega
   · simp [List.getD, hk] at hp
 · omega
end Go.Proofs.YtngjbhejfojpbaaGreat
namespace Go.Proofs.YtngjbhejfojpbaaGreat
open Go.RowKit
theorem kraft_end {l : List Int} {n : Nat} (hl : l.length = n) (h1 : ¬ (n : Int) < 1) (h2 : ¬ 320 < (n : Int)) (hok1 : hok (l.take n) = true) :
   zax l = if 32768 < hsum (l.take n) then -1 else hsum (l.take n) := by
 subst hl
 rw [List.take_length] at hok1 ⊢
 unfold zax
 rw [if_neg (by rintro (h | h | h) <;> first | omega | simp_all)]
theorem kraft_any (a : Option Addr) (n cap : Nat) (l : List Int) (w : World) (hr : Row w 1 a n cap (l.map (Value.int .i64))) :
   Calls Tryz.prog 77 #[.slice a n cap] w fun e w' => e = .returned (.int .i64 (zax l)) ∧ w = w' := by
 have hm := hr.i64
 have hl := hr.len1
 by_cases h1 : (n : Int) < 1
 · have hv : zax l = -1 := by unfold zax; rw [if_pos (by omega)]
   have HV := Lib.hid hv; clear hv
   go_enter Tryz.func77, Tryz.ntmps77
   go_wp2
   go_ret
   exact ⟨zaK HV.out.symm, rfl⟩
 by_cases h2 : 320 < (n : Int)
 · have hv : zax l = -1 := by unfold zax; rw [if_pos (by omega)]
   have HV := Lib.hid hv; clear hv
   go_enter Tryz.func77, Tryz.ntmps77
   go_wp2
   go_ret
   exact ⟨zaK HV.out.symm, rfl⟩
 have HL := Lib.hid hl; clear hl
 go_enter Tryz.func77, Tryz.ntmps77
 go_wp2
 go_loop [3, 16] (fun s i => ∃ k : Nat, k ≤ n ∧ i = .int .i64 k ∧ s = .int .i64 (hsum (l.take k)) ∧ Hid (hok (l.take k) = true)) (fun s i => n - (intOf i).toNat)
 case atStart => exact ⟨0, by omega, rfl, rfl, Lib.hid rfl⟩
 case round =>
   obtain ⟨k, hk, rfl, rfl, hok1⟩ := hrel
   by_cases hlt : k < n
   · obtain ⟨b, off, rfl, hb, hc⟩ := hr.at 0 k hlt
     have hck := hc k hlt
     have hs := hsum_bd (l.take k)
     have hs2 : (l.take k).length ≤ k := List.length_take_le _ _
     have ht := zaR 0 l k (by rw [HL.out]; exact hlt)
     obtain ⟨x, hx⟩ : ∃ x, x = l.getD k 0 := ⟨_, rfl⟩
     rw [← hx] at hck ht
     have HX := Lib.hid hx
     have HT := Lib.hid ht
     clear hc hx ht
     by_cases hneg : x < 0
     · have hv : zax l = -1 := by unfold zax; rw [if_pos (.inr (.inr (hok_not (k := k) (by rw [HL.out]; exact hlt) (by rw [← HX.out]; omega))))]
       have HV := Lib.hid hv; clear hv
       go_wp2
       go_ret
       exact ⟨zaK HV.out.symm, rfl⟩
     by_cases h15 : 15 < x
     · have hv : zax l = -1 := by unfold zax; rw [if_pos (.inr (.inr (hok_not (k := k) (by rw [HL.out]; exact hlt) (by rw [← HX.out]; omega))))]
       have HV := Lib.hid hv; clear hv
       go_wp2
       go_ret
       exact ⟨zaK HV.out.symm, rfl⟩
     have hbd := hby_bd x
     unfold hby at hbd
     by_cases hp : 0 < x
     · go_wp2
       go_round
       case rel => exact ⟨k + 1, by omega, by go_num, by rw [HT.out, zeb]; unfold hadd hby; rw [if_pos hp], Lib.hid (by rw [HT.out, hok_snoc, hok1.out]; simp; omega)⟩
       case measure => simp [intOf]; omega
     · go_wp2
       go_round
       case rel => exact ⟨k + 1, by omega, by go_num, by rw [HT.out, zeb]; unfold hadd; rw [if_neg hp], Lib.hid (by rw [HT.out, hok_snoc, hok1.out]; simp; omega)⟩
       case measure => simp [intOf]; omega
   · obtain rfl : k = n := by omega
     have hv := kraft_end HL.out (by omega) (by omega) hok1.out
     by_cases hw : 32768 < hsum (l.take k)
     · rw [if_pos hw] at hv
       have HV := Lib.hid hv; clear hv
       go_wp2
       go_ret
       exact ⟨zaK HV.out.symm, rfl⟩
     · rw [if_neg hw] at hv
       have HV := Lib.hid hv; clear hv
       go_wp2
       go_ret
       exact ⟨zaK HV.out.symm, rfl⟩
theorem infoA16 : (Tryz.prog.info? 108).map (·.size) = some 16 := by kernel_rfl
theorem zdD : (Tryz.prog.info? 133).map (·.size) = some 16 := by kernel_rfl
def cnV (l : List Int) (m : Nat) : Value := .int .i64 (cn l m)
theorem zbF {n : Nat} {f : Nat → Value} (h : ∀ i, (f i).oneCell' = true) : (fl n f).toArray.all (·.oneCell') = true := by
 rw [Array.all_eq_true_iff_forall_mem]
 intro v hv
 simp [fl] at hv
 obtain ⟨i, _, rfl⟩ := hv
 exact h i
theorem zej (a : Option Addr) (n cap : Nat) (l : List Int) (w : World) (hr : Row w 1 a n cap (l.map (Value.int .i64))) (hok1 : hok l = true) :
   Calls Tryz.prog 60 #[.slice a n cap] w fun e w' => e = .returned (.agg (fl 16 (cnV l)).toArray) ∧ Below w.heap.size w w' := by
 have hm := hr.i64
 have hl := hr.len1
 have h15 := za4 hok1
 have HL := Lib.hid hl; clear hl
 go_enter Tryz.func60, Tryz.ntmps60
 go_wp2
 obtain ⟨Z, hZ⟩ : ∃ Z : List Value, #[Value.int IntKind.i64 0, Value.int IntKind.i64 0, Value.int IntKind.i64 0, Value.int IntKind.i64 0,
         Value.int IntKind.i64 0, Value.int IntKind.i64 0, Value.int IntKind.i64 0, Value.int IntKind.i64 0,
         Value.int IntKind.i64 0, Value.int IntKind.i64 0, Value.int IntKind.i64 0, Value.int IntKind.i64 0,
         Value.int IntKind.i64 0, Value.int IntKind.i64 0, Value.int IntKind.i64 0, Value.int IntKind.i64 0] = Z.toArray := ⟨_, rfl⟩
 rw [hZ]
 have hZ2 : Z = fl 16 (cnV []) := by
   have := congrArg Array.toList hZ
   simpa [fl, cnV, cn, List.range_succ] using this.symm
 subst hZ2
 clear hZ
 go_loopw [8] (fun i wr => ∃ k : Nat, k ≤ n ∧ i = .int .i64 k ∧ wr.heap[w.heap.size + 1]? = some (.cells (fl 16 (cnV (l.take k))).toArray 108 (0, 0)) ∧
    wr.heap[w.heap.size]? = some (.cells (fl 16 (cnV [])).toArray 108 (0, 0)) ∧ Below w.heap.size w wr) (fun i _ => n - (intOf i).toNat)
 case atStart => exact ⟨0, by omega, rfl, heap_alloc2_new _ _ _, heap_alloc2_old _ _ _, ((Below.refl _ _).alloc (Nat.le_refl _) _).alloc (by simp) _⟩
 case round =>
   obtain ⟨k, hk, rfl, hB1, hB0, hbel⟩ := hrel
   by_cases hlt : k < n
   · obtain ⟨b, off, rfl, hb, hc⟩ := (hr.mono hbel).at 0 k hlt
     have hck := hc k hlt
     have hkl : k < l.length := by rw [HL.out]; exact hlt
     have ht := zaR 0 l k hkl
     have hx15 := h15 (l.getD k 0) (by simp [List.getD, hkl])
     obtain ⟨x, hx⟩ : ∃ x, x = l.getD k 0 := ⟨_, rfl⟩
     rw [← hx] at hck ht hx15
     have HT := Lib.hid ht
     have HB0 := Lib.hid hB0
     have HB1 := Lib.hid hB1
     clear hc hx ht h15 hB0 hB1
     have hcb := zdg (l.take k) x.toNat
     have hs2 : (l.take k).length ≤ k := List.length_take_le _ _
     by_cases hp : 0 < x
     · have hcell := zai HB1.out x.toNat (by omega)
       unfold cnV at hcell
       have hfree := zaI HB1.out x.toNat
       go_wp2
       go_roundw
       case rel =>
         refine ⟨k + 1, by omega, by go_num, ?_, za3 HB0.out (by simp) _, hbel.setCell (by simp) _⟩
         rw [zaG HB1.out]
         have e : fl 16 (fun j => if j = x.toNat then Value.int IntKind.i64 (cn (l.take k) x.toNat + 1) else cnV (l.take k) j) = fl 16 (cnV (l.take (k + 1))) := zal fun i _ => by
           unfold cnV
           rw [HT.out, zbH _ _ _ hx15.1]
           by_cases hi : i = x.toNat
           · subst hi; simp [hp]
           · simp [hi]
         rw [e]
       case measure => simp [intOf]; omega
     · go_wp2
       go_roundw
       case rel =>
         refine ⟨k + 1, by omega, by go_num, ?_, HB0.out, hbel⟩
         rw [HB1.out]
         have e : fl 16 (cnV (l.take k)) = fl 16 (cnV (l.take (k + 1))) := zal fun i _ => by
           unfold cnV
           rw [HT.out, zbH _ _ _ hx15.1]
           simp [hp]
         rw [e]
       case measure => simp [intOf]; omega
   · obtain rfl : k = n := by omega
     have hT : l.take k = l := by rw [← HL.out]; exact List.take_length
     rw [hT] at hB1
     have HB0 := Lib.hid hB0
     have HB1 := Lib.hid hB1
     clear hB0 hB1 hT
     go_wp2_with (first
       | (refine wpList_load_row rfl 108 (.tmp 3) rfl (w.heap.size + 1) rfl 108 _ (0, 0) _ HB1.out Tryz.underlying108 rfl (by rw [infoA16]; simp [zaV]) ?_)
       | (refine wpList_store_row rfl 108 (.tmp 2) (.tmp 20) rfl w.heap.size _ rfl rfl 108 _ HB0.out (by rw [infoA16]; simp [zaV]) (by simp [zaV]) (zbF fun _ => rfl) ?_))
     refine bodyPost_ret (results_cell_row rfl _ _ w.heap.size 108 _ (0, 0) _ rfl (setRow_heap _ _ _ _ _ _ HB0.out) Tryz.underlying108 rfl (by rw [infoA16]; simp [zaV])) rfl ⟨rfl, ?_⟩
     exact hbel.trans ⟨rfl, rfl, rfl, by simp, fun j hj => setRow_other _ _ _ _ (by omega)⟩
def fcV (l : List Int) (k : Nat) (m : Nat) : Value := .int .u32 (if m < k then zaw (cn l) m else 0)
theorem firsts_any (l : List Int) (w : World) (hroom : 0 ≤ zax l) :
   Calls Tryz.prog 78 #[.agg (fl 16 (cnV l)).toArray] w fun e w' => e = .returned (.agg (fl 16 (fcV l 16)).toArray) ∧ Below w.heap.size w w' := by
 have hlen := (zar hroom).2.1
 have HR := Lib.hid hroom; clear hroom
 go_enter Tryz.func78, Tryz.ntmps78
 go_wp2
 obtain ⟨Z, hZ⟩ : ∃ Z : List Value, #[Value.int IntKind.u32 0, Value.int IntKind.u32 0, Value.int IntKind.u32 0, Value.int IntKind.u32 0,
         Value.int IntKind.u32 0, Value.int IntKind.u32 0, Value.int IntKind.u32 0, Value.int IntKind.u32 0,
         Value.int IntKind.u32 0, Value.int IntKind.u32 0, Value.int IntKind.u32 0, Value.int IntKind.u32 0,
         Value.int IntKind.u32 0, Value.int IntKind.u32 0, Value.int IntKind.u32 0, Value.int IntKind.u32 0] = Z.toArray := ⟨_, rfl⟩
 rw [hZ]
 have hZ2 : Z = fl 16 (fcV l 0) := by
   have := congrArg Array.toList hZ
   simpa [fl, fcV, List.range_succ] using this.symm
 subst hZ2
 clear hZ
 go_loopw [4, 6] (fun c i wr => ∃ k : Nat, k ≤ 16 ∧ i = .int .i64 k ∧ c = .int .u32 (zaw (cn l) (k - 1)) ∧ wr.heap[w.heap.size + 2]? = some (.cells (fl 16 (fcV l k)).toArray 133 (0, 0)) ∧
    wr.heap[w.heap.size + 1]? = some (.cells (fl 16 (fcV l 0)).toArray 133 (0, 0)) ∧ wr.heap[w.heap.size]? = some (.cells (fl 16 (cnV l)).toArray 108 (0, 0)) ∧ Below w.heap.size w wr) (fun _ i _ => 16 - (intOf i).toNat)
 case atStart => exact ⟨0, by omega, rfl, rfl, zah _ (by simp), zaL _ (zah _ (by simp)), zaL _ (zaL _ (zah _ rfl)), belowA3 _ _ _ _⟩
 case round =>
   obtain ⟨k, hk, rfl, rfl, hB2, hB1, hB0, hbel⟩ := hrel
   have HB0 := Lib.hid hB0
   have HB1 := Lib.hid hB1
   have HB2 := Lib.hid hB2
   clear hB0 hB1 hB2
   by_cases hlt : k < 16
   · rcases k with _ | k
     · go_wp2
       go_roundw
       case rel =>
         refine ⟨1, by omega, by go_num, rfl, ?_, HB1.out, HB0.out, hbel⟩
         rw [HB2.out]
         have e : fl 16 (fcV l 0) = fl 16 (fcV l 1) := zal fun i _ => by
           unfold fcV
           by_cases hi : i = 0
           · subst hi; simp [zaw]
           · simp [show ¬ i < 1 by omega]
         rw [e]
       case measure => simp [intOf]
     · have hcell := zai HB0.out k (by omega)
       unfold cnV at hcell
       have hcell2 := zai HB2.out (k + 1) (by omega)
       have hfree2 := zaI HB2.out (k + 1)
       unfold fcV at hcell2
       have hcb := zdg l k
       have hft := zbN HR.out k (by omega)
       have hp := zcR (n := k) (by omega)
       go_wp2
       go_roundw
       case rel =>
         refine ⟨k + 2, by omega, by go_num, ?_, ?_, za3 HB1.out (by simp) _, za3 HB0.out (by simp; omega) _, hbel.setCell (by simp; omega) _⟩
         · rfl
         · rw [show w.heap.size + 1 + 1 = w.heap.size + 2 from rfl, zaG HB2.out]
           exact congrArg (fun x => some (Obj.cells (List.toArray x) _ _)) (zal fun i _ => by
             unfold fcV
             by_cases hi : i = k + 1
             · subst hi; simp; rfl
             · have : (i < k + 1) = (i < k + 2) := by simp; omega
               simp [hi, this])
       case measure => simp [intOf]; omega
   · obtain rfl : k = 16 := by omega
     go_wp2_with (first
       | (refine wpList_load_row rfl 133 (.tmp 3) rfl (w.heap.size + 2) rfl 133 _ (0, 0) _ HB2.out Tryz.underlying133 rfl (by rw [zdD]; simp [zaV]) ?_)
       | (refine wpList_store_row rfl 133 (.tmp 2) (.tmp 23) rfl (w.heap.size + 1) _ rfl rfl 133 _ HB1.out (by rw [zdD]; simp [zaV]) (by simp [zaV]) (zbF fun _ => rfl) ?_))
     refine bodyPost_ret (results_cell_row rfl _ _ (w.heap.size + 1) 133 _ (0, 0) _ rfl (setRow_heap _ _ _ _ _ _ HB1.out) Tryz.underlying133 rfl (by rw [zdD]; simp [zaV])) rfl ⟨rfl, ?_⟩
     exact zdn hbel (by omega) _
theorem EU32 : zcJ Tryz.prog 104 69 (.int .u32 0) 1 4 := ⟨Tryz.underlying104, by kernel_rfl, rfl, by omega⟩
theorem ze2 (z : Value) (n : Nat) : (madeCells #[z] (n * 1)).toList = fl n (fun _ => z) := by
 rw [Nat.mul_one, toList_madeCells_one, zcb]
theorem own_cell {w : World} {base e g n cap : Nat} {enc : Nat → Value} (h : w.ownsRow base e 1 (.slice (some ⟨g, 0, none⟩) n cap) n (fl n enc)) (i : Nat) (hi : i < n) : w.cell? ⟨g, i, none⟩ = some (enc i) := by
 rw [h.cellAt i (by omega), fl_get enc hi]
theorem own_set {w : World} {base e g n cap : Nat} {enc : Nat → Value} (h : w.ownsRow base e 1 (.slice (some ⟨g, 0, none⟩) n cap) n (fl n enc)) (i : Nat) (v : Value) :
   (w.setCell ⟨g, i, none⟩ v).ownsRow base e 1 (.slice (some ⟨g, 0, none⟩) n cap) n (fl n (fun j => if j = i then v else enc j)) := by
 rw [← fl_set]; exact (h.stored i v).1
theorem zbO {w : World} {base e sz : Nat} {v : Value} {n : Nat} {xs : List Value} (h : w.ownsRow base e sz v n xs) {a : Addr} (ha : v.ownBlock ≠ some a.block) (u : Value) : (w.setCell a u).ownsRow base e sz v n xs := ownsRow_setCell_other h ha u
theorem zbR {w : World} {base e sz : Nat} {v : Value} {n : Nat} {xs ys : List Value} (h : w.ownsRow base e sz v n xs) (hx : xs = ys) : w.ownsRow base e sz v n ys := hx ▸ h
def cdV (l : List Int) (k i : Nat) : Value := .int .u32 (if i < k then zav l i else 0)
def nxV (l : List Int) (k m : Nat) : Value := .int .u32 (zaw (cn l) m + cn (l.take k) m)
theorem codes_ok (a : Option Addr) (n cap : Nat) (l : List Int) (w : World) (hr : Row w 1 a n cap (l.map (Value.int .i64))) (hroom : 0 ≤ zax l) :
   Calls Tryz.prog 58 #[.slice a n cap] w fun e w' => ∃ v, e = .returned (.tuple #[v, .int .i64 0]) ∧ w'.ownsRow w.heap.size 69 1 v n (fl n (cdV l n)) ∧ Below w.heap.size w w' := by
 have hm := hr.i64
 have hl := hr.len1
 have hok1 := (zar hroom).2.2.1
 have hlen := (zar hroom).2.1
 have h15 := za4 hok1
 have hn : n ≤ 320 := by omega
 have HL := Lib.hid hl
 have HR := Lib.hid hroom
 have H15 := Lib.hid h15
 have HOK := Lib.hid hok1
 clear hl hroom h15 hok1
 go_enter Tryz.func58, Tryz.ntmps58
 go_wp2_with (first
   | (go_at_call 77; refine (kraft_any _ _ _ l _ hr).mono ?_; rintro e w' ⟨rfl, rfl⟩; have hrr := HR.out))
 refine (zej _ _ _ l _ hr HOK.out).mono ?_
 rintro e w1 ⟨rfl, hb1⟩
 go_wp2_with fail
 refine (firsts_any l _ HR.out).mono ?_
 rintro e w2 ⟨rfl, hb2⟩
 have hn2 : (n : Int) ≤ 320 := by omega
 go_wp2_with (first
   | (with_reducible show wpList _ _ _ (Oper.mk _ (Op.store 133 (Operand.tmp 4) _) _ _ _ _ :: _) _ _; refine store_fresh rfl 133 (.tmp 4) (.tmp 13) rfl _ _ (fl 16 (fcV l 16)).toArray rfl rfl (by rw [zdD]; simp [zaV]) (by simp [zaV]) (zbF fun _ => rfl) ?_; intro w3 hB3 hb3 hs3; have HB3 := Lib.hid hB3; have HS3 := Lib.hid hs3; clear hB3 hs3)
   | (at_make; refine zcQ EU32 rfl (.tmp 15) (.tmp 15) rfl .i64 .i64 _ _ n rfl rfl rfl rfl (by omega) (by unfold maxLen; omega) ?_; intro w4 hown hb4; have HO := Lib.hid (zbR hown (ze2 _ n)); clear hown))
 have hbA := hb1.trans (hb2.mono hb1.size)
 have hbB := hbA.trans (hb3.mono hbA.size)
 have hbC := hbB.trans (hb4.mono hbB.size)
 have hne : ¬ w3.heap.size = w2.heap.size := by have := HS3.out; omega
 have hne2 : ¬ w2.heap.size = w3.heap.size := by have := HS3.out; omega
 have hB4 := zbm hb4 HB3.out
 have hgeB := hbA.size
 have hgeG := hbB.size
 have HB4 := Lib.hid hB4
 clear hB4 HB3 HS3 hb1 hb2 hb3 hb4 hbA hbB
 generalize w2.heap.size = B at *
 generalize w3.heap.size = G at *
 go_loopw [19] (fun i wr => ∃ k : Nat, k ≤ n ∧ i = .int .i64 k ∧ wr.ownsRow w.heap.size 69 1 (.slice (some ⟨G, 0, none⟩) n n) n (fl n (cdV l k)) ∧
    wr.heap[B]? = some (.cells (fl 16 (nxV l k)).toArray 133 (0, 0)) ∧ Below w.heap.size w wr) (fun i _ => n - (intOf i).toNat)
 case atStart =>
   refine ⟨0, by omega, rfl, zbR (zaD HO.out hgeG) (zal fun i _ => by simp [cdV]), ?_, hbC⟩
   rw [HB4.out]
   exact congrArg (fun x => some (Obj.cells (List.toArray x) _ _)) (zal fun i hi => by simp [fcV, nxV, hi]; simp [cn])
 case round =>
   obtain ⟨k, hk, rfl, hO, hBk, hbel⟩ := hrel
   clear HO HB4 hbC
   have HO := Lib.hid hO
   have HB := Lib.hid hBk
   clear hO hBk
   by_cases hlt : k < n
   · obtain ⟨b, off, rfl, hb, hc⟩ := (hr.mono hbel).at 0 k hlt
     have hck := hc k hlt
     have hkl : k < l.length := by rw [HL.out]; exact hlt
     have ht := zaR 0 l k hkl
     have hx15 := H15.out (l.getD k 0) (by simp [List.getD, hkl])
     have hcl := fun hp : 0 < l.getD k 0 => cn_lt (m := (l.getD k 0).toNat) hkl (by omega) (by omega)
     have hcA : zav l k = if 0 < l.getD k 0 then zaw (cn l) (l.getD k 0).toNat + cn (l.take k) (l.getD k 0).toNat else 0 := rfl
     obtain ⟨x, hx⟩ : ∃ x, x = l.getD k 0 := ⟨_, rfl⟩
     rw [← hx] at hck ht hx15 hcl hcA
     have HT := Lib.hid ht
     have HC := Lib.hid hcA
     clear hc ht hx hcA
     by_cases hp : 0 < x
     · have hft := zbN HR.out x.toNat (by omega)
       have hcl' := hcl hp
       have hpw := zcR (n := x.toNat) (by omega)
       have hcb := zdg (l.take k) x.toNat
       clear hcl
       have hcell := zai HB.out x.toNat (by omega)
       unfold nxV at hcell
       have hfree := zaI HB.out x.toNat
       have hcell2 := own_cell HO.out k hlt
       have hfree2 := HO.out.frozenAt k
       go_wp2
       go_roundw
       case rel =>
         refine ⟨k + 1, by omega, by go_num, zbR (zbO (own_set HO.out k _) (by simp [Value.ownBlock]; omega) _) (zal fun i _ => ?_), ?_, (hbel.setCell (by simp; omega) _).setCell (by simp; omega) _⟩
         · unfold cdV
           by_cases hi : i = k
           · subst hi; simp [HC.out, hp]
           · have : (i < k) = (i < k + 1) := by simp; omega
             simp [hi, this]
         · rw [zaG (za3 HB.out (by simp; omega) _)]
           exact congrArg (fun x => some (Obj.cells (List.toArray x) _ _)) (zal fun i _ => by
             unfold nxV
             rw [HT.out, zbH _ _ _ hx15.1]
             by_cases hi : i = x.toNat
             · subst hi; simp [hp]; omega
             · simp [hi])
       case measure => simp [intOf]; omega
     · go_wp2
       go_roundw
       case rel =>
         refine ⟨k + 1, by omega, by go_num, zbR HO.out (zal fun i _ => ?_), ?_, hbel⟩
         · unfold cdV
           by_cases hi : i = k
           · subst hi; simp [HC.out, hp]
           · have : (i < k) = (i < k + 1) := by simp; omega
             simp [this]
         · rw [HB.out]
           exact congrArg (fun x => some (Obj.cells (List.toArray x) _ _)) (zal fun i _ => by
             unfold nxV
             rw [HT.out, zbH _ _ _ hx15.1]
             simp [hp])
       case measure => simp [intOf]; omega
   · obtain rfl : k = n := by omega
     go_wp2
     go_ret2
     exact ⟨_, rfl, HO.out, hbel⟩
theorem codes_bad (a : Option Addr) (n cap : Nat) (l : List Int) (w : World) (hr : Row w 1 a n cap (l.map (Value.int .i64))) (hroom : zax l < 0) :
   Calls Tryz.prog 58 #[.slice a n cap] w fun e w' => e = .returned (.tuple #[.slice none 0 0, .int .i64 13]) ∧ w = w' := by
 go_enter Tryz.func58, Tryz.ntmps58
 go_wp2_with (first
   | (go_at_call 77; refine (kraft_any _ _ _ l _ hr).mono ?_; rintro e w' ⟨rfl, rfl⟩))
 go_ret2
 exact ⟨rfl, rfl⟩
theorem row_arg {k : IntKind} {w : World} {a : Option Addr} {len cap : Nat} {zs : List Int}
   (h : (a = none ∧ len = 0 ∧ cap = 0 ∧ zs = []) ∨ ∃ x, a = some x ∧ len ≤ cap ∧ cap ≤ maxLen ∧ zs.length = cap ∧ (∀ i, i < zs.length → w.cell? (x.add i) = some (.int k (zs.getD i 0))) ∧ ∀ n ∈ zs, (Lit.int k n).wf = true) :
   Row w 1 a len cap ((zs.take len).map (Value.int k)) ∧ (∀ n ∈ zs.take len, (Lit.int k n).wf = true) ∧ (zs.take len).length = len := by
 rcases h with ⟨rfl, rfl, rfl, rfl⟩ | ⟨x, rfl, hl, hm, hz, hc, hw⟩
 · exact ⟨Row.nil w 1, by simp, by simp⟩
 · refine ⟨⟨by simp; omega, hl, hm, fun h => (by cases h), fun hn => ?_⟩, fun n hn => hw n (List.mem_of_mem_take hn), by simp; omega⟩
   have h0 := hc 0 (by omega)
   have hb := World.block_lt_of_cell? w _ h0
   obtain ⟨b, off, spot⟩ := x
   have hspot : spot = none := by simpa [Addr.add] using World.cell?_spot h0
   subst hspot
   refine ⟨b, off, rfl, by simpa [Addr.add] using hb, fun j u hj => ?_⟩
   have hj2 : j < len := by
     have := (List.getElem?_eq_some_iff.1 hj).1
     simp at this; omega
   have h1 := hc j (by omega)
   rw [Addr.add_lit] at h1
   rw [h1, ← hj]
   simp [hj2, List.getD, show j < zs.length by omega]
theorem za9 {B : Nat} {a w : World} (h : Below B a w) (n : Nat) : Below B a (w.drewN n) := ⟨h.os, h.tape, h.output, h.size, h.block⟩
theorem wf_i64_bd {n : Int} (h : (Lit.int .i64 n).wf = true) : -9223372036854775808 ≤ n ∧ n ≤ 9223372036854775807 := by
 simp [Lit.wf, IntKind.min, IntKind.max, IntKind.signed, IntKind.bits] at h; omega
theorem row_bytes {w : World} {a : Option Addr} {len cap : Nat} {zs : List Int}
   (h : (a = none ∧ len = 0 ∧ cap = 0 ∧ zs = []) ∨ ∃ x, a = some x ∧ len ≤ cap ∧ cap ≤ maxLen ∧ zs.length = cap ∧ (∀ i, i < zs.length → w.cell? (x.add i) = some (.int .u8 (zs.getD i 0))) ∧ ∀ n ∈ zs, (Lit.int .u8 n).wf = true) :
   ∃ bs : List UInt8, bs.length = len ∧ Row w 1 a bs.length cap (bs.map fun b => Value.int .u8 b.toNat) := by
 obtain ⟨hr, hw, hl⟩ := row_arg h
 refine ⟨(zs.take len).map fun n => UInt8.ofNat n.toNat, by simpa using hl, ?_⟩
 have e : ((zs.take len).map fun n => UInt8.ofNat n.toNat).map (fun b => Value.int .u8 b.toNat) = (zs.take len).map (Value.int .u8) := by
   rw [List.map_map]
   refine List.map_congr_left fun n hn => ?_
   have := hw n hn
   simp [Lit.wf, IntKind.min, IntKind.max, IntKind.signed, IntKind.bits] at this
   simp
   omega
 rw [e, List.length_map, hl]
 exact hr
def wrV (n : Nat) (high : Bool) (v : Value) (i : Nat) : Value := if i = 0 then .int .i64 n else if i = 1 then .bool high else if i = 2 then .bool true else v
structure IsWr (w : World) (S : Nat → Prop) (wb : Nat) (high : Bool) (bs : List UInt8) (n : Nat) (v : Value) : Prop where
 blk : w.heap[wb]? = some (.cells (fl 4 (wrV n high v)).toArray 52 (0, 0))
 row : w.ownsRow (wb + 1) 5 1 v bs.length (bs.map fun b => .int .u8 b.toNat)
 at_ : ∀ b, v.ownBlock = some b → S b
 own : S wb
 lt : ∀ b, S b → wb ≤ b ∧ b < w.heap.size
def WrQ (w : World) (S : Nat → Prop) (wb : Nat) (high : Bool) (B : List Bool) : Prop := ∃ bs v, IsWr w S wb high bs B.length v ∧ zbi bs high B
def zab (w : World) (S : Nat → Prop) (wb : Nat) (high : Bool) (B : List Bool) (w' : World) : Prop := ∃ S', WrQ w' S' wb high B ∧ zaa S w w' ∧ ∀ b, S' b → S b ∨ w.heap.size ≤ b
theorem zab.refl {w : World} {S : Nat → Prop} {wb : Nat} {high : Bool} {B : List Bool} (h : WrQ w S wb high B) : zab w S wb high B w := ⟨S, h, zaa.refl _ _, fun _ h => .inl h⟩
theorem zab.trans {w w1 w2 : World} {S S1 : Nat → Prop} {wb : Nat} {high : Bool} {B : List Bool} (hk : zaa S w w1) (hs : ∀ b, S1 b → S b ∨ w.heap.size ≤ b) (h2 : zab w1 S1 wb high B w2) : zab w S wb high B w2 := by
 obtain ⟨S2, q, k, s⟩ := h2
 exact ⟨S2, q, hk.trans k hs, fun b hb => (s b hb).elim (hs b) (fun h => .inr (Nat.le_trans hk.size h))⟩
theorem zdR {w : World} {S : Nat → Prop} {wb : Nat} {high : Bool} {bs : List UInt8} {n : Nat} {v : Value} (h : IsWr w S wb high bs n v) :
   Calls Tryz.prog 22 #[.pointer (some ⟨wb, 0, none⟩)] w fun e w' => e = .returned (.bool false) ∧ w = w' := by
 have h2 := zai h.blk 2 (by omega)
 unfold wrV at h2
 simp only [if_pos, Nat.reduceEqDiff, if_false] at h2
 clear h
 go_enter Tryz.func22, Tryz.ntmps22
 go_wp2
 go_ret
 exact ⟨rfl, rfl⟩
structure Half (w : World) (S : Nat → Prop) (wb : Nat) (high : Bool) (B : List Bool) (bs : List UInt8) (n : Nat) (v : Value) (W : World) : Prop where
 blk : W.heap[wb]? = some (.cells (fl 4 (wrV n high v)).toArray 52 (0, 0))
 row : W.ownsRow (wb + 1) 5 1 v bs.length (bs.map fun b => .int .u8 b.toNat)
 at_ : ∀ b, v.ownBlock = some b → S b ∨ w.heap.size ≤ b
 keeps : zaa S w W
 room : Room bs high B
theorem half_end {w W W2 : World} {S : Nat → Prop} {wb : Nat} {high one : Bool} {B : List Bool} {bs bs2 : List UInt8} {n : Nat} {v : Value} (hw : WrQ w S wb high B) (h : Half w S wb high B bs n v W)
   (hW : W2.heap[wb]? = some (.cells (fl 4 (wrV (n + 1) high v)).toArray 52 (0, 0))) (hr : W2.ownsRow (wb + 1) 5 1 v bs2.length (bs2.map fun b => .int .u8 b.toNat)) (hk : zaa S w W2) (hn : n = B.length)
   (hq : zbi bs2 high (B ++ [one])) : zab w S wb high (B ++ [one]) W2 := by
 obtain ⟨bs0, v0, hw0, _⟩ := hw
 refine ⟨fun b => S b ∨ (wb ≤ b ∧ w.heap.size ≤ b ∧ b < W2.heap.size), ⟨bs2, v, ⟨by simpa [hn] using hW, hr, fun b hb => ?_, .inl hw0.own, fun b hb => ?_⟩, hq⟩, hk, fun b hb => ?_⟩
 · have := hr.lt b hb
   exact (h.at_ b hb).elim .inl fun h1 => .inr ⟨by omega, h1, this.2⟩
 · rcases hb with hb | hb
   · have := hw0.lt b hb; have := hk.size; omega
   · exact ⟨hb.1, hb.2.2⟩
 · rcases hb with hb | hb
   · exact .inl hb
   · exact .inr hb.2.1
theorem wrV_set (n : Nat) (high : Bool) (v : Value) (i : Nat) : (if i = 0 then Value.int .i64 ((n : Int) + 1) else wrV n high v i) = wrV (n + 1) high v i := by
 unfold wrV
 by_cases h : i = 0
 · simp [h]
 · simp [h]
theorem wrV_set3 (n : Nat) (high : Bool) (v v' : Value) (i : Nat) (h4 : i < 4) : (if i = 3 then v' else wrV n high v i) = wrV n high v' i := by
 unfold wrV
 by_cases h : i = 3
 · simp [h]
 · have : i = 0 ∨ i = 1 ∨ i = 2 := by omega
   rcases this with rfl | rfl | rfl <;> simp
theorem half_pad {w w1 : World} {S : Nat → Prop} {wb : Nat} {high : Bool} {B : List Bool} {bs : List UInt8} {v v' : Value} (hw : IsWr w S wb high bs B.length v) (hq : zbi bs high B) (h8 : B.length % 8 = 0) (o : Obj)
   (hr : w1.ownsRow (wb + 1) 5 1 v' (bs.length + 1) (bs.map (fun b => Value.int .u8 b.toNat) ++ [.int .u8 0])) (hg : (w.alloc o).grownBy w1 v.ownBlock) (hn : NewAt (w.alloc o) v v') :
   Half w S wb high B (bs ++ [0]) B.length v' (w1.setCell ⟨wb, 3, none⟩ v') := by
 have hwb := (hw.lt wb hw.own).2
 have hvb : ∀ b, v.ownBlock = some b → wb < b := fun b hb => (hw.row.lt b hb).1
 have h1 : w1.heap[wb]? = some (.cells (fl 4 (wrV B.length high v)).toArray 52 (0, 0)) :=
   (hg.block wb (by rw [zae]; omega) (fun e => by have := hvb wb e.symm; omega)).trans ((Below.heap_alloc w o wb hwb).trans hw.blk)
 have hk : zaa S w w1 := ((zaa.refl S w).alloc o).grown hg (fun k hk => .inl (hw.at_ k hk))
 refine ⟨?_, ?_, fun b hb => ?_, hk.setCell (.inl hw.own) _, room_pad hq h8⟩
 · rw [zaG h1]
   exact congrArg (fun x => some (Obj.cells (List.toArray x) _ _)) (zal fun i hi => wrV_set3 _ _ _ _ _ hi)
 · have := zbO hr (a := ⟨wb, 3, none⟩) (fun h => by have := (hr.lt wb h).1; omega) v'
   simpa using this
 · rcases hn b hb with h2 | h2
   · exact .inl (hw.at_ b h2)
   · right; rw [zae] at h2; omega
theorem half_in {w : World} {S : Nat → Prop} {wb : Nat} {high : Bool} {B : List Bool} {bs : List UInt8} {v : Value} (hw : IsWr w S wb high bs B.length v) (hq : zbi bs high B) (h8 : B.length % 8 ≠ 0) : Half w S wb high B bs B.length v w :=
 ⟨hw.blk, hw.row, fun b hb => .inl (hw.at_ b hb), zaa.refl _ _, room_in hq h8⟩
theorem half_zero {w W : World} {S : Nat → Prop} {wb : Nat} {high : Bool} {B : List Bool} {bs : List UInt8} {n : Nat} {v : Value} (hw : WrQ w S wb high B) (h : Half w S wb high B bs n v W) (hn : n = B.length) :
   zab w S wb high (B ++ [false]) (W.setCell ⟨wb, 0, none⟩ (.int .i64 ((n : Int) + 1))) := by
 have hS : S wb := by obtain ⟨_, _, h1, _⟩ := hw; exact h1.own
 refine half_end hw h ?_ (zbO h.row (a := ⟨wb, 0, none⟩) (fun e => by have := (h.row.lt wb e).1; omega) _) (h.keeps.setCell (.inl hS) _) hn (wrote_zero h.room)
 rw [zaG h.blk]
 exact congrArg (fun x => some (Obj.cells (List.toArray x) _ _)) (zal fun i _ => wrV_set _ _ _ _)
theorem ze8 (bs : List UInt8) (i : Nat) (x : UInt8) : (bs.map fun b => Value.int .u8 b.toNat).set i (.int .u8 x.toNat) = (bs.set i x).map fun b => Value.int .u8 b.toNat := by
 rw [List.map_set]
theorem own_setL {w : World} {base e g n cap : Nat} {xs : List Value} (h : w.ownsRow base e 1 (.slice (some ⟨g, 0, none⟩) n cap) n xs) (i : Nat) (v : Value) :
   (w.setCell ⟨g, i, none⟩ v).ownsRow base e 1 (.slice (some ⟨g, 0, none⟩) n cap) n (xs.set i v) := by
 have hx : xs = fl n (fun i => xs.getD i undef) := by
   have hl : xs.length = n := by simpa using h.1
   have := map_fl undef xs id
   rw [List.map_id] at this
   rw [← hl]; exact this
 rw [hx] at h ⊢
 rw [fl_set]
 exact own_set h i v
theorem half_one {w W : World} {S : Nat → Prop} {wb g k cap : Nat} {high : Bool} {B : List Bool} {bs : List UInt8} {n : Nat} (q : Nat) (hw : WrQ w S wb high B) (h : Half w S wb high B bs n (.slice (some ⟨g, 0, none⟩) k cap) W) (hn : n = B.length) (x : Int)
   (hx : x = ((bs.getD (n / 8) 0).toNat ||| 2 ^ za8 n high : Nat)) :
   zab w S wb high (B ++ [true]) (((W.drewN q).setCell ⟨g, n / 8, none⟩ (.int .u8 x)).setCell ⟨wb, 0, none⟩ (.int .i64 ((n : Int) + 1))) := by
 have hS : S wb := by obtain ⟨_, _, h1, _⟩ := hw; exact h1.own
 have hg := h.row.lt g rfl
 have hk : k = bs.length := by
   obtain ⟨_, h2⟩ := h.row
   rcases h2 with ⟨h3, _⟩ | ⟨_, _, _, h3, _⟩
   · cases h3
   · simp at h3; exact h3.2.1
 subst hk
 have hrow : (W.drewN q).ownsRow (wb + 1) 5 1 (.slice (some ⟨g, 0, none⟩) bs.length cap) bs.length (bs.map fun b => .int .u8 b.toNat) := zaf h.row (za9 (Below.refl _ _) q)
 have hset := own_setL hrow (n / 8) (.int .u8 x)
 rw [show x = (((UInt8.ofNat ((bs.getD (n / 8) 0).toNat ||| 2 ^ za8 n high)).toNat : Nat) : Int) from by rw [or_byte _ _ (zc4 _ _)]; exact hx, ze8] at hset
 rw [show x = (((UInt8.ofNat ((bs.getD (n / 8) 0).toNat ||| 2 ^ za8 n high)).toNat : Nat) : Int) from by rw [or_byte _ _ (zc4 _ _)]; exact hx]
 have hset2 := zbO hset (a := ⟨wb, 0, none⟩) (fun e => by simp [Value.ownBlock] at e; omega) (.int .i64 ((n : Int) + 1))
 refine half_end (bs2 := bs.set (n / 8) (UInt8.ofNat ((bs.getD (n / 8) 0).toNat ||| 2 ^ za8 n high))) hw h ?_ (by simpa using hset2) (((h.keeps.drewN q).setCell (h.at_ g rfl) _).setCell (.inl hS) _) hn (by rw [hn]; exact wrote_one h.room)
 have h1 : ((W.drewN q).setCell ⟨g, n / 8, none⟩ (.int .u8 ((UInt8.ofNat ((bs.getD (n / 8) 0).toNat ||| 2 ^ za8 n high)).toNat : Nat))).heap[wb]? = some (.cells (fl 4 (wrV n high (.slice (some ⟨g, 0, none⟩) bs.length cap))).toArray 52 (0, 0)) := by
   rw [heap_setCell_other _ _ _ _ (by show wb ≠ g; omega)]; exact h.blk
 rw [zaG h1]
 exact congrArg (fun x => some (Obj.cells (List.toArray x) _ _)) (zal fun i _ => wrV_set _ _ _ _)
theorem half_row {w W : World} {S : Nat → Prop} {wb : Nat} {high : Bool} {B : List Bool} {bs : List UInt8} {n : Nat} {v : Value} (h : Half w S wb high B bs n v W) (hn : n = B.length) :
   ∃ g cap, v = .slice (some ⟨g, 0, none⟩) bs.length cap ∧ wb < g ∧ n / 8 < bs.length ∧ W.cell? ⟨g, n / 8, none⟩ = some (.int .u8 (bs.getD (n / 8) 0).toNat) ∧ W.frozen? ⟨g, n / 8, none⟩ = false := by
 have hlen : n / 8 < bs.length := by have := h.room.1; omega
 obtain ⟨h1, h2⟩ := h.row
 rcases h2 with ⟨_, h4⟩ | ⟨g, cap, cur, hv, hg, hh, hle, hm, hc, ht⟩
 · omega
 · refine ⟨g, cap, hv, by omega, hlen, ?_, frozen_of_row W g _ _ _ hh⟩
   have hcell := h.row.cells (g := g) (by rw [hv]; rfl) (n / 8) (.int .u8 (bs.getD (n / 8) 0).toNat) (by simp [hlen, List.getD])
   rwa [Addr.add_lit, Nat.zero_add] at hcell
theorem blk_after {w w1 : World} {S : Nat → Prop} {wb : Nat} {high : Bool} {bs : List UInt8} {n : Nat} {v : Value} (hw : IsWr w S wb high bs n v) (o : Obj) (hg : (w.alloc o).grownBy w1 v.ownBlock) :
   w1.heap[wb]? = some (.cells (fl 4 (wrV n high v)).toArray 52 (0, 0)) :=
 (hg.block wb (by rw [zae]; have := (hw.lt wb hw.own).2; omega) (fun e => by have := (hw.row.lt wb e.symm).1; omega)).trans ((Below.heap_alloc w o wb (hw.lt wb hw.own).2).trans hw.blk)
theorem zbc {w : World} {wb n : Nat} {high : Bool} {v : Value} (h : w.heap[wb]? = some (.cells (fl 4 (wrV n high v)).toArray 52 (0, 0))) :
   w.cell? ⟨wb, 0, none⟩ = some (.int .i64 n) ∧ w.cell? ⟨wb, 1, none⟩ = some (.bool high) ∧ w.cell? ⟨wb, 3, none⟩ = some v ∧ ∀ i, w.frozen? ⟨wb, i, none⟩ = false :=
 ⟨zai h 0 (by omega), zai h 1 (by omega), zai h 3 (by omega), fun i => zaI h i⟩
theorem bit_zero (wb : Nat) (high : Bool) (B : List Bool) (S : Nat → Prop) (w : World) (h : WrQ w S wb high B) (hlt : B.length < 1099511627776) :
   Calls Tryz.prog 56 #[.pointer (some ⟨wb, 0, none⟩), .bool false] w fun e w' => e = .returned (.tuple #[]) ∧ zab w S wb high (B ++ [false]) w' := by
 have HQ := Lib.hid h
 obtain ⟨bs, v, hw, hq⟩ := h
 obtain ⟨h0, h1, h3, hf⟩ := zbc hw.blk
 have hf0 := hf 0
 have hf3 := hf 3
 have hl := hq.1
 have hbs : bs.length ≤ 1099511627776 := by omega
 have hsz := (hw.lt wb hw.own).2
 have HW := Lib.hid hw
 have HWQ := Lib.hid hq
 obtain ⟨n, hn⟩ : ∃ n, n = B.length := ⟨_, rfl⟩
 rw [← hn] at h0
 have HN := Lib.hid hn
 have hnb : n < 1099511627776 := by omega
 by_cases h8 : n % 8 = 0
 · have hand : bits .and .i64 (n : Int) 7 = 0 := by rw [zbZ]; omega
   clear hw hq hf hl h8 hn
   go_enter Tryz.func56, Tryz.ntmps56
   go_wp2_with (at_builtin; refine zb8 ETB rfl (.tmp 15) (.tmp 16) rfl (wb + 1) v bs.length _ rfl (HW.out.row.alloc _) _ 1 _ _ rfl (zbl _ _ _) (zb5 rfl) (by unfold maxLen; omega) (by omega) (by rw [zae]; omega) ?_; intro v' w5 hO5 hg5 hN5; obtain ⟨a5, c5, rfl, _, _⟩ := Row.of_owns hO5; have HALF := Lib.hid (half_pad HW.out HWQ.out (by have := HN.out; have := zbZ (n : Int); omega) _ hO5 hg5 hN5); obtain ⟨k0, k1, k3, kf⟩ := zbc (blk_after HW.out _ hg5); rw [← HN.out] at k0; have kf0 := kf 0; have kf3 := kf 3; clear hO5 hg5 hN5 kf)
   go_end0
   have hz := half_zero HQ.out HALF.out rfl
   rw [← HN.out] at hz
   exact ⟨rfl, hz⟩
 · have hand : bits .and .i64 (n : Int) 7 = ((n % 8 : Nat) : Int) := by rw [zbZ]; omega
   have hne : (((n % 8 : Nat) : Int) == 0) = false := by rw [beq_eq_false_iff_ne]; omega
   have HALF := Lib.hid (half_in hw hq (by omega))
   clear hw hq hf hl h8 hn
   go_enter Tryz.func56, Tryz.ntmps56
   go_wp2
   go_end0
   have hz := half_zero HQ.out HALF.out rfl
   rw [← HN.out] at hz
   exact ⟨rfl, hz⟩
theorem or_mask {bs : List UInt8} {n x : Nat} {high : Bool} (hx : x = (bs.getD (n / 8) 0).toNat) : bits .or .u8 (x : Int) (zdS n high) = (((bs.getD (n / 8) 0).toNat ||| 2 ^ za8 n high : Nat) : Int) := by
 have h1 : x < 256 := by rw [hx]; exact (bs.getD (n / 8) 0).toNat_lt
 have h2 : 2 ^ za8 n high < 256 := Nat.lt_of_lt_of_le (Nat.pow_lt_pow_right (by omega) (zc4 n high)) (by omega)
 unfold zdS
 rw [u8_or_nat x _ h1 h2, hx]
theorem bit_one (wb : Nat) (high : Bool) (B : List Bool) (S : Nat → Prop) (w : World) (h : WrQ w S wb high B) (hlt : B.length < 1099511627776) :
   Calls Tryz.prog 56 #[.pointer (some ⟨wb, 0, none⟩), .bool true] w fun e w' => e = .returned (.tuple #[]) ∧ zab w S wb high (B ++ [true]) w' := by
 have HQ := Lib.hid h
 obtain ⟨bs, v, hw, hq⟩ := h
 obtain ⟨h0, h1, h3, hf⟩ := zbc hw.blk
 have hf0 := hf 0
 have hf3 := hf 3
 have hl := hq.1
 have hbs : bs.length ≤ 1099511627776 := by omega
 have hsz := (hw.lt wb hw.own).2
 have HW := Lib.hid hw
 have HWQ := Lib.hid hq
 obtain ⟨n, hn⟩ : ∃ n, n = B.length := ⟨_, rfl⟩
 rw [← hn] at h0
 have HN := Lib.hid hn
 have hnb : n < 1099511627776 := by omega
 by_cases h8 : n % 8 = 0
 · have hand : bits .and .i64 (n : Int) 7 = 0 := by rw [zbZ]; omega
   clear hw hq hf hl h8 hn
   go_enter Tryz.func56, Tryz.ntmps56
   go_wp2_with (at_builtin; refine zb8 ETB rfl (.tmp 15) (.tmp 16) rfl (wb + 1) v bs.length _ rfl (HW.out.row.alloc _) _ 1 _ _ rfl (zbl _ _ _) (zb5 rfl) (by unfold maxLen; omega) (by omega) (by rw [zae]; omega) ?_; intro v' w5 hO5 hg5 hN5; obtain ⟨a5, c5, rfl, _, _⟩ := Row.of_owns hO5; have HALF := Lib.hid (half_pad HW.out HWQ.out (by have := HN.out; have := zbZ (n : Int); omega) _ hO5 hg5 hN5); obtain ⟨k0, k1, k3, kf⟩ := zbc (blk_after HW.out _ hg5); rw [← HN.out] at k0; have kf0 := kf 0; have kf3 := kf 3; clear hO5 hg5 hN5 kf)
   clear k0 k1 k3 kf0 kf3 h0 h1 h3 hf0 hf3 hand
   generalize w5.setCell ⟨wb, 3, none⟩ (.slice a5 (bs.length + 1) c5) = W at *
   obtain ⟨g, c, hv, hwg, hix, hcell, hfree⟩ := half_row HALF.out rfl
   rw [← HN.out] at hix hcell hfree
   simp only [Value.slice.injEq] at hv
   obtain ⟨rfl, hlen, rfl⟩ := hv
   obtain ⟨k0, k1, k3, kf⟩ := zbc HALF.out.blk
   rw [← HN.out] at k0
   have kf0 := kf 0
   have hmask := zdF wb 0 n high
   obtain ⟨x, hx⟩ : ∃ x, x = ((bs ++ [0]).getD (n / 8) 0).toNat := ⟨_, rfl⟩
   rw [← hx] at hcell
   have HX := Lib.hid hx
   have HM := Lib.hid hmask
   have hdi : ((n : Int) / 8).toNat = n / 8 := by omega
   have hix2 : (n : Int) / 8 < (bs.length : Int) + 1 := by rw [List.length_append] at hix; simp at hix; omega
   have hix0 : (0 : Int) ≤ (n : Int) / 8 := by omega
   clear hmask hx kf hix hlen
   refine wp_region_still_tail 18 (by kernel_rfl) (by kernel_rfl) ?_
   simp only [List.take_succ_cons, List.take_zero, List.drop_succ_cons, List.drop_zero]
   repeat still_step
   still_call ((HM.out _ (by exact k0) (by exact k1)).mono fun e w' ⟨he, hw⟩ => ⟨he, hw.symm⟩)
   repeat still_step
   refine wpStill_nil ?_
   change wpList _ _ _ _ _ (W.drewN 1)
   have hgw : g ≠ wb := by omega
   go_wp2
   go_end0
   have hz := half_one 1 HQ.out HALF.out rfl (bits .or .u8 (x : Int) (zdS n high)) (by rw [← HN.out]; exact or_mask HX.out)
   rw [← HN.out] at hz
   exact ⟨rfl, hz⟩
 · have hand : bits .and .i64 (n : Int) 7 = ((n % 8 : Nat) : Int) := by rw [zbZ]; omega
   have hne : (((n % 8 : Nat) : Int) == 0) = false := by rw [beq_eq_false_iff_ne]; omega
   have HALF := Lib.hid (half_in hw hq (by omega))
   clear hw hq hf hl h8 hn h0 h1 h3 hf0 hf3
   obtain ⟨g, c, hv, hwg, hix, hcell, hfree⟩ := half_row HALF.out rfl
   rw [← HN.out] at hix hcell hfree
   subst hv
   obtain ⟨k0, k1, k3, kf⟩ := zbc HALF.out.blk
   rw [← HN.out] at k0
   have kf0 := kf 0
   have hmask := zdF wb 0 n high
   obtain ⟨x, hx⟩ : ∃ x, x = (bs.getD (n / 8) 0).toNat := ⟨_, rfl⟩
   rw [← hx] at hcell
   have HX := Lib.hid hx
   have HM := Lib.hid hmask
   have hdi : ((n : Int) / 8).toNat = n / 8 := by omega
   have hix2 : (n : Int) / 8 < (bs.length : Int) := by omega
   have hix0 : (0 : Int) ≤ (n : Int) / 8 := by omega
   clear hmask hx kf hix
   go_enter Tryz.func56, Tryz.ntmps56
   go_wp2
   refine wp_region_still_tail 18 (by kernel_rfl) (by kernel_rfl) ?_
   simp only [List.take_succ_cons, List.take_zero, List.drop_succ_cons, List.drop_zero]
   repeat still_step
   still_call ((HM.out _ (by exact k0) (by exact k1)).mono fun e w' ⟨he, hw⟩ => ⟨he, hw.symm⟩)
   repeat still_step
   refine wpStill_nil ?_
   change wpList _ _ _ _ _ (w.drewN 1)
   have hgw : g ≠ wb := by omega
   go_wp2
   go_end0
   have hz := half_one 1 HQ.out HALF.out rfl (bits .or .u8 (x : Int) (zdS n high)) (by rw [← HN.out]; exact or_mask HX.out)
   rw [← HN.out] at hz
   exact ⟨rfl, hz⟩
theorem wbit_any (wb : Nat) (high one : Bool) (B : List Bool) (S : Nat → Prop) (w : World) (h : WrQ w S wb high B) (hlt : B.length < 1099511627776) :
   Calls Tryz.prog 56 #[.pointer (some ⟨wb, 0, none⟩), .bool one] w fun e w' => e = .returned (.tuple #[]) ∧ zab w S wb high (B ++ [one]) w' := by
 cases one
 · exact bit_zero wb high B S w h hlt
 · exact bit_one wb high B S w h hlt
theorem new_wr (high : Bool) (w : World) : Calls Tryz.prog 10 #[.bool high] w fun e w' => e = .returned (.pointer (some ⟨w.heap.size, 0, none⟩)) ∧ WrQ w' (fun b => b = w.heap.size) w.heap.size high [] ∧ Below w.heap.size w w' ∧ w'.heap.size = w.heap.size + 1 := by
 go_enter Tryz.func10, Tryz.ntmps10
 go_wp2
 go_ret
 refine ⟨rfl, ⟨[], .slice none 0 0, ⟨zah _ rfl, World.ownsRow_nil _ _ _ _, fun b h => (by cases h), rfl, fun b h => (by rw [zae]; have h2 : b = w.heap.size := h; omega)⟩, wrote_nil high⟩, zam _ _, zae _ _⟩
theorem bit_test (x t : Nat) (hx : x < 4294967296) : (bits .and .u32 ((x : Int) / 2 ^ t) 1 == 1) = x.testBit t := by
 have e : (x : Int) / 2 ^ t = ((x / 2 ^ t : Nat) : Int) := by simp only [Int.natCast_ediv, Int.natCast_pow, Int.cast_ofNat_Int]
 have hl : x / 2 ^ t < 4294967296 := Nat.lt_of_le_of_lt (Nat.div_le_self _ _) hx
 rw [e, show (1 : Int) = ((1 : Nat) : Int) from rfl, u32_and_nat _ 1 hl (by omega), Nat.and_one_is_mod, Nat.testBit_eq_decide_div_mod_eq, Bool.eq_iff_iff]
 simp
 omega
theorem putL_succ (x : Nat) (high : Bool) (n k : Nat) : putL x high n (k + 1) = putL x high n k ++ [x.testBit (zbf k n high)] := rfl
theorem wput_any (wb n x : Nat) (high : Bool) (B : List Bool) (S : Nat → Prop) (w : World) (h : WrQ w S wb high B) (hlt : B.length < 549755813888) (hn : n ≤ 32) (hx : x < 2 ^ n) :
   Calls Tryz.prog 34 #[.pointer (some ⟨wb, 0, none⟩), .int .u32 x, .int .i64 n] w fun e w' => e = .returned (.int .i64 0) ∧ zab w S wb high (B ++ putL x high n n) w' := by
 have HQ := Lib.hid h
 have hdead : Calls Tryz.prog 22 #[.pointer (some ⟨wb, 0, none⟩)] w fun e w' => e = .returned (.bool false) ∧ w = w' := by
   obtain ⟨bs, v, hw, hq⟩ := h
   exact zdR hw
 have HD := Lib.hid hdead
 have hx32 : x < 4294967296 := Nat.lt_of_lt_of_le hx (pow32 hn)
 have hdiv : x / 2 ^ n = 0 := Nat.div_eq_of_lt hx
 have HX := Lib.hid hx
 have HDV := Lib.hid hdiv
 have hN1 : decide ((n : Int) < 0) = false := by simp
 have hN2 : decide (32 < (n : Int)) = false := by simp; omega
 have hN3 : ((x : Int) / 2 ^ n != 0) = false := by
   have e : (x : Int) / 2 ^ n = ((x / 2 ^ n : Nat) : Int) := by simp only [Int.natCast_ediv, Int.natCast_pow, Int.cast_ofNat_Int]
   rw [e, hdiv]; rfl
 clear h hdead hx hdiv
 go_enter Tryz.func34, Tryz.ntmps34
 go_wp2_with (go_at_call 22; refine HD.out.mono ?_; rintro e w' ⟨rfl, rfl⟩)
 go_loopw [26] (fun i wr => ∃ (k : Nat) (S' : Nat → Prop), k ≤ n ∧ i = .int .i64 k ∧ Hid (WrQ wr S' wb high (B ++ putL x high n k)) ∧ Hid (zaa S w wr) ∧ Hid (∀ b, S' b → S b ∨ w.heap.size ≤ b)) (fun i _ => n - (intOf i).toNat)
 case atStart => exact ⟨0, S, by omega, rfl, Lib.hid (by simpa [putL] using HQ.out), Lib.hid (zaa.refl _ _), Lib.hid (fun b h => .inl h)⟩
 case round =>
   obtain ⟨k, S', hk, rfl, HQk, HK, HS⟩ := hrel
   by_cases hlt2 : k < n
   · have hbt := bit_test x (zbf k n high) hx32
     have hc1 : wr.cell? ⟨wb, 1, none⟩ = some (.bool high) := by
       obtain ⟨bs, v, hw, hq⟩ := HQk.out
       exact (zbc hw.blk).2.1
     have hbit := wbit_any wb high (x.testBit (zbf k n high)) (B ++ putL x high n k) S' wr HQk.out (by rw [List.length_append, zac]; omega)
     have ht32 : zbf k n high < 32 := by unfold zbf; split <;> omega
     generalize hone : x.testBit (zbf k n high) = one at hbt hbit
     have HONE := Lib.hid hone
     clear hone
     have HB := Lib.hid hbit
     clear hbit
     go_wp2_with fail
     refine (turn_any wb 0 k n high _ (by simpa using hc1) hlt2 hn).mono ?_
     rintro e w' ⟨rfl, rfl⟩
     go_wp2_with fail
     refine HB.out.mono ?_
     rintro e w2 ⟨rfl, S2, hQ2, hK2, hS2⟩
     have HQ2 := Lib.hid hQ2
     have HK2 := Lib.hid (HK.out.trans hK2 HS.out)
     have HS2 := Lib.hid (show ∀ b, S2 b → S b ∨ w.heap.size ≤ b from fun b hb => (hS2 b hb).elim (HS.out b) (fun h => .inr (Nat.le_trans HK.out.size h)))
     clear hQ2 hK2 hS2
     go_wp2
     go_roundw
     case rel => exact ⟨k + 1, S2, by omega, by go_num, by rw [putL_succ, HONE.out, ← List.append_assoc]; exact HQ2, HK2, HS2⟩
     case measure => simp [intOf]; omega
   · obtain rfl : k = n := by omega
     go_wp2
     go_ret
     exact ⟨rfl, S', HQk.out, HK.out, HS.out⟩
theorem wbytes_any (wb : Nat) (high : Bool) (B : List Bool) (S : Nat → Prop) (w : World) (h : WrQ w S wb high B) (hlt : B.length < 549755813888) :
   Calls Tryz.prog 12 #[.pointer (some ⟨wb, 0, none⟩)] w fun e w' => ∃ bs v, zbi bs high B ∧ e = .returned v ∧ w'.ownsRow w.heap.size 5 1 v bs.length (bs.map fun b => .int .u8 b.toNat) ∧ Below w.heap.size w w' := by
 obtain ⟨bs, v, hw, hq⟩ := h
 have hdead := zdR hw
 have h3 := (zbc hw.blk).2.2.1
 obtain ⟨a, c, rfl, hr, _⟩ := Row.of_owns hw.row
 have hl := hq.1
 have hcl := cloneB a bs.length c _ w hr (by intro u hu; simp at hu; obtain ⟨x, _, rfl⟩ := hu; rfl) (by omega)
 have HD := Lib.hid hdead
 have HC := Lib.hid hcl
 have HQ := Lib.hid hq
 clear hdead hcl hw hq hr hl
 go_enter Tryz.func12, Tryz.ntmps12
 go_wp2_with (first
   | (go_at_call 22; refine HD.out.mono ?_; rintro e w' ⟨rfl, rfl⟩)
   | (go_at_call 23; refine HC.out.mono ?_; rintro e w1 ⟨v, rfl, hO, hb, hnn⟩; have HO := Lib.hid hO; have HB := Lib.hid hb; clear hO hb hnn))
 go_ret
 exact ⟨bs, _, HQ.out, rfl, HO.out, HB.out⟩
end Go.Proofs.YtngjbhejfojpbaaGreat
namespace Go.Proofs.YtngjbhejfojpbaaGreat
open Go.RowKit Go.Sort
theorem ins_any {α : Type} [Inhabited α] (enc : α → Value) (hE : ∀ x, ∃ n, enc x = .int .i64 n) (cf : α → α → Int) (D : α → Prop) (f : FuncId) (cb : Array Value) (g cap a b : Nat) (rest : List Value) (d : Array α) (w0 w : World)
   (hC : CmpQ Tryz.prog f cb enc cf D w0 g) (hS : SB enc w0 g 3 rest d w) (hD : ∀ i, i < d.size → D d[i]!) (hab : a ≤ b) (hb : b ≤ d.size) (hsz : d.size < 4611686018427387904) :
   Calls Tryz.prog 87 #[.slice (some ⟨g, 0, none⟩) d.size cap, .int .i64 a, .int .i64 b, .func (.func f) #[] cb] w fun e w' => e = .returned (.tuple #[]) ∧ SB enc w0 g 3 rest (Sort.insertionSort (ltOf cf) d a b) w' := by
 have eg := hC.enters
 have HC := Lib.hid hC
 have HS := Lib.hid hS
 have HD := Lib.hid hD
 clear hC hS hD
 go_enter Tryz.func87, Tryz.ntmps87
 go_wp2
 go_loopw [8] (fun vi wr => ∃ (i : Nat) (dk : Array α), vi = .int .i64 i ∧ a < i ∧ i ≤ b + 1 ∧ dk.size = d.size ∧ Hid (SB enc w0 g 3 rest dk wr) ∧ Hid (∀ i, i < dk.size → D dk[i]!) ∧
     Hid (insOuter (ltOf cf) a b i dk = insOuter (ltOf cf) a b (a + 1) d)) (fun vi _ => b + 1 - (intOf vi).toNat)
 case atStart => exact ⟨a + 1, d, by go_num, by omega, by omega, rfl, HS, HD, rfl⟩
 case round =>
   obtain ⟨i, dk, rfl, hai, hib, hsk, HSk, HDk, HO⟩ := hrel
   clear HS
   by_cases hlt : i < b
   · go_wp2
     go_loopw [9] (fun vj wr2 => ∃ (j : Nat) (dj : Array α), vj = .int .i64 j ∧ a ≤ j ∧ j ≤ i ∧ dj.size = d.size ∧ Hid (SB enc w0 g 3 rest dj wr2) ∧ Hid (∀ i, i < dj.size → D dj[i]!) ∧
         Hid (insInner (ltOf cf) a j dj = insInner (ltOf cf) a i dk)) (fun vj _ => (intOf vj).toNat)
     case atStart => exact ⟨i, dk, rfl, by omega, Nat.le_refl _, hsk, HSk, HDk, rfl⟩
     case round =>
       obtain ⟨j, dj, rfl, haj, hji, hsj, HSj, HDj, HI⟩ := hrel
       clear HSk HDk
       by_cases hja : a < j
       · have hc1 := HSj.out.cell j (by omega)
         have hc2 := HSj.out.cell (j - 1) (by omega)
         have hf1 := HSj.out.free j
         have hf2 := HSj.out.free (j - 1)
         have hcall := fun q => HC.out.calls (wr.drewN q) (HSj.out.drewN q).grown dj[j]! dj[j-1]! (HDj.out j (by omega)) (HDj.out (j - 1) (by omega))
         obtain ⟨X, hX⟩ : ∃ X, X = dj[j]! := ⟨_, rfl⟩
         obtain ⟨Y, hY⟩ : ∃ Y, Y = dj[j-1]! := ⟨_, rfl⟩
         rw [← hX] at hc1 hcall
         rw [← hY] at hc2 hcall
         have HX := Lib.hid hX
         have HY := Lib.hid hY
         obtain ⟨x, hx⟩ := hE X
         obtain ⟨y, hy⟩ := hE Y
         rw [hx] at hc1 hcall
         rw [hy] at hc2 hcall
         have HCALL := Lib.hid hcall
         have HEx := Lib.hid hx
         have HEy := Lib.hid hy
         clear hcall hx hy hX hY
         have hj1 : (0 : Int) ≤ (j : Int) - 1 := by omega
         have hj2 : ((j : Int) - 1).toNat = j - 1 := by omega
         have hjd : j < d.size := by omega
         have hjd1 : (j : Int) < (d.size : Int) := by omega
         have out : ltOf cf X Y = false → ∀ q, ∃ i' dk', Value.int .i64 ((i : Int) + 1) = .int .i64 (i' : Nat) ∧ a < i' ∧ i' ≤ b + 1 ∧ dk'.size = d.size ∧ Hid (SB enc w0 g 3 rest dk' (wr.drewN q)) ∧ Hid (∀ i, i < dk'.size → D dk'[i]!) ∧ Hid (insOuter (ltOf cf) a b i' dk' = insOuter (ltOf cf) a b (a + 1) d) :=
           fun hl q => ⟨i + 1, dj, by go_num, by omega, by omega, hsj, HSj.out.drewN q, HDj, by rw [← HO.out, zch _ _ _ _ _ hlt, ← HI.out, zcm _ _ _ _ (.inr (by rw [← HX.out, ← HY.out]; exact hl))]; exact Lib.hid rfl⟩
         have OUT := Lib.hid out
         clear out
         by_cases hcf : cf X Y < 0
         · have hl : ltOf cf X Y = true := by simpa [ltOf] using hcf
           have HL := Lib.hid hl
           clear hl
           go_wp2_with fail
           go_quiet ((refine Calls.quiet_of (HCALL.out _)))
           go_wp2
           go_region
           all_goals go_wp2
           go_roundw
           case rel =>
             refine ⟨j - 1, swp dj j (j - 1), by congr 1; omega, by omega, by omega, by rw [size_swp]; exact hsj, ?_, ?_, ?_⟩
             · have hw := HSj.out.swp j (j - 1) (by omega) (by omega) (nq + 1)
               rw [← HX.out, ← HY.out, HEx.out, HEy.out] at hw
               exact Lib.hid hw
             · exact Lib.hid (fun q hq => by
                 rw [size_swp] at hq
                 by_cases h1 : q = j
                 · subst h1; rw [swp_left _ _ _ hq (by omega)]; exact HDj.out _ (by omega)
                 · by_cases h2 : q = j - 1
                   · subst h2; rw [swp_right _ _ _ hq]; exact HDj.out _ (by omega)
                   · rw [swp_other _ _ _ _ h1 h2]; exact HDj.out _ hq)
             · exact Lib.hid (by rw [← HI.out, inner_go (ltOf cf) a j dj hja (by rw [← HX.out, ← HY.out]; exact HL.out)])
           case measure => simp [intOf]; omega
         · have hl : ltOf cf X Y = false := by simpa [ltOf] using hcf
           have HL := Lib.hid hl
           clear hl
           go_wp2_with fail
           go_quiet ((refine Calls.quiet_of (HCALL.out _)))
           go_wp2
           go_roundw
           case rel => exact OUT.out HL.out nq
           case measure => simp [intOf]; omega
       · have out : ∀ q, ∃ i' dk', Value.int .i64 ((i : Int) + 1) = .int .i64 (i' : Nat) ∧ a < i' ∧ i' ≤ b + 1 ∧ dk'.size = d.size ∧ Hid (SB enc w0 g 3 rest dk' (wr.drewN q)) ∧ Hid (∀ i, i < dk'.size → D dk'[i]!) ∧ Hid (insOuter (ltOf cf) a b i' dk' = insOuter (ltOf cf) a b (a + 1) d) :=
           fun q => ⟨i + 1, dj, by go_num, by omega, by omega, hsj, HSj.out.drewN q, HDj, by rw [← HO.out, zch _ _ _ _ _ hlt, ← HI.out, zcm _ _ _ _ (.inl (by omega))]; exact Lib.hid rfl⟩
         have OUT := Lib.hid out
         clear out
         have hja2 : decide ((a : Int) < (j : Int)) = false := by simp; omega
         go_wp2
         go_quiet (fail)
         go_wp2
         go_roundw
         case rel => exact OUT.out nq
         case measure => simp [intOf]; omega
   · go_wp2
     go_end0
     refine ⟨rfl, ?_⟩
     have e : Sort.insertionSort (ltOf cf) d a b = dk := by
       unfold Sort.insertionSort; rw [← HO.out, zbo _ _ _ _ _ hlt]
     rw [e]
     exact HSk.out
end Go.Proofs.YtngjbhejfojpbaaGreat
