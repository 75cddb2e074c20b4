/-
  Our texts Lm5 to LmB, in one.
-/
import Derived.Test.YtkhcjoomijkfbaaGreatDoorPkL9
import Derived.Test.YtkhcjoomijkfbaaGreatDoorRows
import Derived.ProofKit
import Derived.OpenShut
import Derived.Lib.SmallJoins
import Derived.Test.YtkhcjoomijkfbaaGreatDoorProg
import Derived.ChangeSlices
set_option maxRecDepth 8000
set_option maxHeartbeats 8000000
namespace Go.Proofs.YtkhcjoomijkfbaaGreatDoor
open Go.RowKit
def zb5 (w : World) (R : LinD × Bool) (e : Ending) (w' : World) : Prop := e = .returned (.tuple #[linA R.1, .bool R.2]) ∧ Below w.heap.size w w'
def xsA (v : PV) (k : Nat) : Array Value := #[.int .i64 (if 0 < k then intN v kL else 0), .int .i64 (if 1 < k then intN v kO else 0), .int .i64 (if 2 < k then intN v kE else 0), .int .i64 (if 3 < k then intN v kN else 0), .int .i64 (if 4 < k then intN v kT else 0)]
def keyL : Nat → List UInt8 | 0 => kL | 1 => kO | 2 => kE | 3 => kN | _ => kT
structure OfM (w W : World) (F : Nat → Prop) (v : PV) (sl : Value) (st : Bool) (d : ByteArray) (r q x : Nat) (k : Nat) : Prop where
 bel : Below w.heap.size w W
 val : IsV W F v sl
 obj : W.heap[r]? = some (.cells (obC v sl st d) 56 (0, 0))
 res : W.heap[q]? = some (.cells #[.int .i64 0, .int .i64 0, .int .i64 0, .int .i64 0, .int .i64 0, .int .i64 0, .int .i64 0] 23 (0, 0))
 row : W.heap[x]? = some (.cells (xsA v k) 53 (0, 0))
 nr : w.heap.size ≤ q
 nx : w.heap.size ≤ x
 rx : r ≠ x
 qx : q ≠ x
 okF : ∀ b, F b → b < w.heap.size
theorem OfM.next {w W W' : World} {F : Nat → Prop} {v : PV} {sl : Value} {st : Bool} {d : ByteArray} {r q x k : Nat} (h : OfM w W F v sl st d r q x k) (hb : Below W.heap.size W W') : OfM w W' F v sl st d r q x k :=
 { h with bel := h.bel.trans (hb.mono h.bel.size), val := h.val.below hb, obj := zaa hb h.obj, res := zaa hb h.res, row := zaa hb h.row }
theorem OfM.put {w W : World} {F : Nat → Prop} {v : PV} {sl : Value} {st : Bool} {d : ByteArray} {r q x k : Nat} (h : OfM w W F v sl st d r q x k) (hk : k < 5) : OfM w (W.setCell ⟨x, k, none⟩ (.int .i64 (intN v (keyL k)))) F v sl st d r q x (k + 1) :=
 { h with
   bel := h.bel.setCell h.nx _
   val := IsV.keep (F := F) ⟨by simp, fun b hb hF => heap_setCell_other _ _ _ _ (by have := h.okF b hF; have := h.nx; show b ≠ x; omega)⟩ (fun _ h => h) v h.val
   obj := (heap_setCell_other _ _ _ _ h.rx).trans h.obj
   res := (heap_setCell_other _ _ _ _ h.qx).trans h.res
   row := by
     rw [heap_setCell_same W x k _ _ _ h.row]
     match k, hk with
     | 0, _ => rfl
     | 1, _ => rfl
     | 2, _ => rfl
     | 3, _ => rfl
     | 4, _ => rfl }
theorem OfM.cellX {w W : World} {F : Nat → Prop} {v : PV} {sl : Value} {st : Bool} {d : ByteArray} {r q x k : Nat} (h : OfM w W F v sl st d r q x k) : W.cell? ⟨x, 0, none⟩ = some (.int .i64 (if 0 < k then intN v kL else 0)) ∧ W.cell? ⟨x, 1, none⟩ = some (.int .i64 (if 1 < k then intN v kO else 0)) ∧ W.cell? ⟨x, 2, none⟩ = some (.int .i64 (if 2 < k then intN v kE else 0)) ∧
   W.cell? ⟨x, 3, none⟩ = some (.int .i64 (if 3 < k then intN v kN else 0)) ∧ W.cell? ⟨x, 4, none⟩ = some (.int .i64 (if 4 < k then intN v kT else 0)) ∧ (∀ j, W.frozen? ⟨x, j, none⟩ = false) := by
 refine ⟨?_, ?_, ?_, ?_, ?_, fun j => frozen_of_row _ _ _ _ _ h.row⟩ <;> (rw [cell_of_row W x _ _ _ _ h.row]; rfl)
theorem zbM {w : World} {b : Nat} {x0 x1 x2 x3 x4 x5 x6 : Value} {t : TypeId} (h : w.heap[b]? = some (.cells #[x0, x1, x2, x3, x4, x5, x6] t (0, 0))) :
   w.frozen? ⟨b, 0, none⟩ = false ∧ w.frozen? ⟨b, 1, none⟩ = false ∧ w.frozen? ⟨b, 2, none⟩ = false ∧ w.frozen? ⟨b, 3, none⟩ = false ∧ w.frozen? ⟨b, 4, none⟩ = false ∧ w.frozen? ⟨b, 5, none⟩ = false ∧ w.frozen? ⟨b, 6, none⟩ = false := by
 refine ⟨?_, ?_, ?_, ?_, ?_, ?_, ?_⟩ <;> exact frozen_of_row _ _ _ _ _ h
theorem set7 {w : World} {b : Nat} {x0 x1 x2 x3 x4 x5 x6 : Value} {t : TypeId} (h : w.heap[b]? = some (.cells #[x0, x1, x2, x3, x4, x5, x6] t (0, 0))) (y0 y1 y2 y3 y4 y5 y6 : Value) :
   (((((((w.setCell ⟨b, 0, none⟩ y0).setCell ⟨b, 1, none⟩ y1).setCell ⟨b, 2, none⟩ y2).setCell ⟨b, 3, none⟩ y3).setCell ⟨b, 4, none⟩ y4).setCell ⟨b, 5, none⟩ y5).setCell ⟨b, 6, none⟩ y6).heap[b]? = some (.cells #[y0, y1, y2, y3, y4, y5, y6] t (0, 0)) := by
 rw [heap_setCell_same _ _ 6 _ _ _ (heap_setCell_same _ _ 5 _ _ _ (heap_setCell_same _ _ 4 _ _ _ (heap_setCell_same _ _ 3 _ _ _ (heap_setCell_same _ _ 2 _ _ _ (heap_setCell_same _ _ 1 _ _ _ (heap_setCell_same w _ 0 _ _ _ h))))))]; rfl
theorem zaQ {B : Nat} {w0 w : World} (h : Below B w0 w) {b : Nat} (hb : B ≤ b) (y0 y1 y2 y3 y4 y5 y6 : Value) :
   Below B w0 (((((((w.setCell ⟨b, 0, none⟩ y0).setCell ⟨b, 1, none⟩ y1).setCell ⟨b, 2, none⟩ y2).setCell ⟨b, 3, none⟩ y3).setCell ⟨b, 4, none⟩ y4).setCell ⟨b, 5, none⟩ y5).setCell ⟨b, 6, none⟩ y6) :=
 (((((((h.setCell hb _).setCell hb _).setCell hb _).setCell hb _).setCell hb _).setCell hb _).setCell hb _)
theorem intK_b (v : PV) (k : List UInt8) : ((getP (getV v k)).1.kind == 2) = intK v k := by
 unfold intK
 by_cases h : (getP (getV v k)).1.kind = 2
 · rw [h]; rfl
 · rw [decide_eq_false h, beq_eq_false_iff_ne]; exact h
theorem zcA {v : PV} (h : (getP (getV v kLin)).2 = false ∨ (zcr v).2.2 = false ∨ intK v kL = false ∨ intK v kO = false ∨ intK v kE = false ∨ intK v kN = false ∨ intK v kT = false) : ofV v = ({}, false) := by
 unfold ofV
 rw [if_neg]
 rintro ⟨h1, h2, h3, h4, h5, h6, h7⟩
 rcases h with h | h | h | h | h | h | h
 · rw [h1] at h; cases h
 · rw [h2] at h; cases h
 · rw [h3] at h; cases h
 · rw [h4] at h; cases h
 · rw [h5] at h; cases h
 · rw [h6] at h; cases h
 · rw [h7] at h; cases h
theorem zb5.bad {w W : World} (hb : Below w.heap.size w W) : zb5 w ({}, false) (.returned (.tuple #[.agg #[.int .i64 0, .int .i64 0, .int .i64 0, .int .i64 0, .int .i64 0, .int .i64 0, .int .i64 0], .bool false])) W := ⟨rfl, hb⟩
theorem ix29_0 (W : World) : (Instr.index 50 (.agg #[.string ⟨#[76]⟩, .string ⟨#[79]⟩, .string ⟨#[69]⟩, .string ⟨#[78]⟩, .string ⟨#[84]⟩]) (.int .i64 0)).run Tryz.prog W = .ok (.string ⟨#[76]⟩) W := by
 simp [Instr.index, run_underlying Tryz.underlying50, Result.andThen, asIntOf, part, isAgg, run_underlying Tryz.underlying9]
theorem ix29_1 (W : World) : (Instr.index 50 (.agg #[.string ⟨#[76]⟩, .string ⟨#[79]⟩, .string ⟨#[69]⟩, .string ⟨#[78]⟩, .string ⟨#[84]⟩]) (.int .i64 1)).run Tryz.prog W = .ok (.string ⟨#[79]⟩) W := by
 simp [Instr.index, run_underlying Tryz.underlying50, Result.andThen, asIntOf, part, isAgg, run_underlying Tryz.underlying9]
theorem ix29_2 (W : World) : (Instr.index 50 (.agg #[.string ⟨#[76]⟩, .string ⟨#[79]⟩, .string ⟨#[69]⟩, .string ⟨#[78]⟩, .string ⟨#[84]⟩]) (.int .i64 2)).run Tryz.prog W = .ok (.string ⟨#[69]⟩) W := by
 simp [Instr.index, run_underlying Tryz.underlying50, Result.andThen, asIntOf, part, isAgg, run_underlying Tryz.underlying9]
theorem ix29_3 (W : World) : (Instr.index 50 (.agg #[.string ⟨#[76]⟩, .string ⟨#[79]⟩, .string ⟨#[69]⟩, .string ⟨#[78]⟩, .string ⟨#[84]⟩]) (.int .i64 3)).run Tryz.prog W = .ok (.string ⟨#[78]⟩) W := by
 simp [Instr.index, run_underlying Tryz.underlying50, Result.andThen, asIntOf, part, isAgg, run_underlying Tryz.underlying9]
theorem ix29_4 (W : World) : (Instr.index 50 (.agg #[.string ⟨#[76]⟩, .string ⟨#[79]⟩, .string ⟨#[69]⟩, .string ⟨#[78]⟩, .string ⟨#[84]⟩]) (.int .i64 4)).run Tryz.prog W = .ok (.string ⟨#[84]⟩) W := by
 simp [Instr.index, run_underlying Tryz.underlying50, Result.andThen, asIntOf, part, isAgg, run_underlying Tryz.underlying9]
def zer (v : PV) (k : Nat) : Prop := ∀ j, j < k → intK v (keyL j) = true
theorem of_any {w : World} {F : Nat → Prop} {v : PV} {sl : Value} {st : Bool} {d : ByteArray} (h : IsV w F v sl) (hev : v.kind = 7 → v.l.length % 2 = 0) :
   Calls Tryz.prog 22 #[.agg (obC v sl st d)] w (zb5 w (if st = true then ({}, false) else ofV v)) := by
 obtain ⟨a, c, rfl, -, -, -⟩ := h.len
 have hu := IsV.under _ h
 have HH := Lib.hid (fun W (hb : Below w.heap.size w W) => hint_any (hu.below hb) hev)
 have HG := Lib.hid (fun W (hx : IsV W (fun b => F b ∧ b < w.heap.size) v (.slice a v.l.length c)) key => vget_any hx hev key)
 have hb2 := (zak w (.cells (obC v (.slice a v.l.length c) st d) 56)).alloc (by rw [zas]; omega) (.cells #[.int .i64 0, .int .i64 0, .int .i64 0, .int .i64 0, .int .i64 0, .int .i64 0, .int .i64 0] 23)
 have HB := Lib.hid hb2
 have HX := Lib.hid (hu.below hb2)
 have HO := Lib.hid (show ((w.alloc (.cells (obC v (.slice a v.l.length c) st d) 56)).alloc (.cells #[.int .i64 0, .int .i64 0, .int .i64 0, .int .i64 0, .int .i64 0, .int .i64 0, .int .i64 0] 23)).heap[w.heap.size]? = some (.cells (obC v (.slice a v.l.length c) st d) 56 (0, 0)) from zaq _ (zac _ rfl))
 have HQ := Lib.hid (show ((w.alloc (.cells (obC v (.slice a v.l.length c) st d) 56)).alloc (.cells #[.int .i64 0, .int .i64 0, .int .i64 0, .int .i64 0, .int .i64 0, .int .i64 0, .int .i64 0] 23)).heap[w.heap.size + 1]? = some (.cells #[.int .i64 0, .int .i64 0, .int .i64 0, .int .i64 0, .int .i64 0, .int .i64 0, .int .i64 0] 23 (0, 0)) from zac _ (by rw [zas]))
 obtain ⟨R, hR⟩ : ∃ R, R = (if st = true then (({}, false) : LinD × Bool) else ofV v) := ⟨_, rfl⟩
 rw [← hR]
 have HR := Lib.hid hR
 clear hR h hu hb2 hev
 unfold HintEnd at HH
 unfold GetEnd at HG
 unfold pvA at HH HG
 unfold obC at HB HX HO HQ ⊢
 go_enter Tryz.func22, Tryz.ntmps22
 go_upto_region 1 with fail
 obtain ⟨q, hq⟩ : ∃ q, q = w.heap.size + 1 := ⟨_, rfl⟩
 obtain ⟨r, hr⟩ : ∃ r, r = w.heap.size := ⟨_, rfl⟩
 rw [← hq] at HQ ⊢
 rw [← hr] at HO ⊢
 have HRQ := Lib.hid (show w.heap.size = r ∧ q = r + 1 from ⟨hr.symm, by omega⟩)
 clear hq hr
 generalize World.alloc _ _ = W2 at *
 obtain ⟨⟨t0, t1, t2, t3, t4, t5⟩, -⟩ := zca HO.out
 go_wp2_with fail
 refine (HH.out _ HB.out).mono ?_
 rintro e w3 ⟨rfl, hb3⟩
 have HB3 := Lib.hid (HB.out.trans (hb3.mono HB.out.size))
 have HX3 := Lib.hid (HX.out.below hb3)
 have HO3 := Lib.hid (zaa hb3 HO.out)
 have HQ3 := Lib.hid (zaa hb3 HQ.out)
 clear hb3 HB HX HO HQ HH t0 t1 t2 t3 t4 t5
 obtain ⟨⟨t0, t1, t2, t3, t4, t5⟩, -⟩ := zca HO3.out
 go_wp2_with fail
 refine (HG.out _ HX3.out kLin).mono ?_
 rintro e w4 ⟨sl2, rfl, hx4, hb4⟩
 generalize hG : getP (getV v kLin) = G at *
 have HGG := Lib.hid hG
 clear hG
 obtain ⟨ta, tc, rfl, -, -, -⟩ := hx4.len
 have hb5 := hb4.alloc hb4.size (.cells #[.int .i64 G.1.kind, .int .i64 G.1.n, .string (mkB G.1.s), .slice ta G.1.l.length tc] 48)
 have HB5 := Lib.hid (HB3.out.trans (hb5.mono HB3.out.size))
 have HX5 := Lib.hid (HX3.out.below hb5)
 have HO5 := Lib.hid (zaa hb5 HO3.out)
 have HQ5 := Lib.hid (zaa hb5 HQ3.out)
 clear hb4 hb5 hx4 HB3 HX3 HO3 HQ3 t0 t1 t2 t3 t4 t5
 go_upto_region 3 with fail
 generalize w4.heap.size = o at *
 generalize w4.alloc _ = W5 at *
 obtain ⟨⟨t0, t1, t2, t3, t4, t5⟩, -⟩ := zca HO5.out
 obtain ⟨g0, g1, g2, g3, g4, g5, g6⟩ := zbM HQ5.out
 obtain ⟨z0, z1, z2, z3, z4, z5, z6⟩ := zam HQ5.out
 have hcs : st = true ∨ (st = false ∧ G.2 = false) ∨ (st = false ∧ G.2 = true ∧ (zcr v).2.2 = false) ∨ (st = false ∧ G.2 = true ∧ (zcr v).2.2 = true) := by
   cases st <;> cases G.2 <;> cases (zcr v).2.2 <;> simp
 have HZ := Lib.hid (fun y0 y1 y2 y3 y4 y5 y6 => And.intro (set7 HQ5.out y0 y1 y2 y3 y4 y5 y6) (zaQ HB5.out (show w.heap.size ≤ q by have := HRQ.out; omega) y0 y1 y2 y3 y4 y5 y6))
 rcases hcs with rfl | ⟨rfl, k1⟩ | ⟨rfl, k1, k2⟩ | ⟨rfl, k1, k2⟩
 · obtain rfl : R = ({}, false) := HR.out
   clear HG HGG HO5 HX5 HQ5 HB5 HRQ
   generalize (zcr v).2.2 = hb at *
   go_wp2_with fail
   refine bodyPost_ret (zab rfl _ _ q 23 _ (0, 0) _ rfl (by exact (HZ.out _ _ _ _ _ _ _).1) Tryz.underlying23 rfl (by kernel_rfl) _ rfl) rfl ?_
   exact zb5.bad (HZ.out _ _ _ _ _ _ _).2
 · obtain rfl : R = ({}, false) := by rw [HR.out, if_neg (by simp)]; exact zcA (.inl (by rw [HGG.out]; exact k1))
   clear HG HGG HO5 HX5 HQ5 HB5 HRQ
   generalize (zcr v).2.2 = hb at *
   generalize G.2 = gb at *
   go_wp2_with fail
   refine bodyPost_ret (zab rfl _ _ q 23 _ (0, 0) _ rfl (by exact (HZ.out _ _ _ _ _ _ _).1) Tryz.underlying23 rfl (by kernel_rfl) _ rfl) rfl ?_
   exact zb5.bad (HZ.out _ _ _ _ _ _ _).2
 · obtain rfl : R = ({}, false) := by rw [HR.out, if_neg (by simp)]; exact zcA (.inr (.inl k2))
   clear HG HGG HO5 HX5 HQ5 HB5 HRQ
   generalize (zcr v).2.2 = hb at *
   generalize G.2 = gb at *
   go_wp2_with fail
   refine bodyPost_ret (zab rfl _ _ q 23 _ (0, 0) _ rfl (by exact (HZ.out _ _ _ _ _ _ _).1) Tryz.underlying23 rfl (by kernel_rfl) _ rfl) rfl ?_
   exact zb5.bad (HZ.out _ _ _ _ _ _ _).2
 clear HZ g0 g1 g2 g3 g4 g5 g6 z0 z1 z2 z3 z4 z5 z6
 have HRR := Lib.hid (show R = ofV v by rw [HR.out, if_neg (by simp)])
 have HK1 := Lib.hid (show (getP (getV v kLin)).2 = true by rw [HGG.out]; exact k1)
 have HK2 := Lib.hid k2
 clear HR HGG
 have hb6 := zak W5 (.cells #[.int .i64 0, .int .i64 0, .int .i64 0, .int .i64 0, .int .i64 0] 53)
 have hrW : r < W5.heap.size := zag HO5.out
 have hqW : q < W5.heap.size := zag HQ5.out
 have HM := Lib.hid (show OfM w (W5.alloc (.cells #[.int .i64 0, .int .i64 0, .int .i64 0, .int .i64 0, .int .i64 0] 53)) (fun b => F b ∧ b < w.heap.size) v (.slice a v.l.length c) false d r q W5.heap.size 0 from
   { bel := HB5.out.trans (hb6.mono HB5.out.size), val := HX5.out.below hb6, obj := zaa hb6 HO5.out, res := zaa hb6 HQ5.out, row := zac _ rfl
     nr := by have := HRQ.out; omega
     nx := HB5.out.size
     rx := by omega
     qx := by omega
     okF := fun b hb => hb.2 })
 clear hb6 hrW hqW HB5 HX5 HO5 HQ5 HRQ
 have HNM := Lib.hid (fun W => names_any W)
 unfold nmA at HNM
 go_upto_region 6 with fail
 obtain ⟨x, hx⟩ : ∃ x, x = W5.heap.size := ⟨_, rfl⟩
 rw [← hx] at HM ⊢
 clear hx
 clear t0 t1 t2 t3 t4 t5 k1 k2
 generalize W5.alloc _ = W6 at *
 go_wp2_with fail
 refine (HNM.out _).mono ?_
 rintro e w7 ⟨rfl, hb7⟩
 have HM7 := Lib.hid (HM.out.next hb7)
 clear hb7 HM HNM
 go_wp2_with fail
 go_loopw [39] (fun vi wr => ∃ k : Nat, vi = .int .i64 k ∧ k ≤ 5 ∧ Hid (OfM w wr (fun b => F b ∧ b < w.heap.size) v (.slice a v.l.length c) false d r q x k) ∧ Hid (zer v k)) (fun vi _ => 5 - (intOf vi).toNat)
 case atStart => exact ⟨0, rfl, by omega, HM7, Lib.hid fun j hj => by omega⟩
 case round =>
   clear HM7
   obtain ⟨k, rfl, hk, HMK, HOK⟩ := hrel
   obtain ⟨⟨t0, t1, t2, t3, t4, t5⟩, -⟩ := zca HMK.out.obj
   obtain ⟨g0, g1, g2, g3, g4, g5, g6⟩ := zbM HMK.out.res
   obtain ⟨z0, z1, z2, z3, z4, z5, z6⟩ := zam HMK.out.res
   by_cases hk5 : k = 5
   · subst hk5
     obtain ⟨x0, x1, x2, x3, x4, -⟩ := HMK.out.cellX
     simp only [show (0 : Nat) < 5 from by decide, show (1 : Nat) < 5 from by decide, show (2 : Nat) < 5 from by decide, show (3 : Nat) < 5 from by decide, show (4 : Nat) < 5 from by decide, if_true] at x0 x1 x2 x3 x4
     have HRF := Lib.hid (show R = ({ len := intN v kL, at_ := (zcr v).1, n := (zcr v).2.1, obj := intN v kO, fin := intN v kE, pages := intN v kN, main := intN v kT }, true) from by
       rw [HRR.out]
       exact if_pos ⟨HK1.out, HK2.out, HOK.out 0 (by omega), HOK.out 1 (by omega), HOK.out 2 (by omega), HOK.out 3 (by omega), HOK.out 4 (by omega)⟩)
     have HZ := Lib.hid (fun y0 y1 y2 y3 y4 y5 y6 => And.intro (set7 HMK.out.res y0 y1 y2 y3 y4 y5 y6) (zaQ HMK.out.bel HMK.out.nr y0 y1 y2 y3 y4 y5 y6))
     clear HMK HOK HRR HK1 HK2 HG
     generalize intN v kL = nL at *
     generalize intN v kO = nO at *
     generalize intN v kE = nE at *
     generalize intN v kN = nN at *
     generalize intN v kT = nT at *
     generalize (zcr v).1 = nA at *
     generalize (zcr v).2.1 = nH at *
     go_wp2_with fail
     refine bodyPost_ret (zab rfl _ _ q 23 _ (0, 0) _ rfl (by exact (HZ.out _ _ _ _ _ _ _).1) Tryz.underlying23 rfl (by kernel_rfl) _ rfl) rfl ?_
     rw [HRF.out]
     exact ⟨rfl, (HZ.out _ _ _ _ _ _ _).2⟩
   have hcs : k = 0 ∨ k = 1 ∨ k = 2 ∨ k = 3 ∨ k = 4 := by omega
   clear hk hk5
   rcases hcs with rfl | rfl | rfl | rfl | rfl
   · have hix := ix29_0
     go_wp2_with fail
     refine (HG.out _ HMK.out.val kL).mono ?_
     rintro e w9 ⟨sl9, rfl, hx9, hb9⟩
     have HKK := Lib.hid (intK_b v kL)
     have HNN := Lib.hid (show intN v kL = (getP (getV v kL)).1.n from rfl)
     generalize getP (getV v kL) = G9 at *
     obtain ⟨ua, uc, rfl, -, -, -⟩ := hx9.len
     have hb10 := hb9.alloc hb9.size (.cells #[.int .i64 G9.1.kind, .int .i64 G9.1.n, .string (mkB G9.1.s), .slice ua G9.1.l.length uc] 48)
     have HMN := Lib.hid (HMK.out.next hb10)
     have HK10 := Lib.hid (zac (w := w9) (b := w9.heap.size) (.cells #[.int .i64 G9.1.kind, .int .i64 G9.1.n, .string (mkB G9.1.s), .slice ua G9.1.l.length uc] 48) rfl)
     clear hx9 hb9 hb10 HMK hix t0 t1 t2 t3 t4 t5 g0 g1 g2 g3 g4 g5 g6 z0 z1 z2 z3 z4 z5 z6
     go_upto_region 10 with fail
     generalize w9.heap.size = o9 at HK10 ⊢
     generalize w9.alloc _ = W10 at *
     obtain ⟨⟨t0, t1, t2, t3⟩, -⟩ := zai HK10.out
     obtain ⟨g0, g1, g2, g3, g4, g5, g6⟩ := zbM HMN.out.res
     obtain ⟨z0, z1, z2, z3, z4, z5, z6⟩ := zam HMN.out.res
     obtain ⟨x0, x1, x2, x3, x4, xf⟩ := HMN.out.cellX
     have xf0 := xf 0
     clear xf
     cases hik : intK v kL with
     | false =>
       have e1 : (G9.1.kind == 2) = false := HKK.out.trans hik
       have e2 : (G9.1.kind != 2) = true := by simp only [bne, e1, Bool.not_false]
       obtain rfl : R = ({}, false) := by rw [HRR.out]; exact zcA (.inr (.inr (.inl hik)))
       have HZ := Lib.hid (fun y0 y1 y2 y3 y4 y5 y6 => And.intro (set7 HMN.out.res y0 y1 y2 y3 y4 y5 y6) (zaQ HMN.out.bel HMN.out.nr y0 y1 y2 y3 y4 y5 y6))
       clear HMN HOK HRR HK1 HK2 HG HKK hik HNN
       generalize G9.1.kind = gk at *
       go_wp2_with fail
       refine bodyPost_ret (zab rfl _ _ q 23 _ (0, 0) _ rfl (by exact (HZ.out _ _ _ _ _ _ _).1) Tryz.underlying23 rfl (by kernel_rfl) _ rfl) rfl ?_
       exact zb5.bad (HZ.out _ _ _ _ _ _ _).2
     | true =>
       have e1 : (G9.1.kind == 2) = true := HKK.out.trans hik
       have e2 : (G9.1.kind != 2) = false := by simp only [bne, e1, Bool.not_true]
       have HMP := Lib.hid (HMN.out.put (by omega))
       have hnn : (intN v (keyL 0)) = G9.1.n := HNN.out
       rw [hnn] at HMP
       have HOP := Lib.hid (show zer v (0 + 1) from fun j hj => by
         rcases Nat.lt_or_ge j 0 with hh | hh
         · exact HOK.out j hh
         · obtain rfl : j = 0 := by omega
           exact hik)
       clear HMN HOK HKK hik HNN hnn
       generalize G9.1.kind = gk at *
       generalize G9.1.n = gn at *
       go_wp2_with fail
       exact ⟨⟨1, rfl, by omega, HMP, HOP⟩, by simp [intOf]⟩
   · have hix := ix29_1
     go_wp2_with fail
     refine (HG.out _ HMK.out.val kO).mono ?_
     rintro e w9 ⟨sl9, rfl, hx9, hb9⟩
     have HKK := Lib.hid (intK_b v kO)
     have HNN := Lib.hid (show intN v kO = (getP (getV v kO)).1.n from rfl)
     generalize getP (getV v kO) = G9 at *
     obtain ⟨ua, uc, rfl, -, -, -⟩ := hx9.len
     have hb10 := hb9.alloc hb9.size (.cells #[.int .i64 G9.1.kind, .int .i64 G9.1.n, .string (mkB G9.1.s), .slice ua G9.1.l.length uc] 48)
     have HMN := Lib.hid (HMK.out.next hb10)
     have HK10 := Lib.hid (zac (w := w9) (b := w9.heap.size) (.cells #[.int .i64 G9.1.kind, .int .i64 G9.1.n, .string (mkB G9.1.s), .slice ua G9.1.l.length uc] 48) rfl)
     clear hx9 hb9 hb10 HMK hix t0 t1 t2 t3 t4 t5 g0 g1 g2 g3 g4 g5 g6 z0 z1 z2 z3 z4 z5 z6
     go_upto_region 10 with fail
     generalize w9.heap.size = o9 at HK10 ⊢
     generalize w9.alloc _ = W10 at *
     obtain ⟨⟨t0, t1, t2, t3⟩, -⟩ := zai HK10.out
     obtain ⟨g0, g1, g2, g3, g4, g5, g6⟩ := zbM HMN.out.res
     obtain ⟨z0, z1, z2, z3, z4, z5, z6⟩ := zam HMN.out.res
     obtain ⟨x0, x1, x2, x3, x4, xf⟩ := HMN.out.cellX
     have xf1 := xf 1
     clear xf
     cases hik : intK v kO with
     | false =>
       have e1 : (G9.1.kind == 2) = false := HKK.out.trans hik
       have e2 : (G9.1.kind != 2) = true := by simp only [bne, e1, Bool.not_false]
       obtain rfl : R = ({}, false) := by rw [HRR.out]; exact zcA (.inr (.inr (.inr (.inl hik))))
       have HZ := Lib.hid (fun y0 y1 y2 y3 y4 y5 y6 => And.intro (set7 HMN.out.res y0 y1 y2 y3 y4 y5 y6) (zaQ HMN.out.bel HMN.out.nr y0 y1 y2 y3 y4 y5 y6))
       clear HMN HOK HRR HK1 HK2 HG HKK hik HNN
       generalize G9.1.kind = gk at *
       go_wp2_with fail
       refine bodyPost_ret (zab rfl _ _ q 23 _ (0, 0) _ rfl (by exact (HZ.out _ _ _ _ _ _ _).1) Tryz.underlying23 rfl (by kernel_rfl) _ rfl) rfl ?_
       exact zb5.bad (HZ.out _ _ _ _ _ _ _).2
     | true =>
       have e1 : (G9.1.kind == 2) = true := HKK.out.trans hik
       have e2 : (G9.1.kind != 2) = false := by simp only [bne, e1, Bool.not_true]
       have HMP := Lib.hid (HMN.out.put (by omega))
       have hnn : (intN v (keyL 1)) = G9.1.n := HNN.out
       rw [hnn] at HMP
       have HOP := Lib.hid (show zer v (1 + 1) from fun j hj => by
         rcases Nat.lt_or_ge j 1 with hh | hh
         · exact HOK.out j hh
         · obtain rfl : j = 1 := by omega
           exact hik)
       clear HMN HOK HKK hik HNN hnn
       generalize G9.1.kind = gk at *
       generalize G9.1.n = gn at *
       go_wp2_with fail
       exact ⟨⟨2, rfl, by omega, HMP, HOP⟩, by simp [intOf]⟩
   · have hix := ix29_2
     go_wp2_with fail
     refine (HG.out _ HMK.out.val kE).mono ?_
     rintro e w9 ⟨sl9, rfl, hx9, hb9⟩
     have HKK := Lib.hid (intK_b v kE)
     have HNN := Lib.hid (show intN v kE = (getP (getV v kE)).1.n from rfl)
     generalize getP (getV v kE) = G9 at *
     obtain ⟨ua, uc, rfl, -, -, -⟩ := hx9.len
     have hb10 := hb9.alloc hb9.size (.cells #[.int .i64 G9.1.kind, .int .i64 G9.1.n, .string (mkB G9.1.s), .slice ua G9.1.l.length uc] 48)
     have HMN := Lib.hid (HMK.out.next hb10)
     have HK10 := Lib.hid (zac (w := w9) (b := w9.heap.size) (.cells #[.int .i64 G9.1.kind, .int .i64 G9.1.n, .string (mkB G9.1.s), .slice ua G9.1.l.length uc] 48) rfl)
     clear hx9 hb9 hb10 HMK hix t0 t1 t2 t3 t4 t5 g0 g1 g2 g3 g4 g5 g6 z0 z1 z2 z3 z4 z5 z6
     go_upto_region 10 with fail
     generalize w9.heap.size = o9 at HK10 ⊢
     generalize w9.alloc _ = W10 at *
     obtain ⟨⟨t0, t1, t2, t3⟩, -⟩ := zai HK10.out
     obtain ⟨g0, g1, g2, g3, g4, g5, g6⟩ := zbM HMN.out.res
     obtain ⟨z0, z1, z2, z3, z4, z5, z6⟩ := zam HMN.out.res
     obtain ⟨x0, x1, x2, x3, x4, xf⟩ := HMN.out.cellX
     have xf2 := xf 2
     clear xf
     cases hik : intK v kE with
     | false =>
       have e1 : (G9.1.kind == 2) = false := HKK.out.trans hik
       have e2 : (G9.1.kind != 2) = true := by simp only [bne, e1, Bool.not_false]
       obtain rfl : R = ({}, false) := by rw [HRR.out]; exact zcA (.inr (.inr (.inr (.inr (.inl hik)))))
       have HZ := Lib.hid (fun y0 y1 y2 y3 y4 y5 y6 => And.intro (set7 HMN.out.res y0 y1 y2 y3 y4 y5 y6) (zaQ HMN.out.bel HMN.out.nr y0 y1 y2 y3 y4 y5 y6))
       clear HMN HOK HRR HK1 HK2 HG HKK hik HNN
       generalize G9.1.kind = gk at *
       go_wp2_with fail
       refine bodyPost_ret (zab rfl _ _ q 23 _ (0, 0) _ rfl (by exact (HZ.out _ _ _ _ _ _ _).1) Tryz.underlying23 rfl (by kernel_rfl) _ rfl) rfl ?_
       exact zb5.bad (HZ.out _ _ _ _ _ _ _).2
     | true =>
       have e1 : (G9.1.kind == 2) = true := HKK.out.trans hik
       have e2 : (G9.1.kind != 2) = false := by simp only [bne, e1, Bool.not_true]
       have HMP := Lib.hid (HMN.out.put (by omega))
       have hnn : (intN v (keyL 2)) = G9.1.n := HNN.out
       rw [hnn] at HMP
       have HOP := Lib.hid (show zer v (2 + 1) from fun j hj => by
         rcases Nat.lt_or_ge j 2 with hh | hh
         · exact HOK.out j hh
         · obtain rfl : j = 2 := by omega
           exact hik)
       clear HMN HOK HKK hik HNN hnn
       generalize G9.1.kind = gk at *
       generalize G9.1.n = gn at *
       go_wp2_with fail
       exact ⟨⟨3, rfl, by omega, HMP, HOP⟩, by simp [intOf]⟩
   · have hix := ix29_3
     go_wp2_with fail
     refine (HG.out _ HMK.out.val kN).mono ?_
     rintro e w9 ⟨sl9, rfl, hx9, hb9⟩
     have HKK := Lib.hid (intK_b v kN)
     have HNN := Lib.hid (show intN v kN = (getP (getV v kN)).1.n from rfl)
     generalize getP (getV v kN) = G9 at *
     obtain ⟨ua, uc, rfl, -, -, -⟩ := hx9.len
     have hb10 := hb9.alloc hb9.size (.cells #[.int .i64 G9.1.kind, .int .i64 G9.1.n, .string (mkB G9.1.s), .slice ua G9.1.l.length uc] 48)
     have HMN := Lib.hid (HMK.out.next hb10)
     have HK10 := Lib.hid (zac (w := w9) (b := w9.heap.size) (.cells #[.int .i64 G9.1.kind, .int .i64 G9.1.n, .string (mkB G9.1.s), .slice ua G9.1.l.length uc] 48) rfl)
     clear hx9 hb9 hb10 HMK hix t0 t1 t2 t3 t4 t5 g0 g1 g2 g3 g4 g5 g6 z0 z1 z2 z3 z4 z5 z6
     go_upto_region 10 with fail
     generalize w9.heap.size = o9 at HK10 ⊢
     generalize w9.alloc _ = W10 at *
     obtain ⟨⟨t0, t1, t2, t3⟩, -⟩ := zai HK10.out
     obtain ⟨g0, g1, g2, g3, g4, g5, g6⟩ := zbM HMN.out.res
     obtain ⟨z0, z1, z2, z3, z4, z5, z6⟩ := zam HMN.out.res
     obtain ⟨x0, x1, x2, x3, x4, xf⟩ := HMN.out.cellX
     have xf3 := xf 3
     clear xf
     cases hik : intK v kN with
     | false =>
       have e1 : (G9.1.kind == 2) = false := HKK.out.trans hik
       have e2 : (G9.1.kind != 2) = true := by simp only [bne, e1, Bool.not_false]
       obtain rfl : R = ({}, false) := by rw [HRR.out]; exact zcA (.inr (.inr (.inr (.inr (.inr (.inl hik))))))
       have HZ := Lib.hid (fun y0 y1 y2 y3 y4 y5 y6 => And.intro (set7 HMN.out.res y0 y1 y2 y3 y4 y5 y6) (zaQ HMN.out.bel HMN.out.nr y0 y1 y2 y3 y4 y5 y6))
       clear HMN HOK HRR HK1 HK2 HG HKK hik HNN
       generalize G9.1.kind = gk at *
       go_wp2_with fail
       refine bodyPost_ret (zab rfl _ _ q 23 _ (0, 0) _ rfl (by exact (HZ.out _ _ _ _ _ _ _).1) Tryz.underlying23 rfl (by kernel_rfl) _ rfl) rfl ?_
       exact zb5.bad (HZ.out _ _ _ _ _ _ _).2
     | true =>
       have e1 : (G9.1.kind == 2) = true := HKK.out.trans hik
       have e2 : (G9.1.kind != 2) = false := by simp only [bne, e1, Bool.not_true]
       have HMP := Lib.hid (HMN.out.put (by omega))
       have hnn : (intN v (keyL 3)) = G9.1.n := HNN.out
       rw [hnn] at HMP
       have HOP := Lib.hid (show zer v (3 + 1) from fun j hj => by
         rcases Nat.lt_or_ge j 3 with hh | hh
         · exact HOK.out j hh
         · obtain rfl : j = 3 := by omega
           exact hik)
       clear HMN HOK HKK hik HNN hnn
       generalize G9.1.kind = gk at *
       generalize G9.1.n = gn at *
       go_wp2_with fail
       exact ⟨⟨4, rfl, by omega, HMP, HOP⟩, by simp [intOf]⟩
   · have hix := ix29_4
     go_wp2_with fail
     refine (HG.out _ HMK.out.val kT).mono ?_
     rintro e w9 ⟨sl9, rfl, hx9, hb9⟩
     have HKK := Lib.hid (intK_b v kT)
     have HNN := Lib.hid (show intN v kT = (getP (getV v kT)).1.n from rfl)
     generalize getP (getV v kT) = G9 at *
     obtain ⟨ua, uc, rfl, -, -, -⟩ := hx9.len
     have hb10 := hb9.alloc hb9.size (.cells #[.int .i64 G9.1.kind, .int .i64 G9.1.n, .string (mkB G9.1.s), .slice ua G9.1.l.length uc] 48)
     have HMN := Lib.hid (HMK.out.next hb10)
     have HK10 := Lib.hid (zac (w := w9) (b := w9.heap.size) (.cells #[.int .i64 G9.1.kind, .int .i64 G9.1.n, .string (mkB G9.1.s), .slice ua G9.1.l.length uc] 48) rfl)
     clear hx9 hb9 hb10 HMK hix t0 t1 t2 t3 t4 t5 g0 g1 g2 g3 g4 g5 g6 z0 z1 z2 z3 z4 z5 z6
     go_upto_region 10 with fail
     generalize w9.heap.size = o9 at HK10 ⊢
     generalize w9.alloc _ = W10 at *
     obtain ⟨⟨t0, t1, t2, t3⟩, -⟩ := zai HK10.out
     obtain ⟨g0, g1, g2, g3, g4, g5, g6⟩ := zbM HMN.out.res
     obtain ⟨z0, z1, z2, z3, z4, z5, z6⟩ := zam HMN.out.res
     obtain ⟨x0, x1, x2, x3, x4, xf⟩ := HMN.out.cellX
     have xf4 := xf 4
     clear xf
     cases hik : intK v kT with
     | false =>
       have e1 : (G9.1.kind == 2) = false := HKK.out.trans hik
       have e2 : (G9.1.kind != 2) = true := by simp only [bne, e1, Bool.not_false]
       obtain rfl : R = ({}, false) := by rw [HRR.out]; exact zcA (.inr (.inr (.inr (.inr (.inr (.inr hik))))))
       have HZ := Lib.hid (fun y0 y1 y2 y3 y4 y5 y6 => And.intro (set7 HMN.out.res y0 y1 y2 y3 y4 y5 y6) (zaQ HMN.out.bel HMN.out.nr y0 y1 y2 y3 y4 y5 y6))
       clear HMN HOK HRR HK1 HK2 HG HKK hik HNN
       generalize G9.1.kind = gk at *
       go_wp2_with fail
       refine bodyPost_ret (zab rfl _ _ q 23 _ (0, 0) _ rfl (by exact (HZ.out _ _ _ _ _ _ _).1) Tryz.underlying23 rfl (by kernel_rfl) _ rfl) rfl ?_
       exact zb5.bad (HZ.out _ _ _ _ _ _ _).2
     | true =>
       have e1 : (G9.1.kind == 2) = true := HKK.out.trans hik
       have e2 : (G9.1.kind != 2) = false := by simp only [bne, e1, Bool.not_true]
       have HMP := Lib.hid (HMN.out.put (by omega))
       have hnn : (intN v (keyL 4)) = G9.1.n := HNN.out
       rw [hnn] at HMP
       have HOP := Lib.hid (show zer v (4 + 1) from fun j hj => by
         rcases Nat.lt_or_ge j 4 with hh | hh
         · exact HOK.out j hh
         · obtain rfl : j = 4 := by omega
           exact hik)
       clear HMN HOK HKK hik HNN hnn
       generalize G9.1.kind = gk at *
       generalize G9.1.n = gn at *
       go_wp2_with fail
       exact ⟨⟨5, rfl, by omega, HMP, HOP⟩, by simp [intOf]⟩
def LpEnd (w : World) (R : LinD × Int) (e : Ending) (w' : World) : Prop := e = .returned (.tuple #[linA R.1, .int .i64 R.2]) ∧ Below w.heap.size w w'
theorem lin_res {bs : List UInt8} {last : Bool} {total er : Int} {st : Bool} {v : PV} (h6 : er = 6 ↔ (frR bs last).1 = 6) (h0 : frR bs last = (0, false) → er = 0 ∧ st = false ∧ v = (frD bs last).1) (h1 : (frR bs last).1 ≠ 0 ∨ (frR bs last).2 = true → er ≠ 0 ∨ st = true) :
   (er = 6 ∧ linV bs last total = ({}, 6)) ∨ (er ≠ 6 ∧ er ≠ 0 ∧ linV bs last total = ({}, 28)) ∨ (er = 0 ∧ (if st = true then (({}, false) : LinD × Bool) else ofV v).2 = false ∧ linV bs last total = ({}, 28)) ∨
   (er = 0 ∧ (if st = true then (({}, false) : LinD × Bool) else ofV v).2 = true ∧ linV bs last total = if chkL (if st = true then (({}, false) : LinD × Bool) else ofV v).1 ≠ 0 ∨ (if st = true then (({}, false) : LinD × Bool) else ofV v).1.len ≠ total then ({}, 28) else ((if st = true then (({}, false) : LinD × Bool) else ofV v).1, 0)) := by
 unfold linV
 by_cases e6 : er = 6
 · exact .inl ⟨e6, if_pos (h6.1 e6)⟩
 · have r6 : ¬ (frR bs last).1 = 6 := fun h => e6 (h6.2 h)
   rw [if_neg r6]
   by_cases hg : (frR bs last).1 = 0 ∧ (frR bs last).2 = false
   · obtain ⟨a, b, c⟩ := h0 (Prod.ext hg.1 hg.2)
     subst b c
     simp only [Bool.false_eq_true, if_false]
     right; right
     cases ho : (ofV (frD bs last).1).2 with
     | false => exact .inl ⟨a, rfl, if_pos (.inr (.inr (.inl rfl)))⟩
     | true =>
       refine .inr ⟨a, rfl, ?_⟩
       by_cases hc : chkL (ofV (frD bs last).1).1 ≠ 0 ∨ (ofV (frD bs last).1).1.len ≠ total
       · rw [if_pos hc, if_pos (.inr (.inr (.inr hc)))]
       · rw [if_neg hc, if_neg]
         rintro (h | h | h | h)
         · exact h hg.1
         · rw [hg.2] at h; cases h
         · cases h
         · exact hc h
   · have hb : (frR bs last).1 ≠ 0 ∨ (frR bs last).2 = true := by
       by_cases g : (frR bs last).1 = 0
       · right
         cases h : (frR bs last).2 with
         | true => rfl
         | false => exact absurd ⟨g, h⟩ hg
       · exact .inl g
     have hv : (if (frR bs last).1 ≠ 0 ∨ (frR bs last).2 = true ∨ (ofV (frD bs last).1).2 = false ∨ chkL (ofV (frD bs last).1).1 ≠ 0 ∨ (ofV (frD bs last).1).1.len ≠ total then (({}, 28) : LinD × Int) else ((ofV (frD bs last).1).1, 0)) = ({}, 28) := if_pos (hb.elim .inl fun h => .inr (.inl h))
     rw [hv]
     by_cases e0 : er = 0
     · rcases h1 hb with h | h
       · exact absurd e0 h
       · subst h
         exact .inr (.inr (.inl ⟨e0, rfl, rfl⟩))
     · exact .inr (.inl ⟨e6, e0, rfl⟩)
theorem lparse_any {w : World} {a : Option Addr} {cap : Nat} {bs : List UInt8} {last : Bool} (hr : Row w 1 a bs.length cap (bs.map u8C)) (hn : bs.length ≤ 399999) (HST : (frE bs last).1 = true → StreamC a cap bs last) (total : Int) :
   Calls Tryz.prog 13 #[.slice a bs.length cap, .bool last, .int .i64 total] w (LpEnd w (linV bs last total)) := by
 have hb1 := zak w (.cells #[.int .i64 0, .int .i64 0, .int .i64 0, .int .i64 0, .int .i64 0, .int .i64 0, .int .i64 0] 23)
 have HP := Lib.hid (fparse_any (hr.mono hb1) hn HST)
 have HQ := Lib.hid (zac (w := w) (b := w.heap.size) (.cells #[.int .i64 0, .int .i64 0, .int .i64 0, .int .i64 0, .int .i64 0, .int .i64 0, .int .i64 0] 23) rfl)
 have HB := Lib.hid hb1
 have HRES := Lib.hid (fun er st v => lin_res (bs := bs) (last := last) (total := total) (er := er) (st := st) (v := v))
 unfold zdv at HP
 unfold LpEnd
 generalize linV bs last total = L at *
 generalize frR bs last = R at *
 generalize (frD bs last).1 = V at *
 clear hr hn HST hb1
 generalize bs.length = n at *
 go_enter Tryz.func13, Tryz.ntmps13
 go_upto_region 1 with fail
 obtain ⟨q, hq⟩ : ∃ q, q = w.heap.size := ⟨_, rfl⟩
 rw [← hq] at HQ ⊢
 have HN := Lib.hid (show w.heap.size ≤ q from Nat.le_of_eq hq.symm)
 clear hq
 generalize w.alloc _ = W1 at *
 go_wp2_with fail
 refine HP.out.mono ?_
 rintro e w2 ⟨v, sl, st, d, n2, at2, er, rfl, hx, hev, hb, e6, e0, e1⟩
 have HRS := Lib.hid (HRES.out er st v e6 e0 e1)
 obtain ⟨sa, sc, rfl, -, -, -⟩ := hx.len
 have hb3 := hb.alloc hb.size (.cells (obC v (.slice sa v.l.length sc) st d) 56)
 have HB3 := Lib.hid (HB.out.trans (hb3.mono HB.out.size))
 have HQ3 := Lib.hid (zaa hb3 HQ.out)
 have HO3 := Lib.hid (zac (w := w2) (b := w2.heap.size) (.cells (obC v (.slice sa v.l.length sc) st d) 56) rfl)
 have HX3 := Lib.hid (hx.below (zak w2 (.cells (obC v (.slice sa v.l.length sc) st d) 56)))
 have HEV := Lib.hid hev
 clear HP HB HQ HRES hb hb3 hx e6 e0 e1 hev
 unfold obC at HB3 HQ3 HO3 HX3 ⊢
 go_upto_region 2 with fail
 generalize w2.heap.size = o at HO3 ⊢
 generalize w2.alloc _ = W3 at *
 obtain ⟨⟨o0, o1, o2, o3, o4, o5⟩, -⟩ := zca HO3.out
 obtain ⟨g0, g1, g2, g3, g4, g5, g6⟩ := zbM HQ3.out
 obtain ⟨z0, z1, z2, z3, z4, z5, z6⟩ := zam HQ3.out
 by_cases h6 : er = 6
 · have HL : Hid (L = ({}, 6)) := Lib.hid (by
     rcases HRS.out with ⟨-, h⟩ | ⟨h, -⟩ | ⟨h, -⟩ | ⟨h, -⟩
     · exact h
     · exact absurd h6 h
     · omega
     · omega)
   subst h6
   have HZ := Lib.hid (fun y0 y1 y2 y3 y4 y5 y6 => And.intro (set7 HQ3.out y0 y1 y2 y3 y4 y5 y6) (zaQ HB3.out HN.out y0 y1 y2 y3 y4 y5 y6))
   clear HRS HB3 HQ3 HO3 HX3 HEV
   go_wp2_with fail
   refine bodyPost_ret (zab rfl _ _ q 23 _ (0, 0) _ rfl (by exact (HZ.out _ _ _ _ _ _ _).1) Tryz.underlying23 rfl (by kernel_rfl) _ rfl) rfl ?_
   rw [HL.out]
   exact ⟨rfl, (HZ.out _ _ _ _ _ _ _).2⟩
 have k6 : (er == 6) = false := by rw [beq_eq_false_iff_ne]; exact h6
 have HOF := Lib.hid (of_any (st := st) (d := d) HX3.out HEV.out)
 unfold zb5 obC at HOF
 generalize (if st = true then (({}, false) : LinD × Bool) else ofV v) = S at *
 obtain ⟨S1, S2⟩ := S
 dsimp only at HOF HRS
 clear HX3 HEV
 generalize v.kind = vk at *
 generalize v.n = vn at *
 generalize mkB v.s = vs at *
 generalize v.l.length = vl at *
 go_wp2_with fail
 refine HOF.out.mono ?_
 rintro e w4 ⟨rfl, hb4⟩
 have HCK := Lib.hid (fun W => za7 S1 W)
 unfold zdp at HCK
 have HZZ := Lib.hid (show linA S1 = .agg (linC S1).toArray from rfl)
 unfold linA at HCK ⊢
 have hb5 := hb4.alloc hb4.size (.cells #[.int .i64 S1.len, .int .i64 S1.at_, .int .i64 S1.n, .int .i64 S1.obj, .int .i64 S1.fin, .int .i64 S1.pages, .int .i64 S1.main] 23)
 have HB5 := Lib.hid (HB3.out.trans (hb5.mono HB3.out.size))
 have HQ5 := Lib.hid (zaa hb5 HQ3.out)
 have HL5 := Lib.hid (zac (w := w4) (b := w4.heap.size) (.cells #[.int .i64 S1.len, .int .i64 S1.at_, .int .i64 S1.n, .int .i64 S1.obj, .int .i64 S1.fin, .int .i64 S1.pages, .int .i64 S1.main] 23) rfl)
 clear hb4 hb5 HOF HB3 HQ3 HO3 o0 o1 o2 o3 o4 o5 g0 g1 g2 g3 g4 g5 g6 z0 z1 z2 z3 z4 z5 z6
 have hcs : (er ≠ 0 ∧ L = ({}, 28)) ∨ (er = 0 ∧ S2 = false ∧ L = ({}, 28)) ∨ (er = 0 ∧ S2 = true ∧ ¬ chkL S1 = 0 ∧ L = ({}, 28)) ∨ (er = 0 ∧ S2 = true ∧ chkL S1 = 0 ∧ ¬ S1.len = total ∧ L = ({}, 28)) ∨ (er = 0 ∧ S2 = true ∧ chkL S1 = 0 ∧ S1.len = total ∧ L = (S1, 0)) := by
   rcases HRS.out with ⟨h, -⟩ | ⟨-, h, h2⟩ | ⟨h, h2, h3⟩ | ⟨h, h2, h3⟩
   · exact absurd h h6
   · exact .inl ⟨h, h2⟩
   · exact .inr (.inl ⟨h, h2, h3⟩)
   · by_cases c1 : chkL S1 = 0
     · by_cases c2 : S1.len = total
       · exact .inr (.inr (.inr (.inr ⟨h, h2, c1, c2, by rw [h3, if_neg (by simp [c1, c2])]⟩)))
       · exact .inr (.inr (.inr (.inl ⟨h, h2, c1, c2, by rw [h3, if_pos (.inr c2)]⟩)))
     · exact .inr (.inr (.inl ⟨h, h2, c1, by rw [h3, if_pos (.inl c1)]⟩))
 have HCS := Lib.hid hcs
 clear hcs HRS h6 HZZ
 go_upto_region 5 with fail
 generalize w4.heap.size = o2 at HL5 ⊢
 generalize w4.alloc _ = W5 at *
 obtain ⟨c0, c1, c2, c3, c4, c5, c6⟩ := zam HL5.out
 obtain ⟨g0, g1, g2, g3, g4, g5, g6⟩ := zbM HQ5.out
 obtain ⟨z0, z1, z2, z3, z4, z5, z6⟩ := zam HQ5.out
 have HLL := Lib.hid (fun (W : World) (hb : Below W5.heap.size W5 W) => And.intro (zaa hb HQ5.out) (And.intro (zaa hb HL5.out) (HB5.out.trans (hb.mono HB5.out.size))))
 have HEE := Lib.hid (show linA ({} : LinD) = .agg #[.int .i64 0, .int .i64 0, .int .i64 0, .int .i64 0, .int .i64 0, .int .i64 0, .int .i64 0] from rfl)
 have HES := Lib.hid (show linA S1 = .agg #[.int .i64 S1.len, .int .i64 S1.at_, .int .i64 S1.n, .int .i64 S1.obj, .int .i64 S1.fin, .int .i64 S1.pages, .int .i64 S1.main] from rfl)
 have HZ := Lib.hid (fun y0 y1 y2 y3 y4 y5 y6 => And.intro (set7 HQ5.out y0 y1 y2 y3 y4 y5 y6) (zaQ HB5.out HN.out y0 y1 y2 y3 y4 y5 y6))
 generalize chkL S1 = ck at *
 rcases HCS.out with ⟨k0, rfl⟩ | ⟨rfl, rfl, rfl⟩ | ⟨rfl, rfl, k0, rfl⟩ | ⟨rfl, rfl, rfl, k0, rfl⟩ | ⟨rfl, rfl, rfl, k0, rfl⟩
 · have k1 : (er == 0) = false := by rw [beq_eq_false_iff_ne]; exact k0
   have k2 : (er != 0) = true := by simp only [bne, k1, Bool.not_false]
   clear HCS HLL HQ5 HL5 HB5 k0 HES HCK
   go_wp2_with fail
   refine bodyPost_ret (zab rfl _ _ q 23 _ (0, 0) _ rfl (by exact (HZ.out _ _ _ _ _ _ _).1) Tryz.underlying23 rfl (by kernel_rfl) _ rfl) rfl ?_
   rw [HEE.out]
   exact ⟨rfl, (HZ.out _ _ _ _ _ _ _).2⟩
 · clear HCS HLL HQ5 HL5 HB5 HES HCK
   go_wp2_with fail
   refine bodyPost_ret (zab rfl _ _ q 23 _ (0, 0) _ rfl (by exact (HZ.out _ _ _ _ _ _ _).1) Tryz.underlying23 rfl (by kernel_rfl) _ rfl) rfl ?_
   rw [HEE.out]
   exact ⟨rfl, (HZ.out _ _ _ _ _ _ _).2⟩
 all_goals
   replace k0 := Lib.hid k0
   clear HCS HQ5 HL5 HB5 HZ
   go_wp2_with fail
   refine (HCK.out _).mono ?_
   rintro e w6 ⟨rfl, hb6⟩
   obtain ⟨HQ6, HL6, HB6⟩ := HLL.out _ hb6
   have HZ := Lib.hid (fun y0 y1 y2 y3 y4 y5 y6 => And.intro (set7 HQ6 y0 y1 y2 y3 y4 y5 y6) (zaQ HB6 HN.out y0 y1 y2 y3 y4 y5 y6))
   clear c0 c1 c2 c3 c4 c5 c6 g0 g1 g2 g3 g4 g5 g6 z0 z1 z2 z3 z4 z5 z6
   obtain ⟨c0, c1, c2, c3, c4, c5, c6⟩ := zam HL6
   obtain ⟨g0, g1, g2, g3, g4, g5, g6⟩ := zbM HQ6
   obtain ⟨z0, z1, z2, z3, z4, z5, z6⟩ := zam HQ6
   clear HLL HL6 HB6 hb6 HQ6 HCK
 · have k1 : (ck == 0) = false := by rw [beq_eq_false_iff_ne]; exact k0.out
   have k2 : (ck != 0) = true := by simp only [bne, k1, Bool.not_false]
   clear k0
   go_wp2_with fail
   refine bodyPost_ret (zab rfl _ _ q 23 _ (0, 0) _ rfl (by exact (HZ.out _ _ _ _ _ _ _).1) Tryz.underlying23 rfl (by kernel_rfl) _ rfl) rfl ?_
   rw [HEE.out]
   exact ⟨rfl, (HZ.out _ _ _ _ _ _ _).2⟩
 · have k1 : (S1.len == total) = false := by rw [beq_eq_false_iff_ne]; exact k0.out
   have k2 : (S1.len != total) = true := by simp only [bne, k1, Bool.not_false]
   clear k0
   go_wp2_with fail
   refine bodyPost_ret (zab rfl _ _ q 23 _ (0, 0) _ rfl (by exact (HZ.out _ _ _ _ _ _ _).1) Tryz.underlying23 rfl (by kernel_rfl) _ rfl) rfl ?_
   rw [HEE.out]
   exact ⟨rfl, (HZ.out _ _ _ _ _ _ _).2⟩
 · have k1 : (S1.len == total) = true := by rw [beq_iff_eq]; exact k0.out
   have k2 : (S1.len != total) = false := by simp only [bne, k1, Bool.not_true]
   clear k0
   go_wp2_with fail
   refine bodyPost_ret (zab rfl _ _ q 23 _ (0, 0) _ rfl (by exact (HZ.out _ _ _ _ _ _ _).1) Tryz.underlying23 rfl (by kernel_rfl) _ rfl) rfl ?_
   rw [HES.out]
   exact ⟨rfl, (HZ.out _ _ _ _ _ _ _).2⟩
theorem conv29 {w : World} {a : Option Addr} {cap : Nat} {bs : List UInt8} (hr : Row w 1 a bs.length cap (bs.map u8C)) : (convert 24 9 (.slice a bs.length cap)).run Tryz.prog w = .ok (.string (mkB bs)) w := by
 cases a with
 | none =>
   have h0 := hr.2.2.2.1 rfl
   have h1 := hr.2.1
   have ho : bs = [] := List.eq_nil_of_length_eq_zero (by omega)
   subst ho
   rw [h0]
   exact run_convert_bytes_string w 24 9 5 none 0 0 Tryz.underlying24 Tryz.underlying5 Tryz.underlying9
 | some x =>
   refine run_convert_bytes_back (P := Tryz.prog) w 24 9 5 x cap bs Tryz.underlying24 Tryz.underlying5 Tryz.underlying9 (fun j hj => ?_)
   obtain ⟨b, o, hx, -, hc⟩ := hr.2.2.2.2 (by omega)
   cases hx
   rw [Addr.add_lit]
   exact hc j (u8C bs[j]) (by simp [hj])
theorem frE_no {bs : List UInt8} {last : Bool} {e : Int} (h : frR bs last = (e, false)) : (frE bs last).1 = false := by
 cases hb : (frE bs last).1 with
 | false => rfl
 | true =>
   unfold frR at h
   rw [if_pos hb] at h
   cases h
def lin0 : LinD := { len := 900, at_ := 100, n := 50, obj := 4, fin := 300, pages := 2, main := 700 }
theorem lin0_ok : za8 lin0 = true := by decide
theorem lparse_back {g : List UInt8} {n : Int} {l : LinD} (h1 : 1 ≤ n) (h2 : n ≤ 4096) (hl : za8 l = true) (hg : gapS g) (hg9 : g.length ≤ 9) (behind : List UInt8) (hb : behind.length ≤ 300) (last : Bool) (total : Int) {w : World} {a : Option Addr} {cap : Nat} {bs : List UInt8} (hbs : bs = g ++ (linB n l ++ behind)) (hr : Row w 1 a bs.length cap (bs.map u8C)) :
   Calls Tryz.prog 13 #[.slice a bs.length cap, .bool last, .int .i64 total] w (LpEnd w (if l.len = total then (l, 0) else ({}, 28))) := by
 have hlen := zbX (n := n) hl
 have hd := zaH 9 n.toNat (by omega)
 obtain ⟨q1, -⟩ := lin_fr (bs := bs) h1 h2 hl hg behind last (by rw [hbs, List.length_append, List.length_append, hlen]; omega) (by rw [hbs]; exact zeA n l behind)
 have h := lparse_any (last := last) hr (by rw [hbs, List.length_append, List.length_append, hlen]; omega) (fun h => by rw [frE_no q1] at h; cases h) total
 have hv : linV bs last total = if l.len = total then (l, 0) else ({}, 28) := by rw [hbs]; exact lin_back h1 h2 hl hg behind last total
 rw [hv] at h
 exact h
theorem works29 (w : World) : Calls Tryz.prog 12 #[] w fun e w' => e = .returned (.bool true) ∧ Below w.heap.size w w' := by
 have HB := Lib.hid (zak w (.cells #[.int .i64 900, .int .i64 100, .int .i64 50, .int .i64 4, .int .i64 300, .int .i64 2, .int .i64 700] 23))
 have HK := Lib.hid (zac (w := w) (b := w.heap.size) (.cells #[.int .i64 900, .int .i64 100, .int .i64 50, .int .i64 4, .int .i64 300, .int .i64 2, .int .i64 700] 23) rfl)
 have HP := Lib.hid (fun W => show Calls Tryz.prog 8 #[.int .i64 7, .agg #[.int .i64 900, .int .i64 100, .int .i64 50, .int .i64 4, .int .i64 300, .int .i64 2, .int .i64 700]] W (OkEnd W 7 lin0) from zcW (l := lin0) (by decide) (by decide) lin0_ok W)
 have HPA := Lib.hid (fun (W : World) (a : Option Addr) (cap : Nat) (hr : Row W 1 a (linB 7 lin0).length cap ((linB 7 lin0).map u8C)) =>
   show Calls Tryz.prog 13 #[.slice a (linB 7 lin0).length cap, .bool true, .int .i64 900] W (fun e w' => e = .returned (.tuple #[.agg #[.int .i64 900, .int .i64 100, .int .i64 50, .int .i64 4, .int .i64 300, .int .i64 2, .int .i64 700], .int .i64 0]) ∧ Below W.heap.size W w') from
     lparse_back (g := []) (l := lin0) (n := 7) (by decide) (by decide) lin0_ok gap0 (by decide) [] (by decide) true 900 (by simp) hr)
 have HTX := Lib.hid (fun W => show Calls Tryz.prog 20 #[.int .i64 7, .agg #[.int .i64 900, .int .i64 100, .int .i64 50, .int .i64 4, .int .i64 300, .int .i64 2, .int .i64 700]] W (fun e w' => e = .returned (.string (mkB (linB 7 lin0))) ∧ Below W.heap.size W w') from rtext29 (l := lin0) (by decide) (by decide) lin0_ok W)
 have HC1 := Lib.hid (fun W => show Calls Tryz.prog 10 #[.agg #[.int .i64 900, .int .i64 100, .int .i64 50, .int .i64 4, .int .i64 300, .int .i64 2, .int .i64 700]] W (fun e w' => e = .returned (.int .i64 0) ∧ Below W.heap.size W w') from za7 lin0 W)
 have HC2 := Lib.hid (fun W => show Calls Tryz.prog 10 #[.agg #[.int .i64 0, .int .i64 0, .int .i64 0, .int .i64 0, .int .i64 0, .int .i64 0, .int .i64 0]] W (fun e w' => e = .returned (.int .i64 28) ∧ Below W.heap.size W w') from za7 {} W)
 unfold OkEnd at HP
 have HCV := Lib.hid (fun (W : World) (a : Option Addr) (cap : Nat) (hr : Row W 1 a (linB 7 lin0).length cap ((linB 7 lin0).map u8C)) => conv29 hr)
 generalize linB 7 lin0 = T at *
 have hqq : ((mkB T).toList == (mkB T).toList) = true := by simp
 generalize mkB T = S at *
 obtain ⟨L, hL⟩ : ∃ L, L = T.length := ⟨_, rfl⟩
 rw [← hL] at HP HPA HCV
 clear hL
 generalize T.map u8C = cs at *
 go_enter Tryz.func12, Tryz.ntmps12
 go_upto_region 2 with fail
 obtain ⟨q, hq⟩ : ∃ q, q = w.heap.size := ⟨_, rfl⟩
 rw [← hq] at HK ⊢
 clear hq
 generalize w.alloc _ = W1 at *
 obtain ⟨c0, c1, c2, c3, c4, c5, c6⟩ := zam HK.out
 go_wp2_with fail
 refine (HP.out _).mono ?_
 rintro e w2 ⟨g, c, rfl, hr2, -, -, hb2⟩
 have HK2 := Lib.hid (zaa hb2 HK.out)
 have HB2 := Lib.hid (HB.out.trans (hb2.mono HB.out.size))
 have HR2 := Lib.hid hr2
 clear hr2 hb2 HB HK HP c0 c1 c2 c3 c4 c5 c6
 go_wp2_with fail
 refine (HPA.out _ _ _ HR2.out).mono ?_
 rintro e w3 ⟨rfl, hb3⟩
 have hb4 := hb3.alloc hb3.size (.cells #[.int .i64 900, .int .i64 100, .int .i64 50, .int .i64 4, .int .i64 300, .int .i64 2, .int .i64 700] 23)
 have HB4 := Lib.hid (HB2.out.trans (hb4.mono HB2.out.size))
 have HK4 := Lib.hid (zaa hb4 HK2.out)
 have HX4 := Lib.hid (zac (w := w3) (b := w3.heap.size) (.cells #[.int .i64 900, .int .i64 100, .int .i64 50, .int .i64 4, .int .i64 300, .int .i64 2, .int .i64 700] 23) rfl)
 have HR4 := Lib.hid (HR2.out.mono hb4)
 clear hb3 hb4 HB2 HK2 HR2 HPA
 go_upto_region 4 with fail
 generalize w3.heap.size = x at HX4 ⊢
 generalize w3.alloc _ = W4 at *
 have hcv := fun p : za5 W4 => HCV.out p.w _ _ (HR4.out.mono p.h)
 have k0 := fun p : za5 W4 => zam (zaa p.h HK4.out)
 have j0 := fun p => (k0 p).1
 have j1 := fun p => (k0 p).2.1
 have j2 := fun p => (k0 p).2.2.1
 have j3 := fun p => (k0 p).2.2.2.1
 have j4 := fun p => (k0 p).2.2.2.2.1
 have j5 := fun p => (k0 p).2.2.2.2.2.1
 have j6 := fun p => (k0 p).2.2.2.2.2.2
 have k1 := fun p : za5 W4 => zam (zaa p.h HX4.out)
 have i0 := fun p => (k1 p).1
 have i1 := fun p => (k1 p).2.1
 have i2 := fun p => (k1 p).2.2.1
 have i3 := fun p => (k1 p).2.2.2.1
 have i4 := fun p => (k1 p).2.2.2.2.1
 have i5 := fun p => (k1 p).2.2.2.2.2.1
 have i6 := fun p => (k1 p).2.2.2.2.2.2
 clear k0 k1 HCV
 refine zaT (by kernel_rfl) (by kernel_rfl) ?_
 repeat (go_big_quiet_step (first
   | (go_at_call 20; with_reducible exact Calls.below_of (HTX.out _))
   | (go_at_call 10; with_reducible exact Calls.below_of (HC1.out _))
   | (go_at_call 10; with_reducible exact Calls.below_of (HC2.out _))))
 refine wpQuiet_nil ?_
 rintro w9 ⟨⟨_, hb9⟩, rfl⟩
 have HB9 := Lib.hid (HB4.out.trans (hb9.mono HB4.out.size))
 clear hb9
 go_wp2_with fail
 go_ret
 exact ⟨rfl, HB9.out⟩
def RlpEnd (w : World) (T : List UInt8) (er : Int) (e : Ending) (w' : World) : Prop := e = .returned (.tuple #[.string (mkB T), .int .i64 er]) ∧ Below w.heap.size w w'
theorem rlprint_any (n : Int) (l : LinD) (w : World) : Calls Tryz.prog 9 #[.int .i64 n, linA l] w (RlpEnd w (if n < 1 ∨ 4096 < n then [] else if za8 l = false then [] else linB n l) (if n < 1 ∨ 4096 < n then 2 else if za8 l = false then 28 else 0)) := by
 have HB := Lib.hid (zak w (.cells #[.int .i64 l.len, .int .i64 l.at_, .int .i64 l.n, .int .i64 l.obj, .int .i64 l.fin, .int .i64 l.pages, .int .i64 l.main] 23))
 have HK := Lib.hid (zac (w := w) (b := w.heap.size) (.cells #[.int .i64 l.len, .int .i64 l.at_, .int .i64 l.n, .int .i64 l.obj, .int .i64 l.fin, .int .i64 l.pages, .int .i64 l.main] 23) rfl)
 have HC := Lib.hid (fun W => zd0 l W)
 unfold zdp chkL at HC
 unfold RlpEnd
 by_cases hn : n < 1 ∨ 4096 < n
 · rw [if_pos hn, if_pos hn]
   have hd : decide (n < 1) = true ∨ (decide (n < 1) = false ∧ decide (n > 4096) = true) := by
     by_cases h : n < 1
     · exact .inl (decide_eq_true h)
     · exact .inr ⟨decide_eq_false h, decide_eq_true (by omega)⟩
   unfold linA
   clear hn HC HK
   rcases hd with h1 | ⟨h1, h2⟩ <;> (
     go_enter Tryz.func9, Tryz.ntmps9
     go_wp2_with fail
     go_ret2
     exact ⟨rfl, HB.out⟩)
 rw [if_neg hn, if_neg hn]
 have h1 : decide (n < 1) = false := decide_eq_false (by omega)
 have h2 : decide (n > 4096) = false := decide_eq_false (by omega)
 have HTX := fun hl : za8 l = true => Lib.hid (fun W => rtext29 (n := n) (l := l) (by omega) (by omega) hl W)
 unfold TxEnd at HTX
 clear hn
 cases hl : za8 l with
 | false =>
   rw [if_pos rfl, if_pos rfl]
   rw [if_neg (by rw [hl]; decide)] at HC
   unfold linA at HC ⊢
   clear HTX hl
   go_enter Tryz.func9, Tryz.ntmps9
   go_upto_region 1 with fail
   generalize w.heap.size = r at HK ⊢
   generalize w.alloc _ = W1 at *
   obtain ⟨c0, c1, c2, c3, c4, c5, c6⟩ := zam HK.out
   go_wp2_with (go_at_call 11; refine (HC.out _).mono ?_; rintro e w2 ⟨rfl, hb2⟩; have HB2 := Lib.hid (HB.out.trans (hb2.mono HB.out.size)); clear hb2)
   go_ret2
   exact ⟨rfl, HB2.out⟩
 | true =>
   rw [if_neg (by decide), if_neg (by decide)]
   rw [if_pos hl] at HC
   have HT := HTX hl
   generalize mkB (linB n l) = S at *
   unfold linA at HC HT ⊢
   clear HTX hl
   go_enter Tryz.func9, Tryz.ntmps9
   go_upto_region 1 with fail
   obtain ⟨r, hr⟩ : ∃ r, r = w.heap.size := ⟨_, rfl⟩
   rw [← hr] at HK ⊢
   clear hr
   generalize w.alloc _ = W1 at *
   obtain ⟨c0, c1, c2, c3, c4, c5, c6⟩ := zam HK.out
   go_wp2_with fail
   refine (HC.out _).mono ?_
   rintro e w2 ⟨rfl, hb2⟩
   have HB2 := Lib.hid (HB.out.trans (hb2.mono HB.out.size))
   have HK2 := Lib.hid (zaa hb2 HK.out)
   clear hb2 c0 c1 c2 c3 c4 c5 c6 HB HK HC
   obtain ⟨c0, c1, c2, c3, c4, c5, c6⟩ := zam HK2.out
   go_wp2_with fail
   refine (HT.out _).mono ?_
   rintro e w3 ⟨rfl, hb3⟩
   have HB3 := Lib.hid (HB2.out.trans (hb3.mono HB2.out.size))
   clear hb3
   go_wp2_with fail
   go_ret2
   exact ⟨rfl, HB3.out⟩
theorem lprint_all (n : Int) (l : LinD) (w : World) : Calls Tryz.prog 8 #[.int .i64 n, linA l] w fun e w' => ∃ a c, e = .returned (.tuple #[.slice a (if n < 1 ∨ 4096 < n then ([] : List UInt8) else if za8 l = false then [] else linB n l).length c, .int .i64 (if n < 1 ∨ 4096 < n then 2 else if za8 l = false then 28 else 0)]) ∧
   Row w' 1 a (if n < 1 ∨ 4096 < n then ([] : List UInt8) else if za8 l = false then [] else linB n l).length c ((if n < 1 ∨ 4096 < n then ([] : List UInt8) else if za8 l = false then [] else linB n l).map u8C) ∧ Below w.heap.size w w' := by
 by_cases hn : n < 1 ∨ 4096 < n
 · simp only [if_pos hn]
   exact (lprint_n l hn w).mono fun e w' ⟨he, hb⟩ => ⟨none, 0, he, Row.nil w' 1, hb⟩
 · simp only [if_neg hn]
   cases hl : za8 l with
   | false =>
     simp only [if_true]
     exact (lprint_l (by omega) (by omega) hl w).mono fun e w' ⟨he, hb⟩ => ⟨none, 0, he, Row.nil w' 1, hb⟩
   | true =>
     simp only [Bool.true_eq_false, if_false]
     exact (zcW (by omega) (by omega) hl w).mono fun e w' ⟨g, c, he, hr, _, _, hb⟩ => ⟨_, c, he, hr, hb⟩
theorem law_lprints {n : Int} {l : LinD} {w : World} (_hn : -9223372036854775808 ≤ n ∧ n ≤ 9223372036854775807) (_hl : LinBd l) : Calls Tryz.prog 3 #[.int .i64 n, linA l] w fun e w' => e = .returned (.bool true) ∧ Below w.heap.size w w' := by
 have HB := Lib.hid (zak w (.cells #[.int .i64 l.len, .int .i64 l.at_, .int .i64 l.n, .int .i64 l.obj, .int .i64 l.fin, .int .i64 l.pages, .int .i64 l.main] 23))
 have HK := Lib.hid (zac (w := w) (b := w.heap.size) (.cells #[.int .i64 l.len, .int .i64 l.at_, .int .i64 l.n, .int .i64 l.obj, .int .i64 l.fin, .int .i64 l.pages, .int .i64 l.main] 23) rfl)
 have HP := Lib.hid (fun W => lprint_all n l W)
 have HRP := Lib.hid (fun W => rlprint_any n l W)
 have HC := Lib.hid (fun W => za7 l W)
 have HRC := Lib.hid (fun W => zd0 l W)
 have HW := Lib.hid (fun W => works29 W)
 unfold RlpEnd at HRP
 unfold zdp at HC HRC
 have HCV := Lib.hid (fun (W : World) (T : List UInt8) (a : Option Addr) (cap : Nat) (hr : Row W 1 a T.length cap (T.map u8C)) => conv29 hr)
 generalize (if n < 1 ∨ 4096 < n then ([] : List UInt8) else if za8 l = false then [] else linB n l) = T at *
 generalize (if n < 1 ∨ 4096 < n then (2 : Int) else if za8 l = false then 28 else 0) = er at *
 generalize chkL l = ck at *
 have HCT := Lib.hid (fun W a cap hr => HCV.out W T a cap hr)
 have hqq : ((mkB T).toList == (mkB T).toList) = true := by simp
 have hee : (er == er) = true := by simp
 have hcc : (ck == ck) = true := by simp
 generalize mkB T = S at *
 unfold linA at HP HRP HC HRC ⊢
 clear HCV
 obtain ⟨L, hL⟩ : ∃ L, L = T.length := ⟨_, rfl⟩
 rw [← hL] at HP HCT
 clear hL
 generalize T.map u8C = cs at *
 go_enter Tryz.func3, Tryz.ntmps3
 go_upto_region 1 with fail
 obtain ⟨r, hr⟩ : ∃ r, r = w.heap.size := ⟨_, rfl⟩
 rw [← hr] at HK ⊢
 clear hr
 generalize w.alloc _ = W1 at *
 obtain ⟨c0, c1, c2, c3, c4, c5, c6⟩ := zam HK.out
 go_wp2_with fail
 refine (HP.out _).mono ?_
 rintro e w2 ⟨a, c, rfl, hr2, hb2⟩
 have HB2 := Lib.hid (HB.out.trans (hb2.mono HB.out.size))
 have HK2 := Lib.hid (zaa hb2 HK.out)
 have HR2 := Lib.hid hr2
 clear hb2 hr2 c0 c1 c2 c3 c4 c5 c6 HB HK HP
 obtain ⟨c0, c1, c2, c3, c4, c5, c6⟩ := zam HK2.out
 go_wp2_with fail
 refine (HRP.out _).mono ?_
 rintro e w3 ⟨rfl, hb3⟩
 have HB3 := Lib.hid (HB2.out.trans (hb3.mono HB2.out.size))
 have HK3 := Lib.hid (zaa hb3 HK2.out)
 have HR3 := Lib.hid (HR2.out.mono hb3)
 clear hb3 c0 c1 c2 c3 c4 c5 c6 HB2 HK2 HR2 HRP
 have hcv := fun p : za5 w3 => HCT.out p.w _ _ (HR3.out.mono p.h)
 have k0 := fun p : za5 w3 => zam (zaa p.h HK3.out)
 have j0 := fun p => (k0 p).1
 have j1 := fun p => (k0 p).2.1
 have j2 := fun p => (k0 p).2.2.1
 have j3 := fun p => (k0 p).2.2.2.1
 have j4 := fun p => (k0 p).2.2.2.2.1
 have j5 := fun p => (k0 p).2.2.2.2.2.1
 have j6 := fun p => (k0 p).2.2.2.2.2.2
 clear k0 HCT
 go_upto_region 3 with fail
 refine zaT (by kernel_rfl) (by kernel_rfl) ?_
 repeat (go_big_quiet_step (first
   | (go_at_call 10; with_reducible exact Calls.below_of (HC.out _))
   | (go_at_call 11; with_reducible exact Calls.below_of (HRC.out _))
   | (go_at_call 12; with_reducible exact Calls.below_of (HW.out _))))
 refine wpQuiet_nil ?_
 rintro w9 ⟨⟨_, hb9⟩, rfl⟩
 have HB9 := Lib.hid (HB3.out.trans (hb9.mono HB3.out.size))
 clear hb9
 go_wp2_with fail
 go_ret
 exact ⟨rfl, HB9.out⟩
end Go.Proofs.YtkhcjoomijkfbaaGreatDoor
namespace Go.Proofs.YtkhcjoomijkfbaaGreatDoor
open Go.ChangeShapes Go.WideShapes Go.Joins Go.RowKit Go.Deep
section
variable {H : Type} {enc : TypeId × Value → H} {w : World} {base : Nat} {spare : Nat → Bool} {held : Bool}
set_option maxRecDepth 100000 in
theorem lin_cells (m : Nat) (cs : List Value) (x : DataW H × List MemPlace) (h : DataW.trod enc Tryz.prog w base spare held m 23 cs = some x) : ∃ l : LinD, cs = linC l ∧ LinBd l := by
 have hC : Tryz.prog.cellsOf 23 = 7 := by kernel_rfl
 obtain ⟨xs, n, rfl, -, hlen, hxl, hf⟩ := DataW.trod_struct Tryz.underlying23 h
 rw [hC] at hlen
 match xs, hxl, cs, hlen with
 | [y0, y1, y2, y3, y4, y5, y6], _, [c0, c1, c2, c3, c4, c5, c6], _ =>
 have k3 : Tryz.prog.cellsOf 3 = 1 := by kernel_rfl
 have g0 : DataW.trod enc Tryz.prog w base spare held n 3 ((([c0, c1, c2, c3, c4, c5, c6] : List Value).drop 0).take (Tryz.prog.cellsOf 3)) = some y0 := hf 0 _ rfl
 have g1 : DataW.trod enc Tryz.prog w base spare held n 3 ((([c0, c1, c2, c3, c4, c5, c6] : List Value).drop 1).take (Tryz.prog.cellsOf 3)) = some y1 := hf 1 _ rfl
 have g2 : DataW.trod enc Tryz.prog w base spare held n 3 ((([c0, c1, c2, c3, c4, c5, c6] : List Value).drop 2).take (Tryz.prog.cellsOf 3)) = some y2 := hf 2 _ rfl
 have g3 : DataW.trod enc Tryz.prog w base spare held n 3 ((([c0, c1, c2, c3, c4, c5, c6] : List Value).drop 3).take (Tryz.prog.cellsOf 3)) = some y3 := hf 3 _ rfl
 have g4 : DataW.trod enc Tryz.prog w base spare held n 3 ((([c0, c1, c2, c3, c4, c5, c6] : List Value).drop 4).take (Tryz.prog.cellsOf 3)) = some y4 := hf 4 _ rfl
 have g5 : DataW.trod enc Tryz.prog w base spare held n 3 ((([c0, c1, c2, c3, c4, c5, c6] : List Value).drop 5).take (Tryz.prog.cellsOf 3)) = some y5 := hf 5 _ rfl
 have g6 : DataW.trod enc Tryz.prog w base spare held n 3 ((([c0, c1, c2, c3, c4, c5, c6] : List Value).drop 6).take (Tryz.prog.cellsOf 3)) = some y6 := hf 6 _ rfl
 rw [k3] at g0 g1 g2 g3 g4 g5 g6
 obtain ⟨z0, e0, _, b0⟩ := DataW.trod_int Tryz.underlying3 g0
 obtain ⟨z1, e1, _, b1⟩ := DataW.trod_int Tryz.underlying3 g1
 obtain ⟨z2, e2, _, b2⟩ := DataW.trod_int Tryz.underlying3 g2
 obtain ⟨z3, e3, _, b3⟩ := DataW.trod_int Tryz.underlying3 g3
 obtain ⟨z4, e4, _, b4⟩ := DataW.trod_int Tryz.underlying3 g4
 obtain ⟨z5, e5, _, b5⟩ := DataW.trod_int Tryz.underlying3 g5
 obtain ⟨z6, e6, _, b6⟩ := DataW.trod_int Tryz.underlying3 g6
 simp at e0 e1 e2 e3 e4 e5 e6
 subst e0 e1 e2 e3 e4 e5 e6
 exact ⟨⟨z0, z1, z2, z3, z4, z5, z6⟩, rfl, ⟨zba b0, zba b1, zba b2, zba b3, zba b4, zba b5, zba b6⟩⟩
set_option maxRecDepth 100000 in
theorem zeY {r : Reach} {b0 : Nat} {v : Value} {d : DataW H} {p : List MemPlace} (hv : Value.okWide Tryz.prog w r b0 23 v) (h : DataW.Trod enc Tryz.prog w base spare held 23 v d p) :
   ∃ l : LinD, v = linA l ∧ LinBd l := by
 obtain ⟨cs, rfl, hsz⟩ := okWide_struct Tryz.underlying23 hv
 obtain ⟨fuel, hf⟩ := h
 obtain ⟨l, e, hb⟩ := lin_cells fuel _ _ hf
 have e2 : cs = (linC l).toArray := by rw [← e]; simp [Value.cells]
 exact ⟨l, by rw [e2]; rfl, hb⟩
end
end Go.Proofs.YtkhcjoomijkfbaaGreatDoor
namespace Go.Proofs.YtkhcjoomijkfbaaGreatDoor
open Go.RowKit
theorem lin_dif (l m : LinD) : (decide (l = m) = false ∧ (l.len == m.len) = false) ∨ (decide (l = m) = false ∧ (l.len == m.len) = true ∧ (l.at_ == m.at_) = false) ∨ (decide (l = m) = false ∧ (l.len == m.len) = true ∧ (l.at_ == m.at_) = true ∧ (l.n == m.n) = false) ∨ (decide (l = m) = false ∧ (l.len == m.len) = true ∧ (l.at_ == m.at_) = true ∧ (l.n == m.n) = true ∧ (l.obj == m.obj) = false) ∨ (decide (l = m) = false ∧ (l.len == m.len) = true ∧ (l.at_ == m.at_) = true ∧ (l.n == m.n) = true ∧ (l.obj == m.obj) = true ∧ (l.fin == m.fin) = false) ∨ (decide (l = m) = false ∧ (l.len == m.len) = true ∧ (l.at_ == m.at_) = true ∧ (l.n == m.n) = true ∧ (l.obj == m.obj) = true ∧ (l.fin == m.fin) = true ∧ (l.pages == m.pages) = false) ∨ (decide (l = m) = false ∧ (l.len == m.len) = true ∧ (l.at_ == m.at_) = true ∧ (l.n == m.n) = true ∧ (l.obj == m.obj) = true ∧ (l.fin == m.fin) = true ∧ (l.pages == m.pages) = true ∧ (l.main == m.main) = false) ∨ (decide (l = m) = true ∧ (l.len == m.len) = true ∧ (l.at_ == m.at_) = true ∧ (l.n == m.n) = true ∧ (l.obj == m.obj) = true ∧ (l.fin == m.fin) = true ∧ (l.pages == m.pages) = true ∧ (l.main == m.main) = true) := by
 obtain ⟨a, b, c, d, e, f, g⟩ := l
 obtain ⟨a2, b2, c2, d2, e2, f2, g2⟩ := m
 by_cases h0 : a = a2
 · by_cases h1 : b = b2
   · by_cases h2 : c = c2
     · by_cases h3 : d = d2
       · by_cases h4 : e = e2
         · by_cases h5 : f = f2
           · by_cases h6 : g = g2
             · subst h0 h1 h2 h3 h4 h5 h6; simp
             · subst h0 h1 h2 h3 h4 h5; simp [h6]
           · subst h0 h1 h2 h3 h4; simp [h5]
         · subst h0 h1 h2 h3; simp [h4]
       · subst h0 h1 h2; simp [h3]
     · subst h0 h1; simp [h2]
   · subst h0; simp [h1]
 · simp [h0]
theorem law_lwide {n : Int} {l m : LinD} {w : World} (_hn : -9223372036854775808 ≤ n ∧ n ≤ 9223372036854775807) (_hl : LinBd l) (_hm : LinBd m) : Calls Tryz.prog 6 #[.int .i64 n, linA l, linA m] w fun e w' => e = .returned (.bool true) ∧ Below w.heap.size w w' := by
 have hb2 := (zak w (.cells #[.int .i64 l.len, .int .i64 l.at_, .int .i64 l.n, .int .i64 l.obj, .int .i64 l.fin, .int .i64 l.pages, .int .i64 l.main] 23)).alloc (by rw [zas]; omega) (.cells #[.int .i64 m.len, .int .i64 m.at_, .int .i64 m.n, .int .i64 m.obj, .int .i64 m.fin, .int .i64 m.pages, .int .i64 m.main] 23)
 have HB := Lib.hid hb2
 have HK := Lib.hid (show ((w.alloc (.cells #[.int .i64 l.len, .int .i64 l.at_, .int .i64 l.n, .int .i64 l.obj, .int .i64 l.fin, .int .i64 l.pages, .int .i64 l.main] 23)).alloc (.cells #[.int .i64 m.len, .int .i64 m.at_, .int .i64 m.n, .int .i64 m.obj, .int .i64 m.fin, .int .i64 m.pages, .int .i64 m.main] 23)).heap[w.heap.size]? = some (.cells #[.int .i64 l.len, .int .i64 l.at_, .int .i64 l.n, .int .i64 l.obj, .int .i64 l.fin, .int .i64 l.pages, .int .i64 l.main] 23 (0, 0)) from zaq _ (zac _ rfl))
 have HM := Lib.hid (show ((w.alloc (.cells #[.int .i64 l.len, .int .i64 l.at_, .int .i64 l.n, .int .i64 l.obj, .int .i64 l.fin, .int .i64 l.pages, .int .i64 l.main] 23)).alloc (.cells #[.int .i64 m.len, .int .i64 m.at_, .int .i64 m.n, .int .i64 m.obj, .int .i64 m.fin, .int .i64 m.pages, .int .i64 m.main] 23)).heap[w.heap.size + 1]? = some (.cells #[.int .i64 m.len, .int .i64 m.at_, .int .i64 m.n, .int .i64 m.obj, .int .i64 m.fin, .int .i64 m.pages, .int .i64 m.main] 23 (0, 0)) from zac _ (by rw [zas]))
 have HC := Lib.hid (fun W => za7 l W)
 have HD := Lib.hid (fun W => za7 m W)
 have HW := Lib.hid (fun W => works29 W)
 unfold zdp at HC HD
 have hcs : (¬ chkL l = 0) ∨ (chkL l = 0 ∧ ¬ chkL m = 0) ∨ (chkL l = 0 ∧ chkL m = 0 ∧ decide (n < 1) = true) ∨ (chkL l = 0 ∧ chkL m = 0 ∧ decide (n < 1) = false ∧ decide (n > 4096) = true) ∨ (chkL l = 0 ∧ chkL m = 0 ∧ decide (n < 1) = false ∧ decide (n > 4096) = false ∧ 1 ≤ n ∧ n ≤ 4096) := by
   by_cases h1 : chkL l = 0
   · by_cases h2 : chkL m = 0
     · by_cases h3 : n < 1
       · exact .inr (.inr (.inl ⟨h1, h2, decide_eq_true h3⟩))
       · by_cases h4 : n > 4096
         · exact .inr (.inr (.inr (.inl ⟨h1, h2, decide_eq_false h3, decide_eq_true h4⟩)))
         · exact .inr (.inr (.inr (.inr ⟨h1, h2, decide_eq_false h3, decide_eq_false h4, by omega, by omega⟩)))
     · exact .inr (.inl ⟨h1, h2⟩)
   · exact .inl h1
 have HPL := Lib.hid (fun (h1 : 1 ≤ n) (h2 : n ≤ 4096) (h3 : chkL l = 0) W => zcW h1 h2 (zbD.1 h3) W)
 have HPM := Lib.hid (fun (h1 : 1 ≤ n) (h2 : n ≤ 4096) (h3 : chkL m = 0) W => zcW h1 h2 (zbD.1 h3) W)
 have HLN := Lib.hid (fun (h3 : chkL l = 0) (h4 : chkL m = 0) => show (linB n l).length = (linB n m).length by rw [zbX (zbD.1 h3), zbX (zbD.1 h4)])
 have HINJ := Lib.hid (fun (h1 : 1 ≤ n) (h2 : n ≤ 4096) (h3 : chkL l = 0) (h4 : chkL m = 0) (h : linB n l = linB n m) => linB_inj h1 h2 (zbD.1 h3) (zbD.1 h4) h)
 have HCV := Lib.hid (fun (W : World) (T : List UInt8) (a : Option Addr) (cap : Nat) (hr : Row W 1 a T.length cap (T.map u8C)) => conv29 hr)
 unfold OkEnd at HPL HPM
 have hdif := lin_dif l m
 unfold linA at HC HD HPL HPM ⊢
 clear hb2
 generalize chkL l = cl at *
 generalize chkL m = cm at *
 rcases hcs with k1 | ⟨rfl, k2⟩ | ⟨rfl, rfl, k3⟩ | ⟨rfl, rfl, k3, k4⟩ | ⟨rfl, rfl, k3, k4, k5, k6⟩
 case inr.inr.inr.inr =>
   have HPL2 := Lib.hid (fun W => HPL.out k5 k6 rfl W)
   have HPM2 := Lib.hid (fun W => HPM.out k5 k6 rfl W)
   have HLN2 := HLN.out rfl rfl
   have HINJ2 := Lib.hid (HINJ.out k5 k6 rfl rfl)
   clear HPL HPM HLN HINJ k5 k6
   have HLB := Lib.hid (show l = m → linB n l = linB n m from fun h => by rw [h])
   have hst := zcG (linB n l) (linB n m)
   have hst2 := zaX (linB n m)
   have HCT := Lib.hid (fun W a cap hr => HCV.out W (linB n l) a cap hr)
   have HCU := Lib.hid (fun W a cap hr => HCV.out W (linB n m) a cap hr)
   clear HCV
   generalize linB n l = T at *
   generalize linB n m = U at *
   have hbb : ((mkB T).toList == (mkB U).toList) = decide (l = m) := by
     rw [hst2, hst]
     by_cases h : l = m
     · rw [decide_eq_true (HLB.out h), decide_eq_true h]
     · rw [decide_eq_false (fun e => h (HINJ2.out e)), decide_eq_false h]
   clear hst hst2 HLB HINJ2
   generalize mkB T = S at *
   generalize mkB U = R at *
   obtain ⟨L, hL⟩ : ∃ L, L = T.length := ⟨_, rfl⟩
   rw [← HLN2] at HPM2 HCU
   rw [← hL] at HPL2 HPM2 HCT HCU
   clear hL HLN2
   generalize T.map u8C = cs at *
   generalize U.map u8C = ds at *
   go_enter Tryz.func6, Tryz.ntmps6
   go_upto_region 1 with fail
   obtain ⟨r, hr⟩ : ∃ r, r = w.heap.size := ⟨_, rfl⟩
   rw [← hr] at HK HM ⊢
   clear hr
   generalize World.alloc _ _ = W1 at *
   obtain ⟨c0, c1, c2, c3, c4, c5, c6⟩ := zam HK.out
   obtain ⟨m0, m1, m2, m3, m4, m5, m6⟩ := zam HM.out
   go_wp2_with fail
   refine (HC.out _).mono ?_
   rintro e w2 ⟨rfl, hb2⟩
   have HB2 := Lib.hid (HB.out.trans (hb2.mono HB.out.size))
   have HK2 := Lib.hid (zaa hb2 HK.out)
   have HM2 := Lib.hid (zaa hb2 HM.out)
   clear hb2 HB HK HM HC c0 c1 c2 c3 c4 c5 c6 m0 m1 m2 m3 m4 m5 m6
   obtain ⟨c0, c1, c2, c3, c4, c5, c6⟩ := zam HK2.out
   obtain ⟨m0, m1, m2, m3, m4, m5, m6⟩ := zam HM2.out
   go_wp2_with fail
   refine (HD.out _).mono ?_
   rintro e w3 ⟨rfl, hb3⟩
   have HB3 := Lib.hid (HB2.out.trans (hb3.mono HB2.out.size))
   have HK3 := Lib.hid (zaa hb3 HK2.out)
   have HM3 := Lib.hid (zaa hb3 HM2.out)
   clear hb3 HB2 HK2 HM2 HD c0 c1 c2 c3 c4 c5 c6 m0 m1 m2 m3 m4 m5 m6
   obtain ⟨c0, c1, c2, c3, c4, c5, c6⟩ := zam HK3.out
   obtain ⟨m0, m1, m2, m3, m4, m5, m6⟩ := zam HM3.out
   go_wp2_with fail
   refine (HPL2.out _).mono ?_
   rintro e w4 ⟨g1, cp1, rfl, hr4, -, -, hb4⟩
   have HB4 := Lib.hid (HB3.out.trans (hb4.mono HB3.out.size))
   have HK4 := Lib.hid (zaa hb4 HK3.out)
   have HM4 := Lib.hid (zaa hb4 HM3.out)
   have HR4 := Lib.hid hr4
   clear hb4 hr4 HB3 HK3 HM3 HPL2 c0 c1 c2 c3 c4 c5 c6 m0 m1 m2 m3 m4 m5 m6
   obtain ⟨c0, c1, c2, c3, c4, c5, c6⟩ := zam HK4.out
   obtain ⟨m0, m1, m2, m3, m4, m5, m6⟩ := zam HM4.out
   go_wp2_with fail
   refine (HPM2.out _).mono ?_
   rintro e w5 ⟨g2, cp2, rfl, hr5, -, -, hb5⟩
   have HB5 := Lib.hid (HB4.out.trans (hb5.mono HB4.out.size))
   have HK5 := Lib.hid (zaa hb5 HK4.out)
   have HM5 := Lib.hid (zaa hb5 HM4.out)
   have HR5 := Lib.hid (HR4.out.mono hb5)
   have HS5 := Lib.hid hr5
   clear hb5 hr5 HB4 HK4 HM4 HR4 HPM2 c0 c1 c2 c3 c4 c5 c6 m0 m1 m2 m3 m4 m5 m6
   have hcv := fun p : za5 w5 => HCT.out p.w _ _ (HR5.out.mono p.h)
   have hcu := fun p : za5 w5 => HCU.out p.w _ _ (HS5.out.mono p.h)
   have k0 := fun p : za5 w5 => zam (zaa p.h HK5.out)
   have j0 := fun p => (k0 p).1
   have j1 := fun p => (k0 p).2.1
   have j2 := fun p => (k0 p).2.2.1
   have j3 := fun p => (k0 p).2.2.2.1
   have j4 := fun p => (k0 p).2.2.2.2.1
   have j5 := fun p => (k0 p).2.2.2.2.2.1
   have j6 := fun p => (k0 p).2.2.2.2.2.2
   have k1 := fun p : za5 w5 => zam (zaa p.h HM5.out)
   have i0 := fun p => (k1 p).1
   have i1 := fun p => (k1 p).2.1
   have i2 := fun p => (k1 p).2.2.1
   have i3 := fun p => (k1 p).2.2.2.1
   have i4 := fun p => (k1 p).2.2.2.2.1
   have i5 := fun p => (k1 p).2.2.2.2.2.1
   have i6 := fun p => (k1 p).2.2.2.2.2.2
   clear k0 k1 HCT HCU
   go_upto_region 5 with fail
   rcases hdif with ⟨hd, q0⟩ | ⟨hd, q0, q1⟩ | ⟨hd, q0, q1, q2⟩ | ⟨hd, q0, q1, q2, q3⟩ | ⟨hd, q0, q1, q2, q3, q4⟩ | ⟨hd, q0, q1, q2, q3, q4, q5⟩ | ⟨hd, q0, q1, q2, q3, q4, q5, q6⟩ | ⟨hd, q0, q1, q2, q3, q4, q5, q6⟩ <;> (
     rw [hd] at hbb
     clear hd
     refine zaT (by kernel_rfl) (by kernel_rfl) ?_
     repeat (go_big_quiet_step ((go_at_call 12; with_reducible exact Calls.below_of (HW.out _))))
     refine wpQuiet_nil ?_
     rintro w9 ⟨⟨_, hb9⟩, rfl⟩
     have HB9 := Lib.hid (HB5.out.trans (hb9.mono HB5.out.size))
     clear hb9
     go_wp2_with fail
     go_ret
     exact ⟨rfl, HB9.out⟩)
 case inl =>
   have e1 : (cl == 0) = false := by rw [beq_eq_false_iff_ne]; exact k1
   have e2 : (cl != 0) = true := by simp only [bne, e1, Bool.not_false]
   clear k1
   clear HPL HPM HLN HINJ HCV hdif
   go_enter Tryz.func6, Tryz.ntmps6
   go_upto_region 1 with fail
   obtain ⟨r, hr⟩ : ∃ r, r = w.heap.size := ⟨_, rfl⟩
   rw [← hr] at HK HM ⊢
   clear hr
   generalize World.alloc _ _ = W1 at *
   obtain ⟨c0, c1, c2, c3, c4, c5, c6⟩ := zam HK.out
   obtain ⟨m0, m1, m2, m3, m4, m5, m6⟩ := zam HM.out
   go_wp2_with fail
   refine (HC.out _).mono ?_
   rintro e w2 ⟨rfl, hb2⟩
   have HB2 := Lib.hid (HB.out.trans (hb2.mono HB.out.size))
   have HK2 := Lib.hid (zaa hb2 HK.out)
   have HM2 := Lib.hid (zaa hb2 HM.out)
   clear hb2 HB HK HM HC c0 c1 c2 c3 c4 c5 c6 m0 m1 m2 m3 m4 m5 m6
   obtain ⟨c0, c1, c2, c3, c4, c5, c6⟩ := zam HK2.out
   obtain ⟨m0, m1, m2, m3, m4, m5, m6⟩ := zam HM2.out
   go_wp2_with fail
   refine (HW.out _).mono ?_
   rintro e w9 ⟨rfl, hb9⟩
   have HB9 := Lib.hid (HB2.out.trans (hb9.mono HB2.out.size))
   clear hb9
   go_wp2_with fail
   go_ret
   exact ⟨rfl, HB9.out⟩
 case inr.inl =>
   have e1 : (cm == 0) = false := by rw [beq_eq_false_iff_ne]; exact k2
   have e2 : (cm != 0) = true := by simp only [bne, e1, Bool.not_false]
   clear k2
   clear HPL HPM HLN HINJ HCV hdif
   go_enter Tryz.func6, Tryz.ntmps6
   go_upto_region 1 with fail
   obtain ⟨r, hr⟩ : ∃ r, r = w.heap.size := ⟨_, rfl⟩
   rw [← hr] at HK HM ⊢
   clear hr
   generalize World.alloc _ _ = W1 at *
   obtain ⟨c0, c1, c2, c3, c4, c5, c6⟩ := zam HK.out
   obtain ⟨m0, m1, m2, m3, m4, m5, m6⟩ := zam HM.out
   go_wp2_with fail
   refine (HC.out _).mono ?_
   rintro e w2 ⟨rfl, hb2⟩
   have HB2 := Lib.hid (HB.out.trans (hb2.mono HB.out.size))
   have HK2 := Lib.hid (zaa hb2 HK.out)
   have HM2 := Lib.hid (zaa hb2 HM.out)
   clear hb2 HB HK HM HC c0 c1 c2 c3 c4 c5 c6 m0 m1 m2 m3 m4 m5 m6
   obtain ⟨c0, c1, c2, c3, c4, c5, c6⟩ := zam HK2.out
   obtain ⟨m0, m1, m2, m3, m4, m5, m6⟩ := zam HM2.out
   go_wp2_with fail
   refine (HD.out _).mono ?_
   rintro e w3 ⟨rfl, hb3⟩
   have HB3 := Lib.hid (HB2.out.trans (hb3.mono HB2.out.size))
   clear hb3 HB2 HK2 HM2 HD c0 c1 c2 c3 c4 c5 c6 m0 m1 m2 m3 m4 m5 m6
   go_wp2_with fail
   refine (HW.out _).mono ?_
   rintro e w9 ⟨rfl, hb9⟩
   have HB9 := Lib.hid (HB3.out.trans (hb9.mono HB3.out.size))
   clear hb9
   go_wp2_with fail
   go_ret
   exact ⟨rfl, HB9.out⟩
 case inr.inr.inl =>
   clear HPL HPM HLN HINJ HCV hdif
   go_enter Tryz.func6, Tryz.ntmps6
   go_upto_region 1 with fail
   obtain ⟨r, hr⟩ : ∃ r, r = w.heap.size := ⟨_, rfl⟩
   rw [← hr] at HK HM ⊢
   clear hr
   generalize World.alloc _ _ = W1 at *
   obtain ⟨c0, c1, c2, c3, c4, c5, c6⟩ := zam HK.out
   obtain ⟨m0, m1, m2, m3, m4, m5, m6⟩ := zam HM.out
   go_wp2_with fail
   refine (HC.out _).mono ?_
   rintro e w2 ⟨rfl, hb2⟩
   have HB2 := Lib.hid (HB.out.trans (hb2.mono HB.out.size))
   have HK2 := Lib.hid (zaa hb2 HK.out)
   have HM2 := Lib.hid (zaa hb2 HM.out)
   clear hb2 HB HK HM HC c0 c1 c2 c3 c4 c5 c6 m0 m1 m2 m3 m4 m5 m6
   obtain ⟨c0, c1, c2, c3, c4, c5, c6⟩ := zam HK2.out
   obtain ⟨m0, m1, m2, m3, m4, m5, m6⟩ := zam HM2.out
   go_wp2_with fail
   refine (HD.out _).mono ?_
   rintro e w3 ⟨rfl, hb3⟩
   have HB3 := Lib.hid (HB2.out.trans (hb3.mono HB2.out.size))
   clear hb3 HB2 HK2 HM2 HD c0 c1 c2 c3 c4 c5 c6 m0 m1 m2 m3 m4 m5 m6
   go_wp2_with fail
   refine (HW.out _).mono ?_
   rintro e w9 ⟨rfl, hb9⟩
   have HB9 := Lib.hid (HB3.out.trans (hb9.mono HB3.out.size))
   clear hb9
   go_wp2_with fail
   go_ret
   exact ⟨rfl, HB9.out⟩
 case inr.inr.inr.inl =>
   clear HPL HPM HLN HINJ HCV hdif
   go_enter Tryz.func6, Tryz.ntmps6
   go_upto_region 1 with fail
   obtain ⟨r, hr⟩ : ∃ r, r = w.heap.size := ⟨_, rfl⟩
   rw [← hr] at HK HM ⊢
   clear hr
   generalize World.alloc _ _ = W1 at *
   obtain ⟨c0, c1, c2, c3, c4, c5, c6⟩ := zam HK.out
   obtain ⟨m0, m1, m2, m3, m4, m5, m6⟩ := zam HM.out
   go_wp2_with fail
   refine (HC.out _).mono ?_
   rintro e w2 ⟨rfl, hb2⟩
   have HB2 := Lib.hid (HB.out.trans (hb2.mono HB.out.size))
   have HK2 := Lib.hid (zaa hb2 HK.out)
   have HM2 := Lib.hid (zaa hb2 HM.out)
   clear hb2 HB HK HM HC c0 c1 c2 c3 c4 c5 c6 m0 m1 m2 m3 m4 m5 m6
   obtain ⟨c0, c1, c2, c3, c4, c5, c6⟩ := zam HK2.out
   obtain ⟨m0, m1, m2, m3, m4, m5, m6⟩ := zam HM2.out
   go_wp2_with fail
   refine (HD.out _).mono ?_
   rintro e w3 ⟨rfl, hb3⟩
   have HB3 := Lib.hid (HB2.out.trans (hb3.mono HB2.out.size))
   clear hb3 HB2 HK2 HM2 HD c0 c1 c2 c3 c4 c5 c6 m0 m1 m2 m3 m4 m5 m6
   go_wp2_with fail
   refine (HW.out _).mono ?_
   rintro e w9 ⟨rfl, hb9⟩
   have HB9 := Lib.hid (HB3.out.trans (hb9.mono HB3.out.size))
   clear hb9
   go_wp2_with fail
   go_ret
   exact ⟨rfl, HB9.out⟩
end Go.Proofs.YtkhcjoomijkfbaaGreatDoor
