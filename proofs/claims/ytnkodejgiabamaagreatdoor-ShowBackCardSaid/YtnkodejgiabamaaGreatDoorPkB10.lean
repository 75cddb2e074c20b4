/-
  Our texts Ps2 to ParU, in one.
-/
import Derived.Test.YtnkodejgiabamaaGreatDoorPkB9
import Derived.Deep.RegionHeld3
import Derived.BigQuiet
import Derived.Deep.DeepCutAuto
import Derived.Sort.LotA
import Derived.Sort.Lot0
import Derived.Deep.Draws
import Derived.RangeFuncBox
import Derived.RangeFuncNested
import Derived.RangeFuncBound
import Derived.RangeFuncCalls
import Derived.RangeFuncLeaves
import Derived.Shelf.Abstract
import Derived.Shelf.RegionOpen
import Derived.OwnWalkIn
import Derived.TacticsInMore
import Derived.LoopNIn
import Derived.LoopIn
set_option maxRecDepth 8000
set_option maxHeartbeats 8000000
namespace Go.Proofs.YtnkodejgiabamaaGreatDoor
open Go.RowKit
section
variable {w w' : World} {p q u o0 o1 o2 r : Nat} {x0 x1 x2 : Value}
def S3 (w : World) (p o0 : Nat) (x0 : Value) (q o1 : Nat) (x1 : Value) (u o2 : Nat) (x2 : Value) : Prop := w.cell? ⟨p, o0, none⟩ = some x0 ∧ w.cell? ⟨q, o1, none⟩ = some x1 ∧ w.cell? ⟨u, o2, none⟩ = some x2
theorem S3.below (h : S3 w p o0 x0 q o1 x1 u o2 x2) (hb : Below w.heap.size w w') : S3 w' p o0 x0 q o1 x1 u o2 x2 := ⟨cell?_keep hb h.1, cell?_keep hb h.2.1, cell?_keep hb h.2.2⟩
theorem S3.alloc (h : S3 w p o0 x0 q o1 x1 u o2 x2) (o : Obj) : S3 (w.alloc o) p o0 x0 q o1 x1 u o2 x2 := h.below (belowA w o)
theorem S3.drew (h : S3 w p o0 x0 q o1 x1 u o2 x2) : S3 w.drew p o0 x0 q o1 x1 u o2 x2 := h
theorem S3.set8 (h : S3 w p o0 x0 q o1 x1 u o2 x2) (hp : p ≠ r) (hq : q ≠ r) (hu : u ≠ r) (y0 y1 y2 y3 y4 y5 y6 y7 : Value) :
   S3 ((((((((w.setCell ⟨r, 0, none⟩ y0).setCell ⟨r, 1, none⟩ y1).setCell ⟨r, 2, none⟩ y2).setCell ⟨r, 3, none⟩ y3).setCell ⟨r, 4, none⟩ y4).setCell ⟨r, 5, none⟩ y5).setCell ⟨r, 6, none⟩ y6).setCell ⟨r, 7, none⟩ y7) p o0 x0 q o1 x1 u o2 x2 :=
 ⟨(set8_cell hp _ _ _ _ _ _ _ _ _).trans h.1, (set8_cell hq _ _ _ _ _ _ _ _ _).trans h.2.1, (set8_cell hu _ _ _ _ _ _ _ _ _).trans h.2.2⟩
end
structure TkM (w W : World) (r : Nat) (cs : Array Value) : Prop where
 bel : Below w.heap.size w W
 blk : W.heap[r]? = some (.cells cs 54 (0, 0))
 new : w.heap.size ≤ r
section
variable {w0 w w' : World} {F F' G : Nat → Prop} {p : Nat} {a : Option Addr} {cap : Nat} {bs : List UInt8} {last : Bool} {st : List Lv} {at_ : Int} {gs : List Nat} {osl : Value}
theorem pnext_any (h : IsStk w0 w F G p a cap bs last st at_ gs osl) : Calls Tryz.prog 37 #[.pointer (some ⟨p, 0, none⟩)] w fun e w' =>
   e = .returned (.tuple #[.agg (tokN (nextV bs at_ last).1 (nextV bs at_ last).2.1 (nextV bs at_ last).2.2.1), .int .i64 (nextV bs at_ last).2.2.2]) ∧
   IsStk w0 w' F G p a cap bs last st (if (nextV bs at_ last).2.2.2 = 0 then (nextV bs at_ last).2.2.1 else at_) gs osl ∧ Keeps (fun b => b = p) w w' := by
 have HN := Lib.hid (fun (W : World) (hb : Below w.heap.size w W) => next_any (h.bytes.mono hb) h.small at_ last)
 generalize nextV bs at_ last = V at *
 unfold NextEnd tokN at HN
 obtain ⟨x, f, t, er⟩ := V
 simp only at HN ⊢
 unfold tokN
 generalize x.kind = a0 at *
 generalize x.vk = a1 at *
 generalize x.vn = a2 at *
 generalize mkB x.vs = s1 at *
 generalize mkB x.s = s2 at *
 have HS := Lib.hid h
 have hpw := h.lt
 clear h
 go_enter Tryz.func37, Tryz.ntmps37
 go_wp2
 have HB1 := Lib.hid (belowA w (.cells #[.int .i64 0, .int .i64 0, .int .i64 0, .int .i64 0, .int .i64 0, .string ⟨#[]⟩, .slice none 0 0, .string ⟨#[]⟩] 54))
 have HS1 := Lib.hid (HS.out.mono HB1.out)
 have HR1 := Lib.hid (heapA_new (w := w) (b := w.heap.size) (.cells #[.int .i64 0, .int .i64 0, .int .i64 0, .int .i64 0, .int .i64 0, .string ⟨#[]⟩, .slice none 0 0, .string ⟨#[]⟩] 54) rfl)
 generalize w.alloc _ = W1 at *
 obtain ⟨r, hr⟩ : ∃ r, r = w.heap.size := ⟨_, rfl⟩
 have hpr0 : p ≠ r := by omega
 rw [← hr] at HR1 ⊢
 have HRR := Lib.hid hr
 clear hr hpw
 obtain ⟨⟨c0, c1, c2, c3⟩, f0, f1, f2, f3⟩ := HS1.out.cells
 have HA1 := Lib.hid (fun o : Obj => (belowA W1 o).drew)
 have HA2 := Lib.hid (fun o : Obj => HB1.out.trans ((HA1.out o).mono (show w.heap.size ≤ W1.heap.size from HB1.out.size)))
 have HC0 : Hid (S3 W1 p 0 (.slice a bs.length cap) p 1 (.int .i64 at_) p 2 (.bool last)) := Lib.hid ⟨c0, c1, c2⟩
 have hpr : p ≠ W1.heap.size := Nat.ne_of_lt HS1.out.lt
 have HR1L := Lib.hid (show r < W1.heap.size from lt_of_heap HR1.out)
 go_region_held3 (fun w' => w'.cell? ⟨p, 0, none⟩ = some (.slice a bs.length cap) ∧ w'.cell? ⟨p, 1, none⟩ = some (.int .i64 at_) ∧ w'.cell? ⟨p, 2, none⟩ = some (.bool last))
   ((show S3 _ p 0 (.slice a bs.length cap) p 1 (.int .i64 at_) p 2 (.bool last); (first
     | (with_reducible exact HC0.out.drew)
     | (with_reducible exact HC0.out)
     | (with_reducible exact (HC0.out.alloc _).drew)
     | (with_reducible exact Hid.out (by assumption))
     | (with_reducible exact S3.alloc (Hid.out (by assumption)) _)
     | (with_reducible exact S3.set8 (Hid.out (by assumption)) hpr hpr hpr _ _ _ _ _ _ _ _))))
   ((go_at_call 22; first
     | ((with_reducible refine (HN.out _ HB1.out.drew).mono ?_); rintro e wN ⟨rfl, hbN⟩; have hbM : Below W1.heap.size W1 wN := (Below.refl _ _).drew.trans hbN; have HSN := Lib.hid (HC0.out.below hbM))
     | ((with_reducible refine (HN.out _ (HA2.out _)).mono ?_); rintro e wN ⟨rfl, hbN⟩; have hbM : Below W1.heap.size W1 wN := (HA1.out _).trans (hbN.mono (HA1.out _).size); have HSN := Lib.hid (HC0.out.below hbM); have HZ := Lib.hid (block_keep hbN (heapA_new (w := W1) (b := W1.heap.size) (.cells #[.int .i64 0, .int .i64 0, .int .i64 0, .int .i64 0, .int .i64 0, .string ⟨#[]⟩, .slice none 0 0, .string ⟨#[]⟩] 54) rfl)); obtain ⟨⟨z0, z1, z2, z3, z4, z5, z6, z7⟩, y0, y1, y2, y3, y4, y5, y6, y7⟩ := cells8 HZ.out)))
 all_goals
   first
     | (obtain ⟨W2, hW2⟩ : ∃ W2, W2 = wN.alloc (.cells #[.int .i64 a0, .int .i64 f, .int .i64 t, .int .i64 a1, .int .i64 a2, .string s1, .slice none 0 0, .string s2] 54) := ⟨_, rfl⟩
        rw [← hW2]
        have HT := Lib.hid (show TkM W1 W2 wN.heap.size #[.int .i64 a0, .int .i64 f, .int .i64 t, .int .i64 a1, .int .i64 a2, .string s1, .slice none 0 0, .string s2] from ⟨by rw [hW2]; exact hbM.alloc hbM.size _, by rw [hW2]; exact heapA_new _ rfl, hbM.size⟩)
        obtain ⟨r2, hr2⟩ : ∃ r2, r2 = wN.heap.size := ⟨_, rfl⟩
        rw [← hr2] at HT ⊢)
     | (obtain ⟨W2, hW2⟩ : ∃ W2, W2 = ((((((((wN.setCell ⟨W1.heap.size, 0, none⟩ (.int .i64 a0)).setCell ⟨W1.heap.size, 1, none⟩ (.int .i64 f)).setCell ⟨W1.heap.size, 2, none⟩ (.int .i64 t)).setCell ⟨W1.heap.size, 3, none⟩ (.int .i64 a1)).setCell ⟨W1.heap.size, 4, none⟩ (.int .i64 a2)).setCell ⟨W1.heap.size, 5, none⟩ (.string s1)).setCell ⟨W1.heap.size, 6, none⟩ (.slice none 0 0)).setCell ⟨W1.heap.size, 7, none⟩ (.string s2)) := ⟨_, rfl⟩
        rw [← hW2]
        have HT := Lib.hid (show TkM W1 W2 W1.heap.size #[.int .i64 a0, .int .i64 f, .int .i64 t, .int .i64 a1, .int .i64 a2, .string s1, .slice none 0 0, .string s2] from ⟨by rw [hW2]; exact below_set8 hbM (Nat.le_refl _) _ _ _ _ _ _ _ _, by rw [hW2]; exact set8 HZ.out _ _ _ _ _ _ _ _, Nat.le_refl _⟩)
        clear z0 z1 z2 z3 z4 z5 z6 z7 y0 y1 y2 y3 y4 y5 y6 y7 HZ
        obtain ⟨r2, hr2⟩ : ∃ r2, r2 = W1.heap.size := ⟨_, rfl⟩
        rw [← hr2] at HT ⊢)
   clear hW2 hr2 hbN hbM HSN
   have HS2 := Lib.hid (HS1.out.mono HT.out.bel)
   have HR2 := Lib.hid (block_keep HT.out.bel HR1.out)
   have hp2 : p ≠ r2 := by have := HT.out.new; have := HS1.out.lt; omega
   have hr22 : r ≠ r2 := by have := HT.out.new; have := HR1L.out; omega
   have HB2 := Lib.hid (HB1.out.trans (HT.out.bel.mono HB1.out.size))
   clear c0 c1 c2 c3 f0 f1 f2 f3 hpr
   obtain ⟨⟨c0, c1, c2, c3⟩, f0, f1, f2, f3⟩ := HS2.out.cells
   obtain ⟨⟨k0, k1, k2, k3, k4, k5, k6, k7⟩, m0, m1, m2, m3, m4, m5, m6, m7⟩ := cells8 HT.out.blk
   obtain ⟨⟨g0, g1, g2, g3, g4, g5, g6, g7⟩, l0, l1, l2, l3, l4, l5, l6, l7⟩ := cells8 HR2.out
   by_cases her : er = 0
   · subst her
     go_wp2
     refine bodyPost_ret (results_val rfl _ _ r 54 _ (0, 0) _ rfl (set8 ((heap_setCell_other _ _ _ _ (Ne.symm hpr0)).trans HR2.out) _ _ _ _ _ _ _ _) Tryz.underlying54 rfl infoTok _ rfl) rfl ?_
     refine ⟨rfl, ?_, ?_⟩
     · exact (((HS.out.res (G' := fun b => G b ∨ b = r) HB2.out (fun b hb => hb.imp id fun e => by rw [e]; exact ⟨Nat.le_of_eq HRR.out.symm, lt_of_heap HR2.out⟩)).setAt t).set8 (.inr rfl) _ _ _ _ _ _ _ _).give fun b hb => .inl hb
     · exact keeps_set8 (Keeps.setCell (S := fun b => b = p) (a := ⟨p, 1, none⟩) (keeps_below HB2.out) (.inl rfl) _) (Nat.le_of_eq HRR.out.symm) _ _ _ _ _ _ _ _
   · have e1 : (er == 0) = false := by rw [beq_eq_false_iff_ne]; exact her
     go_wp2
     refine bodyPost_ret (results_val rfl _ _ r 54 _ (0, 0) _ rfl (set8 HR2.out _ _ _ _ _ _ _ _) Tryz.underlying54 rfl infoTok _ rfl) rfl ?_
     refine ⟨rfl, ?_, ?_⟩
     · exact ((HS.out.res (G' := fun b => G b ∨ b = r) HB2.out (fun b hb => hb.imp id fun e => by rw [e]; exact ⟨Nat.le_of_eq HRR.out.symm, lt_of_heap HR2.out⟩)).set8 (.inr rfl) _ _ _ _ _ _ _ _).give fun b hb => .inl hb
     · exact keeps_set8 (keeps_below HB2.out) (Nat.le_of_eq HRR.out.symm) _ _ _ _ _ _ _ _
def topP : List Nat → Option Addr
 | [] => none
 | g :: _ => some ⟨g, 0, none⟩
theorem top_any (h : IsStk w0 w F G p a cap bs last st at_ gs osl) : Calls Tryz.prog 39 #[.pointer (some ⟨p, 0, none⟩)] w fun e w' => e = .returned (.pointer (topP gs)) ∧ ∃ q, w' = w.drewN q := by
 have hl := h.lvs.len
 have hd := h.deep
 obtain ⟨ao, oc, rfl, hro, -⟩ := Row.of_owns h.own
 obtain ⟨⟨c0, c1, c2, c3⟩, f0, f1, f2, f3⟩ := h.cells
 cases gs with
 | nil =>
   have h0 : st.length = 0 := by simpa using hl.symm
   rw [h0] at c3
   clear hl hro h h0 hd
   go_enter Tryz.func39, Tryz.ntmps39
   go_wp2
   go_ret
   exact ⟨rfl, 0, rfl⟩
 | cons g t =>
   have h0 : st.length = t.length + 1 := by simpa using hl.symm
   rw [h0] at hro c3 hd
   obtain ⟨b, off, rfl, hb, hc⟩ := hro.2.2.2.2 (by omega)
   have hcell := hc t.length (.pointer (some ⟨g, 0, none⟩)) (by simp [ptrs])
   have hce : decide (t.length + 1 = 0) = false := by simp
   have hci : ((t.length : Int) + 1 == 0) = false := by rw [beq_eq_false_iff_ne]; omega
   have h1 : (0 : Int) ≤ (t.length : Int) + 1 - 1 := by omega
   have h2 : ((t.length : Int) + 1 - 1).toNat = t.length := by omega
   have h3 : IntKind.i64.wrap ((t.length : Int) + 1 - 1) = (t.length : Int) := by rw [IntWalk.i64_in _ (by omega)]; omega
   have h4 : (t.length : Int) < (t.length : Int) + 1 := by omega
   have h5 : (0 : Int) ≤ (t.length : Int) := by omega
   have h6 : ((t.length : Int)).toNat = t.length := by omega
   clear hc hro hl h h0
   unfold topP
   generalize t.length = n at *
   go_enter Tryz.func39, Tryz.ntmps39
   go_wp2
   go_quiet (fail)
   go_wp2
   go_ret
   exact ⟨rfl, _, rfl⟩
end
theorem wants_any {w : World} {g n cap : Nat} {d : Bool} {a : Option Addr} (h : w.heap[g]? = some (.cells #[.bool d, .slice a n cap] 84 (0, 0))) (hn : n ≤ maxLen) :
   Calls Tryz.prog 94 #[.pointer (some ⟨g, 0, none⟩)] w fun e w' => e = .returned (.bool (d && n % 2 == 0)) ∧ w = w' := by
 have c0 : w.cell? ⟨g, 0, none⟩ = some (.bool d) := by rw [cell_of_row w g 0 _ _ _ h]; rfl
 have c1 : w.cell? ⟨g, 1, none⟩ = some (.slice a n cap) := by rw [cell_of_row w g 1 _ _ _ h]; rfl
 have hi : (n : Int) ≤ 9223372036854775807 := by unfold maxLen at hn; omega
 have he : ((n : Int) % 2 == 0) = (n % 2 == 0) := by rw [Bool.eq_iff_iff]; simp; omega
 have HE := Lib.hid he
 clear h hn he
 cases d
 · go_enter Tryz.func94, Tryz.ntmps94
   go_wp2
   go_ret
   exact ⟨rfl, rfl⟩
 · go_enter Tryz.func94, Tryz.ntmps94
   go_wp2
   go_ret
   exact ⟨ret_bool (by rw [Bool.true_and]; exact HE.out), rfl⟩
section
variable {w0 w w' : World} {F F' G : Nat → Prop} {p : Nat} {a : Option Addr} {cap : Nat} {bs : List UInt8} {last : Bool} {st : List Lv} {at_ : Int} {gs : List Nat} {osl : Value}
def RefEnd (w0 w : World) (F G : Nat → Prop) (p : Nat) (a : Option Addr) (cap : Nat) (bs : List UInt8) (last : Bool) (st : List Lv) (gs : List Nat) (osl : Value) (R : PV × Int × Int) (e : Ending) (w' : World) : Prop :=
 e = .returned (.tuple #[pvA R.1 (.slice none 0 0), .int .i64 R.2.2]) ∧ IsStk w0 w' F G p a cap bs last st R.2.1 gs osl ∧ Keeps (fun b => b = p) w w'
theorem fin4 (h : IsStk w0 w F G p a cap bs last st at_ gs osl) {W : World} (hb : Below w.heap.size w W) {q : Nat} (hq : w.heap.size ≤ q) (hl : q < W.heap.size) (y0 y1 y2 y3 : Value) :
   IsStk w0 ((((W.setCell ⟨q, 0, none⟩ y0).setCell ⟨q, 1, none⟩ y1).setCell ⟨q, 2, none⟩ y2).setCell ⟨q, 3, none⟩ y3) F G p a cap bs last st at_ gs osl ∧
     Keeps (fun b => b = p) w ((((W.setCell ⟨q, 0, none⟩ y0).setCell ⟨q, 1, none⟩ y1).setCell ⟨q, 2, none⟩ y2).setCell ⟨q, 3, none⟩ y3) :=
 ⟨((h.res (G' := fun b => G b ∨ b = q) hb (fun b hb => hb.imp id fun e => by rw [e]; exact ⟨hq, hl⟩)).set4 (.inr rfl) _ _ _ _).give fun b hb => .inl hb, keeps_set4 (keeps_below hb) hq _ _ _ _⟩
theorem fin4a (h : IsStk w0 w F G p a cap bs last st at_ gs osl) {W : World} (hb : Below w.heap.size w W) {q : Nat} (hq : w.heap.size ≤ q) (hl : q < W.heap.size) (at2 : Int) (y0 y1 y2 y3 : Value) :
   IsStk w0 (((((W.setCell ⟨p, 1, none⟩ (.int .i64 at2)).setCell ⟨q, 0, none⟩ y0).setCell ⟨q, 1, none⟩ y1).setCell ⟨q, 2, none⟩ y2).setCell ⟨q, 3, none⟩ y3) F G p a cap bs last st at2 gs osl ∧
     Keeps (fun b => b = p) w (((((W.setCell ⟨p, 1, none⟩ (.int .i64 at2)).setCell ⟨q, 0, none⟩ y0).setCell ⟨q, 1, none⟩ y1).setCell ⟨q, 2, none⟩ y2).setCell ⟨q, 3, none⟩ y3) :=
 ⟨(((h.res (G' := fun b => G b ∨ b = q) hb (fun b hb => hb.imp id fun e => by rw [e]; exact ⟨hq, hl⟩)).setAt at2).set4 (.inr rfl) _ _ _ _).give fun b hb => .inl hb,
   keeps_set4 (Keeps.setCell (S := fun b => b = p) (a := ⟨p, 1, none⟩) (keeps_below hb) (.inl rfl) _) hq _ _ _ _⟩
theorem drew4 {W : World} {S : Nat → Prop} (h : IsStk w0 W F G p a cap bs last st at_ gs osl ∧ Keeps S w W) : IsStk w0 W.drew F G p a cap bs last st at_ gs osl ∧ Keeps S w W.drew := ⟨h.1.drewN 1, h.2.drewN 1⟩
theorem ref_any (h : IsStk w0 w F G p a cap bs last st at_ gs osl) (v : PV) : Calls Tryz.prog 98 #[.pointer (some ⟨p, 0, none⟩), pvA v (.slice none 0 0)] w (RefEnd w0 w F G p a cap bs last st gs osl (refV bs last at_ v)) := by
 have HN := Lib.hid (fun (W : World) (hb : Below w.heap.size w W) => next_any (h.bytes.mono hb) h.small at_ last)
 obtain ⟨R, hR⟩ : ∃ R, R = refV bs last at_ v := ⟨_, rfl⟩
 rw [← hR]
 unfold refV at hR
 simp only at hR
 have HWH := Lib.hid (fun (W : World) => whole_tk (nextV bs at_ last).1 (nextV bs at_ last).2.1 (nextV bs at_ last).2.2.1 W)
 have HN2 := Lib.hid (fun (W : World) (hb : Below w.heap.size w W) => next_any (h.bytes.mono hb) h.small (nextV bs at_ last).2.2.1 last)
 generalize nextV bs (nextV bs at_ last).2.2.1 last = V2 at *
 generalize nextV bs at_ last = V at *
 obtain ⟨x, gf, gt, ger⟩ := V
 obtain ⟨y, rf, rt, rer⟩ := V2
 simp only at hR HN2 HWH
 unfold NextEnd tokN at HN HN2
 unfold tokN at HWH
 simp only at HN HN2
 unfold pvA
 have HR := Lib.hid hR
 have HYS := Lib.hid (eq_mkB y.s [82])
 clear hR
 generalize x.kind = ga0 at *
 generalize x.vk = ga1 at *
 generalize x.vn = ga2 at *
 generalize mkB x.vs = gs1 at *
 generalize mkB x.s = gs2 at *
 generalize y.kind = ra0 at *
 generalize y.vk = ra1 at *
 generalize y.vn = ra2 at *
 generalize mkB y.vs = rs1 at *
 generalize mkB y.s = rs2 at *
 generalize wholeV x = wh at *
 obtain ⟨vk, vn, vs, vl⟩ := v
 simp only [PV.kind, PV.n, PV.s] at HR ⊢
 have HS := Lib.hid h
 have hpw := h.lt
 clear h
 go_enter Tryz.func98, Tryz.ntmps98
 go_wp2
 have HB1 := Lib.hid (belowA2 w (.cells #[.int .i64 vk, .int .i64 vn, .string (mkB vs), .slice none 0 0] 24) (.cells #[.int .i64 0, .int .i64 0, .string ⟨#[]⟩, .slice none 0 0] 24))
 have HS1 := Lib.hid (HS.out.mono HB1.out)
 have HK3 := Lib.hid (heapA_old (.cells #[.int .i64 0, .int .i64 0, .string ⟨#[]⟩, .slice none 0 0] 24) (heapA_new (w := w) (b := w.heap.size) (.cells #[.int .i64 vk, .int .i64 vn, .string (mkB vs), .slice none 0 0] 24) rfl))
 have HK4 := Lib.hid (heapA_new (w := w.alloc (.cells #[.int .i64 vk, .int .i64 vn, .string (mkB vs), .slice none 0 0] 24)) (b := w.heap.size + 1) (.cells #[.int .i64 0, .int .i64 0, .string ⟨#[]⟩, .slice none 0 0] 24) (by rw [sizeA]))
 generalize (w.alloc _).alloc _ = W1 at *
 obtain ⟨r, hr⟩ : ∃ r, r = w.heap.size := ⟨_, rfl⟩
 have hpr0 : p ≠ r := by omega
 have hpr1 : p ≠ r + 1 := by omega
 rw [← hr] at HK3 HK4 ⊢
 have HRR := Lib.hid hr
 clear hr hpw
 obtain ⟨⟨c0, c1, c2, c3⟩, f0, f1, f2, f3⟩ := HS1.out.cells
 go_upto_region 1 with fail
 go_cut [6, 7] from 9 (fun v6 v7 wx => ∃ r2, v6 = .pointer (some ⟨r2, 0, none⟩) ∧ v7 = .int .i64 ger ∧ Hid (TkM W1 wx r2 #[.int .i64 ga0, .int .i64 gf, .int .i64 gt, .int .i64 ga1, .int .i64 ga2, .string gs1, .slice none 0 0, .string gs2]))
 case first =>
   have HA1 := Lib.hid (fun o : Obj => (belowA W1 o).drew)
   have HA2 := Lib.hid (fun o : Obj => HB1.out.trans ((HA1.out o).mono (show w.heap.size ≤ W1.heap.size from HB1.out.size)))
   have HC0 : Hid (S3 W1 p 0 (.slice a bs.length cap) p 1 (.int .i64 at_) p 2 (.bool last)) := Lib.hid ⟨c0, c1, c2⟩
   have HPR : Hid (p ≠ W1.heap.size ∧ p ≠ W1.heap.size ∧ p ≠ W1.heap.size) := Lib.hid ⟨Nat.ne_of_lt (World.block_lt_of_cell? W1 _ c0), Nat.ne_of_lt (World.block_lt_of_cell? W1 _ c1), Nat.ne_of_lt (World.block_lt_of_cell? W1 _ c2)⟩
   go_region_held3 (fun w' => w'.cell? ⟨p, 0, none⟩ = some (.slice a bs.length cap) ∧ w'.cell? ⟨p, 1, none⟩ = some (.int .i64 at_) ∧ w'.cell? ⟨p, 2, none⟩ = some (.bool last))
     ((show S3 _ p 0 (.slice a bs.length cap) p 1 (.int .i64 at_) p 2 (.bool last); (first
       | (with_reducible exact HC0.out.drew)
       | (with_reducible exact HC0.out)
       | (with_reducible exact (HC0.out.alloc _).drew)
       | (with_reducible exact Hid.out (by assumption))
       | (with_reducible exact S3.alloc (Hid.out (by assumption)) _)
       | (with_reducible exact S3.set8 (Hid.out (by assumption)) HPR.out.1 HPR.out.2.1 HPR.out.2.2 _ _ _ _ _ _ _ _))))
     ((go_at_call 22; first
       | ((with_reducible refine (HN.out _ HB1.out.drew).mono ?_); rintro e wN ⟨rfl, hbN⟩; have hbM : Below W1.heap.size W1 wN := (Below.refl _ _).drew.trans hbN; have HSN := Lib.hid (HC0.out.below hbM))
       | ((with_reducible refine (HN.out _ (HA2.out _)).mono ?_); rintro e wN ⟨rfl, hbN⟩; have hbM : Below W1.heap.size W1 wN := (HA1.out _).trans (hbN.mono (HA1.out _).size); have HSN := Lib.hid (HC0.out.below hbM); have HZ := Lib.hid (block_keep hbN (heapA_new (w := W1) (b := W1.heap.size) (.cells #[.int .i64 0, .int .i64 0, .int .i64 0, .int .i64 0, .int .i64 0, .string ⟨#[]⟩, .slice none 0 0, .string ⟨#[]⟩] 54) rfl)); obtain ⟨⟨z0, z1, z2, z3, z4, z5, z6, z7⟩, y0, y1, y2, y3, y4, y5, y6, y7⟩ := cells8 HZ.out)))
   all_goals
     first
       | (obtain ⟨W2, hW2⟩ : ∃ W2, W2 = wN.alloc (.cells #[.int .i64 ga0, .int .i64 gf, .int .i64 gt, .int .i64 ga1, .int .i64 ga2, .string gs1, .slice none 0 0, .string gs2] 54) := ⟨_, rfl⟩
          rw [← hW2]
          have HT := Lib.hid (show TkM W1 W2 wN.heap.size #[.int .i64 ga0, .int .i64 gf, .int .i64 gt, .int .i64 ga1, .int .i64 ga2, .string gs1, .slice none 0 0, .string gs2] from ⟨by rw [hW2]; exact hbM.alloc hbM.size _, by rw [hW2]; exact heapA_new _ rfl, hbM.size⟩)
          obtain ⟨r2, hr2⟩ : ∃ r2, r2 = wN.heap.size := ⟨_, rfl⟩
          rw [← hr2] at HT ⊢)
       | (obtain ⟨W2, hW2⟩ : ∃ W2, W2 = ((((((((wN.setCell ⟨W1.heap.size, 0, none⟩ (.int .i64 ga0)).setCell ⟨W1.heap.size, 1, none⟩ (.int .i64 gf)).setCell ⟨W1.heap.size, 2, none⟩ (.int .i64 gt)).setCell ⟨W1.heap.size, 3, none⟩ (.int .i64 ga1)).setCell ⟨W1.heap.size, 4, none⟩ (.int .i64 ga2)).setCell ⟨W1.heap.size, 5, none⟩ (.string gs1)).setCell ⟨W1.heap.size, 6, none⟩ (.slice none 0 0)).setCell ⟨W1.heap.size, 7, none⟩ (.string gs2)) := ⟨_, rfl⟩
          rw [← hW2]
          have HT := Lib.hid (show TkM W1 W2 W1.heap.size #[.int .i64 ga0, .int .i64 gf, .int .i64 gt, .int .i64 ga1, .int .i64 ga2, .string gs1, .slice none 0 0, .string gs2] from ⟨by rw [hW2]; exact below_set8 hbM (Nat.le_refl _) _ _ _ _ _ _ _ _, by rw [hW2]; exact set8 HZ.out _ _ _ _ _ _ _ _, Nat.le_refl _⟩)
          clear z0 z1 z2 z3 z4 z5 z6 z7 y0 y1 y2 y3 y4 y5 y6 y7 HZ
          obtain ⟨r2, hr2⟩ : ∃ r2, r2 = W1.heap.size := ⟨_, rfl⟩
          rw [← hr2] at HT ⊢)
     clear hW2 hr2 hbN hbM HSN
   all_goals
     go_wp2
     go_meet
     exact ⟨r2, rfl, rfl, HT⟩
 case rest =>
   obtain ⟨r2, rfl, rfl, HT⟩ := hcut
   have HS2 := Lib.hid (HS1.out.mono HT.out.bel)
   have HB2 := Lib.hid (HB1.out.trans (HT.out.bel.mono HB1.out.size))
   have HL3 := Lib.hid (block_keep HT.out.bel HK3.out)
   have HL4 := Lib.hid (block_keep HT.out.bel HK4.out)
   have HTK := Lib.hid HT.out.blk
   clear c0 c1 c2 c3 f0 f1 f2 f3 HT HK3 HK4 HS1 HB1 HN
   have hmv := Lib.hid (fun e w => more_any e w)
   by_cases hg : ger = 0
   case neg =>
     have e1 : (ger == 0) = false := by rw [beq_eq_false_iff_ne]; exact hg
     have e2 : (ger != 0) = true := by simp only [bne, e1, Bool.not_false]
     have hr2 := HR.out
     rw [if_pos (.inl hg)] at hr2
     have HR2 := Lib.hid hr2
     obtain ⟨⟨k0, k1, k2, k3⟩, m0, m1, m2, m3⟩ := cells4 HL3.out
     obtain ⟨⟨q0, q1, q2, q3⟩, n0, n1, n2, n3⟩ := cells4 HL4.out
     clear hr2 hg HR HN2
     go_wp2
     go_region_with ((go_at_call 123; refine (hmv.out _ _).mono ?_; rintro e w' ⟨rfl, rfl⟩))
     all_goals
       go_wp2
       refine bodyPost_ret (results_val rfl _ _ (r + 1) 24 _ (0, 0) _ rfl (by exact set4 HL4.out _ _ _ _) Tryz.underlying24 rfl (by exact infoPV) _ rfl) rfl ?_
       rw [HR2.out]
       exact ⟨rfl, drew4 (fin4 HS.out HB2.out (by rw [HRR.out]; exact Nat.le_succ _) (lt_of_heap HL4.out) _ _ _ _)⟩
   subst hg
   cases wh with
   | false =>
     have hr2 := HR.out
     rw [if_pos (.inr rfl)] at hr2
     have HR2 := Lib.hid hr2
     obtain ⟨⟨k0, k1, k2, k3, k4, k5, k6, k7⟩, -⟩ := cells8 HTK.out
     clear hr2 HR HN2
     go_wp2_with fail
     refine (HWH.out _).mono ?_
     rintro e w' ⟨rfl, hb⟩
     have HL3b := Lib.hid (block_keep hb HL3.out)
     have HL4b := Lib.hid (block_keep hb HL4.out)
     have HB3 := Lib.hid (HB2.out.trans (hb.mono HB2.out.size))
     obtain ⟨⟨k0, k1, k2, k3⟩, m0, m1, m2, m3⟩ := cells4 HL3b.out
     obtain ⟨⟨q0, q1, q2, q3⟩, n0, n1, n2, n3⟩ := cells4 HL4b.out
     clear hb
     go_wp2
     go_region_with ((go_at_call 123; refine (hmv.out _ _).mono ?_; rintro e w' ⟨rfl, rfl⟩))
     all_goals
       go_wp2
       refine bodyPost_ret (results_val rfl _ _ (r + 1) 24 _ (0, 0) _ rfl (by exact set4 HL4b.out _ _ _ _) Tryz.underlying24 rfl (by exact infoPV) _ rfl) rfl ?_
       rw [HR2.out]
       exact ⟨rfl, drew4 (fin4 HS.out HB3.out (by rw [HRR.out]; exact Nat.le_succ _) (lt_of_heap HL4b.out) _ _ _ _)⟩
   | true =>
     have hr1 := HR.out
     rw [if_neg (by simp)] at hr1
     have HRX := Lib.hid hr1
     obtain ⟨⟨k0, k1, k2, k3, k4, k5, k6, k7⟩, -⟩ := cells8 HTK.out
     clear hr1 HR
     go_upto_region 4 with (go_at_call 97; refine (HWH.out _).mono ?_; rintro e W3 ⟨rfl, hb3⟩)
     have HB3 := Lib.hid (HB2.out.trans (hb3.mono HB2.out.size))
     have HS3 := Lib.hid (HS2.out.mono hb3)
     have HL3b := Lib.hid (block_keep hb3 HL3.out)
     have HL4b := Lib.hid (block_keep hb3 HL4.out)
     have HTKb := Lib.hid (block_keep hb3 HTK.out)
     clear hb3 k0 k1 k2 k3 k4 k5 k6 k7
     go_cut [7, 8] from 9 (fun v7 v8 wx => ∃ r3, v7 = .int .i64 rer ∧ v8 = .pointer (some ⟨r3, 0, none⟩) ∧ Hid (TkM W3 wx r3 #[.int .i64 ra0, .int .i64 rf, .int .i64 rt, .int .i64 ra1, .int .i64 ra2, .string rs1, .slice none 0 0, .string rs2]))
     case first =>
       obtain ⟨⟨k0, k1, k2, k3, k4, k5, k6, k7⟩, -⟩ := cells8 HTKb.out
       obtain ⟨⟨c0, c1, c2, c3⟩, -⟩ := HS3.out.cells
       clear k0 k1 k3 k4 k5 k6 k7 c1 c3
       have HA1 := Lib.hid (fun o : Obj => (belowA W3 o).drew)
       have HA2 := Lib.hid (fun o : Obj => HB3.out.trans ((HA1.out o).mono (show w.heap.size ≤ W3.heap.size from HB3.out.size)))
       have HC0 : Hid (S3 W3 p 0 (.slice a bs.length cap) r2 2 (.int .i64 gt) p 2 (.bool last)) := Lib.hid ⟨c0, k2, c2⟩
       have HPR : Hid (p ≠ W3.heap.size ∧ r2 ≠ W3.heap.size ∧ p ≠ W3.heap.size) := Lib.hid ⟨Nat.ne_of_lt (World.block_lt_of_cell? W3 _ c0), Nat.ne_of_lt (World.block_lt_of_cell? W3 _ k2), Nat.ne_of_lt (World.block_lt_of_cell? W3 _ c2)⟩
       go_region_held3 (fun w' => w'.cell? ⟨p, 0, none⟩ = some (.slice a bs.length cap) ∧ w'.cell? ⟨r2, 2, none⟩ = some (.int .i64 gt) ∧ w'.cell? ⟨p, 2, none⟩ = some (.bool last))
         ((show S3 _ p 0 (.slice a bs.length cap) r2 2 (.int .i64 gt) p 2 (.bool last); (first
           | (with_reducible exact HC0.out.drew)
           | (with_reducible exact HC0.out)
           | (with_reducible exact (HC0.out.alloc _).drew)
           | (with_reducible exact Hid.out (by assumption))
           | (with_reducible exact S3.alloc (Hid.out (by assumption)) _)
           | (with_reducible exact S3.set8 (Hid.out (by assumption)) HPR.out.1 HPR.out.2.1 HPR.out.2.2 _ _ _ _ _ _ _ _))))
         ((go_at_call 22; first
           | ((with_reducible refine (HN2.out _ HB3.out.drew).mono ?_); rintro e wN ⟨rfl, hbN⟩; have hbM : Below W3.heap.size W3 wN := (Below.refl _ _).drew.trans hbN; have HSN := Lib.hid (HC0.out.below hbM))
           | ((with_reducible refine (HN2.out _ (HA2.out _)).mono ?_); rintro e wN ⟨rfl, hbN⟩; have hbM : Below W3.heap.size W3 wN := (HA1.out _).trans (hbN.mono (HA1.out _).size); have HSN := Lib.hid (HC0.out.below hbM); have HZ := Lib.hid (block_keep hbN (heapA_new (w := W3) (b := W3.heap.size) (.cells #[.int .i64 0, .int .i64 0, .int .i64 0, .int .i64 0, .int .i64 0, .string ⟨#[]⟩, .slice none 0 0, .string ⟨#[]⟩] 54) rfl)); obtain ⟨⟨z0, z1, z2, z3, z4, z5, z6, z7⟩, y0, y1, y2, y3, y4, y5, y6, y7⟩ := cells8 HZ.out)))
       all_goals
         first
           | (obtain ⟨W2, hW2⟩ : ∃ W2, W2 = wN.alloc (.cells #[.int .i64 ra0, .int .i64 rf, .int .i64 rt, .int .i64 ra1, .int .i64 ra2, .string rs1, .slice none 0 0, .string rs2] 54) := ⟨_, rfl⟩
              rw [← hW2]
              have HT := Lib.hid (show TkM W3 W2 wN.heap.size #[.int .i64 ra0, .int .i64 rf, .int .i64 rt, .int .i64 ra1, .int .i64 ra2, .string rs1, .slice none 0 0, .string rs2] from ⟨by rw [hW2]; exact hbM.alloc hbM.size _, by rw [hW2]; exact heapA_new _ rfl, hbM.size⟩)
              obtain ⟨r2_1, hr2⟩ : ∃ r2_1, r2_1 = wN.heap.size := ⟨_, rfl⟩
              rw [← hr2] at HT ⊢)
           | (obtain ⟨W2, hW2⟩ : ∃ W2, W2 = ((((((((wN.setCell ⟨W3.heap.size, 0, none⟩ (.int .i64 ra0)).setCell ⟨W3.heap.size, 1, none⟩ (.int .i64 rf)).setCell ⟨W3.heap.size, 2, none⟩ (.int .i64 rt)).setCell ⟨W3.heap.size, 3, none⟩ (.int .i64 ra1)).setCell ⟨W3.heap.size, 4, none⟩ (.int .i64 ra2)).setCell ⟨W3.heap.size, 5, none⟩ (.string rs1)).setCell ⟨W3.heap.size, 6, none⟩ (.slice none 0 0)).setCell ⟨W3.heap.size, 7, none⟩ (.string rs2)) := ⟨_, rfl⟩
              rw [← hW2]
              have HT := Lib.hid (show TkM W3 W2 W3.heap.size #[.int .i64 ra0, .int .i64 rf, .int .i64 rt, .int .i64 ra1, .int .i64 ra2, .string rs1, .slice none 0 0, .string rs2] from ⟨by rw [hW2]; exact below_set8 hbM (Nat.le_refl _) _ _ _ _ _ _ _ _, by rw [hW2]; exact set8 HZ.out _ _ _ _ _ _ _ _, Nat.le_refl _⟩)
              clear z0 z1 z2 z3 z4 z5 z6 z7 y0 y1 y2 y3 y4 y5 y6 y7 HZ
              obtain ⟨r2_1, hr2⟩ : ∃ r2_1, r2_1 = W3.heap.size := ⟨_, rfl⟩
              rw [← hr2] at HT ⊢)
         clear hW2 hr2 hbN hbM HSN
       all_goals
         go_wp2
         go_meet
         exact ⟨r2_1, rfl, rfl, HT⟩
     case rest =>
       obtain ⟨r3, rfl, rfl, HT⟩ := hcut
       have HS4 := Lib.hid (HS3.out.mono HT.out.bel)
       have HB4 := Lib.hid (HB3.out.trans (HT.out.bel.mono HB3.out.size))
       have HM3 := Lib.hid (block_keep HT.out.bel HL3b.out)
       have HM4 := Lib.hid (block_keep HT.out.bel HL4b.out)
       have HU1 := Lib.hid (block_keep HT.out.bel HTKb.out)
       have HU2 := Lib.hid HT.out.blk
       clear HT
       obtain ⟨⟨k0, k1, k2, k3⟩, m0, m1, m2, m3⟩ := cells4 HM3.out
       obtain ⟨⟨q0, q1, q2, q3⟩, n0, n1, n2, n3⟩ := cells4 HM4.out
       obtain ⟨⟨t0, t1, t2, t3, t4, t5, t6, t7⟩, -⟩ := cells8 HU2.out
       obtain ⟨⟨d0, d1, d2, d3, d4, d5, d6, d7⟩, -⟩ := cells8 HU1.out
       obtain ⟨⟨c0, c1, c2, c3⟩, f0, f1, f2, f3⟩ := HS4.out.cells
       have hys := HYS.out
       by_cases h0 : rer = 0
       case neg =>
         have e1 : (rer == 0) = false := by rw [beq_eq_false_iff_ne]; exact h0
         have e2 : (rer != 0) = true := by simp only [bne, e1, Bool.not_false]
         have hr2 := HRX.out
         rw [if_pos (.inl h0)] at hr2
         have HR2 := Lib.hid hr2
         clear hr2 h0 hys
         go_wp2
         go_region_with ((go_at_call 123; refine (hmv.out _ _).mono ?_; rintro e w' ⟨rfl, rfl⟩))
         all_goals
           go_wp2
           refine bodyPost_ret (results_val rfl _ _ (r + 1) 24 _ (0, 0) _ rfl (by exact set4 HM4.out _ _ _ _) Tryz.underlying24 rfl (by exact infoPV) _ rfl) rfl ?_
           rw [HR2.out]
           exact ⟨rfl, drew4 (fin4 HS.out HB4.out (by rw [HRR.out]; exact Nat.le_succ _) (lt_of_heap HM4.out) _ _ _ _)⟩
       subst h0
       by_cases h6 : ra0 = 6
       case neg =>
         have e1 : (ra0 == 6) = false := by rw [beq_eq_false_iff_ne]; exact h6
         have e2 : (ra0 != 6) = true := by simp only [bne, e1, Bool.not_false]
         have hr2 := HRX.out
         rw [if_pos (.inr (.inl h6))] at hr2
         have HR2 := Lib.hid hr2
         clear hr2 h6 hys
         go_wp2
         go_region_with ((go_at_call 123; refine (hmv.out _ _).mono ?_; rintro e w' ⟨rfl, rfl⟩))
         all_goals
           go_wp2
           refine bodyPost_ret (results_val rfl _ _ (r + 1) 24 _ (0, 0) _ rfl (by exact set4 HM4.out _ _ _ _) Tryz.underlying24 rfl (by exact infoPV) _ rfl) rfl ?_
           rw [HR2.out]
           exact ⟨rfl, drew4 (fin4 HS.out HB4.out (by rw [HRR.out]; exact Nat.le_succ _) (lt_of_heap HM4.out) _ _ _ _)⟩
       subst h6
       by_cases hs : y.s = [82]
       case neg =>
         rw [decide_eq_false hs] at hys
         have hr2 := HRX.out
         rw [if_pos (.inr (.inr hs))] at hr2
         have HR2 := Lib.hid hr2
         clear hr2 hs
         go_wp2
         go_region_with ((go_at_call 123; refine (hmv.out _ _).mono ?_; rintro e w' ⟨rfl, rfl⟩))
         all_goals
           go_wp2
           refine bodyPost_ret (results_val rfl _ _ (r + 1) 24 _ (0, 0) _ rfl (by exact set4 HM4.out _ _ _ _) Tryz.underlying24 rfl (by exact infoPV) _ rfl) rfl ?_
           rw [HR2.out]
           exact ⟨rfl, drew4 (fin4 HS.out HB4.out (by rw [HRR.out]; exact Nat.le_succ _) (lt_of_heap HM4.out) _ _ _ _)⟩
       rw [decide_eq_true hs] at hys
       have hr2 := HRX.out
       rw [if_neg (by rintro (h | h | h); exact h rfl; exact h rfl; exact h hs)] at hr2
       have HRY := Lib.hid hr2
       clear hr2 hs
       by_cases hv1 : vn < 1
       case pos =>
         have hd : decide (vn < 1) = true := decide_eq_true hv1
         have hr2 := HRY.out.trans (if_pos (show vn < 1 ∨ 4096 < vn ∨ ga2 ≠ 0 from .inl hv1))
         have HR2 := Lib.hid hr2
         clear hr2 hv1
         go_wp2
         refine bodyPost_ret (results_val rfl _ _ (r + 1) 24 _ (0, 0) _ rfl (by exact set4 HM4.out _ _ _ _) Tryz.underlying24 rfl (by exact infoPV) _ rfl) rfl ?_
         rw [HR2.out]
         exact ⟨rfl, fin4 HS.out HB4.out (by rw [HRR.out]; exact Nat.le_succ _) (lt_of_heap HM4.out) _ _ _ _⟩
       have hd1 : decide (vn < 1) = false := decide_eq_false hv1
       by_cases hv2 : 4096 < vn
       case pos =>
         have hd : decide (4096 < vn) = true := decide_eq_true hv2
         have hr2 := HRY.out.trans (if_pos (show vn < 1 ∨ 4096 < vn ∨ ga2 ≠ 0 from .inr (.inl hv2)))
         have HR2 := Lib.hid hr2
         clear hr2 hv2 hv1
         go_wp2
         refine bodyPost_ret (results_val rfl _ _ (r + 1) 24 _ (0, 0) _ rfl (by exact set4 HM4.out _ _ _ _) Tryz.underlying24 rfl (by exact infoPV) _ rfl) rfl ?_
         rw [HR2.out]
         exact ⟨rfl, fin4 HS.out HB4.out (by rw [HRR.out]; exact Nat.le_succ _) (lt_of_heap HM4.out) _ _ _ _⟩
       have hd2 : decide (4096 < vn) = false := decide_eq_false hv2
       by_cases hg2 : ga2 = 0
       case neg =>
         have e1 : (ga2 == 0) = false := by rw [beq_eq_false_iff_ne]; exact hg2
         have e2 : (ga2 != 0) = true := by simp only [bne, e1, Bool.not_false]
         have hr2 := HRY.out.trans (if_pos (show vn < 1 ∨ 4096 < vn ∨ ga2 ≠ 0 from .inr (.inr hg2)))
         have HR2 := Lib.hid hr2
         clear hr2 hv2 hv1 hg2
         go_wp2
         refine bodyPost_ret (results_val rfl _ _ (r + 1) 24 _ (0, 0) _ rfl (by exact set4 HM4.out _ _ _ _) Tryz.underlying24 rfl (by exact infoPV) _ rfl) rfl ?_
         rw [HR2.out]
         exact ⟨rfl, fin4 HS.out HB4.out (by rw [HRR.out]; exact Nat.le_succ _) (lt_of_heap HM4.out) _ _ _ _⟩
       subst hg2
       have hr2 := HRY.out.trans (if_neg (show ¬ (vn < 1 ∨ 4096 < vn ∨ (0 : Int) ≠ 0) by rintro (h | h | h); exact hv1 h; exact hv2 h; exact h rfl))
       have HR2 := Lib.hid hr2
       clear hr2 hv2 hv1
       go_wp2
       refine bodyPost_ret (results_val rfl _ _ (r + 1) 24 _ (0, 0) _ rfl (by exact set4 ((heap_setCell_other _ _ _ _ (Ne.symm hpr1)).trans HM4.out) _ _ _ _) Tryz.underlying24 rfl (by exact infoPV) _ rfl) rfl ?_
       rw [HR2.out]
       exact ⟨rfl, fin4a HS.out HB4.out (by rw [HRR.out]; exact Nat.le_succ _) (lt_of_heap HM4.out) _ _ _ _ _⟩
end
section
variable {w0 w w' : World} {F F' G : Nat → Prop} {p : Nat} {a : Option Addr} {cap : Nat} {bs : List UInt8} {last : Bool} {st : List Lv} {at_ : Int} {gs : List Nat} {osl : Value}
theorem IsStk.top (h : IsStk w0 w F G p a cap bs last st at_ gs osl) : (st = [] ∧ gs = []) ∨ ∃ v st' g t sa sc, st = v :: st' ∧ gs = g :: t ∧ v.l.length ≤ sc ∧ sc ≤ maxLen ∧ w.heap[g]? = some (.cells #[.bool v.dict, .slice sa v.l.length sc] 84 (0, 0)) := by
 cases st with
 | nil => exact .inl ⟨rfl, List.eq_nil_of_length_eq_zero (by rw [h.lvs.len]; rfl)⟩
 | cons v st' =>
   obtain ⟨g, t, sl, cs, h1, h2, h3, h4, h5, h6, h7, h8⟩ := h.lvs
   obtain ⟨sa, sc, rfl, h9, h10⟩ := owns_slice h5
   exact .inr ⟨v, st', g, t, sa, sc, rfl, h1, h9, h10, h4⟩
theorem single_any (h : IsStk w0 w F G p a cap bs last st at_ gs osl) (x : Tk) (f t : Int) : Calls Tryz.prog 67 #[.pointer (some ⟨p, 0, none⟩), .agg (tokN x f t)] w (RefEnd w0 w F G p a cap bs last st gs osl (singleV bs last st at_ x)) := by
 obtain ⟨R, hR⟩ : ∃ R, R = singleV bs last st at_ x := ⟨_, rfl⟩
 rw [← hR]
 unfold singleV at hR
 have HR := Lib.hid hR
 have HTOP := Lib.hid (fun (W : World) (hb : Below w.heap.size w W) => top_any (h.mono hb))
 have HTP := Lib.hid (fun (W : World) (hb : Below w.heap.size w W) => (h.mono hb).top)
 have HREF := Lib.hid (fun (W : World) (hb : Below w.heap.size w W) (hl : w.heap.size + 1 < W.heap.size) => ref_any (h.res (G' := fun b => G b ∨ b = w.heap.size + 1) hb (fun b h => h.imp id fun e => by rw [e]; exact ⟨Nat.le_succ _, hl⟩)) (tkV x))
 have HWD := Lib.hid (fun (W : World) => pword_any x.s W)
 have HWH := Lib.hid (fun (W : World) => whole_tk x f t W)
 have HTK := Lib.hid (show tkV x = .mk x.vk x.vn x.vs [] from rfl)
 generalize tkV x = TV at *
 unfold tokN at *
 generalize wholeV x = wh at *
 generalize x.kind = a0 at *
 generalize x.vk = a1 at *
 generalize x.vn = a2 at *
 generalize hxs : x.vs = xs at *
 generalize x.s = ys at *
 have HS := Lib.hid h
 have hpw := h.lt
 clear h hR hxs
 go_enter Tryz.func67, Tryz.ntmps67
 go_wp2_with fail
 have HB1 := Lib.hid (belowA2 w (.cells #[.int .i64 a0, .int .i64 f, .int .i64 t, .int .i64 a1, .int .i64 a2, .string (mkB xs), .slice none 0 0, .string (mkB ys)] 54) (.cells #[.int .i64 0, .int .i64 0, .string ⟨#[]⟩, .slice none 0 0] 24))
 have HK3 := Lib.hid (heapA_old (.cells #[.int .i64 0, .int .i64 0, .string ⟨#[]⟩, .slice none 0 0] 24) (heapA_new (w := w) (b := w.heap.size) (.cells #[.int .i64 a0, .int .i64 f, .int .i64 t, .int .i64 a1, .int .i64 a2, .string (mkB xs), .slice none 0 0, .string (mkB ys)] 54) rfl))
 have HK4 := Lib.hid (heapA_new (w := w.alloc (.cells #[.int .i64 a0, .int .i64 f, .int .i64 t, .int .i64 a1, .int .i64 a2, .string (mkB xs), .slice none 0 0, .string (mkB ys)] 54)) (b := w.heap.size + 1) (.cells #[.int .i64 0, .int .i64 0, .string ⟨#[]⟩, .slice none 0 0] 24) (by rw [sizeA]))
 refine (HTOP.out _ HB1.out).mono ?_
 rintro e w1 ⟨rfl, q, rfl⟩
 generalize (w.alloc _).alloc _ = W1 at *
 have HB2 := Lib.hid (below_drewN HB1.out q)
 have HL3 := Lib.hid (show (W1.drewN q).heap[w.heap.size]? = _ from HK3.out)
 have HL4 := Lib.hid (show (W1.drewN q).heap[w.heap.size + 1]? = _ from HK4.out)
 clear HK3 HK4 HB1
 generalize W1.drewN q = W2 at *
 obtain ⟨r, hr⟩ : ∃ r, r = w.heap.size := ⟨_, rfl⟩
 have hpr0 : p ≠ r := by omega
 have hpr1 : p ≠ r + 1 := by omega
 rw [← hr] at HL3 HL4 ⊢
 have HRR := Lib.hid hr
 clear hr hpw
 go_upto_region 2 with fail
 go_cut [25] from 7 (fun v25 wx => ∃ c : Bool, v25 = .bool c ∧ Hid (c = true ↔ (topW st = true ∧ (a0 ≠ 1 ∨ a1 ≠ 5))) ∧ W2 = wx)
 case first =>
   obtain ⟨⟨k0, k1, k2, k3, k4, k5, k6, k7⟩, -⟩ := cells8 HL3.out
   rcases HTP.out _ HB2.out with ⟨rfl, rfl⟩ | ⟨v, st', g, t', sa, sc, rfl, rfl, h1, h2, h3⟩
   · unfold topP
     go_wp2
     go_meet
     exact ⟨false, rfl, Lib.hid (by simp [topW]), rfl⟩
   · have HWT := Lib.hid (wants_any h3 (by omega))
     have HTW := Lib.hid (show topW (v :: st') = (v.dict && v.l.length % 2 == 0) from rfl)
     unfold topP
     generalize (v.dict && v.l.length % 2 == 0) = tw at *
     clear h1 h2 h3
     cases tw
     · go_wp2_with (go_at_call 94; refine HWT.out.mono ?_; rintro e w' ⟨rfl, rfl⟩)
       go_meet
       exact ⟨false, rfl, Lib.hid (by rw [HTW.out]; simp), rfl⟩
     · by_cases h1 : a0 = 1
       · subst h1
         by_cases h5 : a1 = 5
         · subst h5
           go_wp2_with (go_at_call 94; refine HWT.out.mono ?_; rintro e w' ⟨rfl, rfl⟩)
           go_meet
           exact ⟨false, rfl, Lib.hid (by simp), rfl⟩
         · have e1 : (a1 == 5) = false := by rw [beq_eq_false_iff_ne]; exact h5
           have e2 : (a1 != 5) = true := by simp only [bne, e1, Bool.not_false]
           go_wp2_with (go_at_call 94; refine HWT.out.mono ?_; rintro e w' ⟨rfl, rfl⟩)
           go_meet
           exact ⟨true, rfl, Lib.hid (by rw [HTW.out]; simp [h5]), rfl⟩
       · have e1 : (a0 == 1) = false := by rw [beq_eq_false_iff_ne]; exact h1
         have e2 : (a0 != 1) = true := by simp only [bne, e1, Bool.not_false]
         go_wp2_with (go_at_call 94; refine HWT.out.mono ?_; rintro e w' ⟨rfl, rfl⟩)
         go_meet
         exact ⟨true, rfl, Lib.hid (by rw [HTW.out]; simp [h1]), rfl⟩
 case rest =>
   obtain ⟨c, rfl, HC, rfl⟩ := hcut
   have hr1 : w.heap.size ≤ r + 1 := by rw [HRR.out]; exact Nat.le_succ _
   have HR1 := Lib.hid hr1
   clear hr1
   cases c with
   | true =>
     have hr2 := HR.out
     rw [if_pos (HC.out.1 rfl)] at hr2
     have HR2 := Lib.hid hr2
     obtain ⟨⟨q0, q1, q2, q3⟩, n0, n1, n2, n3⟩ := cells4 HL4.out
     clear hr2 HR HREF HWD HWH
     go_wp2
     refine bodyPost_ret (results_val rfl _ _ (r + 1) 24 _ (0, 0) _ rfl (by exact set4 HL4.out _ _ _ _) Tryz.underlying24 rfl (by exact infoPV) _ rfl) rfl ?_
     rw [HR2.out]
     exact ⟨rfl, fin4 HS.out HB2.out HR1.out (lt_of_heap HL4.out) _ _ _ _⟩
   | false =>
     have hr2 := HR.out
     rw [if_neg (fun h => absurd (HC.out.2 h) (by decide))] at hr2
     have HRX := Lib.hid hr2
     obtain ⟨⟨k0, k1, k2, k3, k4, k5, k6, k7⟩, -⟩ := cells8 HL3.out
     clear hr2 HR HC
     by_cases h6 : a0 = 6
     · have hr2 := HRX.out
       rw [if_pos h6] at hr2
       subst h6
       have hr3 : R = ((wordE ys).1, at_, (wordE ys).2) := by
         rw [hr2]; unfold wordE; cases wordV ys <;> rfl
       have HR2 := Lib.hid hr3
       unfold pvA at HWD
       clear hr2 hr3 HRX
       go_wp2_with fail
       refine (HWD.out _).mono ?_
       rintro e w3 ⟨rfl, hb3⟩
       have HL4b := Lib.hid (block_keep hb3 HL4.out)
       have HB3 := Lib.hid (HB2.out.trans (hb3.mono HB2.out.size))
       obtain ⟨⟨q0, q1, q2, q3⟩, n0, n1, n2, n3⟩ := cells4 HL4b.out
       clear hb3
       go_wp2
       refine bodyPost_ret (results_val rfl _ _ (r + 1) 24 _ (0, 0) _ rfl (by exact set4 HL4b.out _ _ _ _) Tryz.underlying24 rfl (by exact infoPV) _ rfl) rfl ?_
       rw [HR2.out]
       exact ⟨rfl, fin4 HS.out HB3.out HR1.out (lt_of_heap HL4b.out) _ _ _ _⟩
     · have hr2 := HRX.out
       rw [if_neg h6] at hr2
       have HRY := Lib.hid hr2
       have e1 : (a0 == 6) = false := by rw [beq_eq_false_iff_ne]; exact h6
       clear hr2 h6 HRX
       go_wp2_with fail
       refine (HWH.out _).mono ?_
       rintro e w3 ⟨rfl, hb3⟩
       have HL3b := Lib.hid (block_keep hb3 HL3.out)
       have HL4b := Lib.hid (block_keep hb3 HL4.out)
       have HB3 := Lib.hid (HB2.out.trans (hb3.mono HB2.out.size))
       clear k0 k1 k2 k3 k4 k5 k6 k7 hb3
       obtain ⟨⟨k0, k1, k2, k3, k4, k5, k6, k7⟩, -⟩ := cells8 HL3b.out
       cases wh with
       | true =>
         have hr2 := HRY.out
         rw [if_pos rfl] at hr2
         have HR2 := Lib.hid hr2
         have HC2 := Lib.hid (HREF.out _ HB3.out (by rw [← HRR.out]; exact lt_of_heap HL4b.out))
         rw [HTK.out] at HC2
         unfold pvA at HC2
         simp only [PV.kind, PV.n, PV.s] at HC2
         clear hr2 HRY HREF
         go_wp2_with fail
         refine HC2.out.mono ?_
         rintro e w4 ⟨he, hs4, hk4⟩
         unfold pvA at he
         subst he
         have HL4c := Lib.hid (hk4.obj HL4b.out (fun e => hpr1 e.symm))
         have HS4 := Lib.hid hs4
         have HK4 := Lib.hid ((keeps_below HB3.out).trans hk4 (fun b hb => .inl hb))
         obtain ⟨⟨q0, q1, q2, q3⟩, n0, n1, n2, n3⟩ := cells4 HL4c.out
         clear hs4 hk4 HC2
         go_wp2
         refine bodyPost_ret (results_val rfl _ _ (r + 1) 24 _ (0, 0) _ rfl (by exact set4 HL4c.out _ _ _ _) Tryz.underlying24 rfl (by exact infoPV) _ rfl) rfl ?_
         rw [HR2.out]
         rw [HTK.out]
         exact ⟨rfl, (HS4.out.set4 (.inr (by rw [HRR.out])) _ _ _ _).give fun b hb => .inl hb, keeps_set4 HK4.out HR1.out _ _ _ _⟩
       | false =>
         have hr2 := HRY.out
         rw [if_neg (by decide)] at hr2
         have HR2 := Lib.hid hr2
         obtain ⟨⟨q0, q1, q2, q3⟩, n0, n1, n2, n3⟩ := cells4 HL4b.out
         clear hr2 HRY HREF
         go_wp2
         refine bodyPost_ret (results_val rfl _ _ (r + 1) 24 _ (0, 0) _ rfl (by exact set4 HL4b.out _ _ _ _) Tryz.underlying24 rfl (by exact infoPV) _ rfl) rfl ?_
         rw [HR2.out, HTK.out]
         exact ⟨rfl, fin4 HS.out HB3.out HR1.out (lt_of_heap HL4b.out) _ _ _ _⟩
end
theorem ptrs_cons (g : Nat) (gs : List Nat) : ptrs (g :: gs) = ptrs gs ++ [.pointer (some ⟨g, 0, none⟩)] := by simp [ptrs]
section
variable {w0 w w' : World} {F F' G G' : Nat → Prop} {p : Nat} {a : Option Addr} {cap : Nat} {bs : List UInt8} {last : Bool} {st : List Lv} {at_ : Int} {gs : List Nat} {osl : Value}
theorem IsStk.ownp (h : IsStk w0 w F G p a cap bs last st at_ gs osl) {b : Nat} (hb : osl.ownBlock = some b) : b ≠ p := by
 obtain ⟨cs, hc⟩ := owns_type h.own hb; exact type_ne hc h.blk (by decide)
theorem IsStk.ownF (h : IsStk w0 w F G p a cap bs last st at_ gs osl) {b : Nat} (hb : osl.ownBlock = some b) : ¬ F b := fun hf => by
 obtain ⟨cs, hc⟩ := owns_type h.own hb
 obtain ⟨_, _, ds, hd⟩ := h.fb b hf
 exact type_ne hc hd (by decide) rfl
theorem IsStk.Flt (h : IsStk w0 w F G p a cap bs last st at_ gs osl) {b : Nat} (hb : F b) : b < w.heap.size := by obtain ⟨_, _, cs, hc⟩ := h.fb b hb; exact lt_of_heap hc
theorem isLV_ne {w : World} {b c : Nat} {x : Array Value} {t : TypeId} {f : Nat × Nat} (h : IsLV w b) (hc : w.heap[c]? = some (.cells x t f)) (h1 : t ≠ 84) (h2 : t ≠ 24) : b ≠ c := by
 rcases h with ⟨cs, h⟩ | ⟨cs, h⟩
 · exact type_ne h hc (Ne.symm h1)
 · exact type_ne h hc (Ne.symm h2)
theorem IsStk.push (h : IsStk w0 w F G p a cap bs last st at_ gs osl) (d : Bool) (hd : st.length < 64) (o : Obj) {w2 : World} {v' : Value}
   (hO : w2.ownsRow w0.heap.size 81 1 v' (st.length + 1) (ptrs gs ++ [.pointer (some ⟨w.heap.size, 0, none⟩)]))
   (hg : ((w.alloc (.cells #[.bool d, .slice none 0 0] 84)).alloc o).grownBy w2 osl.ownBlock) (hN : NewAt ((w.alloc (.cells #[.bool d, .slice none 0 0] 84)).alloc o) osl v') :
   Nxt w0 w F G p a cap bs last ({ dict := d, l := [] } :: st) at_ F (w2.setCell ⟨p, 3, none⟩ v') := by
 have hs1 : ((w.alloc (.cells #[.bool d, .slice none 0 0] 84)).alloc o).heap.size = w.heap.size + 2 := by rw [sizeA, sizeA]
 have hs2 := hg.size
 rw [hs1] at hs2
 have hb1 := belowA2 w (.cells #[.bool d, .slice none 0 0] 84) o
 have hp := h.lt
 have hol : ∀ b, osl.ownBlock = some b → b < w.heap.size := fun b hb => (h.own.lt b hb).2
 have hkw : ∀ b, b < w.heap.size → osl.ownBlock ≠ some b → w2.heap[b]? = w.heap[b]? := fun b hb hn => (hg.block b (by rw [hs1]; omega) (fun e => hn e.symm)).trans (hb1.block b hb)
 have hk3 : ∀ b, b ≠ p → (w2.setCell ⟨p, 3, none⟩ v').heap[b]? = w2.heap[b]? := fun b hb => heap_setCell_other _ _ _ _ hb
 have hs3 : (w2.setCell ⟨p, 3, none⟩ v').heap.size = w2.heap.size := by simp [World.setCell]
 have hpo : osl.ownBlock ≠ some p := fun e => h.ownp e rfl
 have hgb : w2.heap[w.heap.size]? = some (.cells #[.bool d, .slice none 0 0] 84 (0, 0)) := by
   rw [hg.block w.heap.size (by rw [hs1]; omega) (fun e => by have := hol _ e.symm; omega)]
   exact heapA_old o (heapA_new _ rfl)
 have hp2 : w2.heap[p]? = _ := (hkw p hp hpo).trans h.blk
 have hv' : ∀ b, v'.ownBlock = some b → b ≠ p := fun b hb => by obtain ⟨cs, hc⟩ := owns_type hO hb; exact type_ne hc hp2 (by decide)
 have hFs : Stays F w (w2.setCell ⟨p, 3, none⟩ v') := ⟨by omega, fun b hb hf => by
   rw [hk3 b (h.notF hf), hkw b hb (fun e => h.ownF e hf)]⟩
 refine ⟨⟨w.heap.size :: gs, v', heap_setCell_same w2 p 3 _ _ _ hp2, h.base, h.gp, ?_, fun b hb hG => ?_, ?_, fun b hb => ?_, fun b hb => ?_, ?_, h.row, h.small, by simp; omega⟩, ⟨by omega, fun b hb hG => ?_⟩, hFs, fun _ h => h⟩
 · rw [ptrs_cons]; exact owns_heap hO fun b hb => hk3 b (hv' b hb)
 · rcases hN b hb with e | e
   · exact h.go b e hG
   · have := (h.gb b hG).2; rw [hs1] at e; omega
 · refine ⟨w.heap.size, gs, .slice none 0 0, [], rfl, h.bel.size, fun hG => by have := (h.gb _ hG).2; omega, (hk3 _ (by omega)).trans hgb, World.ownsRow_nil _ _ _ _, rfl, fun b hb => (by cases hb), ?_⟩
   refine h.lvs.keep' hFs (fun _ h => h) (fun b hb hn hl => ?_) (fun b hb => .inl hb) (fun b hb => ?_)
   · rw [hk3 b (isLV_ne hl h.blk (by decide) (by decide)), hkw b hb (fun e => by obtain ⟨cs, hc⟩ := owns_type h.own e; exact isLV_ne hl hc (by decide) (by decide) rfl)]
   · rcases hb with hb | hb | hb
     · exact .inl hb
     · exact .inr (Nat.le_of_eq hb.symm)
     · cases hb
 · obtain ⟨h1, h2, cs, h3⟩ := h.fb b hb
   exact ⟨h1, h2, cs, by rw [hFs.2 b (h.Flt hb) hb]; exact h3⟩
 · have := h.gb b hb; omega
 · refine h.bel.trans (Below.setCell (w := w2) (a := w) (p := ⟨p, 3, none⟩) ⟨?_, ?_, ?_, ?_, fun b hb => ?_⟩ h.base _)
   · exact hg.os.trans hb1.os
   · exact hg.tape.trans hb1.tape
   · exact hg.output.trans hb1.output
   · have := h.bel.size; omega
   · exact hkw b (by have := h.bel.size; omega) (fun e => by have := (h.own.lt b e).1; omega)
 · rw [hk3 b (fun e => h.gp (e ▸ hG)), hkw b hb (fun e => h.go b e hG)]
theorem IsStk.pop {v : Lv} (h : IsStk w0 w F G p a cap bs last (v :: st) at_ gs osl) {ao : Option Addr} {oc : Nat} (ho : osl = .slice ao (st.length + 1) oc) :
   ∃ F' sl, (∀ b, F b → F' b) ∧ (∃ g t cs, gs = g :: t ∧ w.heap[g]? = some (.cells #[.bool v.dict, sl] 84 (0, 0)) ∧ w.ownsRow w0.heap.size 24 4 sl v.l.length cs ∧ IsVs w F' v.l cs ∧ (∀ b, sl.ownBlock = some b → F' b)) ∧
     Nxt w0 w F G p a cap bs last st at_ F' (w.setCell ⟨p, 3, none⟩ (.slice ao st.length oc)) := by
 obtain ⟨g, t, sl, cs, h1, h2, h3, h4, h5, h6, h7, h8⟩ := h.lvs
 have hk3 : ∀ b, b ≠ p → (w.setCell ⟨p, 3, none⟩ (.slice ao st.length oc)).heap[b]? = w.heap[b]? := fun b hb => heap_setCell_other _ _ _ _ hb
 have hs3 : (w.setCell ⟨p, 3, none⟩ (.slice ao st.length oc)).heap.size = w.heap.size := by simp [World.setCell]
 have hsp : ∀ b, sl.ownBlock = some b → b ≠ p := fun b hb => by obtain ⟨cs, hc⟩ := owns_type h5 hb; exact type_ne hc h.blk (by decide)
 subst ho h1
 have hFs : Stays F w (w.setCell ⟨p, 3, none⟩ (.slice ao st.length oc)) := ⟨by omega, fun b hb hf => hk3 b (h.notF hf)⟩
 refine ⟨fun b => F b ∨ sl.ownBlock = some b, sl, fun b hb => .inl hb, ⟨g, t, cs, rfl, h4, h5, h6.weaken (fun b hb => .inl hb), fun b hb => .inr hb⟩, ⟨t, .slice ao st.length oc, heap_setCell_same w p 3 _ _ _ h.blk, h.base, h.gp, ?_, fun b hb => ?_, ?_, fun b hb => ?_, fun b hb => by rw [hs3]; exact h.gb b hb, h.bel.trans ((Below.refl _ _).setCell h.base _), h.row, h.small, by have := h.deep; simp at this; omega⟩,
   ⟨by omega, fun b hb hG => hk3 b (fun e => h.gp (e ▸ hG))⟩, hFs, fun b hb => .inl hb⟩
 · have ho := h.own
   rw [ptrs_cons] at ho
   obtain ⟨hl, ho⟩ := ho
   rcases ho with ⟨hn, -⟩ | ⟨gg, cc, cur, hv, hb, hh, hc1, hc2, hc3, hc4⟩
   · simp at hn
   · simp only [Value.slice.injEq] at hv
     obtain ⟨rfl, -, rfl⟩ := hv
     have hlp : (ptrs t).length = st.length := by simpa using hl
     refine ⟨by simpa using hlp, .inr ⟨gg, oc, cur, rfl, hb, ?_, by simp at hc1; omega, hc2, hc3, ?_⟩⟩
     · rw [hk3 gg (by intro e; subst e; exact h.ownp rfl rfl)]; exact hh
     · have := congrArg (List.take st.length) hc4
       simpa [List.take_take, hlp] using this
 · refine h.go b ?_
   cases ao with
   | none => cases hb
   | some x => exact hb
 · refine h8.keep' hFs (fun b hb => .inl hb) (fun b hb hn hl => hk3 b (isLV_ne hl h.blk (by decide) (by decide))) (fun b hb => ?_) (fun b hb => .inl (.inl hb))
   rcases hb with hb | hb
   · exact .inl hb
   · exact .inr (.inl (.inr (.inr hb)))
 · rcases hb with hb | hb
   · obtain ⟨k1, k2, ds, k3⟩ := h.fb b hb
     exact ⟨k1, k2, ds, by rw [hk3 b (h.notF hb)]; exact k3⟩
   · obtain ⟨ds, k3⟩ := owns_type h5 hb
     exact ⟨(h5.lt b hb).1, (h7 b hb).2, ds, by rw [hk3 b (hsp b hb)]; exact k3⟩
theorem IsStk.lastL {v : Lv} (h : IsStk w0 w F G p a cap bs last (v :: st) at_ gs osl) : ∃ g t sa sc cs, gs = g :: t ∧ v.l.length ≤ sc ∧ sc ≤ maxLen ∧ w0.heap.size ≤ g ∧ ¬ G g ∧ w.heap[g]? = some (.cells #[.bool v.dict, .slice sa v.l.length sc] 84 (0, 0)) ∧
   w.ownsRow w0.heap.size 24 4 (.slice sa v.l.length sc) v.l.length cs ∧ IsVs w F v.l cs ∧ ∀ b, (Value.slice sa v.l.length sc).ownBlock = some b → ¬ F b ∧ ¬ G b := by
 obtain ⟨g, t, sl, cs, h1, h2, h3, h4, h5, h6, h7, h8⟩ := h.lvs
 obtain ⟨sa, sc, rfl, h9, h10⟩ := owns_slice h5
 exact ⟨g, t, sa, sc, cs, h1, h9, h10, h2, h3, h4, h5, h6, h7⟩
theorem IsStk.put {v : Lv} {g : Nat} {t : List Nat} (h : IsStk w0 w F G p a cap bs last (v :: st) at_ (g :: t) osl) {sl : Value} (h4 : w.heap[g]? = some (.cells #[.bool v.dict, sl] 84 (0, 0))) {cs : List Value}
   (h6 : IsVs w F v.l cs) {x : PV} {sx : Value} (hx : IsV w F x sx) {w3 : World} {v' : Value} (hO : w3.ownsRow w0.heap.size 24 4 v' (v.l.length + 1) (cs ++ pvC x sx)) (hk : Keeps (fun b => sl.ownBlock = some b) w w3)
   (hN : ∀ b, v'.ownBlock = some b → sl.ownBlock = some b ∨ w.heap.size ≤ b) :
   Nxt w0 w F G p a cap bs last ({ v with l := v.l ++ [x] } :: st) at_ F (w3.setCell ⟨g, 1, none⟩ v') := by
 obtain ⟨g', t', sl', cs', h1, h2, h3, h4', h5, -, h7, h8⟩ := h.lvs
 simp only [List.cons.injEq] at h1
 obtain ⟨rfl, rfl⟩ := h1
 have hsl : sl' = sl := by
   rw [h4] at h4'
   simpa using h4'.symm
 subst hsl
 have hgl := lt_of_heap h4
 have hsg : ∀ b, sl'.ownBlock = some b → b ≠ g := fun b hb => by obtain ⟨ds, hc⟩ := owns_type h5 hb; exact type_ne hc h4 (by decide)
 have hsl : ∀ b, sl'.ownBlock = some b → b < w.heap.size := fun b hb => (h5.lt b hb).2
 have hk4 : ∀ b, b ≠ g → (w3.setCell ⟨g, 1, none⟩ v').heap[b]? = w3.heap[b]? := fun b hb => heap_setCell_other _ _ _ _ hb
 have hs4 : (w3.setCell ⟨g, 1, none⟩ v').heap.size = w3.heap.size := by simp [World.setCell]
 have hsz := hk.size
 have hg3 : w3.heap[g]? = some (.cells #[.bool v.dict, sl'] 84 (0, 0)) := hk.obj h4 (fun e => hsg g e rfl)
 have hvg : ∀ b, v'.ownBlock = some b → b ≠ g := fun b hb => by obtain ⟨ds, hc⟩ := owns_type hO hb; exact type_ne hc hg3 (by decide)
 have hpg : p ≠ g := type_ne h.blk h4 (by decide)
 have hps : sl'.ownBlock ≠ some p := fun e => by obtain ⟨ds, hc⟩ := owns_type h5 e; exact type_ne hc h.blk (by decide) rfl
 have hFg : ∀ b, F b → b ≠ g := fun b hb => by obtain ⟨_, _, ds, hc⟩ := h.fb b hb; exact type_ne hc h4 (by decide)
 have hFs : Stays F w (w3.setCell ⟨g, 1, none⟩ v') := ⟨by omega, fun b hb hf => by rw [hk4 b (hFg b hf), hk.block b hb (fun e => (h7 b e).1 hf)]⟩
 have hob : ∀ b, osl.ownBlock = some b → b ≠ g ∧ sl'.ownBlock ≠ some b ∧ b < w.heap.size := fun b hb => by
   obtain ⟨ds, hc⟩ := owns_type h.own hb
   exact ⟨type_ne hc h4 (by decide), fun e => by obtain ⟨es, hd⟩ := owns_type h5 e; exact type_ne hc hd (by decide) rfl, (h.own.lt b hb).2⟩
 refine ⟨⟨g :: t, osl, by rw [hk4 p hpg, hk.block p h.lt hps]; exact h.blk, h.base, h.gp, owns_heap h.own fun b hb => ?_, h.go, ?_, fun b hb => ?_, fun b hb => by have := h.gb b hb; omega, ?_, h.row, h.small, h.deep⟩, ⟨by omega, fun b hb hG => ?_⟩, hFs, fun _ h => h⟩
 · rw [hk4 b (hob b hb).1, hk.block b (hob b hb).2.2 (hob b hb).2.1]
 · refine ⟨g, t, v', cs ++ pvC x sx, rfl, h2, h3, heap_setCell_same w3 g 1 _ _ _ hg3, ?_, ?_, fun b hb => ?_, ?_⟩
   · show World.ownsRow _ _ _ _ _ (v.l ++ [x]).length _
     rw [List.length_append]
     exact owns_heap hO fun b hb => hk4 b (hvg b hb)
   · exact (IsVs.keep hFs (fun _ h => h) _ h6).snoc (IsV.keep hFs (fun _ h => h) _ hx)
   · rcases hN b hb with e | e
     · exact h7 b e
     · exact ⟨fun hf => by have := h.Flt hf; omega, fun hG => by have := (h.gb b hG).2; omega⟩
   · refine h8.keep' hFs (fun _ h => h) (fun b hb hn hl => ?_) (fun b hb => .inl hb) (fun b hb => ?_)
     · rw [hk4 b (fun e => hn (.inr (.inl e))), hk.block b hb (fun e => hn (.inr (.inr e)))]
     · rcases hb with hb | hb | hb
       · exact .inl (.inl hb)
       · exact .inl (.inr (.inl hb))
       · rcases hN b hb with e | e
         · exact .inl (.inr (.inr e))
         · exact .inr e
 · obtain ⟨k1, k2, ds, k3⟩ := h.fb b hb
   exact ⟨k1, k2, ds, by rw [hFs.2 b (h.Flt hb) hb]; exact k3⟩
 · have h9 := h.bel.size
   refine h.bel.trans (Below.setCell (w := w3) (a := w) (p := ⟨g, 1, none⟩) ⟨hk.os, hk.tape, hk.output, hsz, fun b hb => hk.block b (by omega) (fun e => by have := (h5.lt b e).1; omega)⟩ h2 _)
 · rw [hk4 b (fun e => h3 (e ▸ hG)), hk.block b hb (fun e => (h7 b e).2 hG)]
end
theorem ELvp : ElemT Tryz.prog 75 81 (.pointer none) 1 8 := ⟨Tryz.underlying75, by kernel_rfl, rfl, by omega⟩
section
variable {w0 w w' : World} {F F' G : Nat → Prop} {p : Nat} {a : Option Addr} {cap : Nat} {bs : List UInt8} {last : Bool} {st : List Lv} {at_ : Int} {gs : List Nat} {osl : Value}
theorem Nxt.refl (h : IsStk w0 w F G p a cap bs last st at_ gs osl) (hb : Below w.heap.size w w') : Nxt w0 w F G p a cap bs last st at_ F w' :=
 ⟨⟨_, _, h.mono hb⟩, Stays.of_below hb, Stays.of_below hb, fun _ h => h⟩
theorem row_newP (w : World) (x : Value) (e : TypeId) {b : Nat} (h : b = w.heap.size) : Row (w.alloc (.cells #[x] e)) 1 (some ⟨b, 0, none⟩) 1 1 [x] := by subst h; exact row_new1 w x e
theorem owns_some {w : World} {base e sz : Nat} {v : Value} {n : Nat} {xs : List Value} (h : w.ownsRow base e sz v (n + 1) xs) (_ : 0 < sz) : ∃ g cap, v = .slice (some ⟨g, 0, none⟩) (n + 1) cap := by
 rcases h.2 with ⟨-, h0⟩ | ⟨g, cap, cur, rfl, -⟩
 · cases h0
 · exact ⟨g, cap, rfl⟩
theorem IsStk.keepP (h : IsStk w0 w F G p a cap bs last st at_ gs osl) {W1 w2 : World} (hb : Below w.heap.size w W1) (hg : W1.grownBy w2 osl.ownBlock) :
   w2.heap[p]? = some (.cells #[.slice a bs.length cap, .int .i64 at_, .bool last, osl] 77 (0, 0)) :=
 (hg.block p (Nat.lt_of_lt_of_le h.lt hb.size) (fun e => h.ownp e.symm rfl)).trans (block_keep hb h.blk)
theorem begin_any (h : IsStk w0 w F G p a cap bs last st at_ gs osl) (d : Bool) : Calls Tryz.prog 65 #[.pointer (some ⟨p, 0, none⟩), .bool d] w fun e w' =>
   e = .returned (.int .i64 (beginV st d).2) ∧ Nxt w0 w F G p a cap bs last (beginV st d).1 at_ F w' := by
 obtain ⟨R, hR⟩ : ∃ R, R = beginV st d := ⟨_, rfl⟩
 rw [← hR]
 unfold beginV at hR
 have HR := Lib.hid hR
 have HTOP := Lib.hid (top_any h)
 have HTP := Lib.hid (fun q => (h.drewN q).top)
 have HS := Lib.hid h
 have hdp := h.deep
 clear h hR
 go_enter Tryz.func65, Tryz.ntmps65
 go_wp2_with fail
 refine HTOP.out.mono ?_
 rintro e w1 ⟨rfl, q, rfl⟩
 have HS1 := Lib.hid (HS.out.drewN q)
 go_upto_region 2 with fail
 go_cut [13] from 6 (fun v13 wx => v13 = .bool (topW st) ∧ w.drewN q = wx)
 case first =>
   rcases HTP.out q with ⟨rfl, rfl⟩ | ⟨v, st', g, t', sa, sc, rfl, rfl, h1, h2, h3⟩
   · unfold topP
     go_wp2
     go_meet
     exact ⟨rfl, rfl⟩
   · have HWT := Lib.hid (wants_any h3 (by omega))
     have HTW := Lib.hid (show topW (v :: st') = (v.dict && v.l.length % 2 == 0) from rfl)
     unfold topP
     generalize (v.dict && v.l.length % 2 == 0) = tw at *
     clear h1 h2 h3
     go_wp2_with (go_at_call 94; refine HWT.out.mono ?_; rintro e w' ⟨rfl, rfl⟩)
     go_meet
     exact ⟨by rw [HTW.out], rfl⟩
 case rest =>
   obtain ⟨rfl, rfl⟩ := hcut
   obtain ⟨tw, htw⟩ : ∃ tw, tw = topW st := ⟨_, rfl⟩
   rw [← htw]
   have HTW := Lib.hid htw
   clear htw
   cases tw with
   | true =>
     have hr2 := HR.out
     rw [if_pos HTW.out.symm] at hr2
     have HR2 := Lib.hid hr2
     clear hr2 HR
     go_wp2
     go_ret
     rw [HR2.out]
     exact ⟨rfl, Nxt.refl HS.out (below_drewN (Below.refl _ _) q)⟩
   | false =>
     have hr2 := HR.out
     rw [if_neg (by rw [← HTW.out]; decide)] at hr2
     have HRX := Lib.hid hr2
     obtain ⟨ao, oc, rfl, hro1, hro2⟩ := owns_slice HS1.out.own
     obtain ⟨⟨c0, c1, c2, c3⟩, f0, f1, f2, f3⟩ := HS1.out.cells
     clear hr2 HR
     by_cases h64 : 64 ≤ st.length
     · have hd : decide (64 ≤ st.length) = true := decide_eq_true h64
       have hd2 : decide ((64 : Int) ≤ (st.length : Int)) = true := decide_eq_true (by omega)
       have hr2 := HRX.out
       rw [if_pos h64] at hr2
       have HR2 := Lib.hid hr2
       clear hr2 h64
       go_wp2
       go_ret
       rw [HR2.out]
       exact ⟨rfl, Nxt.refl HS.out (below_drewN (Below.refl _ _) q)⟩
     · have hd : decide (64 ≤ st.length) = false := decide_eq_false h64
       have hd2 : decide ((64 : Int) ≤ (st.length : Int)) = false := decide_eq_false (by omega)
       have hr2 := HRX.out
       rw [if_neg h64] at hr2
       have HR2 := Lib.hid hr2
       have hsl : st.length < 64 := by omega
       clear hr2 h64
       go_wp2_with (at_builtin; refine append_at ELvp rfl _ _ rfl w0.heap.size _ st.length (ptrs gs) rfl (ownsRow_keep HS1.out.own (belowA2 _ _ _)) _ 1 1 [.pointer (some ⟨w.heap.size, 0, none⟩)] rfl (row_newP _ _ _ (by rw [sizeA]; rfl)) (one_mem rfl) (by unfold maxLen; omega) (by omega) (by rw [sizeA, sizeA]; have := HS1.out.bel.size; omega) ?_; intro v2 w2 hO hg hN; obtain ⟨g2, oc2, rfl⟩ := owns_some hO (by omega); obtain ⟨⟨k0, k1, k2, k3⟩, l0, l1, l2, l3⟩ := cells4 (HS1.out.keepP (belowA2 _ _ _) hg))
       go_ret
       rw [HR2.out]
       have hN := HS1.out.push d hsl _ hO hg hN
       exact ⟨rfl, hN.stk, hN.sg, hN.sf, hN.ff⟩
end
def cmpS (a b : List UInt8) : Int := if sLt a b = true then -1 else if sLt b a = true then 1 else 0
theorem isNaNS_any (a : ByteArray) (w : World) : Calls Tryz.prog 140 #[.string a] w fun e w' => e = .returned (.bool false) ∧ w = w' := by
 go_enter Tryz.func140, Tryz.ntmps140
 go_wp2
 go_ret
 exact ⟨ret_bool (by simp), rfl⟩
theorem cmpS_any (a b : List UInt8) (w : World) : Calls Tryz.prog 121 #[.string (mkB a), .string (mkB b)] w fun e w' => e = .returned (.int .i64 (cmpS a b)) ∧ w = w' := by
 have hl : Op.bytesLess (mkB a).toList (mkB b).toList = sLt a b := by rw [toList_mkB, toList_mkB, less_mkB]
 have hg : ¬ sLt a b = true → (Op.bytesLess (mkB a).toList (mkB b).toList || (mkB a).toList == (mkB b).toList) = !sLt b a := fun h => by
   rw [toList_mkB, toList_mkB, less_mkB]
   have h' : sLt a b = false := by simpa using h
   rw [h', Bool.false_or]
   by_cases e : a = b
   · subst e; simp [sLt_ir]
   · rw [sLt_tri a b h' e]; simp [e]
 have HN := Lib.hid (fun (a : ByteArray) (w : World) => isNaNS_any a w)
 unfold cmpS
 by_cases h1 : sLt a b = true
 · rw [if_pos h1]
   rw [h1] at hl
   clear hg h1
   generalize mkB a = x at *
   generalize mkB b = y at *
   go_enter Tryz.func121, Tryz.ntmps121
   go_wp2_with (go_at_call 140; refine (HN.out _ _).mono ?_; rintro e w' ⟨rfl, rfl⟩)
   go_ret
   exact ⟨rfl, rfl⟩
 · rw [if_neg h1]
   have hg := hg h1
   rw [show sLt a b = false by simpa using h1] at hl
   by_cases h2 : sLt b a = true
   · rw [if_pos h2]
     rw [h2, hl, Bool.false_or] at hg
     clear h1 h2
     generalize mkB a = x at *
     generalize mkB b = y at *
     simp only [Bool.not_true] at hg
     go_enter Tryz.func121, Tryz.ntmps121
     go_wp2_with (go_at_call 140; refine (HN.out _ _).mono ?_; rintro e w' ⟨rfl, rfl⟩)
     go_ret
     exact ⟨rfl, rfl⟩
   · rw [if_neg h2]
     rw [show sLt b a = false by simpa using h2, hl, Bool.false_or] at hg
     clear h1 h2
     generalize mkB a = x at *
     generalize mkB b = y at *
     simp only [Bool.not_false] at hg
     go_enter Tryz.func121, Tryz.ntmps121
     go_wp2_with (go_at_call 140; refine (HN.out _ _).mono ?_; rintro e w' ⟨rfl, rfl⟩)
     go_ret
     exact ⟨rfl, rfl⟩
theorem cmpPair_any {w : World} {b o1 o2 n1 n2 c1 c2 : Nat} {x y : List UInt8} (h1 : w.cell? ⟨b, o1 + 2, none⟩ = some (.string (mkB x))) (h2 : w.cell? ⟨b, o2 + 2, none⟩ = some (.string (mkB y))) (g1 : 0 < n1) (g2 : 0 < n2) :
   Calls Tryz.prog 120 #[.slice (some ⟨b, o1, none⟩) n1 c1, .slice (some ⟨b, o2, none⟩) n2 c2] w fun e w' => e = .returned (.int .i64 (cmpS x y)) ∧ ∃ q, w' = w.drewN q := by
 have HC := Lib.hid (fun W => cmpS_any x y W)
 generalize cmpS x y = c at *
 generalize mkB x = x' at *
 generalize mkB y = y' at *
 have i1 : (0 : Int) < (n1 : Int) := by omega
 have i2 : (0 : Int) < (n2 : Int) := by omega
 go_enter Tryz.func120, Tryz.ntmps120
 go_wp2
 go_quiet ((go_at_call 121; exact Calls.quiet_of ((HC.out _).mono fun _ _ h => ⟨h.1, 0, h.2.symm⟩)))
 go_wp2
 go_ret
 exact ⟨rfl, _, rfl⟩
end Go.Proofs.YtnkodejgiabamaaGreatDoor
namespace Go.Proofs.YtnkodejgiabamaaGreatDoor
open Go.RowKit Go.Sort
structure SB {α : Type} (enc : α → Value) (w0 : World) (g : Nat) (t : TypeId) (rest : List Value) (d : Array α) (w : World) : Prop where
 grown : w0.grownBy w (some g)
 blk : w.heap[g]? = some (.cells (d.toList.map enc ++ rest).toArray t (0, 0))
section
variable {α : Type} {enc : α → Value} {w0 w : World} {g : Nat} {t : TypeId} {rest : List Value} {d : Array α}
theorem SB.cell [Inhabited α] (h : SB enc w0 g t rest d w) (i : Nat) (hi : i < d.size) : w.cell? ⟨g, i, none⟩ = some (enc d[i]!) := by
 rw [cell_of_row w g i _ t (0, 0) h.blk]
 simp [List.getElem?_append, hi]
theorem SB.free (h : SB enc w0 g t rest d w) (i : Nat) : w.frozen? ⟨g, i, none⟩ = false := frozen_of_row w g i _ t h.blk
theorem SB.drewN (h : SB enc w0 g t rest d w) (n : Nat) : SB enc w0 g t rest d (w.drewN n) := ⟨⟨h.grown.os, h.grown.tape, h.grown.output, h.grown.size, h.grown.block⟩, h.blk⟩
theorem grownBy_setCell {w0 w : World} {g i : Nat} (h : w0.grownBy w (some g)) (v : Value) : w0.grownBy (w.setCell ⟨g, i, none⟩ v) (some g) :=
 ⟨h.os, h.tape, h.output, by simp [World.setCell]; exact h.size, fun k hk hne => by rw [heap_setCell_other w ⟨g, i, none⟩ k v (fun e => hne (by simp [e]))]; exact h.block k hk hne⟩
theorem grownBy_refl (w : World) (row : Option Nat) : w.grownBy w row := ⟨rfl, rfl, rfl, Nat.le_refl _, fun _ _ _ => rfl⟩
theorem grownBy_drewN {w0 w : World} {row : Option Nat} (h : w0.grownBy w row) (n : Nat) : w0.grownBy (w.drewN n) row := ⟨h.os, h.tape, h.output, h.size, h.block⟩
theorem SB.set (h : SB enc w0 g t rest d w) (i : Nat) (hi : i < d.size) (x : α) : SB enc w0 g t rest (d.setIfInBounds i x) (w.setCell ⟨g, i, none⟩ (enc x)) := by
 refine ⟨grownBy_setCell h.grown _, ?_⟩
 rw [heap_setCell_same w g i _ t _ h.blk, List.setIfInBounds_toArray, List.set_append]
 simp [hi, List.map_set]
theorem SB.swp [Inhabited α] (h : SB enc w0 g t rest d w) (i j : Nat) (hi : i < d.size) (hj : j < d.size) (q : Nat) :
   SB enc w0 g t rest (swp d i j) (((w.drewN q).setCell ⟨g, i, none⟩ (enc d[j]!)).setCell ⟨g, j, none⟩ (enc d[i]!)) :=
 ((h.drewN q).set i hi _).set j (by simpa using hj) _
theorem SB.row (h : SB enc w0 g t rest d w) {cap : Nat} (h1 : d.size ≤ cap) (h2 : cap ≤ maxLen) : Row w 1 (some ⟨g, 0, none⟩) d.size cap (d.toList.map enc) := by
 refine ⟨by simp, h1, h2, fun e => (by cases e), fun _ => ⟨g, 0, rfl, (Array.getElem?_eq_some_iff.1 h.blk).1, fun j u hj => ?_⟩⟩
 rw [Nat.zero_add, cell_of_row w g j _ t (0, 0) h.blk]
 have hjl := (List.getElem?_eq_some_iff.1 hj).1
 rw [List.getElem?_toArray, List.getElem?_append_left hjl]; exact hj
theorem SB.start {cs : Array Value} {n : Nat} (hb : w.heap[g]? = some (.cells cs t (0, 0))) (hx : cs.toList.take n = d.toList.map enc) : SB enc w g t (cs.toList.drop n) d w :=
 ⟨⟨rfl, rfl, rfl, Nat.le_refl _, fun _ _ _ => rfl⟩, by rw [← hx, List.take_append_drop]; exact hb⟩
end
structure CmpQ {α : Type} (P : Program) (f : FuncId) (cb : Array Value) (enc : α → Value) (cf : α → α → Int) (D : α → Prop) (w0 : World) (g : Nat) : Prop where
 enters : ∀ args w, (callFunc f args).run P w = .ok (.enter f args) w
 calls : ∀ W, w0.grownBy W (some g) → ∀ x y, D x → D y → Calls P f (#[enc x, enc y] ++ cb) W fun e w' => e = .returned (.int .i64 (cf x y)) ∧ ∃ q, w' = W.drewN q
def ltOf {α : Type} (cf : α → α → Int) (x y : α) : Bool := decide (cf x y < 0)
section
variable {α : Type} [Inhabited α] (lt : α → α → Bool)
theorem inner_go (a j : Nat) (d : Array α) (hj : a < j) (hl : lt d[j]! d[j - 1]! = true) : insInner lt a j d = insInner lt a (j - 1) (swp d j (j - 1)) := by
 rcases j with _ | k
 · omega
 · have h1 : (decide (k + 1 > a) && lt d[k + 1]! d[k]!) = true := by simp only [Nat.add_sub_cancel] at hl; simp [hl, hj]
   rw [insInner, if_pos h1]; rfl
theorem inner_stop (a j : Nat) (d : Array α) (h : j ≤ a ∨ lt d[j]! d[j - 1]! = false) : insInner lt a j d = d := by
 rcases j with _ | k
 · rfl
 · rw [insInner, if_neg]
   simp only [Nat.add_sub_cancel] at h
   rcases h with h | h
   · simp; omega
   · simp [h]
theorem outer_go (a b i : Nat) (d : Array α) (h : i < b) : insOuter lt a b i d = insOuter lt a b (i + 1) (insInner lt a i d) := by rw [insOuter, if_pos h]
theorem outer_stop (a b i : Nat) (d : Array α) (h : ¬ i < b) : insOuter lt a b i d = d := by rw [insOuter, if_neg h]
end
end Go.Proofs.YtnkodejgiabamaaGreatDoor
namespace Go.Proofs.YtnkodejgiabamaaGreatDoor
open Go.RowKit Go.Shelf
attribute [local go_sem] Oper.semAt_some
def partC (b off : Nat) (k : Nat) : Value := .slice (some ⟨b, off + 2 * k * 4, none⟩) 2 2
theorem staysK_t {S : Nat → Prop} {A B C : World} (h : Stays S A B) (k : Stays S B C) : Stays S A C := h.trans k
theorem staysK_b {S : Nat → Prop} {w : World} (hS : ∀ b, S b → b < w.heap.size) (W : World) (l : Nat) (o o' : Obj) (hl : w.heap.size ≤ l) (_ : W.heap[l]? = some o) (_ : o.isCells = false) (_ : o.isWalk = false) : Stays S W (W.putObj l o') :=
 ⟨by simp, fun b _ hb => World.putObj_heap_other (fun e => by have := hS b hb; omega)⟩
theorem chunk_in (_ : Fence.wide.fn 118) (n : Nat) (a : Option Addr) (len cap : Nat) (w : World) :
   CallsIn Fence.wide n Tryz.prog 118 #[.slice a len cap, .int .i64 2] w fun e w' => e = .returned (.func (.func 138) #[] #[.pointer (some ⟨w.heap.size, 0, none⟩), .pointer (some ⟨w.heap.size + 1, 0, none⟩)]) ∧
     w' = (w.alloc (.cells #[.slice a len cap] 22)).alloc (.cells #[.int .i64 2] 3) := by
 refine callsIn_wide.2 ?_
 go_enter Tryz.func118, Tryz.ntmps118
 go_wp2
 go_ret
 exact ⟨rfl, rfl⟩
set_option maxRecDepth 100000 in
theorem chunk1_in (n : Nat) (hro : Fence.wide.round = none) (hn : 1 ≤ n) (l Bs Bn b off m cap : Nat) (hcap : 2 * m ≤ cap) (hcm : cap ≤ maxLen) (J Jx : List Nat → World → Prop) (hJd : ∀ s W q, J s W → J s (W.drewN q))
   (hY : ∀ pre x W, J pre W → pre.length < m → YieldAt Fence.wide (n - 1) Tryz.prog l #[partC b off x] W fun e W' =>
     (e = .returned (.bool true) ∧ J (pre ++ [x]) W' ∧ Stays (fun c => c = Bs ∨ c = Bn) W W') ∨ (e = .returned (.bool false) ∧ Jx (pre ++ [x]) W'))
   (W : World) (hBs : W.cell? ⟨Bs, 0, none⟩ = some (.slice (some ⟨b, off, none⟩) (2 * m) cap)) (hBn : W.cell? ⟨Bn, 0, none⟩ = some (.int .i64 2)) (h0 : J [] W) :
   CallsIn Fence.wide n Tryz.prog 138 #[.func (.yield l) #[] #[], .pointer (some ⟨Bs, 0, none⟩), .pointer (some ⟨Bn, 0, none⟩)] W fun e W' => (∃ v, e = .returned v) ∧
     ((∃ ys, ys = List.range m ∧ J ys W') ∨ (∃ pre, (∃ k, k ≤ m ∧ pre = List.range k) ∧ Jx pre W')) := by
 unfold maxLen at hcm
 refine callsIn_of_wp Tryz.func138 rfl trivial ?_ hro
 simp only [Tryz.ntmps138, List.size_toArray, List.length_cons, List.length_nil, Nat.reduceAdd, Nat.reduceSub, Array.replicate_succ, Array.replicate_zero, List.push_toArray, List.append_toArray, List.nil_append, List.cons_append]
 gi_wp2
 gi_loopw [4] (fun i wr => ∃ k : Nat, k ≤ m ∧ i = .int .i64 (2 * (k : Int)) ∧ J (List.range k) wr ∧ Stays (fun c => c = Bs ∨ c = Bn) W wr)
   (fun i _ => 2 * m - (intOf i).toNat)
 case atStart => exact ⟨0, Nat.zero_le _, rfl, h0, Stays.refl _ _⟩
 case round =>
   obtain ⟨k, hk, rfl, hJs, hnx⟩ := hrel
   have e1 : wr.cell? ⟨Bs, 0, none⟩ = some (.slice (some ⟨b, off, none⟩) (2 * m) cap) := (World.cell?_of_block (hnx.2 Bs (World.block_lt_of_cell? W _ hBs) (.inl rfl))).trans hBs
   have e2 : wr.cell? ⟨Bn, 0, none⟩ = some (.int .i64 2) := (World.cell?_of_block (hnx.2 Bn (World.block_lt_of_cell? W _ hBn) (.inr rfl))).trans hBn
   by_cases hlt : k < m
   · have d1 : decide (2 * (k : Int) < ((2 * m : Nat) : Int)) = true := decide_eq_true (by omega)
     have HJ := Lib.hid hJs
     have HY := Lib.hid hY
     have HJD := Lib.hid hJd
     clear hJs hY hJd
     gi_wp2
     refine wpIn_wide.2 ?_
     have i1 : (0 : Int) ≤ 2 * (k : Int) := by omega
     have i2 : (2 * (k : Int)).toNat = 2 * k := by omega
     have i3 : (2 * (k : Int)) ≤ (cap : Int) := by omega
     have i4 : 2 * k ≤ 2 * m := by omega
     go_quiet (fail)
     obtain ⟨fn, tmps, assign, body, hy, hR⟩ := HY.out _ k (wr.drewN nq) (HJD.out _ _ nq HJ.out) (by simpa using hlt)
     unfold partC at hy
     have i5 : 2 * (k : Int) + 2 ≤ (cap : Int) := by omega
     have i6 : (2 * (k : Int) + 2).toNat = 2 * k + 2 := by omega
     have i7 : (0 : Int) ≤ 2 * (k : Int) + 2 := by omega
     have i8 : 2 * (k : Int) ≤ 2 * (k : Int) + 2 := by omega
     gi_wp2
     refine hR.mono ?_
     rintro e W3 (⟨rfl, hJ3, hk3⟩ | ⟨rfl, hJx3⟩)
     · have g1 : W3.cell? ⟨Bs, 0, none⟩ = some (.slice (some ⟨b, off, none⟩) (2 * m) cap) := (World.cell?_of_block (hk3.2 Bs (World.block_lt_of_cell? (wr.drewN nq) _ e1) (.inl rfl))).trans e1
       have g2 : W3.cell? ⟨Bn, 0, none⟩ = some (.int .i64 2) := (World.cell?_of_block (hk3.2 Bn (World.block_lt_of_cell? (wr.drewN nq) _ e2) (.inr rfl))).trans e2
       have HJ3 := Lib.hid hJ3
       have HK3 := Lib.hid (hnx.trans (show Stays (fun c => c = Bs ∨ c = Bn) wr W3 from hk3))
       clear hJ3 hk3
       gi_wp2
       go_roundw
       case rel => exact ⟨k + 1, by omega, by congr 1, by rw [List.range_succ]; exact HJ3.out, HK3.out⟩
       case measure => simp [intOf]; omega
     · gi_wp2
       refine bodyPost_ret (results_none rfl _ _ _) rfl ?_
       exact ⟨⟨_, rfl⟩, .inr ⟨_, ⟨k + 1, by omega, by rw [List.range_succ]⟩, hJx3⟩⟩
   · obtain rfl : k = m := by omega
     have d1 : decide (2 * (k : Int) < ((2 * k : Nat) : Int)) = false := decide_eq_false (by omega)
     gi_wp2
     go_end0
     exact ⟨⟨_, rfl⟩, .inl ⟨_, rfl, hJs⟩⟩
theorem chunk0_in (n : Nat) (hro : Fence.wide.round = none) (l Bs Bn : Nat) (a : Option Addr) (cap : Nat) (J : List Nat → World → Prop) (W : World) (hBs : W.cell? ⟨Bs, 0, none⟩ = some (.slice a 0 cap)) (h0 : J [] W) :
   CallsIn Fence.wide n Tryz.prog 138 #[.func (.yield l) #[] #[], .pointer (some ⟨Bs, 0, none⟩), .pointer (some ⟨Bn, 0, none⟩)] W fun e W' => (∃ v, e = .returned v) ∧ J [] W' := by
 refine callsIn_of_wp Tryz.func138 rfl trivial ?_ hro
 simp only [Tryz.ntmps138, List.size_toArray, List.length_cons, List.length_nil, Nat.reduceAdd, Nat.reduceSub, Array.replicate_succ, Array.replicate_zero, List.push_toArray, List.append_toArray, List.nil_append, List.cons_append]
 gi_wp2
 gi_loopw [4] (fun i wr => i = .int .i64 0 ∧ wr.cell? ⟨Bs, 0, none⟩ = some (.slice a 0 cap) ∧ J [] wr) (fun _ _ => 0)
 case atStart => exact ⟨rfl, hBs, h0⟩
 case round =>
   obtain ⟨rfl, hb, hJs⟩ := hrel
   gi_wp2
   go_end0
   exact ⟨⟨_, rfl⟩, hJs⟩
theorem chunk_stops (n : Nat) (hro : Fence.wide.round = none) (hn : 1 ≤ n) (Bs Bn b off m cap : Nat) (a : Option Addr) (ha : 0 < m → a = some ⟨b, off, none⟩) (hcap : 2 * m ≤ cap) (hcm : cap ≤ maxLen) (w : World) (hBs : Bs < w.heap.size) (hBn : Bn < w.heap.size)
   (h1 : w.cell? ⟨Bs, 0, none⟩ = some (.slice a (2 * m) cap)) (h2 : w.cell? ⟨Bn, 0, none⟩ = some (.int .i64 2)) :
   SeqStopsK Fence.wide n Tryz.prog 138 #[.pointer (some ⟨Bs, 0, none⟩), .pointer (some ⟨Bn, 0, none⟩)] (fun x : Nat => #[partC b off x]) (Stays (fun c => c = Bs ∨ c = Bn)) (fun ys => ys = List.range m) (fun pre => ∃ k, k ≤ m ∧ pre = List.range k) m w := by
 intro l J Jx W hW hJ _ hY h0
 have e1 := (hW.cell (p := ⟨Bs, 0, none⟩) hBs).trans h1
 have e2 := (hW.cell (p := ⟨Bn, 0, none⟩) hBn).trans h2
 rcases Nat.eq_zero_or_pos m with rfl | hm
 · exact (chunk0_in n hro l Bs Bn a cap J W e1 h0).mono fun e W' ⟨he, hj⟩ => ⟨he, .inl ⟨_, rfl, hj⟩⟩
 · rw [ha hm] at e1
   exact chunk1_in n hro hn l Bs Bn b off m cap hcap hcm J Jx (fun s W1 q hs => hJ s W1 (W1.drewN q) none hs (grownBy_drewN (grownBy_refl W1 none) q) (fun r e => by cases e)) hY W e1 e2 h0
end Go.Proofs.YtnkodejgiabamaaGreatDoor
namespace Go.Proofs.YtnkodejgiabamaaGreatDoor
open Go.Sort
def ltI (p : List (PV × PV)) (i j : Nat) : Bool := sLt p[i]!.1.s p[j]!.1.s || (p[i]!.1.s == p[j]!.1.s && decide (i < j))
def insI (p : List (PV × PV)) (k : Nat) : List Nat → List Nat
 | [] => [k]
 | j :: l => if sLt p[j]!.1.s p[k]!.1.s then j :: insI p k l else k :: j :: l
def sortI (p : List (PV × PV)) : List Nat → List Nat
 | [] => []
 | k :: l => insI p k (sortI p l)
theorem sLt_nt {a b c : List UInt8} (h1 : sLt a b = false) (h2 : sLt b c = false) : sLt a c = false := by
 cases h : sLt a c with
 | false => rfl
 | true =>
   by_cases hab : a = b
   · subst hab; rw [h] at h2; cases h2
   · have := sLt_tr b a c (sLt_tri a b h1 hab) h
     rw [this] at h2; cases h2
theorem ltI_swo (p : List (PV × PV)) : SWO (ltI p) where
 irrefl x := by simp [ltI, sLt_ir]
 trans x y z h1 h2 := by
   unfold ltI at *
   simp only [Bool.or_eq_true, Bool.and_eq_true, beq_iff_eq, decide_eq_true_eq] at *
   generalize p[x]!.1.s = a at *
   generalize p[y]!.1.s = b at *
   generalize p[z]!.1.s = c at *
   rcases h1 with h1 | ⟨h1, h3⟩
   · rcases h2 with h2 | ⟨h2, h4⟩
     · exact .inl (sLt_tr _ _ _ h1 h2)
     · subst h2; exact .inl h1
   · subst h1
     rcases h2 with h2 | ⟨h2, h4⟩
     · exact .inl h2
     · exact .inr ⟨h2, by omega⟩
 ntrans x y z h1 h2 := by
   unfold ltI at *
   simp only [Bool.or_eq_false_iff, Bool.and_eq_false_iff, beq_eq_false_iff_ne, decide_eq_false_iff_not] at *
   generalize p[x]!.1.s = a at *
   generalize p[y]!.1.s = b at *
   generalize p[z]!.1.s = c at *
   refine ⟨sLt_nt h1.1 h2.1, ?_⟩
   by_cases hac : a = c
   · subst hac
     right
     by_cases hab : a = b
     · subst hab
       have h3 := h1.2.resolve_left (fun h => h rfl)
       have h4 := h2.2.resolve_left (fun h => h rfl)
       omega
     · exact absurd (sLt_tri a b h1.1 hab) (by rw [h2.1]; simp)
   · exact .inl hac
theorem ltI_anti (p : List (PV × PV)) (x y : Nat) (h1 : ltI p x y = false) (h2 : ltI p y x = false) : x = y := by
 unfold ltI at *
 simp only [Bool.or_eq_false_iff, Bool.and_eq_false_iff, beq_eq_false_iff_ne, decide_eq_false_iff_not] at *
 generalize p[x]!.1.s = a at *
 generalize p[y]!.1.s = b at *
 by_cases hab : a = b
 · subst hab
   have h3 := h1.2.resolve_left (fun h => h rfl)
   have h4 := h2.2.resolve_left (fun h => h rfl)
   omega
 · exact absurd (sLt_tri a b h1.1 hab) (by rw [h2.1]; simp)
theorem insI_perm (p : List (PV × PV)) (k : Nat) : ∀ l, (insI p k l).Perm (k :: l)
 | [] => List.Perm.refl _
 | j :: l => by
   unfold insI
   split
   · exact ((insI_perm p k l).cons j).trans (List.Perm.swap k j l)
   · exact List.Perm.refl _
theorem sortI_perm (p : List (PV × PV)) : ∀ l, (sortI p l).Perm l
 | [] => List.Perm.refl _
 | k :: l => (insI_perm p k (sortI p l)).trans ((sortI_perm p l).cons k)
theorem insI_sorted (p : List (PV × PV)) (k : Nat) : ∀ l : List Nat, (∀ j ∈ l, k < j) → l.Pairwise (fun a b => ltI p b a = false) → (insI p k l).Pairwise (fun a b => ltI p b a = false)
 | [], _, _ => by simp [insI]
 | j :: l, hk, h => by
   have hs := ltI_swo p
   rw [List.pairwise_cons] at h
   unfold insI
   split
   · rename_i hj
     rw [List.pairwise_cons]
     refine ⟨fun x hx => ?_, insI_sorted p k l (fun x hx => hk x (List.mem_cons_of_mem _ hx)) h.2⟩
     rcases List.mem_cons.1 ((insI_perm p k l).mem_iff.1 hx) with rfl | hx
     · unfold ltI
       simp only [Bool.or_eq_false_iff, Bool.and_eq_false_iff, beq_eq_false_iff_ne]
       refine ⟨sLt_as _ _ hj, .inl fun e => ?_⟩
       rw [e, sLt_ir] at hj; cases hj
     · exact h.1 x hx
   · rename_i hj
     have hkj : ltI p j k = false := by
       unfold ltI
       simp only [Bool.or_eq_false_iff, Bool.and_eq_false_iff, decide_eq_false_iff_not]
       have := hk j List.mem_cons_self
       exact ⟨by simpa using hj, .inr (by omega)⟩
     rw [List.pairwise_cons, List.pairwise_cons]
     refine ⟨fun x hx => ?_, h⟩
     rcases List.mem_cons.1 hx with rfl | hx
     · exact hkj
     · exact hs.ntrans x j k (h.1 x hx) hkj
theorem sortI_sorted (p : List (PV × PV)) : ∀ l : List Nat, l.Pairwise (· < ·) → (sortI p l).Pairwise (fun a b => ltI p b a = false)
 | [], _ => List.Pairwise.nil
 | k :: l, h => by
   rw [List.pairwise_cons] at h
   exact insI_sorted p k _ (fun j hj => h.1 j ((sortI_perm p l).mem_iff.1 hj)) (sortI_sorted p l h.2)
theorem insI_map (p : List (PV × PV)) (k : Nat) : ∀ l : List Nat, (insI p k l).map (fun i => p[i]!) = insV p[k]! (l.map fun i => p[i]!)
 | [] => rfl
 | j :: l => by
   simp only [insI, List.map_cons, insV]
   split
   · rw [List.map_cons, insI_map p k l]
   · rfl
theorem sortI_map (p : List (PV × PV)) : ∀ l : List Nat, (sortI p l).map (fun i => p[i]!) = sortV (l.map fun i => p[i]!)
 | [] => rfl
 | k :: l => by
   simp only [sortI, List.map_cons, sortV]
   rw [insI_map, sortI_map p l]
theorem range_map (p : List (PV × PV)) : (List.range p.length).map (fun i => p[i]!) = p := by
 apply List.ext_getElem
 · simp
 · intro i h1 h2
   simp [h2]
theorem extract_all {A : Array Nat} {n : Nat} (h : A.size = n) : A.extract 0 n = A := by subst h; simp
theorem sorted_is (p : List (PV × PV)) (R : Array Nat) (hP : PermIn 0 p.length (Array.range p.length) R) (hS : SortedIn (ltI p) 0 p.length R) : R.toList.map (fun i => p[i]!) = sortV p := by
 have hz : (Array.range p.length).size = p.length := by simp
 have h1 := sorted_unique_holds (ltI_swo p) (ltI_anti p) (Array.range p.length) R (by rw [hz]; exact hP) (by rw [hz]; exact hS)
 have hJp := sortI_perm p (List.range p.length)
 have hJs := sortI_sorted p (List.range p.length) List.pairwise_lt_range
 have hJl : (sortI p (List.range p.length)).length = p.length := by rw [hJp.length_eq]; simp
 have h2 := sorted_unique_holds (ltI_swo p) (ltI_anti p) (Array.range p.length) (sortI p (List.range p.length)).toArray
   (by
     rw [hz]
     refine ⟨by simp [hJl], fun i hi => ?_, ?_⟩
     · rw [getElem!_neg _ _ (by simp [hJl]; omega), getElem!_neg _ _ (by simp; omega)]
     · rw [extract_all (by simpa using hJl), extract_all hz]
       simpa using hJp)
   (by
     rw [hz]
     intro i j _ hij hj
     have := List.pairwise_iff_getElem.1 hJs i j (by omega) (by omega) hij
     rw [getElem!_pos _ j (by simp [hJl]; omega), getElem!_pos _ i (by simp [hJl]; omega)]
     simpa using this)
 rw [h1, ← h2]
 show ((sortI p (List.range p.length)).toArray.toList).map _ = _
 rw [List.toList_toArray, sortI_map, range_map]
theorem sorted_perm {n : Nat} {R : Array Nat} (hP : PermIn 0 n (Array.range n) R) : R.size = n ∧ ∀ i, i < n → R[i]! < n := by
 have hz : R.size = n := by simpa using hP.1
 refine ⟨hz, fun i hi => ?_⟩
 have h := hP.2.2
 rw [extract_all hz, extract_all (by simp)] at h
 have hm : R[i]! ∈ R.toList := by rw [getElem!_pos R i (by omega)]; simp
 have := h.mem_iff.1 hm
 simpa using this
end Go.Proofs.YtnkodejgiabamaaGreatDoor
namespace Go.Proofs.YtnkodejgiabamaaGreatDoor
open Go.RowKit
theorem twoV_len : ∀ (m : Nat) (l : List PV), l.length = 2 * m → (twoV l).length = m
 | 0, l, h => by
   have : l = [] := List.eq_nil_of_length_eq_zero (by omega)
   subst this; rfl
 | m + 1, a :: b :: l, h => by simp only [twoV, List.length_cons]; rw [twoV_len m l (by simp at h; omega)]
 | m + 1, [a], h => by simp at h; omega
 | m + 1, [], h => by simp at h
theorem twoV_at : ∀ (m : Nat) (l : List PV), l.length = 2 * m → ∀ k, k < m → ∃ x y, l[2 * k]? = some x ∧ l[2 * k + 1]? = some y ∧ (twoV l)[k]! = (x, y)
 | 0, _, _, k, hk => by omega
 | m + 1, a :: b :: l, h, 0, _ => ⟨a, b, rfl, rfl, rfl⟩
 | m + 1, a :: b :: l, h, k + 1, hk => by
   obtain ⟨x, y, h1, h2, h3⟩ := twoV_at m l (by simp at h; omega) k (by omega)
   refine ⟨x, y, ?_, ?_, ?_⟩
   · rw [show 2 * (k + 1) = 2 * k + 1 + 1 by omega]; simpa using h1
   · rw [show 2 * (k + 1) + 1 = 2 * k + 1 + 1 + 1 by omega]; simpa using h2
   · simp only [twoV]
     rw [← h3]; simp
 | m + 1, [a], h, _, _ => by simp at h; omega
 | m + 1, [], h, _, _ => by simp at h
theorem twice_iff : ∀ L : List (PV × PV), twiceV L = true ↔ ∃ i, i + 1 < L.length ∧ L[i]!.1.s = L[i + 1]!.1.s
 | [] => by simp [twiceV]
 | [x] => by simp [twiceV]
 | x :: y :: l => by
   simp only [twiceV, Bool.or_eq_true, beq_iff_eq]
   rw [twice_iff (y :: l)]
   constructor
   · rintro (h | ⟨i, h1, h2⟩)
     · exact ⟨0, by simp, by simpa using h⟩
     · exact ⟨i + 1, by simp at h1 ⊢; omega, by simpa using h2⟩
   · rintro ⟨i, h1, h2⟩
     rcases i with _ | i
     · left; simpa using h2
     · right; exact ⟨i, by simp at h1 ⊢; omega, by simpa using h2⟩
theorem flatV_len : ∀ a : List (PV × PV), (flatV a).length = 2 * a.length
 | [] => rfl
 | (x, y) :: a => by simp only [flatV, List.length_cons]; rw [flatV_len a]; omega
def partX (cs : List Value) (k : Nat) : List Value := (cs.drop (k * 8)).take 8
theorem IsVs.drop {w : World} {F : Nat → Prop} : ∀ (k : Nat) {l : List PV} {cs : List Value}, IsVs w F l cs → IsVs w F (l.drop k) (cs.drop (k * 4))
 | 0, _, _, h => by simpa using h
 | k + 1, [], _, h => by cases h; simp [IsVs]
 | k + 1, v :: l, _, ⟨sl, t, h, hv, ht⟩ => by
   subst h
   have := ht.drop k
   rw [show (k + 1) * 4 = k * 4 + 4 by omega]
   simpa [pvC] using this
theorem IsVs.part {w : World} {F : Nat → Prop} {l : List PV} {cs : List Value} (h : IsVs w F l cs) {k : Nat} {x y : PV} (h1 : l[2 * k]? = some x) (h2 : l[2 * k + 1]? = some y) : IsVs w F [x, y] (partX cs k) := by
 have hd := h.drop (2 * k)
 obtain ⟨g1, e1⟩ := List.getElem?_eq_some_iff.1 h1
 obtain ⟨g2, e2⟩ := List.getElem?_eq_some_iff.1 h2
 rw [List.drop_eq_getElem_cons g1, List.drop_eq_getElem_cons g2, e1, e2] at hd
 obtain ⟨s1, t1, q1, v1, s2, t2, q2, v2, -⟩ := hd
 unfold partX
 rw [show k * 8 = 2 * k * 4 by omega, q1, q2]
 exact ⟨s1, pvC y s2, by simp [pvC], v1, s2, [], by simp, v2, rfl⟩
theorem parts_all {w : World} {F : Nat → Prop} {l : List PV} {cs : List Value} {m : Nat} (hm : l.length = 2 * m) (h : IsVs w F l cs) : ∀ qs : List Nat, (∀ k ∈ qs, k < m) → IsVs w F (flatV (qs.map fun k => (twoV l)[k]!)) (qs.flatMap (partX cs))
 | [], _ => rfl
 | k :: qs, hq => by
   obtain ⟨x, y, h1, h2, h3⟩ := twoV_at m l hm k (hq k List.mem_cons_self)
   have := parts_all hm h qs fun j hj => hq j (List.mem_cons_of_mem _ hj)
   simp only [List.map_cons, List.flatMap_cons]
   rw [h3]
   exact (h.part h1 h2).append this
end Go.Proofs.YtnkodejgiabamaaGreatDoor
