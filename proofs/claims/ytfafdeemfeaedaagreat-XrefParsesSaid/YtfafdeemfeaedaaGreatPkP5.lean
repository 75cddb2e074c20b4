/-
  Our texts Xr1 to DocP, in one.
-/
import Derived.Test.YtfafdeemfeaedaaGreatPkP4
import Derived.Deep.QuietTactic
import Derived.BigQuiet
import Derived.Deep.LoopGhost
import Derived.Deep.CutBlock
set_option maxRecDepth 8000
set_option maxHeartbeats 8000000
namespace Go.Proofs.YtfafdeemfeaedaaGreat
open Go.RowKit
structure IsRd (w0 w : World) (p : Nat) (a : Option Addr) (cap : Nat) (bs : List UInt8) (last : Bool) (at_ : Int) : Prop where
 blk : w.heap[p]? = some (.cells #[.slice a bs.length cap, .int .i64 at_, .bool last] 103 (0, 0))
 new : w0.heap.size ≤ p
 row : Row w0 1 a bs.length cap (bs.map u8C)
 bel : Below w0.heap.size w0 w
 small : bs.length ≤ 400000
theorem set3 {w : World} {b : Nat} {x0 x1 x2 : Value} {t : TypeId} (h : w.heap[b]? = some (.cells #[x0, x1, x2] t (0, 0))) (y : Value) : (w.setCell ⟨b, 1, none⟩ y).heap[b]? = some (.cells #[x0, y, x2] t (0, 0)) := by
 rw [heap_setCell_same w b 1 _ _ _ h]; rfl
section
variable {w0 w w' : World} {p : Nat} {a : Option Addr} {cap : Nat} {bs : List UInt8} {last : Bool} {at_ : Int}
theorem IsRd.lt (h : IsRd w0 w p a cap bs last at_) : p < w.heap.size := lt_of_heap h.blk
theorem IsRd.mono (h : IsRd w0 w p a cap bs last at_) (hb : Below w.heap.size w w') : IsRd w0 w' p a cap bs last at_ :=
 ⟨block_keep hb h.blk, h.new, h.row, h.bel.trans (hb.mono h.bel.size), h.small⟩
theorem IsRd.bytes (h : IsRd w0 w p a cap bs last at_) : Row w 1 a bs.length cap (bs.map u8C) := h.row.mono h.bel
theorem IsRd.cells (h : IsRd w0 w p a cap bs last at_) : (w.cell? ⟨p, 0, none⟩ = some (.slice a bs.length cap) ∧ w.cell? ⟨p, 1, none⟩ = some (.int .i64 at_) ∧ w.cell? ⟨p, 2, none⟩ = some (.bool last)) ∧
   w.frozen? ⟨p, 0, none⟩ = false ∧ w.frozen? ⟨p, 1, none⟩ = false ∧ w.frozen? ⟨p, 2, none⟩ = false :=
 ⟨⟨by rw [cell_of_row _ _ _ _ _ _ h.blk]; rfl, by rw [cell_of_row _ _ _ _ _ _ h.blk]; rfl, by rw [cell_of_row _ _ _ _ _ _ h.blk]; rfl⟩, frozen_of_row _ _ _ _ _ h.blk, frozen_of_row _ _ _ _ _ h.blk, frozen_of_row _ _ _ _ _ h.blk⟩
theorem IsRd.setAt (h : IsRd w0 w p a cap bs last at_) (at2 : Int) : IsRd w0 (w.setCell ⟨p, 1, none⟩ (.int .i64 at2)) p a cap bs last at2 :=
 ⟨set3 h.blk _, h.new, h.row, h.bel.setCell h.new _, h.small⟩
theorem IsRd.set8 (h : IsRd w0 w p a cap bs last at_) {r : Nat} (hr : p ≠ r) (h0 : w0.heap.size ≤ r) (y0 y1 y2 y3 y4 y5 y6 y7 : Value) :
   IsRd w0 ((((((((w.setCell ⟨r, 0, none⟩ y0).setCell ⟨r, 1, none⟩ y1).setCell ⟨r, 2, none⟩ y2).setCell ⟨r, 3, none⟩ y3).setCell ⟨r, 4, none⟩ y4).setCell ⟨r, 5, none⟩ y5).setCell ⟨r, 6, none⟩ y6).setCell ⟨r, 7, none⟩ y7) p a cap bs last at_ :=
 ⟨(set8_other hr _ _ _ _ _ _ _ _).trans h.blk, h.new, h.row, below_set8 h.bel h0 _ _ _ _ _ _ _ _, h.small⟩
theorem nxt_1 (bs : List UInt8) (last : Bool) (k : Int) : (nxtV bs last k).1 = (nextV bs k last).1 := by unfold nxtV; split <;> rfl
theorem nxt_2 (bs : List UInt8) (last : Bool) (k : Int) : (nxtV bs last k).2.1 = (nextV bs k last).2.1 := by unfold nxtV; split <;> rfl
theorem nxt_3 (bs : List UInt8) (last : Bool) (k : Int) : (nxtV bs last k).2.2.1 = (nextV bs k last).2.2.1 := by unfold nxtV; split <;> rfl
def nxE (V : Tk × Int × Int × Int) : Int := if V.2.2.2 = 0 ∧ V.1.kind = 0 then 10 else V.2.2.2
theorem nxt_4 (bs : List UInt8) (last : Bool) (k : Int) : (nxtV bs last k).2.2.2 = nxE (nextV bs k last) := by unfold nxtV nxE; split <;> rfl
theorem xnext_any (h : IsRd w0 w p a cap bs last at_) : Calls Tryz.prog 78 #[.pointer (some ⟨p, 0, none⟩)] w fun e w' =>
   e = .returned (.tuple #[.agg (tokN (nxtV bs last at_).1 (nxtV bs last at_).2.1 (nxtV bs last at_).2.2.1), .int .i64 (nxtV bs last at_).2.2.2]) ∧
   IsRd w0 w' p a cap bs last (if (nxtV bs last at_).2.2.2 = 0 then (nxtV bs last at_).2.2.1 else at_) ∧ Keeps (fun b => b = p) w w' := by
 have HN := Lib.hid (fun (W : World) (hb : Below w.heap.size w W) => next_any (h.bytes.mono hb) h.small at_ last)
 rw [nxt_1, nxt_2, nxt_3, nxt_4]
 generalize nextV bs at_ last = V at *
 unfold NextEnd tokN at HN
 obtain ⟨x, f, t, er⟩ := V
 simp only at HN ⊢
 unfold tokN nxE
 simp only
 generalize x.kind = a0 at *
 obtain ⟨E, hE⟩ : ∃ E, E = (if er = 0 ∧ a0 = 0 then (10 : Int) else er) := ⟨_, rfl⟩
 rw [← hE]
 obtain ⟨A, hA⟩ : ∃ A, A = (if E = 0 then t else at_) := ⟨_, rfl⟩
 rw [← hA]
 have HEE := Lib.hid hE
 have HAA := Lib.hid hA
 clear hE hA
 generalize x.vk = a1 at *
 generalize x.vn = a2 at *
 generalize mkB x.vs = s1 at *
 generalize mkB x.s = s2 at *
 have HS := Lib.hid h
 have hpw := h.lt
 clear h
 go_enter Tryz.func78, Tryz.ntmps78
 go_wp2
 have HB1 := Lib.hid (belowA w (.cells #[.int .i64 0, .int .i64 0, .int .i64 0, .int .i64 0, .int .i64 0, .string ⟨#[]⟩, .slice none 0 0, .string ⟨#[]⟩] 150))
 have HS1 := Lib.hid (HS.out.mono HB1.out)
 have HR1 := Lib.hid (heapA_new (w := w) (b := w.heap.size) (.cells #[.int .i64 0, .int .i64 0, .int .i64 0, .int .i64 0, .int .i64 0, .string ⟨#[]⟩, .slice none 0 0, .string ⟨#[]⟩] 150) rfl)
 generalize w.alloc _ = W1 at *
 obtain ⟨r, hr⟩ : ∃ r, r = w.heap.size := ⟨_, rfl⟩
 have hpr0 : p ≠ r := by omega
 rw [← hr] at HR1 ⊢
 have HRR := Lib.hid hr
 clear hr hpw
 obtain ⟨⟨c0, c1, c2⟩, f0, f1, f2⟩ := HS1.out.cells
 have HA1 := Lib.hid (fun o : Obj => (belowA W1 o).drew)
 have HA2 := Lib.hid (fun o : Obj => HB1.out.trans ((HA1.out o).mono (show w.heap.size ≤ W1.heap.size from HB1.out.size)))
 have HC0 : Hid (S3 W1 p 0 (.slice a bs.length cap) p 1 (.int .i64 at_) p 2 (.bool last)) := Lib.hid ⟨c0, c1, c2⟩
 have hpr : p ≠ W1.heap.size := Nat.ne_of_lt HS1.out.lt
 have HR1L := Lib.hid (show r < W1.heap.size from lt_of_heap HR1.out)
 go_region_held3 (fun w' => w'.cell? ⟨p, 0, none⟩ = some (.slice a bs.length cap) ∧ w'.cell? ⟨p, 1, none⟩ = some (.int .i64 at_) ∧ w'.cell? ⟨p, 2, none⟩ = some (.bool last))
   ((show S3 _ p 0 (.slice a bs.length cap) p 1 (.int .i64 at_) p 2 (.bool last); (first
     | (with_reducible exact HC0.out.drew)
     | (with_reducible exact HC0.out)
     | (with_reducible exact (HC0.out.alloc _).drew)
     | (with_reducible exact Hid.out (by assumption))
     | (with_reducible exact S3.alloc (Hid.out (by assumption)) _)
     | (with_reducible exact S3.set8 (Hid.out (by assumption)) hpr hpr hpr _ _ _ _ _ _ _ _))))
   ((go_at_call 115; first
     | ((with_reducible refine (HN.out _ HB1.out.drew).mono ?_); rintro e wN ⟨rfl, hbN⟩; have hbM : Below W1.heap.size W1 wN := (Below.refl _ _).drew.trans hbN; have HSN := Lib.hid (HC0.out.below hbM))
     | ((with_reducible refine (HN.out _ (HA2.out _)).mono ?_); rintro e wN ⟨rfl, hbN⟩; have hbM : Below W1.heap.size W1 wN := (HA1.out _).trans (hbN.mono (HA1.out _).size); have HSN := Lib.hid (HC0.out.below hbM); have HZ := Lib.hid (block_keep hbN (heapA_new (w := W1) (b := W1.heap.size) (.cells #[.int .i64 0, .int .i64 0, .int .i64 0, .int .i64 0, .int .i64 0, .string ⟨#[]⟩, .slice none 0 0, .string ⟨#[]⟩] 150) rfl)); obtain ⟨⟨z0, z1, z2, z3, z4, z5, z6, z7⟩, y0, y1, y2, y3, y4, y5, y6, y7⟩ := cells8 HZ.out)))
 all_goals
   first
     | (obtain ⟨W2, hW2⟩ : ∃ W2, W2 = wN.alloc (.cells #[.int .i64 a0, .int .i64 f, .int .i64 t, .int .i64 a1, .int .i64 a2, .string s1, .slice none 0 0, .string s2] 150) := ⟨_, rfl⟩
        rw [← hW2]
        have HT := Lib.hid (show TkM W1 W2 wN.heap.size #[.int .i64 a0, .int .i64 f, .int .i64 t, .int .i64 a1, .int .i64 a2, .string s1, .slice none 0 0, .string s2] from ⟨by rw [hW2]; exact hbM.alloc hbM.size _, by rw [hW2]; exact heapA_new _ rfl, hbM.size⟩)
        obtain ⟨r2, hr2⟩ : ∃ r2, r2 = wN.heap.size := ⟨_, rfl⟩
        rw [← hr2] at HT ⊢)
     | (obtain ⟨W2, hW2⟩ : ∃ W2, W2 = ((((((((wN.setCell ⟨W1.heap.size, 0, none⟩ (.int .i64 a0)).setCell ⟨W1.heap.size, 1, none⟩ (.int .i64 f)).setCell ⟨W1.heap.size, 2, none⟩ (.int .i64 t)).setCell ⟨W1.heap.size, 3, none⟩ (.int .i64 a1)).setCell ⟨W1.heap.size, 4, none⟩ (.int .i64 a2)).setCell ⟨W1.heap.size, 5, none⟩ (.string s1)).setCell ⟨W1.heap.size, 6, none⟩ (.slice none 0 0)).setCell ⟨W1.heap.size, 7, none⟩ (.string s2)) := ⟨_, rfl⟩
        rw [← hW2]
        have HT := Lib.hid (show TkM W1 W2 W1.heap.size #[.int .i64 a0, .int .i64 f, .int .i64 t, .int .i64 a1, .int .i64 a2, .string s1, .slice none 0 0, .string s2] from ⟨by rw [hW2]; exact below_set8 hbM (Nat.le_refl _) _ _ _ _ _ _ _ _, by rw [hW2]; exact set8 HZ.out _ _ _ _ _ _ _ _, Nat.le_refl _⟩)
        clear z0 z1 z2 z3 z4 z5 z6 z7 y0 y1 y2 y3 y4 y5 y6 y7 HZ
        obtain ⟨r2, hr2⟩ : ∃ r2, r2 = W1.heap.size := ⟨_, rfl⟩
        rw [← hr2] at HT ⊢)
   clear hW2 hr2 hbN hbM HSN
   have HS2 := Lib.hid (HS1.out.mono HT.out.bel)
   have HR2 := Lib.hid (block_keep HT.out.bel HR1.out)
   have hp2 : p ≠ r2 := by have := HT.out.new; have := HS1.out.lt; omega
   have hr22 : r ≠ r2 := by have := HT.out.new; have := HR1L.out; omega
   have HB2 := Lib.hid (HB1.out.trans (HT.out.bel.mono HB1.out.size))
   clear c0 c1 c2 f0 f1 f2 hpr
   obtain ⟨⟨c0, c1, c2⟩, f0, f1, f2⟩ := HS2.out.cells
   obtain ⟨⟨k0, k1, k2, k3, k4, k5, k6, k7⟩, m0, m1, m2, m3, m4, m5, m6, m7⟩ := cells8 HT.out.blk
   obtain ⟨⟨g0, g1, g2, g3, g4, g5, g6, g7⟩, l0, l1, l2, l3, l4, l5, l6, l7⟩ := cells8 HR2.out
   have h0r := Nat.le_trans HS.out.bel.size (Nat.le_of_eq HRR.out.symm)
   by_cases her : er = 0
   · subst her
     by_cases hk0 : a0 = 0
     · subst hk0
       obtain rfl : E = 10 := by rw [HEE.out, if_pos ⟨rfl, rfl⟩]
       obtain rfl : at_ = A := by rw [HAA.out, if_neg (by decide)]
       go_wp2
       refine bodyPost_ret (results_val rfl _ _ r 150 _ (0, 0) _ rfl (set8 HR2.out _ _ _ _ _ _ _ _) Tryz.underlying150 rfl infoTok _ rfl) rfl ?_
       refine ⟨rfl, ?_, ?_⟩
       · exact HS2.out.set8 hpr0 h0r _ _ _ _ _ _ _ _
       · exact keeps_set8 (keeps_below HB2.out) (Nat.le_of_eq HRR.out.symm) _ _ _ _ _ _ _ _
     · have hk1 : (a0 == 0) = false := by rw [beq_eq_false_iff_ne]; exact hk0
       obtain rfl : E = 0 := by rw [HEE.out, if_neg (fun h => hk0 h.2)]
       obtain rfl : t = A := by rw [HAA.out, if_pos rfl]
       go_wp2
       refine bodyPost_ret (results_val rfl _ _ r 150 _ (0, 0) _ rfl (set8 ((heap_setCell_other _ _ _ _ (Ne.symm hpr0)).trans HR2.out) _ _ _ _ _ _ _ _) Tryz.underlying150 rfl infoTok _ rfl) rfl ?_
       refine ⟨rfl, ?_, ?_⟩
       · exact (HS2.out.setAt t).set8 hpr0 h0r _ _ _ _ _ _ _ _
       · exact keeps_set8 (Keeps.setCell (S := fun b => b = p) (a := ⟨p, 1, none⟩) (keeps_below HB2.out) (.inl rfl) _) (Nat.le_of_eq HRR.out.symm) _ _ _ _ _ _ _ _
   · have e1 : (er == 0) = false := by rw [beq_eq_false_iff_ne]; exact her
     obtain rfl : er = E := by rw [HEE.out, if_neg (fun h => her h.1)]
     obtain rfl : at_ = A := by rw [HAA.out, if_neg her]
     go_wp2
     refine bodyPost_ret (results_val rfl _ _ r 150 _ (0, 0) _ rfl (set8 HR2.out _ _ _ _ _ _ _ _) Tryz.underlying150 rfl infoTok _ rfl) rfl ?_
     refine ⟨rfl, ?_, ?_⟩
     · exact HS2.out.set8 hpr0 h0r _ _ _ _ _ _ _ _
     · exact keeps_set8 (keeps_below HB2.out) (Nat.le_of_eq HRR.out.symm) _ _ _ _ _ _ _ _
end
def entC (e : Ent) : List Value := [.int .i64 e.at_, .int .i64 e.gen, .bool e.used]
def entsC (l : List Ent) : List Value := l.flatMap entC
def entA (e : Ent) : Value := .agg #[.int .i64 e.at_, .int .i64 e.gen, .bool e.used]
theorem entsC_append (l m : List Ent) : entsC (l ++ m) = entsC l ++ entsC m := by simp [entsC]
theorem entsC_get : ∀ (l : List Ent) (k : Nat) (e : Ent), l[k]? = some e → (entsC l)[k * 3]? = some (.int .i64 e.at_) ∧ (entsC l)[k * 3 + 1]? = some (.int .i64 e.gen) ∧ (entsC l)[k * 3 + 2]? = some (.bool e.used)
 | [], k, e, h => by simp at h
 | x :: l, 0, e, h => by
   simp at h; subst h
   exact ⟨rfl, rfl, rfl⟩
 | x :: l, k + 1, e, h => by
   obtain ⟨h1, h2, h3⟩ := entsC_get l k e (by simpa using h)
   have hx : entsC (x :: l) = .int .i64 x.at_ :: .int .i64 x.gen :: .bool x.used :: entsC l := rfl
   rw [hx, show (k + 1) * 3 = k * 3 + 1 + 1 + 1 by omega]
   simp only [List.getElem?_cons_succ]
   exact ⟨h1, h2, h3⟩
def IsE (w : World) (F : Nat → Prop) (es : List Ent) (v : Value) : Prop := ∃ a cap, v = .slice a es.length cap ∧ Row w 3 a es.length cap (entsC es) ∧ (0 < es.length → ∀ x, a = some x → F x.block)
def IsGs (w : World) (F : Nat → Prop) : List Grp → List Value → Prop
 | [], cs => cs = []
 | g :: gs, cs => ∃ v t, cs = .int .i64 g.first :: v :: t ∧ IsE w F g.es v ∧ IsGs w F gs t
def IsG (w : World) (F : Nat → Prop) (gs : List Grp) (v : Value) : Prop := ∃ a cap cs, v = .slice a gs.length cap ∧ Row w 2 a gs.length cap cs ∧ (0 < gs.length → ∀ x, a = some x → F x.block) ∧ IsGs w F gs cs
theorem IsE.keep {w w' : World} {F G : Nat → Prop} (hk : Stays F w w') (hG : ∀ b, F b → G b) {es : List Ent} {v : Value} (h : IsE w F es v) : IsE w' G es v := by
 obtain ⟨a, cap, e, hr, hF⟩ := h
 exact ⟨a, cap, e, hr.stays hk hF, fun h0 x hx => hG _ (hF h0 x hx)⟩
theorem IsGs.keep {w w' : World} {F G : Nat → Prop} (hk : Stays F w w') (hG : ∀ b, F b → G b) : ∀ {gs : List Grp} {cs : List Value}, IsGs w F gs cs → IsGs w' G gs cs
 | [], _, h => h
 | _ :: _, _, ⟨v, t, e, h1, h2⟩ => ⟨v, t, e, h1.keep hk hG, IsGs.keep hk hG h2⟩
theorem IsG.keep {w w' : World} {F G : Nat → Prop} (hk : Stays F w w') (hG : ∀ b, F b → G b) {gs : List Grp} {v : Value} (h : IsG w F gs v) : IsG w' G gs v := by
 obtain ⟨a, cap, cs, e, hr, hF, hs⟩ := h
 exact ⟨a, cap, cs, e, hr.stays hk hF, fun h0 x hx => hG _ (hF h0 x hx), hs.keep hk hG⟩
theorem IsE.below {w w' : World} {F : Nat → Prop} {es : List Ent} {v : Value} (h : IsE w F es v) (hb : Below w.heap.size w w') : IsE w' F es v := h.keep (Stays.of_below hb) (fun _ h => h)
theorem IsGs.below {w w' : World} {F : Nat → Prop} {gs : List Grp} {cs : List Value} (h : IsGs w F gs cs) (hb : Below w.heap.size w w') : IsGs w' F gs cs := h.keep (Stays.of_below hb) (fun _ h => h)
theorem IsG.below {w w' : World} {F : Nat → Prop} {gs : List Grp} {v : Value} (h : IsG w F gs v) (hb : Below w.heap.size w w') : IsG w' F gs v := h.keep (Stays.of_below hb) (fun _ h => h)
theorem IsE.nil (w : World) (F : Nat → Prop) : IsE w F [] (.slice none 0 0) := ⟨none, 0, rfl, Row.nil w 3, fun h => by cases h⟩
theorem IsG.nil (w : World) (F : Nat → Prop) : IsG w F [] (.slice none 0 0) := ⟨none, 0, [], rfl, Row.nil w 2, fun h => (by cases h), rfl⟩
theorem IsGs.length {w : World} {F : Nat → Prop} : ∀ {gs : List Grp} {cs : List Value}, IsGs w F gs cs → cs.length = gs.length * 2
 | [], _, h => by cases h; rfl
 | _ :: _, _, ⟨v, t, e, _, h2⟩ => by subst e; have := IsGs.length h2; simp; omega
theorem IsGs.append {w : World} {F : Nat → Prop} : ∀ {l m : List Grp} {cs ds : List Value}, IsGs w F l cs → IsGs w F m ds → IsGs w F (l ++ m) (cs ++ ds)
 | [], _, _, _, h, hm => by cases h; exact hm
 | _ :: _, _, _, _, ⟨v, t, e, h1, h2⟩, hm => ⟨v, t ++ _, by subst e; rfl, h1, IsGs.append h2 hm⟩
theorem IsGs.snoc {w : World} {F : Nat → Prop} {gs : List Grp} {cs : List Value} (h : IsGs w F gs cs) {n : Int} {es : List Ent} {v : Value} (hv : IsE w F es v) : IsGs w F (gs ++ [⟨n, es⟩]) (cs ++ [.int .i64 n, v]) := h.append ⟨v, [], rfl, hv, rfl⟩
theorem IsGs.get {w : World} {F : Nat → Prop} : ∀ {gs : List Grp} {cs : List Value}, IsGs w F gs cs → ∀ (k : Nat) (g : Grp), gs[k]? = some g → ∃ v, IsE w F g.es v ∧ cs[k * 2]? = some (.int .i64 g.first) ∧ cs[k * 2 + 1]? = some v
 | [], _, _, _, _, hk => by simp at hk
 | x :: l, _, ⟨v, t, e, h1, h2⟩, 0, g, hk => by
   simp at hk; subst hk e
   exact ⟨v, h1, rfl, rfl⟩
 | x :: l, _, ⟨v, t, e, h1, h2⟩, k + 1, g, hk => by
   subst e
   obtain ⟨v2, h3, h4, h5⟩ := h2.get k g (by simpa using hk)
   refine ⟨v2, h3, ?_, ?_⟩
   · rw [show (k + 1) * 2 = k * 2 + 1 + 1 by omega]; simpa using h4
   · rw [show (k + 1) * 2 + 1 = k * 2 + 1 + 1 + 1 by omega]; simpa using h5
theorem IsE.len {w : World} {F : Nat → Prop} {es : List Ent} {v : Value} (h : IsE w F es v) : ∃ a cap, v = .slice a es.length cap ∧ es.length ≤ cap ∧ cap ≤ maxLen ∧ (a = none → cap = 0) := by
 obtain ⟨a, cap, e, hr, _⟩ := h
 exact ⟨a, cap, e, hr.2.1, hr.2.2.1, hr.2.2.2.1⟩
theorem IsG.len {w : World} {F : Nat → Prop} {gs : List Grp} {v : Value} (h : IsG w F gs v) : ∃ a cap, v = .slice a gs.length cap ∧ gs.length ≤ cap ∧ cap ≤ maxLen ∧ (a = none → cap = 0) := by
 obtain ⟨a, cap, cs, e, hr, _⟩ := h
 exact ⟨a, cap, e, hr.2.1, hr.2.2.1, hr.2.2.2.1⟩
theorem IsE.at {w : World} {F : Nat → Prop} {es : List Ent} {a : Option Addr} {n cap : Nat} (h : IsE w F es (.slice a n cap)) (hn : 0 < n) :
   n = es.length ∧ n ≤ cap ∧ cap ≤ maxLen ∧ ∃ b off, a = some ⟨b, off, none⟩ ∧ b < w.heap.size ∧ F b ∧ ∀ k x, es[k]? = some x → w.cell? ⟨b, off + k * 3, none⟩ = some (.int .i64 x.at_) ∧
     w.cell? ⟨b, off + k * 3 + 1, none⟩ = some (.int .i64 x.gen) ∧ w.cell? ⟨b, off + k * 3 + 2, none⟩ = some (.bool x.used) := by
 obtain ⟨a', cap', e, hr, hF⟩ := h
 simp only [Value.slice.injEq] at e
 obtain ⟨rfl, rfl, rfl⟩ := e
 obtain ⟨b, off, rfl, hb, hc⟩ := hr.2.2.2.2 hn
 refine ⟨rfl, hr.2.1, hr.2.2.1, b, off, rfl, hb, hF hn _ rfl, fun k x hx => ?_⟩
 obtain ⟨h2, h3, h4⟩ := entsC_get es k x hx
 exact ⟨hc _ _ h2, (Nat.add_assoc off (k * 3) 1).symm ▸ hc _ _ h3, (Nat.add_assoc off (k * 3) 2).symm ▸ hc _ _ h4⟩
theorem IsG.at {w : World} {F : Nat → Prop} {gs : List Grp} {a : Option Addr} {n cap : Nat} (h : IsG w F gs (.slice a n cap)) (hn : 0 < n) :
   n = gs.length ∧ n ≤ cap ∧ cap ≤ maxLen ∧ ∃ b off, a = some ⟨b, off, none⟩ ∧ b < w.heap.size ∧ F b ∧ ∀ k x, gs[k]? = some x → ∃ v, IsE w F x.es v ∧ w.cell? ⟨b, off + k * 2, none⟩ = some (.int .i64 x.first) ∧
     w.cell? ⟨b, off + k * 2 + 1, none⟩ = some v := by
 obtain ⟨a', cap', cs, e, hr, hF, hs⟩ := h
 simp only [Value.slice.injEq] at e
 obtain ⟨rfl, rfl, rfl⟩ := e
 obtain ⟨b, off, rfl, hb, hc⟩ := hr.2.2.2.2 hn
 refine ⟨rfl, hr.2.1, hr.2.2.1, b, off, rfl, hb, hF hn _ rfl, fun k x hx => ?_⟩
 obtain ⟨v, h1, h2, h3⟩ := hs.get k x hx
 exact ⟨v, h1, hc _ _ h2, (Nat.add_assoc off (k * 2) 1).symm ▸ hc _ _ h3⟩
def secA (s : Sec) (gv sl : Value) : Value := .agg #[gv, .int .i64 s.tr.kind, .int .i64 s.tr.n, .string (mkB s.tr.s), sl]
def IsSec (w : World) (F : Nat → Prop) (s : Sec) (gv sl : Value) : Prop := IsG w F s.gs gv ∧ IsV w F s.tr sl
theorem IsSec.keep {w w' : World} {F G : Nat → Prop} (hk : Stays F w w') (hG : ∀ b, F b → G b) {s : Sec} {gv sl : Value} (h : IsSec w F s gv sl) : IsSec w' G s gv sl := ⟨h.1.keep hk hG, IsV.keep hk hG _ h.2⟩
theorem IsSec.below {w w' : World} {F : Nat → Prop} {s : Sec} {gv sl : Value} (h : IsSec w F s gv sl) (hb : Below w.heap.size w w') : IsSec w' F s gv sl := h.keep (Stays.of_below hb) (fun _ h => h)
theorem isSec_none (w : World) (F : Nat → Prop) : IsSec w F Sec.none (.slice none 0 0) (.slice none 0 0) := ⟨IsG.nil w F, IsV.leaf w F _ rfl⟩
theorem xwhole_tk (x : Tk) (f t : Int) (w : World) : Calls Tryz.prog 79 #[.agg (tokN x f t)] w fun e w' => e = .returned (.bool (wholeV x)) ∧ Below w.heap.size w w' := by
 unfold tokN wholeV
 generalize x.kind = a0 at *
 generalize x.vk = a1 at *
 generalize x.vn = a2 at *
 generalize mkB x.vs = s1 at *
 generalize mkB x.s = s2 at *
 cases h0 : (a0 == 1)
 · go_enter Tryz.func79, Tryz.ntmps79
   go_wp2
   go_ret
   exact ⟨rfl, belowA w _⟩
 · go_enter Tryz.func79, Tryz.ntmps79
   go_wp2
   go_ret
   exact ⟨rfl, belowA w _⟩
theorem r15whole_tk (x : Tk) (f t : Int) (w : World) : Calls Tryz.prog 48 #[.agg (tokN x f t)] w fun e w' => e = .returned (.bool (wholeV x)) ∧ Below w.heap.size w w' := by
 unfold tokN wholeV
 generalize x.kind = a0 at *
 generalize x.vk = a1 at *
 generalize x.vn = a2 at *
 generalize mkB x.vs = s1 at *
 generalize mkB x.s = s2 at *
 cases h0 : (a0 == 1)
 · go_enter Tryz.func48, Tryz.ntmps48
   go_wp2
   go_ret
   exact ⟨rfl, belowA w _⟩
 · go_enter Tryz.func48, Tryz.ntmps48
   go_wp2
   go_ret
   exact ⟨rfl, belowA w _⟩
theorem fits_any (f n : Int) (w : World) : Calls Tryz.prog 116 #[.int .i64 f, .int .i64 n] w fun e w' => e = .returned (.bool (fitsV f n)) ∧ w = w' := by
 unfold fitsV
 by_cases a1 : 0 ≤ f
 · by_cases a2 : f ≤ 4097
   · by_cases a3 : 0 ≤ n
     · by_cases a4 : n ≤ 4097 - f
       · go_enter Tryz.func116, Tryz.ntmps116
         go_wp2
         go_ret
         exact ⟨by simp [a1, a2, a3, a4], rfl⟩
       · go_enter Tryz.func116, Tryz.ntmps116
         go_wp2
         go_ret
         exact ⟨by simp [a4], rfl⟩
     · go_enter Tryz.func116, Tryz.ntmps116
       go_wp2
       go_ret
       exact ⟨by simp; omega, rfl⟩
   · go_enter Tryz.func116, Tryz.ntmps116
     go_wp2
     go_ret
     exact ⟨by simp; omega, rfl⟩
 · go_enter Tryz.func116, Tryz.ntmps116
   go_wp2
   go_ret
   exact ⟨by simp; omega, rfl⟩
def dig1 (l : List UInt8) (most : Int) : Int := if (digitsV l).2 ≠ 0 ∨ most < (digitsV l).1 then -1 else (digitsV l).1
structure BelowW (W : World) where
 w : World
 h : Below W.heap.size W w
instance BelowW.there (W : World) : Nonempty (BelowW W) := ⟨⟨W, Below.refl _ _⟩⟩
theorem wp_region_below {P : Program} {id : Nat} {Q : Exit → Act → World → Prop} {a : Act} {W : World} {l : List Oper} (hm : P.follows .mixedOrders = true) (hB : Region.lexB .any l.toArray = true)
   (h : wpQuiet P l.toArray (fun w' => ∃ p : BelowW W, w' = p.w) (fun a' => ∀ w', (∃ p : BelowW W, w' = p.w) → Q .normal a' w') l a) : (Code.region id l.toArray true).wp P Q a W :=
 wp_region_quiet (C := fun w' => ∃ p : BelowW W, w' = p.w) hm hB ⟨⟨W.drew, (Below.refl _ _).drew⟩, rfl⟩ (by simpa using h)
theorem Calls.below_of {P : Program} {f : FuncId} {args : Array Value} {W : World} {p : BelowW W} {v : Value}
   (h : Calls P f args p.w fun e w' => e = .returned v ∧ Below p.w.heap.size p.w w') : Calls P f args p.w fun e w'' => e = .returned v ∧ ∃ p' : BelowW W, w'' = p'.w :=
 h.mono fun _ w' ⟨he, hb⟩ => ⟨he, ⟨w', p.h.trans (hb.mono p.h.size)⟩, rfl⟩
theorem BelowW.cell {W : World} {b o : Nat} {v : Value} (hc : W.cell? ⟨b, o, none⟩ = some v) (p : BelowW W) : p.w.cell? ⟨b, o, none⟩ = some v := cell?_keep p.h hc
theorem conv_rowX {w : World} {a : Option Addr} {cap : Nat} {bs : List UInt8} (hr : Row w 1 a bs.length cap (bs.map u8C)) : (convert 22 9 (.slice a bs.length cap)).run Tryz.prog w = .ok (.string (mkB bs)) w := by
 cases a with
 | none =>
   have h0 := hr.2.2.2.1 rfl
   have h1 := hr.2.1
   have ho : bs = [] := List.eq_nil_of_length_eq_zero (by omega)
   subst ho
   rw [h0]
   exact run_convert_bytes_string w 22 9 5 none 0 0 Tryz.underlying22 Tryz.underlying5 Tryz.underlying9
 | some x =>
   refine run_convert_bytes_back (P := Tryz.prog) w 22 9 5 x cap bs Tryz.underlying22 Tryz.underlying5 Tryz.underlying9 (fun j hj => ?_)
   obtain ⟨b, o, hx, -, hc⟩ := hr.2.2.2.2 (by omega)
   cases hx
   rw [Addr.add_lit]
   exact hc j (u8C bs[j]) (by simp [hj])
theorem xdig_any {w : World} {a : Option Addr} {n cap : Nat} {l : List UInt8} (hr : Row w 1 a n cap (l.map u8C)) (hl : l.length = n) (most : Int) :
   Calls Tryz.prog 157 #[.slice a n cap, .int .i64 most] w fun e w' => e = .returned (.int .i64 (dig1 l most)) ∧ Below w.heap.size w w' := by
 subst hl
 have hcv := conv_rowX hr
 have HD := Lib.hid (digits_any (mkB l) w)
 rw [show bl (mkB l) = l from rfl] at HD
 unfold dig1
 generalize digitsV l = V at *
 obtain ⟨n, e⟩ := V
 unfold DigEnd at HD
 simp only at HD ⊢
 clear hr
 generalize l.length = L at *
 generalize mkB l = s at *
 by_cases he : e = 0
 · subst he
   by_cases hn : most < n
   · rw [if_pos (.inr hn)]
     go_enter Tryz.func157, Tryz.ntmps157
     go_wp2_with (go_at_call 184; refine HD.out.mono ?_; rintro e w' ⟨rfl, hb⟩; have HB := Lib.hid hb; clear hb)
     go_ret
     exact ⟨rfl, HB.out⟩
   · rw [if_neg (by simpa using hn)]
     go_enter Tryz.func157, Tryz.ntmps157
     go_wp2_with (go_at_call 184; refine HD.out.mono ?_; rintro e w' ⟨rfl, hb⟩; have HB := Lib.hid hb; clear hb)
     go_ret
     exact ⟨rfl, HB.out⟩
 · rw [if_pos (.inl he)]
   have e0 : (e == 0) = false := by rw [beq_eq_false_iff_ne]; exact he
   have e1 : (e != 0) = true := by simp only [bne, e0, Bool.not_false]
   clear he
   go_enter Tryz.func157, Tryz.ntmps157
   go_wp2_with (go_at_call 184; refine HD.out.mono ?_; rintro e w' ⟨rfl, hb⟩; have HB := Lib.hid hb; clear hb)
   go_ret
   exact ⟨rfl, HB.out⟩
theorem set3a {w : World} {b : Nat} {x0 x1 x2 : Value} {t : TypeId} (h : w.heap[b]? = some (.cells #[x0, x1, x2] t (0, 0))) (y0 y1 y2 : Value) :
   (((w.setCell ⟨b, 0, none⟩ y0).setCell ⟨b, 1, none⟩ y1).setCell ⟨b, 2, none⟩ y2).heap[b]? = some (.cells #[y0, y1, y2] t (0, 0)) := by
 rw [heap_setCell_same _ _ 2 _ _ _ (heap_setCell_same _ _ 1 _ _ _ (heap_setCell_same w _ 0 _ _ _ h))]; rfl
theorem cells3 {w : World} {b : Nat} {x0 x1 x2 : Value} {t : TypeId} (h : w.heap[b]? = some (.cells #[x0, x1, x2] t (0, 0))) :
   (w.cell? ⟨b, 0, none⟩ = some x0 ∧ w.cell? ⟨b, 1, none⟩ = some x1 ∧ w.cell? ⟨b, 2, none⟩ = some x2) ∧ (w.frozen? ⟨b, 0, none⟩ = false ∧ w.frozen? ⟨b, 1, none⟩ = false ∧ w.frozen? ⟨b, 2, none⟩ = false) := by
 refine ⟨⟨?_, ?_, ?_⟩, frozen_of_row w b 0 _ _ h, frozen_of_row w b 1 _ _ h, frozen_of_row w b 2 _ _ h⟩
 · rw [cell_of_row w b 0 _ _ _ h]; rfl
 · rw [cell_of_row w b 1 _ _ _ h]; rfl
 · rw [cell_of_row w b 2 _ _ _ h]; rfl
theorem u8_of {c d : UInt8} {n : Nat} (h : c.toNat = n) (hd : d.toNat = n) : c = d := UInt8.toNat_inj.1 (h.trans hd.symm)
theorem u8_beq (c d : UInt8) (n : Nat) (hd : d.toNat = n) : (c == d) = ((c.toNat : Int) == (n : Int)) := by
 by_cases h : c = d
 · subst h; rw [hd]; simp
 · have h2 : c.toNat ≠ n := fun e => h (u8_of e hd)
   rw [beq_eq_false_iff_ne.2 h, eq_comm, beq_eq_false_iff_ne]
   omega
theorem ent_isNone {s : List UInt8} (h : true = (entS s).isNone) : entS s = none := by
 cases hs : entS s with
 | none => rfl
 | some x => rw [hs] at h; cases h
theorem infoEnt : (Tryz.prog.info? 44).map (·.size) = some 3 := by kernel_rfl
theorem skip_go {bs : List UInt8} {j : Nat} (hj : j < bs.length) (h : isSp (bs.getD j 0) = true) : skipS bs j = skipS bs (j + 1) := by
 unfold skipS
 rw [drop_cons hj, List.takeWhile_cons, if_pos h, List.length_cons]
 omega
theorem skip_stop {bs : List UInt8} {j : Nat} (hj : j < bs.length) (h : isSp (bs.getD j 0) = false) : skipS bs j = j := by
 unfold skipS
 rw [drop_cons hj, List.takeWhile_cons, if_neg (by rw [h]; decide)]
 rfl
theorem skip_end (bs : List UInt8) : skipS bs bs.length = bs.length := by
 unfold skipS
 rw [List.drop_length]
 rfl
theorem ent_bad {s : List UInt8} (h : dig1 (s.take 10) 2147483647 < 0 ∨ dig1 ((s.drop 11).take 5) 65535 < 0 ∨ s.getD 10 0 ≠ 32 ∨ s.getD 16 0 ≠ 32 ∨ (s.getD 17 0 ≠ 110 ∧ s.getD 17 0 ≠ 102) ∨ (s.getD 18 0 ≠ 32 ∧ s.getD 18 0 ≠ 10 ∧ s.getD 18 0 ≠ 13)) : entS s = none := by
 unfold entS
 rw [if_pos]
 rcases h with h | h | h | h | h | h
 · left
   unfold dig1 at h
   split at h
   · rename_i hq
     rcases hq with hq | hq
     · exact hq
     · have := digitsV_le (s.take 10)
       omega
   · have := digitsV_le (s.take 10)
     omega
 · unfold dig1 at h
   split at h
   · rename_i hq
     rcases hq with hq | hq
     · exact .inr (.inl hq)
     · exact .inr (.inr (.inl hq))
   · have := digitsV_le ((s.drop 11).take 5)
     omega
 · exact .inr (.inr (.inr (.inl h)))
 · exact .inr (.inr (.inr (.inr (.inl h))))
 · exact .inr (.inr (.inr (.inr (.inr (.inl h)))))
 · exact .inr (.inr (.inr (.inr (.inr (.inr h)))))
theorem row_cut {w : World} {b o n cap : Nat} {bs : List UInt8} (h : Row w 1 (some ⟨b, o, none⟩) n cap (bs.map u8C)) (u m : Nat) (hm : u + m ≤ n) : Row w 1 (some ⟨b, o + u, none⟩) m (cap - u) (((bs.drop u).take m).map u8C) := by
 obtain ⟨h1, h2, h3, -, h5⟩ := h
 rw [List.length_map] at h1
 refine ⟨by rw [List.length_map, List.length_take, List.length_drop]; omega, by omega, by omega, fun h => (by cases h), fun hm0 => ?_⟩
 obtain ⟨b', o', e, hb, hc⟩ := h5 (by omega)
 cases e
 refine ⟨b, o + u, rfl, hb, fun j x hj => ?_⟩
 rw [Nat.add_assoc]
 refine hc _ _ ?_
 rw [List.getElem?_map] at hj ⊢
 rw [List.getElem?_take] at hj
 split at hj
 · rw [List.getElem?_drop] at hj; exact hj
 · cases hj
theorem entV_cut {bs : List UInt8} {last : Bool} {k j : Nat} (h : skipS bs k = j) (hl : bs.length < j + 19) : entV bs last k = ({}, 0, openE last) := by unfold entV; rw [h, if_pos hl]
theorem entV_bad {bs : List UInt8} {last : Bool} {k j : Nat} (h : skipS bs k = j) (hl : ¬ bs.length < j + 19) (hs : entS ((bs.drop j).take 19) = none) : entV bs last k = ({}, 0, 20) := by unfold entV; rw [h, if_neg hl, hs]
theorem entV_ok {bs : List UInt8} {last : Bool} {k j : Nat} (h : skipS bs k = j) (hl : ¬ bs.length < j + 19) {x : Ent} (hs : entS ((bs.drop j).take 19) = some x) : entV bs last k = (x, j + 19, 0) := by unfold entV; rw [h, if_neg hl, hs]
theorem ent_some {s : List UInt8} (h : false = (entS s).isNone) : entS s = some { at_ := dig1 (s.take 10) 2147483647, gen := dig1 ((s.drop 11).take 5) 65535, used := s.getD 17 0 == 110 } := by
 unfold entS at h ⊢
 split at h
 · cases h
 · rename_i hn
   rw [if_neg hn]
   have e1 : ¬ ((digitsV (s.take 10)).2 ≠ 0 ∨ 2147483647 < (digitsV (s.take 10)).1) := by
     have := digitsV_le (s.take 10)
     rintro (h | h)
     · exact hn (.inl h)
     · omega
   have e2 : ¬ ((digitsV ((s.drop 11).take 5)).2 ≠ 0 ∨ 65535 < (digitsV ((s.drop 11).take 5)).1) := by
     rintro (h | h)
     · exact hn (.inr (.inl h))
     · exact hn (.inr (.inr (.inl h)))
   unfold dig1
   rw [if_neg e1, if_neg e2]
theorem ent_good {s : List UInt8} (h1 : 0 ≤ dig1 (s.take 10) 2147483647) (h2 : 0 ≤ dig1 ((s.drop 11).take 5) 65535) (h3 : s.getD 10 0 = 32) (h4 : s.getD 16 0 = 32) (h5 : s.getD 17 0 = 110 ∨ s.getD 17 0 = 102) (h6 : s.getD 18 0 = 32 ∨ s.getD 18 0 = 10 ∨ s.getD 18 0 = 13) :
   entS s = some { at_ := dig1 (s.take 10) 2147483647, gen := dig1 ((s.drop 11).take 5) 65535, used := s.getD 17 0 == 110 } := by
 unfold dig1 at *
 have e1 : ¬ ((digitsV (s.take 10)).2 ≠ 0 ∨ 2147483647 < (digitsV (s.take 10)).1) := by intro hn; rw [if_pos hn] at h1; exact absurd h1 (by decide)
 have e2 : ¬ ((digitsV ((s.drop 11).take 5)).2 ≠ 0 ∨ 65535 < (digitsV ((s.drop 11).take 5)).1) := by intro hn; rw [if_pos hn] at h2; exact absurd h2 (by decide)
 rw [if_neg e1, if_neg e2]
 unfold entS
 rw [if_neg]
 rintro (hn | hn | hn | hn | hn | hn | hn)
 · exact e1 (.inl hn)
 · exact e2 (.inl hn)
 · exact e2 (.inr hn)
 · exact hn h3
 · exact hn h4
 · rcases h5 with h | h
   · exact hn.1 h
   · exact hn.2 h
 · rcases h6 with h | h | h
   · exact hn.1 h
   · exact hn.2.1 h
   · exact hn.2.2 h
section
variable {w0 w w' : World} {p : Nat} {a : Option Addr} {cap : Nat} {bs : List UInt8} {last : Bool} {at_ : Int}
theorem IsRd.set3r (h : IsRd w0 w p a cap bs last at_) {r : Nat} (hr : p ≠ r) (h0 : w0.heap.size ≤ r) (y0 y1 y2 : Value) : IsRd w0 (((w.setCell ⟨r, 0, none⟩ y0).setCell ⟨r, 1, none⟩ y1).setCell ⟨r, 2, none⟩ y2) p a cap bs last at_ :=
 ⟨by rw [heap_setCell_other _ _ _ _ hr, heap_setCell_other _ _ _ _ hr, heap_setCell_other _ _ _ _ hr]; exact h.blk, h.new, h.row, ((h.bel.setCell h0 _).setCell h0 _).setCell h0 _, h.small⟩
theorem keeps_set3 {S : Nat → Prop} {W : World} (h : Keeps S w W) {r : Nat} (hr : w.heap.size ≤ r) (y0 y1 y2 : Value) : Keeps S w (((W.setCell ⟨r, 0, none⟩ y0).setCell ⟨r, 1, none⟩ y1).setCell ⟨r, 2, none⟩ y2) :=
 ((h.setCell (.inr hr) _).setCell (.inr hr) _).setCell (.inr hr) _
theorem xopen_any (h : IsRd w0 w p a cap bs last at_) : Calls Tryz.prog 156 #[.pointer (some ⟨p, 0, none⟩)] w fun e w' => e = .returned (.int .i64 (openE last)) ∧ w = w' := by
 obtain ⟨⟨-, -, c2⟩, -⟩ := h.cells
 clear h
 cases last
 · go_enter Tryz.func156, Tryz.ntmps156
   go_wp2
   go_ret
   exact ⟨rfl, rfl⟩
 · go_enter Tryz.func156, Tryz.ntmps156
   go_wp2
   go_ret
   exact ⟨rfl, rfl⟩
def EntEnd (w0 w : World) (p : Nat) (a : Option Addr) (cap : Nat) (bs : List UInt8) (last : Bool) (V : Ent × Nat × Int) (e : Ending) (w' : World) : Prop :=
 e = .returned (.tuple #[entA V.1, .int .i64 V.2.2]) ∧ (∃ at2 : Int, IsRd w0 w' p a cap bs last at2 ∧ (V.2.2 = 0 → at2 = V.2.1)) ∧ Keeps (fun b => b = p) w w'
theorem xentry_any {k : Nat} (h : IsRd w0 w p a cap bs last (k : Int)) (hk : k ≤ bs.length) : Calls Tryz.prog 117 #[.pointer (some ⟨p, 0, none⟩)] w (EntEnd w0 w p a cap bs last (entV bs last k)) := by
 obtain ⟨V, hV⟩ : ∃ V, V = entV bs last k := ⟨_, rfl⟩
 rw [← hV]
 have HV := Lib.hid hV
 have hsm := h.small
 have hcp := h.row.2.1
 have hcm := h.row.i64c
 have HR := Lib.hid h
 clear h hV
 go_enter Tryz.func117, Tryz.ntmps117
 go_upto_block 0 with fail
 have HB1 := Lib.hid (belowA w (.cells #[.int .i64 0, .int .i64 0, .bool false] 44))
 have HS1 := Lib.hid (HR.out.mono HB1.out)
 obtain ⟨r, hr⟩ : ∃ r, r = w.heap.size := ⟨_, rfl⟩
 have HZ1 := Lib.hid (heapA_new (w := w) (b := r) (.cells #[.int .i64 0, .int .i64 0, .bool false] 44) hr)
 have hpr : p ≠ r := by have := HR.out.lt; omega
 have HPR := Lib.hid hpr
 have HRR := Lib.hid (Nat.le_of_eq hr.symm)
 have HR0 := Lib.hid (Nat.le_trans HR.out.bel.size HRR.out)
 rw [← hr]
 clear hr hpr
 generalize w.alloc _ = W1 at *
 obtain ⟨J, hJ⟩ : ∃ J, J = skipS bs k := ⟨_, rfl⟩
 have HJ := Lib.hid hJ
 clear hJ
 go_cut [] from 8 (fun wx => ∃ j : Nat, k ≤ j ∧ j ≤ bs.length ∧ Hid (J = j) ∧ Hid (IsRd w0 wx p a cap bs last (j : Int)) ∧ Hid (Keeps (fun b => b = p) W1 wx))
 case first =>
   go_wp2_with fail
   go_loopg [] (bs.length - k) (fun g wr => ∃ j : Nat, g = bs.length - j ∧ k ≤ j ∧ j ≤ bs.length ∧ Hid (skipS bs j = J) ∧ Hid (IsRd w0 wr p a cap bs last (j : Int)) ∧ Hid (Keeps (fun b => b = p) W1 wr))
   case atStart => exact ⟨k, rfl, Nat.le_refl _, hk, Lib.hid HJ.out.symm, HS1, Lib.hid (Keeps.refl _ _)⟩
   case round =>
     obtain ⟨j, hg, hkj, hj, HSK, HI, HKP⟩ := hrel
     have HG := Lib.hid hg
     obtain ⟨⟨c0, c1, c2⟩, f0, f1, f2⟩ := HI.out.cells
     clear hg
     have hck : (j : Int) ≤ 400000 := by omega
     by_cases hjl : j < bs.length
     · obtain ⟨b, off, rfl, -, hcc⟩ := HI.out.bytes.at 0 j hjl
       have hcj := hcc j hjl
       unfold u8C at hcj
       have hjd : decide ((j : Int) < bs.length) = true := by simp; omega
       have hjd2 : decide (j < bs.length) = true := by simp; omega
       have HSP := Lib.hid (fun W => space_any (bs.getD j 0).toNat W)
       rw [← spI_eq] at HSP
       have HG2 := Lib.hid (fun h => skip_go (bs := bs) hjl h)
       have HST := Lib.hid (fun h => skip_stop (bs := bs) hjl h)
       clear hcc
       generalize bs.getD j 0 = c at *
       obtain ⟨sp, hsp⟩ : ∃ sp, isSp c = sp := ⟨_, rfl⟩
       rw [hsp] at HSP
       have HSB := Lib.hid hsp
       clear hsp
       generalize c.toNat = x at *
       cases sp
       · go_wp2
         go_quiet ((go_at_call 155; exact (HSP.out _).mono fun _ _ ⟨he, hm⟩ => ⟨he, _, hm.symm⟩))
         go_wp2_with fail
         go_meet
         exact ⟨j, hkj, hj, Lib.hid (HSK.out.symm.trans (HST.out HSB.out)), Lib.hid (HI.out.mono (below_drewN (Below.refl _ _) _)), Lib.hid (HKP.out.drewN _)⟩
       · go_wp2
         go_quiet ((go_at_call 155; exact (HSP.out _).mono fun _ _ ⟨he, hm⟩ => ⟨he, _, hm.symm⟩))
         go_wp2
         go_roundg (bs.length - (j + 1))
         case rel => exact ⟨j + 1, rfl, by omega, by omega, Lib.hid ((HG2.out HSB.out).symm.trans HSK.out), Lib.hid ((HI.out.mono (below_drewN (Below.refl _ _) _)).setAt _), Lib.hid ((HKP.out.drewN _).setCell (.inl rfl) _)⟩
         case measure => have := HG.out; omega
     · have hje : j = bs.length := by omega
       have HJE := Lib.hid (show J = j by rw [← HSK.out, hje]; exact skip_end bs)
       have hjd : decide ((j : Int) < bs.length) = false := decide_eq_false (by omega)
       have hjd2 : decide (j < bs.length) = false := decide_eq_false (by omega)
       clear hje
       go_wp2
       go_quiet (fail)
       go_wp2_with fail
       go_meet
       exact ⟨j, hkj, hj, HJE, Lib.hid (HI.out.mono (below_drewN (Below.refl _ _) _)), Lib.hid (HKP.out.drewN _)⟩
 case rest =>
   obtain ⟨j, hkj, hj, HJE, HI2, HK2⟩ := hcut
   have hck : (j : Int) ≤ 400000 := by omega
   generalize wc = W2 at *
   obtain ⟨⟨c0, c1, c2⟩, f0, f1, f2⟩ := HI2.out.cells
   have HZ2 := Lib.hid (HK2.out.obj HZ1.out (fun e => HPR.out e.symm))
   have HKW := Lib.hid (Keeps.trans (S := fun b => b = p) (keeps_below HB1.out) HK2.out (fun x h => .inl h))
   obtain ⟨⟨z0, z1, z2⟩, y0, y1, y2⟩ := cells3 HZ2.out
   by_cases hlen : bs.length < j + 19
   · have HV3 := Lib.hid (HV.out.trans (entV_cut (last := last) (HJ.out.symm.trans HJE.out) hlen))
     have hld : decide ((bs.length : Int) - j < 19) = true := decide_eq_true (by omega)
     have HOP := Lib.hid (fun q => xopen_any (HI2.out.mono (below_drewN (Below.refl _ _) q)))
     clear hlen
     go_wp2
     go_quiet (fail)
     go_wp2_with (go_at_call 156; refine (HOP.out _).mono ?_; rintro e w' ⟨rfl, rfl⟩)
     refine bodyPost_ret (results_val rfl _ _ r 44 _ (0, 0) _ rfl (by exact set3a HZ2.out _ _ _) Tryz.underlying44 rfl (by exact infoEnt) _ rfl) rfl ?_
     rw [HV3.out]
     exact ⟨rfl, ⟨_, (HI2.out.mono (below_drewN (Below.refl _ _) _)).set3r HPR.out HR0.out _ _ _, fun h => absurd h (openE_ne last)⟩, keeps_set3 (HKW.out.drewN _) HRR.out _ _ _⟩
   · have hjl : j < bs.length := by omega
     have hld : decide ((bs.length : Int) - j < 19) = false := decide_eq_false (by omega)
     have HRB := HI2.out.bytes
     obtain ⟨b2, off2, ha, -, hcc⟩ := HRB.at 0 j hjl
     have HBP := Lib.hid (show ¬ b2 = p from fun e => by have h1 : b2 < w0.heap.size := HI2.out.row.lt (by omega) ⟨b2, off2, none⟩ ha; have h2 := HI2.out.new; omega)
     rw [ha] at c0 HRB
     have hj19 : j + 19 ≤ bs.length := by omega
     have HR1 := Lib.hid (row_cut HRB j 19 hj19)
     have HSL := Lib.hid (show ((bs.drop j).take 19).length = 19 by rw [List.length_take, List.length_drop]; omega)
     have HEB := Lib.hid (fun h => HV.out.trans (entV_bad (last := last) (HJ.out.symm.trans HJE.out) hlen h))
     have HEO := Lib.hid (fun x h => HV.out.trans (entV_ok (last := last) (x := x) (HJ.out.symm.trans HJE.out) hlen h))
     generalize (bs.drop j).take 19 = s at *
     clear hcc ha hlen HJE HJ HV HRB
     go_wp2
     go_quiet (fail)
     generalize nq = nqa
     go_wp2
     go_quiet (fail)
     generalize nq = nqb
     go_wp2
     have e19 : j + 18 + 1 - j = 19 := by omega
     rw [e19]
     have HI3 := Lib.hid (HI2.out.mono (below_drewN (below_drewN (Below.refl _ _) nqa) nqb))
     have HK3 := Lib.hid ((HKW.out.drewN nqa).drewN nqb)
     have HZ3 := Lib.hid (block_keep (below_drewN (below_drewN (Below.refl W2.heap.size W2) nqa) nqb) HZ2.out)
     have HR3 := Lib.hid (HR1.out.mono (below_drewN (below_drewN (Below.refl W2.heap.size W2) nqa) nqb))
     generalize (W2.drewN nqa).drewN nqb = W3 at *
     clear HI2 HK2 HKW HZ2 HR1 c0 c1 c2 f0 f1 f2 z0 z1 z2 y0 y1 y2
     have hC1 : 19 ≤ cap - j := by omega
     have hC2 : ((cap - j : Nat) : Int) ≤ 9223372036854775807 := by omega
     generalize cap - j = C at *
     have HRA := Lib.hid (row_cut HR3.out 0 10 (by omega))
     have HRG := Lib.hid (row_cut HR3.out 11 5 (by omega))
     simp only [List.drop_zero, Nat.add_zero, Nat.sub_zero] at HRA
     have HDA := Lib.hid (fun q : BelowW W3 => xdig_any (HRA.out.mono q.h) (by rw [List.length_take]; have := HSL.out; omega) 2147483647)
     have HDG := Lib.hid (fun q : BelowW W3 => xdig_any (HRG.out.mono q.h) (by rw [List.length_take, List.length_drop]; have := HSL.out; omega) 65535)
     obtain ⟨A, hA⟩ : ∃ A, A = dig1 (s.take 10) 2147483647 := ⟨_, rfl⟩
     obtain ⟨G, hG⟩ : ∃ G, G = dig1 ((s.drop 11).take 5) 65535 := ⟨_, rfl⟩
     rw [← hA] at HDA
     rw [← hG] at HDG
     have HA := Lib.hid hA
     have HGG := Lib.hid hG
     clear hA hG
     refine wp_region_below (by kernel_rfl) (by kernel_rfl) ?_
     repeat (go_big_quiet_step ((first
       | (go_at_call_of 157 (Value.slice (some ⟨b2, off2 + j, none⟩) 10 C); with_reducible exact Calls.below_of (HDA.out _))
       | (go_at_call 157; with_reducible exact Calls.below_of (HDG.out _)))))
     refine wpQuiet_nil ?_
     rintro W4 ⟨⟨w4, hb4⟩, hw⟩
     replace hw : W4 = w4 := hw
     subst hw
     have HI4 := Lib.hid (HI3.out.mono hb4)
     have HK4 := Lib.hid (Keeps.trans HK3.out (keeps_below (S := fun _ => False) hb4) (fun x h => (by cases h)))
     have HZ4 := Lib.hid (block_keep hb4 HZ3.out)
     obtain ⟨_, _, ha, -, hcc⟩ := (HR3.out.mono hb4).at 0 0 (by decide)
     cases ha
     have hc10 := hcc 10 (by decide)
     have hc16 := hcc 16 (by decide)
     have hc17 := hcc 17 (by decide)
     have hc18 := hcc 18 (by decide)
     unfold u8C at hc10 hc16 hc17 hc18
     clear hcc hb4 HI3 HK3 HZ3 HR3 HRA HRG HDA HDG
     obtain ⟨⟨c0, c1, c2⟩, f0, f1, f2⟩ := HI4.out.cells
     obtain ⟨⟨z0, z1, z2⟩, y0, y1, y2⟩ := cells3 HZ4.out
     obtain ⟨x10, hx10⟩ : ∃ x, (s.getD 10 0).toNat = x := ⟨_, rfl⟩
     obtain ⟨x16, hx16⟩ : ∃ x, (s.getD 16 0).toNat = x := ⟨_, rfl⟩
     obtain ⟨x17, hx17⟩ : ∃ x, (s.getD 17 0).toNat = x := ⟨_, rfl⟩
     obtain ⟨x18, hx18⟩ : ∃ x, (s.getD 18 0).toNat = x := ⟨_, rfl⟩
     rw [hx10] at hc10
     rw [hx16] at hc16
     rw [hx17] at hc17
     rw [hx18] at hc18
     have HX10 := Lib.hid hx10
     have HX16 := Lib.hid hx16
     have HX17 := Lib.hid hx17
     have HX18 := Lib.hid hx18
     clear hx10 hx16 hx17 hx18
     obtain ⟨bd, hbd⟩ : ∃ bd, bd = (entS s).isNone := ⟨_, rfl⟩
     have HBD := Lib.hid hbd
     clear hbd
     go_upto_region 8 with fail
     go_cut [130] from 89 (fun v wx => v = .bool bd ∧ wx = W4)
     case first =>
       clear c0 c1 c2 f0 f1 f2 z0 z1 z2 y0 y1 y2 HEB HEO
       by_cases hA0 : A < 0
       case pos =>
         obtain rfl : bd = true := by rw [HBD.out, ent_bad (.inl (by rw [← HA.out]; exact hA0))]; rfl
         go_wp2_with fail
         go_meet
         exact ⟨rfl, rfl⟩
       by_cases hG0 : G < 0
       case pos =>
         obtain rfl : bd = true := by rw [HBD.out, ent_bad (.inr (.inl (by rw [← HGG.out]; exact hG0)))]; rfl
         go_wp2_with fail
         go_meet
         exact ⟨rfl, rfl⟩
       by_cases h10 : x10 = 32
       case neg =>
         obtain rfl : bd = true := by rw [HBD.out, ent_bad (.inr (.inr (.inl (fun e => h10 (by rw [← HX10.out, e]; rfl)))))]; rfl
         have e32 : ((x10 : Int) == 32) = false := by rw [beq_eq_false_iff_ne]; omega
         have f32 : ((x10 : Int) != 32) = true := by simp only [bne, e32, Bool.not_false]
         go_wp2_with fail
         go_meet
         exact ⟨rfl, rfl⟩
       subst h10
       by_cases h16 : x16 = 32
       case neg =>
         obtain rfl : bd = true := by rw [HBD.out, ent_bad (.inr (.inr (.inr (.inl (fun e => h16 (by rw [← HX16.out, e]; rfl))))))]; rfl
         have e32 : ((x16 : Int) == 32) = false := by rw [beq_eq_false_iff_ne]; omega
         have f32 : ((x16 : Int) != 32) = true := by simp only [bne, e32, Bool.not_false]
         go_wp2_with fail
         go_meet
         exact ⟨rfl, rfl⟩
       subst h16
       by_cases h17 : x17 = 110 ∨ x17 = 102
       case neg =>
         obtain rfl : bd = true := by rw [HBD.out, ent_bad (.inr (.inr (.inr (.inr (.inl ⟨fun e => h17 (.inl (by rw [← HX17.out, e]; rfl)), fun e => h17 (.inr (by rw [← HX17.out, e]; rfl))⟩)))))]; rfl
         have e110 : ((x17 : Int) == 110) = false := by rw [beq_eq_false_iff_ne]; omega
         have f110 : ((x17 : Int) != 110) = true := by simp only [bne, e110, Bool.not_false]
         have e102 : ((x17 : Int) == 102) = false := by rw [beq_eq_false_iff_ne]; omega
         have f102 : ((x17 : Int) != 102) = true := by simp only [bne, e102, Bool.not_false]
         go_wp2_with fail
         go_meet
         exact ⟨rfl, rfl⟩
       by_cases h18 : x18 = 32 ∨ x18 = 10 ∨ x18 = 13
       case neg =>
         obtain rfl : bd = true := by rw [HBD.out, ent_bad (.inr (.inr (.inr (.inr (.inr (⟨fun e => h18 (.inl (by rw [← HX18.out, e]; rfl)), fun e => h18 (.inr (.inl (by rw [← HX18.out, e]; rfl))), fun e => h18 (.inr (.inr (by rw [← HX18.out, e]; rfl)))⟩))))))]; rfl
         have e32 : ((x18 : Int) == 32) = false := by rw [beq_eq_false_iff_ne]; omega
         have f32 : ((x18 : Int) != 32) = true := by simp only [bne, e32, Bool.not_false]
         have e10 : ((x18 : Int) == 10) = false := by rw [beq_eq_false_iff_ne]; omega
         have f10 : ((x18 : Int) != 10) = true := by simp only [bne, e10, Bool.not_false]
         have e13 : ((x18 : Int) == 13) = false := by rw [beq_eq_false_iff_ne]; omega
         have f13 : ((x18 : Int) != 13) = true := by simp only [bne, e13, Bool.not_false]
         rcases h17 with rfl | rfl
         all_goals (go_wp2_with fail; go_meet; exact ⟨rfl, rfl⟩)
       obtain rfl : bd = false := by rw [HBD.out, ent_good (by rw [← HA.out]; omega) (by rw [← HGG.out]; omega) (u8_of HX10.out rfl) (u8_of HX16.out rfl) (h17.imp (fun e => u8_of (HX17.out.trans e) rfl) (fun e => u8_of (HX17.out.trans e) rfl)) (h18.imp (fun e => u8_of (HX18.out.trans e) rfl) (fun h => h.imp (fun e => u8_of (HX18.out.trans e) rfl) (fun e => u8_of (HX18.out.trans e) rfl)))]; rfl
       rcases h17 with rfl | rfl <;> rcases h18 with rfl | rfl | rfl
       all_goals (go_wp2_with fail; go_meet; exact ⟨rfl, rfl⟩)
     case rest =>
       obtain ⟨rfl, rfl⟩ := hcut
       cases bd
       case true =>
         have HVB := Lib.hid (HEB.out (ent_isNone HBD.out))
         clear HEB HEO hc10 hc16 hc17 hc18
         go_wp2
         refine bodyPost_ret (results_val rfl _ _ r 44 _ (0, 0) _ rfl (by exact set3a HZ4.out _ _ _) Tryz.underlying44 rfl (by exact infoEnt) _ rfl) rfl ?_
         rw [HVB.out]
         exact ⟨rfl, ⟨_, HI4.out.set3r HPR.out HR0.out _ _ _, fun h => (by cases h)⟩, keeps_set3 HK4.out HRR.out _ _ _⟩
       have HVO := Lib.hid (HEO.out _ (ent_some HBD.out))
       rw [← HA.out, ← HGG.out] at HVO
       have HU := Lib.hid (show (s.getD 17 0 == 110) = ((x17 : Int) == 110) by rw [← HX17.out]; exact u8_beq _ 110 110 rfl)
       rw [HU.out] at HVO
       have hbp := HBP.out
       have hrp : ¬ r = p := Ne.symm HPR.out
       clear HEB HEO HU HA HGG hc10 hc16 hc18
       go_wp2
       refine bodyPost_ret (results_val rfl _ _ r 44 _ (0, 0) _ rfl (by exact set3a ((heap_setCell_other _ _ _ _ (show r ≠ (⟨p, 1, none⟩ : Addr).block from Ne.symm HPR.out)).trans HZ4.out) _ _ _) Tryz.underlying44 rfl (by exact infoEnt) _ rfl) rfl ?_
       rw [HVO.out]
       exact ⟨rfl, ⟨_, (HI4.out.setAt _).set3r HPR.out HR0.out _ _ _, fun _ => rfl⟩, keeps_set3 (HK4.out.setCell (a := ⟨p, 1, none⟩) (.inl rfl) _) HRR.out _ _ _⟩
end
theorem own_new {P : Program} {w : World} {t ty e : TypeId} {z : Value} {size bytes : Nat} (T : ElemT P t e z size bytes) {base : Nat} {v : Value} {n : Nat} {xs : List Value} (hown : w.ownsRow base e size v n xs)
   {a : Addr} {c : Nat} {news : List Value} (hl : news.length = 1 * size) (hnews : ∀ j u, news[j]? = some u → w.cell? (a.add j) = some u) (h1 : ∀ u ∈ news, u.oneCell' = true) (h63 : n + 1 ≤ maxLen) (hbytes : (n + 1) * bytes ≤ 140737488355328)
   {v' : Value} {w' : World} (hr : (Builtin.append_ #[t, t] ty #[v, .slice (some a) 1 c]).run P w = .ok v' w') : ∀ b, v'.ownBlock = some b → v.ownBlock = some b ∨ w.heap.size ≤ b := by
 obtain ⟨i, hi, hz, hs, hb⟩ := info_parts T.info
 subst hb
 subst hs
 have hsmall : n + 1 ≤ 9223372036854775807 := by simp only [maxLen] at h63; omega
 intro b hb
 rcases hown.2 with ⟨rfl, rfl⟩ | ⟨g, cap, cur, rfl, hbg, hg, hnc, hcm, hcs, htake⟩
 · rw [run_append_nil (P := P) w t ty e i z T.und hi hz a 1 c news hl hnews (by omega) (by omega) (by omega)] at hr
   cases hr
   right
   simp [Value.ownBlock] at hb
   omega
 · by_cases hroom : n + 1 ≤ cap
   · have hfit : n * i.size + news.length ≤ cur.size := by rw [hl, hcs, ← Nat.add_mul]; exact Nat.mul_le_mul_right _ hroom
     rw [run_append_room (P := P) w t ty e i T.und hi g n cap cur hg a 1 c news hl hnews h1 hroom hfit] at hr
     cases hr
     left
     simpa [Value.ownBlock] using hb
   · have holds : ∀ j u, xs[j]? = some u → w.cell? ((⟨g, 0, none⟩ : Addr).add j) = some u := hown.cells (g := g) rfl
     rw [run_append_grow (P := P) w t ty e i z T.und hi hz ⟨g, 0, none⟩ n cap xs hown.1 holds a 1 c news hl hnews (by omega) (by omega) (growslice_fits (by omega) hbytes)] at hr
     cases hr
     right
     simp [Value.ownBlock] at hb
     omega
theorem append_one {P : Program} {w : World} {ops : Array Oper} {rest : List Oper} {o : Oper} {a : Act} {Q : Exit → Act → World → Prop} {t e : TypeId} {z : Value} {size bytes : Nat} (T : ElemT P t e z size bytes)
   (hgd : o.guard = none) (s x : Operand) (ho : o.op = .call { callee := .builtin .append, args := #[s, x], argTypes := #[t, t] })
   (base : Nat) (v : Value) (n : Nat) (xs : List Value) (hs : a.eval s = v) (hown : w.ownsRow base e size v n xs)
   (ad : Addr) (c : Nat) (news : List Value) (hx : a.eval x = .slice (some ad) 1 c) (hr : Row w size (some ad) 1 c news) (h1 : ∀ u ∈ news, u.oneCell' = true)
   (h63 : n + 1 ≤ maxLen) (hbytes : (n + 1) * bytes ≤ 140737488355328) (hbase : base ≤ w.heap.size)
   (h : ∀ v' w', w'.ownsRow base e size v' (n + 1) (xs ++ news) → w.grownBy w' v.ownBlock → (∀ b, v'.ownBlock = some b → v.ownBlock = some b ∨ w.heap.size ≤ b) → wpList P ops Q rest (a.put o.dst v') w') : wpList P ops Q (o :: rest) a w := by
 obtain ⟨i, hi, hz, hs', hb⟩ := info_parts T.info
 have hl : news.length = 1 * size := hr.1
 have hnews : ∀ j u, news[j]? = some u → w.cell? (ad.add j) = some u := fun j u hj => by
   obtain ⟨b, off, hab, _, hc⟩ := hr.2.2.2.2 (by omega)
   obtain rfl := Option.some.inj hab
   rw [Addr.add_lit]; exact hc j u hj
 obtain ⟨v', w', hrun, h2, h3, h4⟩ := run_append_own (P := P) w base t o.type e i z size bytes T.und hi hz hs' hb T.cells T.pos v n xs hown ad 1 c news hl hnews h1 h63 hbytes hbase
 have h5 := own_new T hown hl hnews h1 h63 hbytes hrun
 refine wpList_plain hgd fun K hK => ?_
 unfold Oper.wp execOp
 simp only [ho, resolve, invoke, builtin, Sem.run_bind, Sem.run_pure, Result.andThen_ok, List.map_toArray, List.map_cons, List.map_nil, hs, hx, hrun]
 exact hK _ _ (h v' w' h2 h3 h5)
theorem row_newS (w : World) (cs : Array Value) (e : TypeId) (n : Nat) (hn : cs.size = n) {b : Nat} (hb : w.heap.size = b) : Row (w.alloc (.cells cs e)) n (some ⟨b, 0, none⟩) 1 1 cs.toList := by
 subst hb
 exact ⟨by simp [hn], Nat.le_refl _, by simp [maxLen], fun h => (by cases h), fun _ => ⟨w.heap.size, 0, rfl, by rw [sizeA]; omega, fun j u hj => by
   rw [Nat.zero_add, cell_of_row _ _ _ _ _ _ (heapA_new _ rfl)]; simpa using hj⟩⟩
def grp1 (bs : List UInt8) (last : Bool) (x : Tk) (k : Int) : Grp × Int × Int :=
 if wholeV x = false then (⟨0, []⟩, 0, 20)
 else if (nxtV bs last k).2.2.2 ≠ 0 then (⟨0, []⟩, 0, (nxtV bs last k).2.2.2)
 else if wholeV (nxtV bs last k).1 = false ∨ fitsV x.vn (nxtV bs last k).1.vn = false then (⟨0, []⟩, 0, 20)
 else if (entsV bs last (nxtV bs last k).1.vn.toNat (nxtV bs last k).2.2.1.toNat []).2.2 ≠ 0 then (⟨0, []⟩, 0, (entsV bs last (nxtV bs last k).1.vn.toNat (nxtV bs last k).2.2.1.toNat []).2.2)
 else (⟨x.vn, (entsV bs last (nxtV bs last k).1.vn.toNat (nxtV bs last k).2.2.1.toNat []).1⟩, (entsV bs last (nxtV bs last k).1.vn.toNat (nxtV bs last k).2.2.1.toNat []).2.1, 0)
theorem set2a {w : World} {b : Nat} {x0 x1 : Value} {t : TypeId} (h : w.heap[b]? = some (.cells #[x0, x1] t (0, 0))) (y0 y1 : Value) :
   ((w.setCell ⟨b, 0, none⟩ y0).setCell ⟨b, 1, none⟩ y1).heap[b]? = some (.cells #[y0, y1] t (0, 0)) := by
 rw [heap_setCell_same _ _ 1 _ _ _ (heap_setCell_same w _ 0 _ _ _ h)]; rfl
theorem cells2 {w : World} {b : Nat} {x0 x1 : Value} {t : TypeId} (h : w.heap[b]? = some (.cells #[x0, x1] t (0, 0))) :
   (w.cell? ⟨b, 0, none⟩ = some x0 ∧ w.cell? ⟨b, 1, none⟩ = some x1) ∧ (w.frozen? ⟨b, 0, none⟩ = false ∧ w.frozen? ⟨b, 1, none⟩ = false) := by
 refine ⟨⟨?_, ?_⟩, frozen_of_row w b 0 _ _ h, frozen_of_row w b 1 _ _ h⟩
 · rw [cell_of_row w b 0 _ _ _ h]; rfl
 · rw [cell_of_row w b 1 _ _ _ h]; rfl
theorem infoGrp : (Tryz.prog.info? 42).map (·.size) = some 2 := by kernel_rfl
theorem EEnt : ElemT Tryz.prog 40 44 (.agg #[.int .i64 0, .int .i64 0, .bool false]) 3 24 := ⟨Tryz.underlying40, by kernel_rfl, rfl, by omega⟩
theorem entV_le {bs : List UInt8} {last : Bool} {k : Nat} (_hk : k ≤ bs.length) (_h : (entV bs last k).2.2 = 0) : (entV bs last k).2.1 ≤ bs.length := by
 unfold entV
 split
 · exact Nat.zero_le _
 · split
   · exact Nat.zero_le _
   · show skipS bs k + 19 ≤ _; omega
section
variable {w0 w w' : World} {p : Nat} {a : Option Addr} {cap : Nat} {bs : List UInt8} {last : Bool} {at_ : Int}
theorem IsRd.set2r (h : IsRd w0 w p a cap bs last at_) {r : Nat} (hr : p ≠ r) (h0 : w0.heap.size ≤ r) (y0 y1 : Value) : IsRd w0 ((w.setCell ⟨r, 0, none⟩ y0).setCell ⟨r, 1, none⟩ y1) p a cap bs last at_ :=
 ⟨by rw [heap_setCell_other _ _ _ _ hr, heap_setCell_other _ _ _ _ hr]; exact h.blk, h.new, h.row, (h.bel.setCell h0 _).setCell h0 _, h.small⟩
theorem keeps_set2 {S : Nat → Prop} {W : World} (h : Keeps S w W) {r : Nat} (hr : w.heap.size ≤ r) (y0 y1 : Value) : Keeps S w ((W.setCell ⟨r, 0, none⟩ y0).setCell ⟨r, 1, none⟩ y1) :=
 (h.setCell (.inr hr) _).setCell (.inr hr) _
theorem IsRd.grown (h : IsRd w0 w p a cap bs last at_) {row : Option Nat} (hg : w.grownBy w' row) (hr : ∀ b, row = some b → b ≠ p ∧ w0.heap.size ≤ b) : IsRd w0 w' p a cap bs last at_ :=
 ⟨(hg.block p h.lt (fun e => (hr p e.symm).1 rfl)).trans h.blk, h.new, h.row, h.bel.grown hg h.bel.size (fun b hb => (hr b hb).2), h.small⟩
theorem IsRd.set (h : IsRd w0 w p a cap bs last at_) {r : Nat} (hr : p ≠ r) (h0 : w0.heap.size ≤ r) (i : Nat) (y : Value) : IsRd w0 (w.setCell ⟨r, i, none⟩ y) p a cap bs last at_ :=
 ⟨by rw [heap_setCell_other _ _ _ _ hr]; exact h.blk, h.new, h.row, h.bel.setCell h0 _, h.small⟩
structure GrM (w W : World) (r g : Nat) (n : Int) (es : List Ent) (sv : Value) : Prop where
 blk : W.heap[g]? = some (.cells #[.int .i64 n, sv] 42 (0, 0))
 res : W.heap[r]? = some (.cells #[.int .i64 0, .slice none 0 0] 42 (0, 0))
 own : W.ownsRow w.heap.size 44 3 sv es.length (entsC es)
 kps : Keeps (fun b => b = p) w W
 gne : w.heap.size ≤ g ∧ r ≠ g ∧ g ≠ p
theorem GrM.ne {W : World} {r g : Nat} {n : Int} {es : List Ent} {sv : Value} (h : GrM (p := p) w W r g n es sv) {b : Nat} (hb : sv.ownBlock = some b) : b ≠ g ∧ b ≠ r := by
 obtain ⟨cs, hc⟩ := owns_type h.own hb
 exact ⟨type_ne hc h.blk (by decide), type_ne hc h.res (by decide)⟩
theorem GrM.on {W W' : World} {r g : Nat} {n : Int} {es : List Ent} {sv : Value} (h : GrM (p := p) w W r g n es sv) (hr : r ≠ p) (hp : p < w.heap.size) (hk : Keeps (fun b => b = p) W W') : GrM (p := p) w W' r g n es sv :=
 ⟨hk.obj h.blk h.gne.2.2, hk.obj h.res hr, owns_heap h.own fun b hb => hk.block b (h.own.lt b hb).2 (by have := (h.own.lt b hb).1; omega), h.kps.trans hk (fun x hx => .inl hx), h.gne⟩
theorem GrM.atG {W W8 : World} {o : Obj} {r g : Nat} {n : Int} {es : List Ent} {sv : Value} (h : GrM (p := p) w W r g n es sv) (hg8 : (W.alloc o).grownBy W8 sv.ownBlock) : W8.heap[g]? = some (.cells #[.int .i64 n, sv] 42 (0, 0)) :=
 (hg8.block g (by rw [sizeA]; have := lt_of_heap h.blk; omega) (fun e => (h.ne e.symm).1 rfl)).trans (heapA_old _ h.blk)
theorem GrM.app {W W8 : World} {o : Obj} {r g : Nat} {n : Int} {es : List Ent} {sv : Value} (h : GrM (p := p) w W r g n es sv) (hg8 : (W.alloc o).grownBy W8 sv.ownBlock) {x : Ent} {v' : Value} (hO : W8.ownsRow w.heap.size 44 3 v' (es.length + 1) (entsC es ++ entC x)) :
   GrM (p := p) w (W8.setCell ⟨g, 1, none⟩ v') r g n (es ++ [x]) v' := by
 have hG := h.atG hg8
 refine ⟨by rw [heap_setCell_same _ g 1 _ _ _ hG]; rfl, ?_, ?_, ((h.kps.alloc o).grown hg8 (fun k hk => .inr (h.own.lt k hk).1)).setCell (.inr h.gne.1) _, h.gne⟩
 · rw [heap_setCell_other _ _ _ _ h.gne.2.1]
   exact (hg8.block r (by rw [sizeA]; have := lt_of_heap h.res; omega) (fun e => (h.ne e.symm).2 rfl)).trans (heapA_old _ h.res)
 · have h2 : entsC (es ++ [x]) = entsC es ++ entC x := by rw [entsC_append]; simp [entsC]
   rw [h2, List.length_append]
   refine owns_heap hO fun b hb => ?_
   obtain ⟨cs, hc⟩ := owns_type hO hb
   exact heap_setCell_other _ _ _ _ (type_ne hc hG (by decide))
theorem isE_own {W : World} {B : Nat} {es : List Ent} {sv : Value} (h : W.ownsRow B 44 3 sv es.length (entsC es)) : IsE W (fun b => B ≤ b) es sv := by
 obtain ⟨a, cap, e, -, -⟩ := owns_slice h
 subst e
 exact ⟨a, cap, rfl, (Row.of_own h).2, fun h0 x hx => (h.lt x.block (by rw [hx]; rfl)).1⟩
theorem GrM.fin {W : World} {r g : Nat} {n : Int} {es : List Ent} {sv : Value} (h : GrM (p := p) w W r g n es sv) (y0 y1 : Value) : IsE ((W.setCell ⟨r, 0, none⟩ y0).setCell ⟨r, 1, none⟩ y1) (fun b => w.heap.size ≤ b) es sv :=
 isE_own (owns_heap h.own fun b hb => by rw [heap_setCell_other _ _ _ _ (show b ≠ r from (h.ne hb).2), heap_setCell_other _ _ _ _ (show b ≠ r from (h.ne hb).2)])
def GrpEnd (w0 w : World) (p : Nat) (a : Option Addr) (cap : Nat) (bs : List UInt8) (last : Bool) (V : Grp × Int × Int) (e : Ending) (w' : World) : Prop :=
 ∃ v, e = .returned (.tuple #[.agg #[.int .i64 V.1.first, v], .int .i64 V.2.2]) ∧ IsE w' (fun b => w.heap.size ≤ b) V.1.es v ∧ (∃ at2 : Int, IsRd w0 w' p a cap bs last at2 ∧ (V.2.2 = 0 → at2 = V.2.1)) ∧ Keeps (fun b => b = p) w w'
theorem grp_no {V : Grp × Int × Int} {W : World} {r : Nat} {e : Int} (hV : V = (⟨0, []⟩, 0, e)) (he : e ≠ 0) (hI : ∃ at2 : Int, IsRd w0 W p a cap bs last at2) (hk : Keeps (fun b => b = p) w W) (hpr : p ≠ r) (h0 : w0.heap.size ≤ r) (hr : w.heap.size ≤ r) (y0 y1 : Value) :
   GrpEnd w0 w p a cap bs last V (.returned (.tuple #[.agg #[.int .i64 0, .slice none 0 0], .int .i64 e])) ((W.setCell ⟨r, 0, none⟩ y0).setCell ⟨r, 1, none⟩ y1) := by
 subst hV
 obtain ⟨at2, hI⟩ := hI
 exact ⟨_, rfl, IsE.nil _ _, ⟨at2, hI.set2r hpr h0 _ _, fun h => absurd h he⟩, keeps_set2 hk hr _ _⟩
theorem xgroup_any {k : Int} (h : IsRd w0 w p a cap bs last k) (h0 : 0 ≤ k) (h1 : k ≤ bs.length) (x : Tk) (f t : Int) : Calls Tryz.prog 80 #[.pointer (some ⟨p, 0, none⟩), .agg (tokN x f t)] w (GrpEnd w0 w p a cap bs last (grp1 bs last x k)) := by
 have HWX := Lib.hid (fun W => xwhole_tk x f t W)
 have hto := nextV_to (bs := bs) (k := k) last h0 h1
 rw [← nxt_3] at hto
 have hsm := h.small
 have HN := Lib.hid (fun (W : World) (hI : IsRd w0 W p a cap bs last k) => xnext_any hI)
 obtain ⟨V, hV⟩ : ∃ V, V = grp1 bs last x k := ⟨_, rfl⟩
 rw [← hV]
 unfold grp1 at hV
 generalize nxtV bs last k = U at *
 obtain ⟨y, f2, t2, E⟩ := U
 simp only at hV hto HN
 have HWY := Lib.hid (fun W => xwhole_tk y f2 t2 W)
 have HV := Lib.hid hV
 have HR := Lib.hid h
 clear hV h
 unfold tokN at HWX HWY HN ⊢
 generalize wholeV x = wx at *
 generalize wholeV y = wy at *
 generalize x.kind = a0 at *
 generalize x.vk = a1 at *
 generalize x.vn = a2 at *
 generalize mkB x.vs = s1 at *
 generalize mkB x.s = s2 at *
 generalize y.kind = b0 at *
 generalize y.vk = b1 at *
 generalize y.vn = b2 at *
 generalize mkB y.vs = q1 at *
 generalize mkB y.s = q2 at *
 obtain ⟨B, hB⟩ : ∃ B, B = w.heap.size := ⟨_, rfl⟩
 have HB1 := Lib.hid (belowA2 w (.cells #[.int .i64 a0, .int .i64 f, .int .i64 t, .int .i64 a1, .int .i64 a2, .string s1, .slice none 0 0, .string s2] 150) (.cells #[.int .i64 0, .slice none 0 0] 42))
 have HX1 := Lib.hid (heapA_old (w := w.alloc (.cells #[.int .i64 a0, .int .i64 f, .int .i64 t, .int .i64 a1, .int .i64 a2, .string s1, .slice none 0 0, .string s2] 150)) (.cells #[.int .i64 0, .slice none 0 0] 42) (heapA_new (w := w) (b := B) (.cells #[.int .i64 a0, .int .i64 f, .int .i64 t, .int .i64 a1, .int .i64 a2, .string s1, .slice none 0 0, .string s2] 150) hB))
 have HZ1 := Lib.hid (heapA_new (w := w.alloc (.cells #[.int .i64 a0, .int .i64 f, .int .i64 t, .int .i64 a1, .int .i64 a2, .string s1, .slice none 0 0, .string s2] 150)) (b := B + 1) (.cells #[.int .i64 0, .slice none 0 0] 42) (by rw [sizeA, hB]))
 have HI1 := Lib.hid (HR.out.mono HB1.out)
 have HPR := Lib.hid (show p ≠ B + 1 by have := HR.out.lt; omega)
 have HPB := Lib.hid (show p ≠ B by have := HR.out.lt; omega)
 have HRW := Lib.hid (show w.heap.size ≤ B + 1 by omega)
 have HR0 := Lib.hid (Nat.le_trans HR.out.bel.size HRW.out)
 have HK1 := Lib.hid (keeps_below (S := fun b => b = p) HB1.out)
 go_enter Tryz.func80, Tryz.ntmps80
 go_upto_region 1 with fail
 try rw [← hB]
 generalize World.alloc _ _ = W1 at *
 clear hB
 generalize B + 1 = r at *
 obtain ⟨⟨x0, x1, x2, x3, x4, x5, x6, x7⟩, -⟩ := cells8 HX1.out
 obtain ⟨⟨z0, z1⟩, y0, y1⟩ := cells2 HZ1.out
 go_wp2_with fail
 refine (HWX.out _).mono ?_
 rintro e w2 ⟨rfl, hb2⟩
 have HX2 := Lib.hid (block_keep hb2 HX1.out)
 have HZ2 := Lib.hid (block_keep hb2 HZ1.out)
 have HI2 := Lib.hid (HI1.out.mono hb2)
 have HK2 := Lib.hid (Keeps.trans HK1.out (keeps_below (S := fun _ => False) hb2) (fun x h => (by cases h)))
 clear HX1 HZ1 HI1 HK1 HB1 HWX hb2 x0 x1 x2 x3 x4 x5 x6 x7 z0 z1 y0 y1
 obtain ⟨⟨x0, x1, x2, x3, x4, x5, x6, x7⟩, -⟩ := cells8 HX2.out
 obtain ⟨⟨z0, z1⟩, y0, y1⟩ := cells2 HZ2.out
 cases wx
 case false =>
   have HV2 := Lib.hid (HV.out.trans (if_pos rfl))
   go_wp2
   refine bodyPost_ret (results_val rfl _ _ r 42 _ (0, 0) _ rfl (by exact set2a HZ2.out _ _) Tryz.underlying42 rfl (by exact infoGrp) _ rfl) rfl ?_
   exact grp_no HV2.out (by decide) ⟨_, HI2.out⟩ HK2.out HPR.out HR0.out HRW.out _ _
 have HV2 := Lib.hid (HV.out.trans (if_neg (by decide)))
 clear HV
 go_wp2_with fail
 refine (HN.out _ HI2.out).mono ?_
 rintro e w3 ⟨rfl, hi3, hk3⟩
 have HT3 := Lib.hid (heapA_new (w := w3) (b := w3.heap.size) (.cells #[.int .i64 b0, .int .i64 f2, .int .i64 t2, .int .i64 b1, .int .i64 b2, .string q1, .slice none 0 0, .string q2] 150) rfl)
 have HX3 := Lib.hid (heapA_old (.cells #[.int .i64 b0, .int .i64 f2, .int .i64 t2, .int .i64 b1, .int .i64 b2, .string q1, .slice none 0 0, .string q2] 150) (hk3.obj HX2.out (Ne.symm HPB.out)))
 have HZ3 := Lib.hid (heapA_old (.cells #[.int .i64 b0, .int .i64 f2, .int .i64 t2, .int .i64 b1, .int .i64 b2, .string q1, .slice none 0 0, .string q2] 150) (hk3.obj HZ2.out (Ne.symm HPR.out)))
 have HI3 := Lib.hid (hi3.mono (belowA w3 (.cells #[.int .i64 b0, .int .i64 f2, .int .i64 t2, .int .i64 b1, .int .i64 b2, .string q1, .slice none 0 0, .string q2] 150)))
 have HK3 := Lib.hid ((Keeps.trans HK2.out hk3 (fun x h => .inl h)).alloc (.cells #[.int .i64 b0, .int .i64 f2, .int .i64 t2, .int .i64 b1, .int .i64 b2, .string q1, .slice none 0 0, .string q2] 150))
 have HTW := Lib.hid (Nat.le_trans HK2.out.size hk3.size)
 have HTP := Lib.hid (show p ≠ w3.heap.size by have := hi3.lt; omega)
 have HTX := Lib.hid (show r < w3.heap.size ∧ B < w3.heap.size from ⟨lt_of_heap (hk3.obj HZ2.out (Ne.symm HPR.out)), lt_of_heap (hk3.obj HX2.out (Ne.symm HPB.out))⟩)
 clear HX2 HZ2 HI2 HK2 hi3 hk3 HN x0 x1 x2 x3 x4 x5 x6 x7 z0 z1 y0 y1
 go_upto_region 4 with fail
 obtain ⟨T, hT⟩ : ∃ T, T = w3.heap.size := ⟨_, rfl⟩
 rw [← hT] at HT3 HTW HTP HTX ⊢
 clear hT
 generalize World.alloc _ _ = W3 at *
 obtain ⟨⟨x0, x1, x2, x3, x4, x5, x6, x7⟩, -⟩ := cells8 HX3.out
 obtain ⟨⟨v0, v1, v2, v3, v4, v5, v6, v7⟩, -⟩ := cells8 HT3.out
 obtain ⟨⟨z0, z1⟩, y0, y1⟩ := cells2 HZ3.out
 by_cases hE : E = 0
 case neg =>
   have HV3 := Lib.hid (HV2.out.trans (if_pos hE))
   have e0 : (E == 0) = false := by rw [beq_eq_false_iff_ne]; exact hE
   have e1 : (E != 0) = true := by simp only [bne, e0, Bool.not_false]
   have HE := Lib.hid hE
   clear hE
   go_wp2
   refine bodyPost_ret (results_val rfl _ _ r 42 _ (0, 0) _ rfl (by exact set2a HZ3.out _ _) Tryz.underlying42 rfl (by exact infoGrp) _ rfl) rfl ?_
   exact grp_no HV3.out HE.out ⟨_, HI3.out⟩ HK3.out HPR.out HR0.out HRW.out _ _
 subst hE
 have HV3 := Lib.hid (HV2.out.trans (if_neg (by decide)))
 clear HV2
 rw [if_pos rfl] at HI3
 obtain ⟨N, hN⟩ : ∃ N, N = b2.toNat := ⟨_, rfl⟩
 have HFT := Lib.hid (fun W => fits_any a2 b2 W)
 obtain ⟨fv, hfv⟩ : ∃ fv, fv = fitsV a2 b2 := ⟨_, rfl⟩
 rw [← hfv] at HFT HV3
 have HFV := Lib.hid hfv
 clear hfv
 rw [← hN] at HV3
 obtain ⟨Q, hQ⟩ : ∃ Q, Q = entsV bs last N t2.toNat [] := ⟨_, rfl⟩
 rw [← hQ] at HV3
 have HQ := Lib.hid hQ
 have HNN := Lib.hid hN
 clear hQ hN
 go_wp2_with fail
 refine (HWY.out _).mono ?_
 rintro e w4 ⟨rfl, hb4⟩
 have HX4 := Lib.hid (block_keep hb4 HX3.out)
 have HT4 := Lib.hid (block_keep hb4 HT3.out)
 have HZ4 := Lib.hid (block_keep hb4 HZ3.out)
 have HI4 := Lib.hid (HI3.out.mono hb4)
 have HK4 := Lib.hid (Keeps.trans HK3.out (keeps_below (S := fun _ => False) hb4) (fun x h => (by cases h)))
 clear HX3 HT3 HZ3 HI3 HK3 hb4 HWY x0 x1 x2 x3 x4 x5 x6 x7 v0 v1 v2 v3 v4 v5 v6 v7 z0 z1 y0 y1
 obtain ⟨⟨x0, x1, x2, x3, x4, x5, x6, x7⟩, -⟩ := cells8 HX4.out
 obtain ⟨⟨v0, v1, v2, v3, v4, v5, v6, v7⟩, -⟩ := cells8 HT4.out
 obtain ⟨⟨z0, z1⟩, y0, y1⟩ := cells2 HZ4.out
 cases wy
 case false =>
   have HV4 := Lib.hid (HV3.out.trans (if_pos (.inl rfl)))
   go_wp2
   refine bodyPost_ret (results_val rfl _ _ r 42 _ (0, 0) _ rfl (by exact set2a HZ4.out _ _) Tryz.underlying42 rfl (by exact infoGrp) _ rfl) rfl ?_
   exact grp_no HV4.out (by decide) ⟨_, HI4.out⟩ HK4.out HPR.out HR0.out HRW.out _ _
 cases fv
 case false =>
   have HV4 := Lib.hid (HV3.out.trans (if_pos (.inr rfl)))
   go_wp2_with (go_at_call 116; refine (HFT.out _).mono ?_; rintro e w5 ⟨rfl, rfl⟩)
   refine bodyPost_ret (results_val rfl _ _ r 42 _ (0, 0) _ rfl (by exact set2a HZ4.out _ _) Tryz.underlying42 rfl (by exact infoGrp) _ rfl) rfl ?_
   exact grp_no HV4.out (by decide) ⟨_, HI4.out⟩ HK4.out HPR.out HR0.out HRW.out _ _
 have HV4 := Lib.hid (HV3.out.trans (if_neg (by simp)))
 have hfb : 0 ≤ b2 ∧ b2 ≤ 4097 := by
   have h := HFV.out
   unfold fitsV at h
   simp only [eq_comm (a := true), Bool.and_eq_true, decide_eq_true_eq] at h
   omega
 have hb2N : b2 = (N : Int) := by have := HNN.out; omega
 subst hb2N
 have hN7 : N ≤ 4097 := by omega
 clear HV3 HFV HNN hfb
 go_upto_region 9 with (go_at_call 116; refine (HFT.out _).mono ?_; rintro e w5 ⟨rfl, rfl⟩)
 have HT5 := Lib.hid (heapA_old (.cells #[.int .i64 a2, .slice none 0 0] 42) HT4.out)
 have HG5 := Lib.hid (show GrM (p := p) w (w4.alloc (.cells #[.int .i64 a2, .slice none 0 0] 42)) r w4.heap.size a2 [] (.slice none 0 0) from ⟨heapA_new _ rfl, heapA_old _ HZ4.out, World.ownsRow_nil _ _ _ _, HK4.out.alloc _, HK4.out.size, Nat.ne_of_lt (lt_of_heap HZ4.out), fun e => by have := HI4.out.lt; omega⟩)
 have HI5 := Lib.hid (HI4.out.mono (belowA w4 (.cells #[.int .i64 a2, .slice none 0 0] 42)))
 have HPW := Lib.hid (show p < w.heap.size from HR.out.lt)
 have HWR0 := Lib.hid (Nat.le_trans HR.out.bel.size (Nat.le_refl _))
 generalize w4.heap.size = g at *
 generalize World.alloc _ _ = W5 at *
 clear HX4 HT4 HZ4 HI4 HK4 x0 x1 x2 x3 x4 x5 x6 x7 v0 v1 v2 v3 v4 v5 v6 v7 z0 z1 y0 y1
 obtain ⟨⟨v0, v1, v2, v3, v4, v5, v6, v7⟩, -⟩ := cells8 HT5.out
 go_wp2_with fail
 clear v0 v1 v2 v3 v4 v5 v6 v7 HT5
 go_loopw [49] (fun v wr => ∃ (c k2 : Nat) (es : List Ent) (sv : Value), v = .int .i64 c ∧ c ≤ N ∧ k2 ≤ bs.length ∧ Hid (es.length = c) ∧ Hid (IsRd w0 wr p a cap bs last (k2 : Int)) ∧ Hid (GrM (p := p) w wr r g a2 es sv) ∧ Hid (Q = entsV bs last (N - c) k2 es)) (fun v _ => N - (intOf v).toNat)
 case atStart => exact ⟨0, t2.toNat, [], .slice none 0 0, rfl, by omega, by omega, Lib.hid rfl, Lib.hid (by rw [Int.toNat_of_nonneg (by omega)]; exact HI5.out), HG5, HQ⟩
 case round =>
   obtain ⟨c, k2, es, sv, rfl, hcN, hk2, HES, HI, HGM, HQR⟩ := hrel
   by_cases hlt : c < N
   · have hcd : decide ((c : Int) < (N : Int)) = true := by simp; omega
     have hcd2 : decide (c < N) = true := by simp; omega
     have HEN := Lib.hid (xentry_any HI.out hk2)
     obtain ⟨m, hm⟩ : ∃ m, m + 1 = N - c := ⟨N - c - 1, by omega⟩
     have HM := Lib.hid hm
     have hQ1 := HQR.out
     rw [← hm, entsV] at hQ1
     have htl : (entV bs last k2).2.2 = 0 → (entV bs last k2).2.1 ≤ bs.length := fun h => entV_le hk2 h
     generalize entV bs last k2 = Y at *
     obtain ⟨ee, kk, er⟩ := Y
     simp only at hQ1 htl
     have HQ1 := Lib.hid hQ1
     unfold EntEnd entA at HEN
     simp only at HEN
     have HEE := Lib.hid (show entC ee = [.int .i64 ee.at_, .int .i64 ee.gen, .bool ee.used] from rfl)
     generalize ee.at_ = ea at *
     generalize ee.gen = eg at *
     generalize ee.used = eu at *
     clear hm hQ1 HQR
     go_wp2_with fail
     refine HEN.out.mono ?_
     rintro e w6 ⟨rfl, ⟨at2, hi6, hat⟩, hk6⟩
     have HE7 := Lib.hid (heapA_new (w := w6) (b := w6.heap.size) (.cells #[.int .i64 ea, .int .i64 eg, .bool eu] 44) rfl)
     have HI7 := Lib.hid (hi6.mono (belowA w6 (.cells #[.int .i64 ea, .int .i64 eg, .bool eu] 44)))
     have HG7 := Lib.hid ((HGM.out.on (Ne.symm HPR.out) HPW.out hk6).on (Ne.symm HPR.out) HPW.out (keeps_below (belowA w6 (.cells #[.int .i64 ea, .int .i64 eg, .bool eu] 44))))
     have HAT := Lib.hid hat
     clear hi6 hk6 hat HEN HI HGM
     go_upto_region 12 with fail
     obtain ⟨z, hz⟩ : ∃ z, z = w6.heap.size := ⟨_, rfl⟩
     rw [← hz] at HE7 ⊢
     clear hz
     generalize w6.alloc _ = W7 at *
     obtain ⟨⟨l0, l1, l2⟩, -⟩ := cells3 HE7.out
     obtain ⟨⟨g0, g1⟩, gf0, gf1⟩ := cells2 HG7.out.blk
     obtain ⟨⟨z0, z1⟩, y0, y1⟩ := cells2 HG7.out.res
     by_cases her : er = 0
     case neg =>
       have e0 : (er == 0) = false := by rw [beq_eq_false_iff_ne]; exact her
       have e1 : (er != 0) = true := by simp only [bne, e0, Bool.not_false]
       have HVF := Lib.hid (HV4.out.trans (show _ = ((⟨0, []⟩, 0, er) : Grp × Int × Int) by rw [HQ1.out, if_pos her]; exact if_pos her))
       have HER := Lib.hid her
       clear her HQ1 HAT htl
       go_wp2
       refine bodyPost_ret (results_val rfl _ _ r 42 _ (0, 0) _ rfl (by exact set2a HG7.out.res _ _) Tryz.underlying42 rfl (by exact infoGrp) _ rfl) rfl ?_
       exact grp_no HVF.out HER.out ⟨_, HI7.out⟩ HG7.out.kps HPR.out HR0.out HRW.out _ _
     subst her
     obtain ⟨sa, sc, rfl, -, -⟩ := owns_slice HG7.out.own
     have hL : es.length ≤ 4097 := by have := HES.out; omega
     have hone : ∀ u ∈ [Value.int .i64 ea, .int .i64 eg, .bool eu], u.oneCell' = true := by
       intro u hu
       simp at hu
       rcases hu with rfl | rfl | rfl <;> rfl
     have HONE := Lib.hid hone
     have HQ2 := Lib.hid (HQ1.out.trans (if_neg (by decide)))
     have HKK := Lib.hid (htl rfl)
     clear hone HQ1 htl
     go_wp2_with (at_builtin; go_loud (refine append_one EEnt rfl (.tmp 61) (.tmp 63) rfl w.heap.size _ es.length _ rfl (HG7.out.own.alloc _) _ 1 _ rfl (row_newS _ #[.int .i64 ea, .int .i64 eg, .bool eu] _ 3 rfl rfl) HONE.out (by unfold maxLen; omega) (by omega) (by rw [sizeA]; have := HG7.out.kps.size; omega) ?_); intro v' w8 hO8 hg8 hn8; obtain ⟨va, vc, rfl, -, -⟩ := owns_slice hO8; have HG8 := Lib.hid (HG7.out.app hg8 (by rw [HEE.out]; exact hO8)); have HI8 := Lib.hid (((HI7.out.mono (belowA _ _)).grown hg8 (fun b hb => ⟨fun e => by have := (HG7.out.own.lt b hb).1; have := HPW.out; omega, Nat.le_trans HR.out.bel.size (HG7.out.own.lt b hb).1⟩)).set (r := g) (Ne.symm HG7.out.gne.2.2) (Nat.le_trans HR.out.bel.size HG7.out.gne.1) 1 (.slice va (es.length + 1) vc)); obtain ⟨⟨q0, q1⟩, qf0, qf1⟩ := cells2 (HG7.out.atG hg8); clear hO8 hg8 hn8)
     go_roundw
     case rel => exact ⟨c + 1, kk, es ++ [ee], _, by go_num, by omega, HKK.out, Lib.hid (by rw [List.length_append, HES.out]; rfl), by rw [← HAT.out rfl]; exact HI8, HG8, Lib.hid (by rw [HQ2.out, show N - (c + 1) = m by have := HM.out; omega])⟩
     case measure => simp [intOf]; omega
   · have hce : c = N := by omega
     subst hce
     have hcd : decide ((c : Int) < (c : Int)) = false := decide_eq_false (by omega)
     have hcd2 : decide (c < c) = false := decide_eq_false (by omega)
     have HQ2 := Lib.hid (HQR.out.trans (show entsV bs last (c - c) k2 es = (es, k2, 0) by rw [Nat.sub_self]; rfl))
     have HVF := Lib.hid (HV4.out.trans (show _ = ((⟨a2, es⟩, k2, 0) : Grp × Int × Int) by rw [HQ2.out]; exact if_neg (fun h => h rfl)))
     obtain ⟨⟨g0, g1⟩, gf0, gf1⟩ := cells2 HGM.out.blk
     obtain ⟨⟨z0, z1⟩, y0, y1⟩ := cells2 HGM.out.res
     obtain ⟨sa, sc, hsv, -, -⟩ := owns_slice HGM.out.own
     subst hsv
     go_wp2
     refine bodyPost_ret (results_val rfl _ _ r 42 _ (0, 0) _ rfl (by exact set2a HGM.out.res _ _) Tryz.underlying42 rfl (by exact infoGrp) _ rfl) rfl ?_
     rw [HVF.out]
     refine ⟨_, rfl, ?_, ⟨_, HI.out.set2r HPR.out HR0.out _ _, fun _ => rfl⟩, keeps_set2 HGM.out.kps HRW.out _ _⟩
     exact HGM.out.fin _ _
end
theorem grps_err {bs : List UInt8} {last : Bool} {g : Nat} {gs : List Grp} {k : Int} (he : (nxtV bs last k).2.2.2 ≠ 0) : grpsV bs last (g + 1) gs k = ([], 0, (nxtV bs last k).2.2.2) := by
 unfold grpsV; simp only; rw [if_pos he]
theorem grps_trail {bs : List UInt8} {last : Bool} {g : Nat} {gs : List Grp} {k : Int} (he : (nxtV bs last k).2.2.2 = 0) (ht : trailT (nxtV bs last k).1 = true) : grpsV bs last (g + 1) gs k = (gs, (nxtV bs last k).2.2.1, 0) := by
 unfold grpsV; simp only; rw [if_neg (by rw [he]; decide), if_pos ht]
theorem grps_bad {bs : List UInt8} {last : Bool} {g : Nat} {gs : List Grp} {k : Int} (he : (nxtV bs last k).2.2.2 = 0) (ht : trailT (nxtV bs last k).1 = false) (hw : wholeV (nxtV bs last k).1 = false) : grpsV bs last (g + 1) gs k = ([], 0, 20) := by
 unfold grpsV; simp only; rw [if_neg (by rw [he]; decide), if_neg (by rw [ht]; decide), if_pos hw]
theorem grps_full {bs : List UInt8} {last : Bool} {g : Nat} {gs : List Grp} {k : Int} (he : (nxtV bs last k).2.2.2 = 0) (ht : trailT (nxtV bs last k).1 = false) (hw : wholeV (nxtV bs last k).1 = true) (hl : gs.length = 64) :
   grpsV bs last (g + 1) gs k = ([], 0, if (nxtV bs last (nxtV bs last k).2.2.1).2.2.2 ≠ 0 then (nxtV bs last (nxtV bs last k).2.2.1).2.2.2 else 20) := by
 unfold grpsV; simp only
 rw [if_neg (by rw [he]; decide), if_neg (by rw [ht]; decide), if_neg (by rw [hw]; decide)]
 split
 · rfl
 · rw [if_pos (.inr (.inl hl))]
theorem grps_step {bs : List UInt8} {last : Bool} {g : Nat} {gs : List Grp} {k : Int} (he : (nxtV bs last k).2.2.2 = 0) (ht : trailT (nxtV bs last k).1 = false) (hl : gs.length ≠ 64) :
   grpsV bs last (g + 1) gs k = if (grp1 bs last (nxtV bs last k).1 (nxtV bs last k).2.2.1).2.2 ≠ 0 then ([], 0, (grp1 bs last (nxtV bs last k).1 (nxtV bs last k).2.2.1).2.2)
     else grpsV bs last g (gs ++ [(grp1 bs last (nxtV bs last k).1 (nxtV bs last k).2.2.1).1]) (grp1 bs last (nxtV bs last k).1 (nxtV bs last k).2.2.1).2.1 := by
 conv => lhs; unfold grpsV
 simp only
 rw [if_neg (by rw [he]; decide), if_neg (by rw [ht]; decide)]
 unfold grp1
 generalize nxtV bs last (nxtV bs last k).2.2.1 = u
 generalize nxtV bs last k = t
 by_cases hw : wholeV t.1 = false
 · simp [hw]
 rw [if_neg hw, if_neg hw]
 by_cases hu : u.2.2.2 ≠ 0
 · rw [if_pos hu, if_pos hu]
   simp [hu]
 rw [if_neg hu, if_neg hu]
 by_cases hf : wholeV u.1 = false ∨ fitsV t.1.vn u.1.vn = false
 · rw [if_pos (hf.imp id fun h => .inr h), if_pos hf]
   simp
 rw [if_neg (fun h => h.elim (fun a => hf (.inl a)) (fun b => b.elim hl (fun c => hf (.inr c)))), if_neg hf]
 by_cases hq : (entsV bs last u.1.vn.toNat u.2.2.1.toNat []).2.2 ≠ 0
 · rw [if_pos hq, if_pos hq]
   simp [hq]
 · rw [if_neg hq, if_neg hq]
   simp
theorem grp1_le {bs : List UInt8} {last : Bool} {x : Tk} {k : Int} (h0 : 0 ≤ k) (h1 : k ≤ bs.length) : 0 ≤ (grp1 bs last x k).2.1 ∧ (grp1 bs last x k).2.1 ≤ bs.length := by
 have hto := nextV_to (bs := bs) (k := k) last h0 h1
 rw [← nxt_3] at hto
 have hen : ∀ (m a : Nat) (l : List Ent), a ≤ bs.length → (entsV bs last m a l).2.1 ≤ bs.length := by
   intro m
   induction m with
   | zero => intro a l h; exact h
   | succ m ih =>
     intro a l h
     rw [entsV]
     split
     · exact Nat.zero_le _
     · rename_i he
       exact ih _ _ (entV_le h (by simpa using he))
 unfold grp1
 split
 · exact ⟨Int.le_refl _, by show (0 : Int) ≤ _; omega⟩
 split
 · exact ⟨Int.le_refl _, by show (0 : Int) ≤ _; omega⟩
 split
 · exact ⟨Int.le_refl _, by show (0 : Int) ≤ _; omega⟩
 split
 · exact ⟨Int.le_refl _, by show (0 : Int) ≤ _; omega⟩
 · have := hen (nxtV bs last k).1.vn.toNat (nxtV bs last k).2.2.1.toNat [] (by omega)
   exact ⟨by show (0 : Int) ≤ ((_ : Nat) : Int); omega, by show ((_ : Nat) : Int) ≤ _; omega⟩
theorem EGrp : ElemT Tryz.prog 24 42 (.agg #[.int .i64 0, .slice none 0 0]) 2 32 := ⟨Tryz.underlying24, by kernel_rfl, rfl, by omega⟩
theorem trail_iff (x : Tk) : trailT x = (x.kind == 6 && decide (x.s = [116, 114, 97, 105, 108, 101, 114])) := by
 unfold trailT
 congr 1
 by_cases h : x.s = [116, 114, 97, 105, 108, 101, 114] <;> simp [h]
theorem heapA_keep (W : World) (o : Obj) {b : Nat} (hb : b < W.heap.size) : (W.alloc o).heap[b]? = W.heap[b]? := (belowA W o).block b hb
structure GsM (w W : World) (p : Nat) (gs : List Grp) (cs : List Value) (v : Value) : Prop where
 own : W.ownsRow w.heap.size 42 2 v gs.length cs
 hold : IsGs W (fun b => w.heap.size ≤ b ∧ v.ownBlock ≠ some b) gs cs
 kps : Keeps (fun b => b = p) w W
theorem GsM.on {w W W' : World} {p : Nat} {gs : List Grp} {cs : List Value} {v : Value} (h : GsM w W p gs cs v) (hp : p < w.heap.size) (hk : Keeps (fun b => b = p) W W') : GsM w W' p gs cs v :=
 ⟨owns_heap h.own fun b hb => hk.block b (h.own.lt b hb).2 (by have := (h.own.lt b hb).1; omega), h.hold.keep ⟨hk.size, fun b hb hF => hk.block b hb (by have := hF.1; omega)⟩ (fun _ h => h), h.kps.trans hk (fun x hx => .inl hx)⟩
theorem GsM.fin {w W : World} {p : Nat} {gs : List Grp} {cs : List Value} {v : Value} (h : GsM w W p gs cs v) : IsG W (fun b => w.heap.size ≤ b) gs v := by
 obtain ⟨a, cap, e, -, -⟩ := owns_slice h.own
 subst e
 exact ⟨a, cap, cs, rfl, (Row.of_own h.own).2, fun h0 x hx => (h.own.lt x.block (by rw [hx]; rfl)).1, h.hold.keep (Stays.refl _ _) (fun b hb => hb.1)⟩
theorem GsM.app {w W W8 : World} {p : Nat} {o : Obj} {gs : List Grp} {cs : List Value} {v v' : Value} (h : GsM w W p gs cs v) (hg8 : (W.alloc o).grownBy W8 v.ownBlock) {n : Int} {es : List Ent} {sv : Value} {B : Nat} (he : IsE W (fun b => B ≤ b) es sv) (hB : w.heap.size ≤ B) (hv : ∀ b, v.ownBlock = some b → b < B) (_hBW : B ≤ W.heap.size)
   (hO : W8.ownsRow w.heap.size 42 2 v' (gs.length + 1) (cs ++ [.int .i64 n, sv])) (hn : ∀ b, v'.ownBlock = some b → v.ownBlock = some b ∨ (W.alloc o).heap.size ≤ b) : GsM w W8 p (gs ++ [⟨n, es⟩]) (cs ++ [.int .i64 n, sv]) v' := by
 have hst : Stays (fun b => v.ownBlock ≠ some b ∧ b < W.heap.size) W W8 := ⟨by have := hg8.size; rw [sizeA] at this; omega, fun b hb hF => by
   rw [hg8.block b (by rw [sizeA]; omega) (fun e => hF.1 e.symm)]
   exact (heapA_keep W o hb)⟩
 refine ⟨by rw [List.length_append]; exact hO, ?_, (h.kps.alloc o).grown hg8 (fun k hk => .inr (h.own.lt k hk).1)⟩
 have hnew : ∀ b, b < W.heap.size → v.ownBlock ≠ some b → v'.ownBlock ≠ some b := fun b hb hne e => by
   rcases hn b e with h1 | h1
   · exact hne h1
   · rw [sizeA] at h1; omega
 have lt_e : ∀ {es : List Ent} {sv : Value} {F : Nat → Prop}, IsE W F es sv → IsE W (fun b => F b ∧ b < W.heap.size) es sv := fun {es sv F} h => by
   obtain ⟨a, cap, e, hr, hF⟩ := h
   exact ⟨a, cap, e, hr, fun h0 x hx => ⟨hF h0 x hx, hr.lt h0 x hx⟩⟩
 have lt_g : ∀ {gs : List Grp} {cs : List Value} {F : Nat → Prop}, IsGs W F gs cs → IsGs W (fun b => F b ∧ b < W.heap.size) gs cs := fun {gs} => by
   induction gs with
   | nil => exact fun h => h
   | cons g gs ih => exact fun ⟨v, t, e, h1, h2⟩ => ⟨v, t, e, lt_e h1, ih h2⟩
 refine IsGs.snoc ?_ ?_
 · have h2 := (lt_g h.hold)
   have h3 : IsGs W8 (fun b => (w.heap.size ≤ b ∧ v.ownBlock ≠ some b) ∧ b < W.heap.size) gs cs := h2.keep ⟨hst.1, fun b hb hF => hst.2 b hb ⟨hF.1.2, hF.2⟩⟩ (fun _ h => h)
   exact h3.keep (Stays.refl _ _) (fun b hb => ⟨hb.1.1, hnew b hb.2 hb.1.2⟩)
 · have h2 : IsE W (fun b => B ≤ b ∧ b < W.heap.size) es sv := lt_e he
   have hne : ∀ b, B ≤ b → v.ownBlock ≠ some b := fun b hb e => by have := hv b e; omega
   have h3 : IsE W8 (fun b => B ≤ b ∧ b < W.heap.size) es sv := h2.keep ⟨hst.1, fun b hb hF => hst.2 b hb ⟨hne b hF.1, hF.2⟩⟩ (fun _ h => h)
   exact h3.keep (Stays.refl _ _) (fun b hb => ⟨Nat.le_trans hB hb.1, hnew b hb.2 (hne b hb.1)⟩)
section
variable {w0 w : World} {p : Nat} {a : Option Addr} {cap : Nat} {bs : List UInt8} {last : Bool}
def GsEnd (w0 w : World) (p : Nat) (a : Option Addr) (cap : Nat) (bs : List UInt8) (last : Bool) (V : List Grp × Int × Int) (e : Ending) (w' : World) : Prop :=
 ∃ v, e = .returned (.tuple #[v, .int .i64 V.2.2]) ∧ IsG w' (fun b => w.heap.size ≤ b) V.1 v ∧ (∃ at2 : Int, IsRd w0 w' p a cap bs last at2 ∧ (V.2.2 = 0 → at2 = V.2.1)) ∧ Keeps (fun b => b = p) w w'
theorem gs_no {V : List Grp × Int × Int} {W : World} {e : Int} (hV : V = ([], 0, e)) (he : e ≠ 0) (hI : ∃ at2 : Int, IsRd w0 W p a cap bs last at2) (hk : Keeps (fun b => b = p) w W) : GsEnd w0 w p a cap bs last V (.returned (.tuple #[.slice none 0 0, .int .i64 e])) W := by
 subst hV
 obtain ⟨at2, hI⟩ := hI
 exact ⟨_, rfl, IsG.nil _ _, ⟨at2, hI, fun h => absurd h he⟩, hk⟩
def lenV : Value → Nat | .slice _ n _ => n | _ => 0
theorem xgroups_any {k : Int} (h : IsRd w0 w p a cap bs last k) (h0 : 0 ≤ k) (h1 : k ≤ bs.length) : Calls Tryz.prog 44 #[.pointer (some ⟨p, 0, none⟩)] w (GsEnd w0 w p a cap bs last (grpsV bs last 65 [] k)) := by
 have hsm := h.small
 have HPW := Lib.hid (show p < w.heap.size from h.lt)
 obtain ⟨R, hR⟩ : ∃ R, R = grpsV bs last 65 [] k := ⟨_, rfl⟩
 rw [← hR]
 have HRR := Lib.hid hR
 have HR := Lib.hid h
 clear h hR
 go_enter Tryz.func44, Tryz.ntmps44
 go_wp2
 go_loopw [4] (fun v wr => ∃ (gs : List Grp) (k2 : Int) (cs : List Value), gs.length ≤ 64 ∧ 0 ≤ k2 ∧ k2 ≤ bs.length ∧ Hid (IsRd w0 wr p a cap bs last k2) ∧ Hid (GsM w wr p gs cs v) ∧ Hid (R = grpsV bs last (65 - gs.length) gs k2)) (fun v _ => 65 - lenV v)
 case atStart => exact ⟨[], k, [], by simp, h0, h1, HR, Lib.hid ⟨World.ownsRow_nil _ _ _ _, rfl, Keeps.refl _ _⟩, HRR⟩
 case round =>
   obtain ⟨gs, k2, cs, hgl, hk0, hk1, HI, HGM, HQ⟩ := hrel
   obtain ⟨sa, sc, rfl, -, -⟩ := owns_slice HGM.out.own
   have HN := Lib.hid (xnext_any HI.out)
   have hto := nextV_to (bs := bs) (k := k2) last hk0 hk1
   rw [← nxt_3] at hto
   obtain ⟨m, hm⟩ : ∃ m, m + 1 = 65 - gs.length := ⟨64 - gs.length, by omega⟩
   have hQ := HQ.out
   rw [← hm] at hQ
   have HM := Lib.hid hm
   have HQE := Lib.hid (fun he => hQ.trans (grps_err he))
   have HQT := Lib.hid (fun he ht => hQ.trans (grps_trail he ht))
   have HQB := Lib.hid (fun he ht hw => hQ.trans (grps_bad he ht hw))
   have HQF := Lib.hid (fun he ht hw hl => hQ.trans (grps_full he ht hw hl))
   have HQS := Lib.hid (fun he ht hl => hQ.trans (grps_step he ht hl))
   have HN2 := Lib.hid (fun (W : World) (hI : IsRd w0 W p a cap bs last (nxtV bs last k2).2.2.1) => xnext_any hI)
   have HGR := Lib.hid (fun (W : World) (hI : IsRd w0 W p a cap bs last (nxtV bs last k2).2.2.1) => xgroup_any hI (by omega) hto.2 (nxtV bs last k2).1 (nxtV bs last k2).2.1 (nxtV bs last k2).2.2.1)
   have HGL := Lib.hid (grp1_le (bs := bs) (last := last) (x := (nxtV bs last k2).1) (k := (nxtV bs last k2).2.2.1) (by omega) hto.2)
   have HGB := Lib.hid (fun (h : wholeV (nxtV bs last k2).1 = false) => show (grp1 bs last (nxtV bs last k2).1 (nxtV bs last k2).2.2.1).2.2 = 20 by unfold grp1; rw [if_pos h])
   have HTI := Lib.hid (trail_iff (nxtV bs last k2).1)
   have HWX := Lib.hid (fun W => xwhole_tk (nxtV bs last k2).1 (nxtV bs last k2).2.1 (nxtV bs last k2).2.2.1 W)
   have HSQ := Lib.hid (eq_mkB (nxtV bs last k2).1.s [116, 114, 97, 105, 108, 101, 114])
   clear hm hQ HQ
   generalize nxtV bs last k2 = U at *
   obtain ⟨x, f, t, E⟩ := U
   simp only at hto HN HQE HQT HQB HQF HQS HN2 HGR HGL HTI HWX HSQ
   generalize nxtV bs last t = U2 at *
   obtain ⟨y, f2, t2, E2⟩ := U2
   generalize grp1 bs last x t = G at *
   obtain ⟨⟨gn, ge⟩, gk, gr⟩ := G
   unfold GrpEnd at HGR
   simp only at HQF HQS HN2 HGR HGL HGB
   unfold tokN at HN HN2 HWX HGR
   obtain ⟨tr, htr⟩ : ∃ tr, tr = decide (x.s = [116, 114, 97, 105, 108, 101, 114]) := ⟨_, rfl⟩
   rw [← htr] at HTI HSQ
   rw [HTI.out] at HQT HQB HQF HQS
   clear htr HTI
   generalize wholeV x = wx at *
   generalize x.kind = a0 at *
   generalize x.vk = a1 at *
   generalize x.vn = a2 at *
   generalize mkB x.vs = s1 at *
   generalize mkB x.s = s2 at *
   generalize y.kind = b0 at *
   generalize y.vk = b1 at *
   generalize y.vn = b2 at *
   generalize mkB y.vs = q1 at *
   generalize mkB y.s = q2 at *
   go_wp2_with fail
   refine HN.out.mono ?_
   rintro e w3 ⟨rfl, hi3, hk3⟩
   have HT3 := Lib.hid (heapA_new (w := w3) (b := w3.heap.size) (.cells #[.int .i64 a0, .int .i64 f, .int .i64 t, .int .i64 a1, .int .i64 a2, .string s1, .slice none 0 0, .string s2] 150) rfl)
   have HI3 := Lib.hid (hi3.mono (belowA w3 (.cells #[.int .i64 a0, .int .i64 f, .int .i64 t, .int .i64 a1, .int .i64 a2, .string s1, .slice none 0 0, .string s2] 150)))
   have HG3 := Lib.hid ((HGM.out.on HPW.out hk3).on HPW.out (keeps_below (belowA w3 (.cells #[.int .i64 a0, .int .i64 f, .int .i64 t, .int .i64 a1, .int .i64 a2, .string s1, .slice none 0 0, .string s2] 150))))
   have HTP := Lib.hid (show w3.heap.size ≠ p by have := hi3.lt; omega)
   clear hi3 hk3 HN HI HGM
   go_upto_region 3 with fail
   obtain ⟨T, hT⟩ : ∃ T, T = w3.heap.size := ⟨_, rfl⟩
   rw [← hT] at HT3 HTP ⊢
   clear hT
   generalize World.alloc _ _ = W3 at *
   obtain ⟨⟨v0, v1, v2, v3, v4, v5, v6, v7⟩, -⟩ := cells8 HT3.out
   by_cases hE : E = 0
   case neg =>
     have HV3 := Lib.hid (HQE.out hE)
     have e0 : (E == 0) = false := by rw [beq_eq_false_iff_ne]; exact hE
     have e1 : (E != 0) = true := by simp only [bne, e0, Bool.not_false]
     have HE := Lib.hid hE
     clear hE
     go_wp2
     go_ret2
     exact gs_no HV3.out HE.out ⟨_, HI3.out⟩ HG3.out.kps
   subst hE
   rw [if_pos rfl] at HI3
   have hsq := HSQ.out
   obtain ⟨k6, hk6⟩ : ∃ k6, k6 = (a0 == 6) := ⟨_, rfl⟩
   rw [← hk6] at HQT HQB HQF HQS
   have HK6 := Lib.hid hk6
   obtain ⟨tb, htb⟩ : ∃ tb, tb = (k6 && tr) := ⟨_, rfl⟩
   rw [← htb] at HQT HQB HQF HQS
   have HTB := Lib.hid htb
   clear htb hk6
   go_upto_region 5 with fail
   go_cut [27] from 10 to 59 (fun v wx => v = .bool tb ∧ wx = W3)
   case first =>
     clear HQT HQB HQF HQS HN2 HGR HGL HGB
     cases k6
     · have e6 := HK6.out.symm
       obtain rfl : tb = false := HTB.out
       go_wp2_with fail
       go_meet
       exact ⟨rfl, rfl⟩
     · have e6 := HK6.out.symm
       obtain rfl : tb = tr := HTB.out
       go_wp2_with fail
       go_meet
       exact ⟨rfl, rfl⟩
   case rest =>
   obtain ⟨rfl, hw⟩ := hcut
   subst hw
   clear hsq HSQ HK6 HTB
   cases tb
   case true =>
     have HV3 := Lib.hid (HQT.out rfl rfl)
     clear HQT HQB HQF HQS HN2 HGR HGL HGB v0 v1 v2 v3 v4 v5 v6 v7
     go_wp2
     go_ret2
     rw [HV3.out]
     exact ⟨_, rfl, HG3.out.fin, ⟨_, HI3.out, fun _ => rfl⟩, HG3.out.kps⟩
   have HQB2 := Lib.hid (HQB.out rfl rfl)
   have HQF2 := Lib.hid (HQF.out rfl rfl)
   have HQS2 := Lib.hid (HQS.out rfl rfl)
   clear HQT HQB HQF HQS
   obtain ⟨fb, hfb⟩ : ∃ fb, fb = (decide (gs.length = 64) && wx) := ⟨_, rfl⟩
   have HFB := Lib.hid hfb
   clear hfb
   go_upto_region 7 with fail
   go_cut [35] from 10 to 59 (fun v wx => v = .bool fb ∧ Hid (IsRd w0 wx p a cap bs last t) ∧ Hid (GsM w wx p gs cs (.slice sa gs.length sc)) ∧ Hid (wx.heap[T]? = some (.cells #[.int .i64 a0, .int .i64 f, .int .i64 t, .int .i64 a1, .int .i64 a2, .string s1, .slice none 0 0, .string s2] 150 (0, 0))))
   case first =>
     clear HQB2 HQF2 HQS2 HN2 HGR HGL HGB
     by_cases h64 : gs.length = 64
     · obtain rfl : fb = wx := by rw [HFB.out, decide_eq_true h64, Bool.true_and]
       have hd64 : ((gs.length : Int) == 64) = true := by rw [beq_iff_eq]; omega
       have hd64n : (gs.length == 64) = true := by rw [beq_iff_eq]; exact h64
       clear h64
       go_wp2_with (go_at_call 79; refine (HWX.out _).mono ?_; rintro e w4 ⟨rfl, hb4⟩; have HI4 := Lib.hid (HI3.out.mono hb4); have HG4 := Lib.hid (HG3.out.on HPW.out (keeps_below hb4)); have HT4 := Lib.hid (block_keep hb4 HT3.out))
       go_meet
       exact ⟨rfl, HI4, HG4, HT4⟩
     · obtain rfl : fb = false := by rw [HFB.out, decide_eq_false h64, Bool.false_and]
       have hd64 : ((gs.length : Int) == 64) = false := by rw [beq_eq_false_iff_ne]; omega
       have hd64n : (gs.length == 64) = false := by rw [beq_eq_false_iff_ne]; exact h64
       go_wp2_with fail
       go_meet
       exact ⟨rfl, HI3, HG3, HT3⟩
   case rest =>
   obtain ⟨rfl, HI4, HG4, HT4⟩ := hcut
   clear HI3 HG3 HT3 v0 v1 v2 v3 v4 v5 v6 v7 HWX
   obtain ⟨⟨v0, v1, v2, v3, v4, v5, v6, v7⟩, -⟩ := cells8 HT4.out
   cases fb
   case true =>
     have h64 : gs.length = 64 ∧ wx = true := by have := HFB.out; simpa using this.symm
     have HVF := Lib.hid (HQF2.out h64.2 h64.1)
     clear HQB2 HQS2 HQF2 HGR HGL HGB HFB h64
     go_wp2_with fail
     refine (HN2.out _ HI4.out).mono ?_
     rintro e w5 ⟨rfl, hi5, hk5⟩
     have HI5 := Lib.hid (hi5.mono (belowA w5 (.cells #[.int .i64 b0, .int .i64 f2, .int .i64 t2, .int .i64 b1, .int .i64 b2, .string q1, .slice none 0 0, .string q2] 150)))
     have HG5 := Lib.hid ((HG4.out.on HPW.out hk5).on HPW.out (keeps_below (belowA w5 (.cells #[.int .i64 b0, .int .i64 f2, .int .i64 t2, .int .i64 b1, .int .i64 b2, .string q1, .slice none 0 0, .string q2] 150))))
     have HT5 := Lib.hid (heapA_new (w := w5) (b := w5.heap.size) (.cells #[.int .i64 b0, .int .i64 f2, .int .i64 t2, .int .i64 b1, .int .i64 b2, .string q1, .slice none 0 0, .string q2] 150) rfl)
     clear hi5 hk5 HN2 HI4 HG4 HT4 v0 v1 v2 v3 v4 v5 v6 v7
     go_upto_region 9 with fail
     generalize w5.heap.size = T5 at *
     generalize World.alloc _ _ = W5 at *
     obtain ⟨⟨v0, v1, v2, v3, v4, v5, v6, v7⟩, -⟩ := cells8 HT5.out
     by_cases hE2 : E2 = 0
     · subst hE2
       rw [if_neg (by decide)] at HVF
       go_wp2
       go_ret2
       exact gs_no HVF.out (by decide) ⟨_, HI5.out⟩ HG5.out.kps
     · have e0 : (E2 == 0) = false := by rw [beq_eq_false_iff_ne]; exact hE2
       have e1 : (E2 != 0) = true := by simp only [bne, e0, Bool.not_false]
       have HE2 := Lib.hid hE2
       rw [if_pos hE2] at HVF
       clear hE2
       go_wp2
       go_ret2
       exact gs_no HVF.out HE2.out ⟨_, HI5.out⟩ HG5.out.kps
   have HGE := Lib.hid (show gr ≠ 0 → R = ([], 0, gr) from fun h => by
     by_cases h64 : gs.length = 64
     · have hwx : wx = false := by have := HFB.out; rw [decide_eq_true h64, Bool.true_and] at this; exact this.symm
       rw [HQB2.out hwx, HGB.out hwx]
     · have := HQS2.out h64
       rw [if_pos h] at this
       exact this)
   have HGO := Lib.hid (show gr = 0 → gs.length ≠ 64 ∧ R = grpsV bs last m (gs ++ [⟨gn, ge⟩]) gk from fun h => by
     by_cases h64 : gs.length = 64
     · have hwx : wx = false := by have := HFB.out; rw [decide_eq_true h64, Bool.true_and] at this; exact this.symm
       have := HGB.out hwx
       rw [h] at this
       cases this
     · have := HQS2.out h64
       rw [if_neg (by rw [h]; decide)] at this
       exact ⟨h64, this⟩)
   clear HQB2 HQF2 HQS2 HGB HFB HN2
   go_wp2_with fail
   refine (HGR.out _ HI4.out).mono ?_
   rintro e w6 ⟨gv, rfl, hie, ⟨at2, hi6, hat⟩, hk6⟩
   have HG6 := Lib.hid (HG4.out.on HPW.out hk6)
   have HVB := Lib.hid (show ∀ b, Value.ownBlock (.slice sa gs.length sc) = some b → b < wc.heap.size from fun b hb => (HG4.out.own.lt b hb).2)
   have HWW := Lib.hid (show w.heap.size ≤ wc.heap.size ∧ wc.heap.size ≤ w6.heap.size from ⟨HG4.out.kps.size, hk6.size⟩)
   obtain ⟨va, vc, rfl, -, -⟩ := hie.len
   have HI7 := Lib.hid (hi6.mono (belowA w6 (.cells #[.int .i64 gn, .slice va ge.length vc] 42)))
   have HG7 := Lib.hid (HG6.out.on HPW.out (keeps_below (belowA w6 (.cells #[.int .i64 gn, .slice va ge.length vc] 42))))
   have HE7 := Lib.hid (hie.below (belowA w6 (.cells #[.int .i64 gn, .slice va ge.length vc] 42)))
   have HZ7 := Lib.hid (heapA_new (w := w6) (b := w6.heap.size) (.cells #[.int .i64 gn, .slice va ge.length vc] 42) rfl)
   have HAT := Lib.hid hat
   have HWS := Lib.hid (sizeA w6 (.cells #[.int .i64 gn, .slice va ge.length vc] 42))
   clear hie hi6 hat hk6 HG4 HI4 HT4 HGR HG6 v0 v1 v2 v3 v4 v5 v6 v7
   go_upto_region 14 with fail
   obtain ⟨z, hz⟩ : ∃ z, z = w6.heap.size := ⟨_, rfl⟩
   rw [← hz] at HZ7 HWW HWS ⊢
   clear hz
   generalize w6.alloc _ = W7 at *
   obtain ⟨⟨z0, z1⟩, -⟩ := cells2 HZ7.out
   by_cases hgr : gr = 0
   case neg =>
     have HVF := Lib.hid (HGE.out hgr)
     have e0 : (gr == 0) = false := by rw [beq_eq_false_iff_ne]; exact hgr
     have e1 : (gr != 0) = true := by simp only [bne, e0, Bool.not_false]
     have HE2 := Lib.hid hgr
     clear hgr
     go_wp2
     go_ret2
     exact gs_no HVF.out HE2.out ⟨_, HI7.out⟩ HG7.out.kps
   subst hgr
   obtain ⟨h64, hRQ⟩ := HGO.out rfl
   have hL : gs.length ≤ 63 := by omega
   have HRQ := Lib.hid hRQ
   have hone : ∀ u ∈ [Value.int .i64 gn, .slice va ge.length vc], u.oneCell' = true := by
     intro u hu
     simp at hu
     rcases hu with rfl | rfl <;> rfl
   have HONE := Lib.hid hone
   have HKK := Lib.hid HGL.out
   clear hone h64 hRQ HGO HGE HGL
   go_wp2_with (at_builtin; go_loud (refine append_one EGrp rfl (.tmp 56) (.tmp 58) rfl w.heap.size _ gs.length _ rfl (HG7.out.own.alloc _) _ 1 _ rfl (row_newS _ #[.int .i64 gn, .slice va ge.length vc] _ 2 rfl rfl) HONE.out (by unfold maxLen; omega) (by omega) (by rw [sizeA]; have := HG7.out.kps.size; omega) ?_); intro v' w8 hO8 hg8 hn8; obtain ⟨ua, uc, rfl, -, -⟩ := owns_slice hO8; have HG8 := Lib.hid (HG7.out.app hg8 HE7.out HWW.out.1 HVB.out (by have := HWW.out.2; have := HWS.out; omega) hO8 hn8); have HI8 := Lib.hid ((HI7.out.mono (belowA _ _)).grown hg8 (fun b hb => ⟨fun e => by have := (HG7.out.own.lt b hb).1; have := HPW.out; omega, Nat.le_trans HR.out.bel.size (HG7.out.own.lt b hb).1⟩)); clear hO8 hg8 hn8)
   go_roundw
   case rel => exact ⟨gs ++ [⟨gn, ge⟩], gk, _, by rw [List.length_append]; simp; omega, HKK.out.1, HKK.out.2, by rw [← HAT.out rfl]; exact HI8, HG8, Lib.hid (by rw [HRQ.out, List.length_append, show 65 - (gs.length + [(⟨gn, ge⟩ : Grp)].length) = m by have := HM.out; simp; omega])⟩
   case measure => simp [lenV]; omega
end
end Go.Proofs.YtfafdeemfeaedaaGreat
namespace Go.Proofs.YtfafdeemfeaedaaGreat
def fIx (s : List UInt8) : List (PV × PV) → Nat
 | [] => 0
 | y :: l => if y.1.s = s then 0 else fIx s l + 1
theorem fIx_le (s : List UInt8) : ∀ l, fIx s l ≤ l.length
 | [] => Nat.le_refl _
 | y :: l => by
   have := fIx_le s l
   unfold fIx
   split
   · exact Nat.zero_le _
   · simp; omega
theorem fIx_has (s : List UInt8) : ∀ l, hasK s l = decide (fIx s l < l.length)
 | [] => by simp [hasK, fIx]
 | y :: l => by
   have h := fIx_has s l
   unfold fIx
   by_cases e : y.1.s = s
   · rw [if_pos e]; simp [hasK, e]
   · rw [if_neg e]
     have : hasK s (y :: l) = hasK s l := by simp [hasK, e]
     rw [this, h]; simp
theorem fIx_ne (s : List UInt8) : ∀ (l : List (PV × PV)) (k : Nat) (y : PV × PV), k < fIx s l → l[k]? = some y → y.1.s ≠ s
 | [], k, y, h, _ => by simp [fIx] at h
 | z :: l, k, y, h, hk => by
   unfold fIx at h
   by_cases e : z.1.s = s
   · rw [if_pos e] at h; omega
   · rw [if_neg e] at h
     cases k with
     | zero => simp at hk; subst hk; exact e
     | succ k => exact fIx_ne s l k y (by omega) (by simpa using hk)
theorem fIx_eq (s : List UInt8) : ∀ (l : List (PV × PV)) (y : PV × PV), l[fIx s l]? = some y → y.1.s = s
 | [], y, h => by simp at h
 | z :: l, y, h => by
   unfold fIx at h
   by_cases e : z.1.s = s
   · rw [if_pos e] at h; simp at h; subst h; exact e
   · rw [if_neg e] at h
     exact fIx_eq s l y (by simpa using h)
theorem flat_at : ∀ (l : List (PV × PV)) (k : Nat) (y : PV × PV), l[k]? = some y → (flatV l)[2 * k]? = some y.1 ∧ (flatV l)[2 * k + 1]? = some y.2
 | [], k, y, h => by simp at h
 | (a, b) :: l, 0, y, h => by simp at h; subst h; exact ⟨rfl, rfl⟩
 | (a, b) :: l, k + 1, y, h => by
   have := flat_at l k y (by simpa using h)
   rw [show 2 * (k + 1) + 1 = 2 * k + 1 + 1 + 1 by omega, show 2 * (k + 1) = 2 * k + 1 + 1 by omega]
   simpa [flatV] using this
theorem flat_lenD : ∀ l : List (PV × PV), (flatV l).length = 2 * l.length
 | [] => rfl
 | (a, b) :: l => by simp [flatV, flat_lenD l]; omega
theorem flat_app : ∀ (a b : List (PV × PV)), flatV (a ++ b) = flatV a ++ flatV b
 | [], b => rfl
 | (x, y) :: a, b => by simp [flatV, flat_app a b]
theorem rep_len (x : PV × PV) : ∀ l, (repK x l).length = l.length
 | [] => rfl
 | y :: l => by
   unfold repK
   split
   · simp
   · simp [rep_len x l]
theorem rep_at (x : PV × PV) : ∀ (l : List (PV × PV)) (k : Nat) (y : PV × PV), l[k]? = some y → (repK x l)[k]? = some (y.1, if k = fIx x.1.s l then x.2 else y.2)
 | [], k, y, h => by simp at h
 | z :: l, k, y, h => by
   unfold repK fIx
   by_cases e : z.1.s = x.1.s
   · rw [if_pos e, if_pos e]
     cases k with
     | zero => simp at h; subst h; simp
     | succ k => simp at h ⊢; exact h
   · rw [if_neg e, if_neg e]
     cases k with
     | zero => simp at h; subst h; simp
     | succ k =>
       have := rep_at x l k y (by simpa using h)
       simp only [List.getElem?_cons_succ, this]
       simp
theorem rep_step (x : PV × PV) (l : List (PV × PV)) (k : Nat) (y : PV × PV) (h : l[k]? = some y) : flatV ((repK x l).take (k + 1)) = flatV ((repK x l).take k) ++ [y.1, if k = fIx x.1.s l then x.2 else y.2] := by
 rw [List.take_add_one, rep_at x l k y h, flat_app]; rfl
def gIx (s : List UInt8) : List (PV × PV) → Nat
 | [] => 0
 | y :: l => if sLt s y.1.s = true then 0 else gIx s l + 1
theorem gIx_le (s : List UInt8) : ∀ l, gIx s l ≤ l.length
 | [] => Nat.le_refl _
 | y :: l => by
   have := gIx_le s l
   unfold gIx
   split
   · exact Nat.zero_le _
   · simp; omega
theorem gIx_no (s : List UInt8) : ∀ (l : List (PV × PV)) (k : Nat) (y : PV × PV), k < gIx s l → l[k]? = some y → sLt s y.1.s = false
 | [], k, y, h, _ => by simp [gIx] at h
 | z :: l, k, y, h, hk => by
   unfold gIx at h
   by_cases e : sLt s z.1.s = true
   · rw [if_pos e] at h; omega
   · rw [if_neg e] at h
     cases k with
     | zero => simp at hk; subst hk; simpa using e
     | succ k => exact gIx_no s l k y (by omega) (by simpa using hk)
theorem gIx_yes (s : List UInt8) : ∀ (l : List (PV × PV)) (y : PV × PV), l[gIx s l]? = some y → sLt s y.1.s = true
 | [], y, h => by simp at h
 | z :: l, y, h => by
   unfold gIx at h
   by_cases e : sLt s z.1.s = true
   · rw [if_pos e] at h; simp at h; subst h; exact e
   · rw [if_neg e] at h
     exact gIx_yes s l y (by simpa using h)
theorem ins_is (x : PV × PV) : ∀ l, insK x l = l.take (gIx x.1.s l) ++ x :: l.drop (gIx x.1.s l)
 | [] => by simp [insK, gIx]
 | y :: l => by
   unfold insK gIx
   by_cases e : sLt x.1.s y.1.s = true
   · rw [if_pos e, if_pos e]; rfl
   · rw [if_neg e, if_neg e, ins_is x l]; rfl
def insT (x : PV × PV) (l : List (PV × PV)) (k : Nat) : List (PV × PV) := if gIx x.1.s l < k then l.take (gIx x.1.s l) ++ x :: (l.take k).drop (gIx x.1.s l) else l.take k
theorem insT_zero (x : PV × PV) (l : List (PV × PV)) : insT x l 0 = [] := by unfold insT; rw [if_neg (by omega)]; simp
theorem insT_step (x : PV × PV) (l : List (PV × PV)) (k : Nat) (y : PV × PV) (h : l[k]? = some y) (hk : k ≠ gIx x.1.s l) : flatV (insT x l (k + 1)) = flatV (insT x l k) ++ [y.1, y.2] := by
 have e : insT x l (k + 1) = insT x l k ++ [y] := by
   have hkl : k < l.length := (List.getElem?_eq_some_iff.1 h).1
   unfold insT
   by_cases g : gIx x.1.s l < k
   · rw [if_pos (by omega), if_pos g, List.take_add_one, h]
     simp only [Option.toList_some, List.append_assoc, List.cons_append]
     rw [List.drop_append_of_le_length (by simp; omega)]
   · rw [if_neg (by omega), if_neg g, List.take_add_one, h]; rfl
 rw [e, flat_app]; rfl
theorem insT_here (x : PV × PV) (l : List (PV × PV)) (y : PV × PV) (h : l[gIx x.1.s l]? = some y) : flatV (insT x l (gIx x.1.s l + 1)) = flatV (insT x l (gIx x.1.s l)) ++ [x.1, x.2, y.1, y.2] := by
 have e : insT x l (gIx x.1.s l + 1) = insT x l (gIx x.1.s l) ++ [x, y] := by
   unfold insT
   have hl : gIx x.1.s l < l.length := (List.getElem?_eq_some_iff.1 h).1
   rw [if_pos (by omega), if_neg (by omega), List.take_add_one, h]
   rw [List.drop_append_of_le_length (by simp; omega), List.drop_of_length_le (by rw [List.length_take]; omega)]
   rfl
 rw [e, flat_app]; rfl
theorem insT_end (x : PV × PV) (l : List (PV × PV)) : insK x l = if gIx x.1.s l < l.length then insT x l l.length else insT x l l.length ++ [x] := by
 have := gIx_le x.1.s l
 rw [ins_is]
 unfold insT
 by_cases g : gIx x.1.s l < l.length
 · rw [if_pos g, if_pos g]; simp
 · rw [if_neg g, if_neg g]
   have e : gIx x.1.s l = l.length := by omega
   rw [e]; simp
end Go.Proofs.YtfafdeemfeaedaaGreat
