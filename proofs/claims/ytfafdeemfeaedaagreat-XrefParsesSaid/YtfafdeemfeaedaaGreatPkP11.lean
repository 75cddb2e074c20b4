/-
  Our texts PsB to Df, in one.
-/
import Derived.Test.YtfafdeemfeaedaaGreatPkP10
set_option maxRecDepth 8000
set_option maxHeartbeats 8000000
namespace Go.Proofs.YtfafdeemfeaedaaGreat
open Go.RowKit
section
variable {w0 w w' : World} {F F' G : Nat → Prop} {p : Nat} {a : Option Addr} {cap : Nat} {bs : List UInt8} {last : Bool} {st : List Lv} {at_ : Int} {gs : List Nat} {osl : Value}
theorem set4_heap {w : World} {r b : Nat} (h : b ≠ r) (y0 y1 y2 y3 : Value) : ((((w.setCell ⟨r, 0, none⟩ y0).setCell ⟨r, 1, none⟩ y1).setCell ⟨r, 2, none⟩ y2).setCell ⟨r, 3, none⟩ y3).heap[b]? = w.heap[b]? := set4_other h _ _ _ _
theorem set4_size (w : World) (r : Nat) (y0 y1 y2 y3 : Value) : ((((w.setCell ⟨r, 0, none⟩ y0).setCell ⟨r, 1, none⟩ y1).setCell ⟨r, 2, none⟩ y2).setCell ⟨r, 3, none⟩ y3).heap.size = w.heap.size := by simp [World.setCell]
theorem Nxt.fin4 {W1 W2 : World} {r : Nat} (h : IsStk w0 w F G p a cap bs last st at_ gs osl) (hb : Below w.heap.size w W1) {st2 : List Lv} {at2 : Int} (N : Nxt w0 W1 F (fun b => G b ∨ b = r) p a cap bs last st2 at2 F' W2) (hr : w.heap.size ≤ r) (y0 y1 y2 y3 : Value) :
   Nxt w0 w F G p a cap bs last st2 at2 F' ((((W2.setCell ⟨r, 0, none⟩ y0).setCell ⟨r, 1, none⟩ y1).setCell ⟨r, 2, none⟩ y2).setCell ⟨r, 3, none⟩ y3) := by
 obtain ⟨gs2, osl2, hs⟩ := N.stk
 have hGl : ∀ b, G b → b < w.heap.size := fun b hb => (h.gb b hb).2
 have hFl : ∀ b, F b → b < w.heap.size := fun b hb => h.Flt hb
 have h1 := hb.size
 have h2 := N.sg.1
 refine ⟨⟨gs2, osl2, (hs.set4 (.inr rfl) _ _ _ _).give fun b hb => .inl hb⟩, ⟨by rw [set4_size]; omega, fun b hb1 hG => ?_⟩, ⟨by rw [set4_size]; omega, fun b hb1 hf => ?_⟩, N.ff⟩
 · rw [set4_heap (by have := hGl b hG; omega), N.sg.2 b (by omega) (.inl hG), hb.block b hb1]
 · rw [set4_heap (by have := hFl b hf; omega), N.sf.2 b (by omega) hf, hb.block b hb1]
theorem IsV.fin4 {W2 : World} {r : Nat} {st2 : List Lv} {at2 : Int} {v : PV} {sl : Value} (h : IsV W2 F' v sl) (N : Stk w0 W2 F' (fun b => G b ∨ b = r) p a cap bs last st2 at2) (y0 y1 y2 y3 : Value) :
   IsV ((((W2.setCell ⟨r, 0, none⟩ y0).setCell ⟨r, 1, none⟩ y1).setCell ⟨r, 2, none⟩ y2).setCell ⟨r, 3, none⟩ y3) F' v sl := by
 obtain ⟨gs2, osl2, hs⟩ := N
 exact IsV.keep ⟨by rw [set4_size]; exact Nat.le_refl _, fun b _ hf => set4_heap (fun e => (hs.fb b hf).2.1 (.inr e)) _ _ _ _⟩ (fun _ h => h) v h
theorem Nxt.drew {W : World} (N : Nxt w0 w F G p a cap bs last st at_ F' W) : Nxt w0 w F G p a cap bs last st at_ F' W.drew := by
 obtain ⟨gs2, osl2, hs⟩ := N.stk
 exact ⟨⟨gs2, osl2, hs.drewN 1⟩, N.sg, N.sf, N.ff⟩
theorem Nxt.weak {W : World} {F1 : Nat → Prop} (N : Nxt w0 w F1 G p a cap bs last st at_ F' W) (hF : ∀ b, F b → F1 b) : Nxt w0 w F G p a cap bs last st at_ F' W :=
 ⟨N.stk, N.sg, ⟨N.sf.1, fun b hb hf => N.sf.2 b hb (hF b hf)⟩, fun b hb => N.ff b (hF b hb)⟩
theorem IsV.of_owns {W : World} {base : Nat} {v : PV} {sl : Value} {cs : List Value} (hO : W.ownsRow base 27 4 sl v.l.length cs) (h : IsVs W F v.l cs) (hF : ∀ b, sl.ownBlock = some b → F b) : IsV W F v sl := by
 obtain ⟨a, c, rfl, hr, -⟩ := Row.of_owns hO
 refine IsV.mk hr (fun hn x hx => ?_) h
 subst hx
 rcases hO.2 with ⟨e, -⟩ | ⟨g, cap, cur, e, -⟩
 · cases e
 · cases e; exact hF g rfl
theorem IsStk.popA {v : Lv} {g : Nat} {t : List Nat} {ao : Option Addr} {oc : Nat} {sl : Value} (h : IsStk w0 w F G p a cap bs last (v :: st) at_ (g :: t) (.slice ao (st.length + 1) oc)) (hg : w.heap[g]? = some (.cells #[.bool v.dict, sl] 166 (0, 0))) :
   ∃ F', Nxt w0 w F G p a cap bs last st at_ F' (w.setCell ⟨p, 3, none⟩ (.slice ao st.length oc)) ∧ IsV (w.setCell ⟨p, 3, none⟩ (.slice ao st.length oc)) F' (.mk 6 0 [] v.l) sl := by
 obtain ⟨F', sl', hF, ⟨g', t', cs, h1, h2, h3, h4, h5⟩, N⟩ := h.pop rfl
 simp only [List.cons.injEq] at h1
 obtain ⟨rfl, rfl⟩ := h1
 rw [hg] at h2
 obtain rfl : sl = sl' := by simpa using h2
 refine ⟨F', N, IsV.of_owns (v := .mk 6 0 [] v.l) (base := w0.heap.size) (cs := cs) (owns_heap h3 fun b hb => ?_) (IsVs.keep ⟨by simp [World.setCell], fun b _ hf => ?_⟩ (fun _ h => h) _ h4) h5⟩
 · exact heap_setCell_other _ _ _ _ (by obtain ⟨ds, hc⟩ := owns_type h3 hb; exact type_ne hc h.blk (by decide))
 · obtain ⟨gs2, osl2, hs⟩ := N.stk
   exact heap_setCell_other _ _ _ _ (hs.notF hf)
theorem IsV.drew {W : World} {v : PV} {sl : Value} (h : IsV W F v sl) : IsV W.drew F v sl := IsV.below h (below_drewN (Below.refl _ _) 1)
theorem IsStk.popD {v : Lv} {ao : Option Addr} {oc : Nat} {v' : PV} {sl : Value} (h : IsStk w0 w F G p a cap bs last (v :: st) at_ gs (.slice ao (st.length + 1) oc)) (hv : IsV w F v' sl) :
   ∃ F', Nxt w0 w F G p a cap bs last st at_ F' (w.setCell ⟨p, 3, none⟩ (.slice ao st.length oc)) ∧ IsV (w.setCell ⟨p, 3, none⟩ (.slice ao st.length oc)) F' v' sl := by
 obtain ⟨F', sl', hF, -, N⟩ := h.pop rfl
 exact ⟨F', N, IsV.keep N.sf hF _ hv⟩
theorem IsStk.lastV {v : Lv} {g : Nat} {t : List Nat} {sl : Value} (h : IsStk w0 w F G p a cap bs last (v :: st) at_ (g :: t) osl) (hg : w.heap[g]? = some (.cells #[.bool v.dict, sl] 166 (0, 0))) :
   ∃ cs, w.ownsRow w0.heap.size 27 4 sl v.l.length cs ∧ IsVs w F v.l cs := by
 obtain ⟨g', t', sl', cs, h1, h2, h3, h4, h5, h6, -⟩ := h.lvs
 simp only [List.cons.injEq] at h1
 obtain ⟨rfl, rfl⟩ := h1
 rw [hg] at h4
 obtain rfl : sl = sl' := by simpa using h4
 exact ⟨cs, h5, h6⟩
theorem IsStk.gain {W3 : World} {m : List PV} {v3 : Value} {cs : List Value} (h : IsStk w0 w F G p a cap bs last st at_ gs osl) (hb : Below w.heap.size w W3) (hO : W3.ownsRow w.heap.size 27 4 v3 m.length cs) (hV : IsVs W3 F m cs) :
   IsStk w0 W3 (fun b => F b ∨ v3.ownBlock = some b) G p a cap bs last st at_ gs osl ∧ IsV W3 (fun b => F b ∨ v3.ownBlock = some b) (.mk 7 0 [] m) v3 := by
 refine ⟨h.frame' (keeps_below hb) (fun b hb => .inl hb) (fun b hb => .inl hb) (fun b hb' => ?_), IsV.of_owns (v := .mk 7 0 [] m) hO (hV.weaken fun b hb => .inl hb) fun b hb => .inr hb⟩
 rcases hb' with h1 | h1
 · exact .inl h1
 · refine .inr ⟨(hO.lt b h1).1, fun hG => ?_, owns_type hO h1⟩
   have h2 := (h.gb b hG).2
   have h3 := (hO.lt b h1).1
   omega
def EndEnd (w0 w : World) (F G : Nat → Prop) (p : Nat) (a : Option Addr) (cap : Nat) (bs : List UInt8) (last : Bool) (at_ : Int) (R : PV × List Lv × Int) (e : Ending) (w' : World) : Prop :=
 ∃ F' sl, e = .returned (.tuple #[pvA R.1 sl, .int .i64 R.2.2]) ∧ IsV w' F' R.1 sl ∧ Nxt w0 w F G p a cap bs last R.2.1 at_ F' w'
theorem end_any (h : IsStk w0 w F G p a cap bs last st at_ gs osl) (d : Bool) (hlen : ∀ v ∈ st, v.l.length ≤ 400000) : Calls Tryz.prog 119 #[.pointer (some ⟨p, 0, none⟩), .bool d] w (EndEnd w0 w F G p a cap bs last at_ (endV12 st d)) := by
 obtain ⟨R, hR⟩ : ∃ R, R = endV12 st d := ⟨_, rfl⟩
 rw [← hR]
 have HR := Lib.hid hR
 have HS := Lib.hid h
 obtain ⟨r, hr⟩ : ∃ r, r = w.heap.size := ⟨_, rfl⟩
 have HRR := Lib.hid hr
 have hrl : r < (w.alloc (.cells #[.int .i64 0, .int .i64 0, .string ⟨#[]⟩, .slice none 0 0] 27)).heap.size := by rw [sizeA]; omega
 have h1 := h.res (G' := fun b => G b ∨ b = r) (belowA w (.cells #[.int .i64 0, .int .i64 0, .string ⟨#[]⟩, .slice none 0 0] 27)) (fun b hb => hb.imp id fun e => by rw [e]; exact ⟨Nat.le_of_eq hr.symm, hrl⟩)
 have hr4 := heapA_new (w := w) (b := r) (.cells #[.int .i64 0, .int .i64 0, .string ⟨#[]⟩, .slice none 0 0] 27) hr
 have HW := Lib.hid (belowA w (.cells #[.int .i64 0, .int .i64 0, .string ⟨#[]⟩, .slice none 0 0] 27))
 have hpr : p ≠ r := by have := h.lt; omega
 clear h hR hrl
 go_enter Tryz.func119, Tryz.ntmps119
 go_wp2_with fail
 rw [← hr]
 generalize w.alloc _ = W1 at *
 have HTOP := Lib.hid (top_any h1)
 have HS1 := Lib.hid h1
 have HR4 := Lib.hid hr4
 clear hr h1 hr4
 refine HTOP.out.mono ?_
 rintro e w1 ⟨rfl, q, rfl⟩
 have HS2 := Lib.hid (HS1.out.drewN q)
 have HW2 := Lib.hid (below_drewN HW.out q)
 have HR2 := Lib.hid (show (W1.drewN q).heap[r]? = _ from HR4.out)
 clear HS1 HW HR4 HTOP
 generalize W1.drewN q = W2 at *
 have hbad : R = (PV.none, st, 11) → ∀ y0 y1 y2 y3 : Value, (y0 = .int .i64 0 ∧ y1 = .int .i64 0 ∧ y2 = .string ⟨#[]⟩ ∧ y3 = .slice none 0 0) → EndEnd w0 w F G p a cap bs last at_ R (.returned (.tuple #[.agg #[y0, y1, y2, y3], .int .i64 11])) ((((W2.setCell ⟨r, 0, none⟩ y0).setCell ⟨r, 1, none⟩ y1).setCell ⟨r, 2, none⟩ y2).setCell ⟨r, 3, none⟩ y3) := by
   rintro e y0 y1 y2 y3 ⟨rfl, rfl, rfl, rfl⟩
   rw [e]
   exact ⟨F, .slice none 0 0, rfl, IsV.leaf _ _ _ rfl, Nxt.fin4 HS.out HW2.out (Nxt.refl HS2.out (Below.refl _ _)) (Nat.le_of_eq HRR.out.symm) _ _ _ _⟩
 have HBAD := Lib.hid hbad
 obtain ⟨⟨q0, q1, q2, q3⟩, n0, n1, n2, n3⟩ := cells4 HR2.out
 clear hbad
 rcases HS2.out.top with ⟨rfl, rfl⟩ | ⟨v, st', g, t', sa, sc, rfl, rfl, h1, h2, h3⟩
 · unfold topP
   go_wp2
   refine bodyPost_ret (results_val rfl _ _ r 27 _ (0, 0) _ rfl (by exact set4 HR2.out _ _ _ _) Tryz.underlying27 rfl (by exact infoPV) _ rfl) rfl ?_
   exact HBAD.out HR.out _ _ _ _ ⟨rfl, rfl, rfl, rfl⟩
 · obtain ⟨k0, k1⟩ : W2.cell? ⟨g, 0, none⟩ = some (.bool v.dict) ∧ W2.cell? ⟨g, 1, none⟩ = some (.slice sa v.l.length sc) := ⟨by rw [cell_of_row W2 g 0 _ _ _ h3]; rfl, by rw [cell_of_row W2 g 1 _ _ _ h3]; rfl⟩
   have HWT := Lib.hid (wants_any h3 (by omega))
   have hR := HR.out
   unfold endV12 at hR
   simp only at hR
   have HG := Lib.hid h3
   unfold topP
   have HWV := Lib.hid (show wantsV v = (v.dict && v.l.length % 2 == 0) from rfl)
   have HLE := Lib.hid (hlen v List.mem_cons_self)
   have hgp : g ≠ p := fun e => by subst e; have := HS2.out.blk; rw [h3] at this; simp at this
   by_cases hdd : v.dict = d
   case neg =>
     have HB2 := Lib.hid (HBAD.out (hR.trans (if_pos (.inl hdd))))
     have e1 : (v.dict == d) = false := by rw [beq_eq_false_iff_ne]; exact hdd
     have e2 : (v.dict != d) = true := by simp only [bne, e1, Bool.not_false]
     generalize v.dict = vd at *
     clear hR hdd h1 h2 h3 hlen HBAD
     go_wp2
     refine bodyPost_ret (results_val rfl _ _ r 27 _ (0, 0) _ rfl (by exact set4 HR2.out _ _ _ _) Tryz.underlying27 rfl (by exact infoPV) _ rfl) rfl ?_
     exact HB2.out _ _ _ _ ⟨rfl, rfl, rfl, rfl⟩
   subst hdd
   obtain ⟨ao, oc, rfl, ho1, ho2⟩ := owns_slice HS2.out.own
   obtain ⟨⟨c0, c1, c2, c3⟩, f0, f1, f2, f3⟩ := HS2.out.cells
   simp only [List.length_cons] at c3 ho1
   have hdp : st'.length ≤ 63 := by have := HS2.out.deep; simp at this; omega
   have HPG := Lib.hid hgp
   obtain ⟨vd, hvd⟩ : ∃ vd, vd = v.dict := ⟨_, rfl⟩
   rw [← hvd] at k0 HWT HWV hR
   rw [← hvd] at HG
   rw [← hvd]
   have HVD := Lib.hid hvd
   clear hvd h3 hlen
   cases vd with
   | false =>
     have HR5 := Lib.hid ((hR.trans (if_neg (by rintro (h | ⟨h, -⟩); exact h rfl; cases h))).trans (if_pos rfl))
     have i1 : (0 : Int) ≤ (st'.length : Int) + 1 - 1 := by omega
     have i2 : ((st'.length : Int) + 1 - 1).toNat = st'.length := by omega
     have i3 : IntKind.i64.wrap ((st'.length : Int) + 1 - 1) = (st'.length : Int) := by rw [IntWalk.i64_in _ (by omega)]; omega
     have i4 : (st'.length : Int) ≤ (oc : Int) := by omega
     have i5 : (0 : Int) ≤ (st'.length : Int) := by omega
     have i6 : (st'.length : Int).toNat = st'.length := by omega
     clear hR HBAD HWT
     obtain ⟨F', hN, hV⟩ := HS2.out.popA (by rw [← HVD.out]; exact HG.out)
     have hpg : p ≠ g := Ne.symm hgp
     have HRX := Lib.hid (show (W2.setCell ⟨p, 3, none⟩ (.slice ao st'.length oc)).heap[r]? = _ from (heap_setCell_other W2 ⟨p, 3, none⟩ r _ (Ne.symm hpr)).trans HR2.out)
     have HND := Lib.hid hN
     have HVD2 := Lib.hid hV
     clear hN hV
     go_wp2
     go_region
     all_goals
       go_wp2
       refine bodyPost_ret (results_val rfl _ _ r 27 _ (0, 0) _ rfl (by exact set4 HRX.out _ _ _ _) Tryz.underlying27 rfl (by exact infoPV) _ rfl) rfl ?_
       rw [HR5.out]
       exact ⟨F', _, rfl, (IsV.fin4 HVD2.out HND.out.stk _ _ _ _).drew, (Nxt.fin4 HS.out HW2.out HND.out (Nat.le_of_eq HRR.out.symm) _ _ _ _).drew⟩
   | true =>
     cases hev : (v.l.length % 2 == 0)
     · rw [hev, Bool.and_false] at HWT HWV
       have HB2 := Lib.hid (HBAD.out (hR.trans (if_pos (.inr ⟨rfl, HWV.out⟩))))
       clear hR HBAD h1 h2 hev
       go_wp2_with (go_at_call 158; refine HWT.out.mono ?_; rintro e w' ⟨rfl, rfl⟩)
       refine bodyPost_ret (results_val rfl _ _ r 27 _ (0, 0) _ rfl (by exact set4 HR2.out _ _ _ _) Tryz.underlying27 rfl (by exact infoPV) _ rfl) rfl ?_
       exact HB2.out _ _ _ _ ⟨rfl, rfl, rfl, rfl⟩
     · rw [hev, Bool.and_true] at HWT HWV
       have hR6 := (hR.trans (if_neg (by rintro (h | ⟨-, h⟩); exact h rfl; rw [HWV.out] at h; cases h))).trans (if_neg (by decide))
       have HR6 := Lib.hid hR6
       obtain ⟨m, hm⟩ : ∃ m, 2 * m = v.l.length := ⟨v.l.length / 2, by simp at hev; omega⟩
       obtain ⟨cs, hO, hVs⟩ := HS2.out.lastV (by rw [← HVD.out]; exact HG.out)
       have HP := Lib.hid (pairs_any (m := m) (by rw [hm]; exact (Row.of_own hO).2) hVs hm (by have := HLE.out; omega))
       rw [← hm] at k1
       have i1 : (0 : Int) ≤ (st'.length : Int) + 1 - 1 := by omega
       have i2 : ((st'.length : Int) + 1 - 1).toNat = st'.length := by omega
       have i3 : IntKind.i64.wrap ((st'.length : Int) + 1 - 1) = (st'.length : Int) := by rw [IntWalk.i64_in _ (by omega)]; omega
       have i4 : (st'.length : Int) ≤ (oc : Int) := by omega
       have i5 : (0 : Int) ≤ (st'.length : Int) := by omega
       have i6 : (st'.length : Int).toNat = st'.length := by omega
       have HRP := Lib.hid (show r ≠ p from Ne.symm hpr)
       clear hR HBAD h1 h2 hev hm hO hVs
       cases hpv : pairsV v.l with
       | none =>
         rw [hpv] at hR6 HP
         have HR7 := Lib.hid hR6
         clear hR6 hpv HR6
         go_wp2_with (first
           | (go_at_call 158; refine HWT.out.mono ?_; rintro e w' ⟨rfl, rfl⟩)
           | (go_at_call 159; refine HP.out.mono ?_; rintro e w3 ⟨hb3, rfl⟩; have HB3 := Lib.hid hb3; have HR23 := Lib.hid (block_keep hb3 HR2.out); clear hb3 q0 q1 q2 q3 n0 n1 n2 n3 k0 k1 c0 c1 c2 c3 f0 f1 f2 f3; obtain ⟨⟨q0, q1, q2, q3⟩, n0, n1, n2, n3⟩ := cells4 HR23.out))
         refine bodyPost_ret (results_val rfl _ _ r 27 _ (0, 0) _ rfl (by exact set4 HR23.out _ _ _ _) Tryz.underlying27 rfl (by exact infoPV) _ rfl) rfl ?_
         rw [HR7.out]
         exact ⟨F, .slice none 0 0, rfl, IsV.leaf _ _ _ rfl, Nxt.fin4 HS.out HW2.out (Nxt.refl HS2.out HB3.out) (Nat.le_of_eq HRR.out.symm) _ _ _ _⟩
       | some m2 =>
         rw [hpv] at hR6 HP
         have HR7 := Lib.hid hR6
         clear hR6 hpv HR6
         go_wp2_with (first
           | (go_at_call 158; refine HWT.out.mono ?_; rintro e w' ⟨rfl, rfl⟩)
           | (go_at_call 159; refine HP.out.mono ?_; rintro e w3 ⟨hb3, v3, cs3, rfl, hO3, hV3⟩; obtain ⟨a3, cap3, rfl, -, -⟩ := owns_slice hO3; obtain ⟨hS3, hD3⟩ := HS2.out.gain hb3 hO3 hV3; obtain ⟨F', hN4, hV4⟩ := hS3.popD hD3; have HB3 := Lib.hid hb3; have HND := Lib.hid hN4; have HVD2 := Lib.hid hV4; have HRX := Lib.hid (show (w3.setCell ⟨p, 3, none⟩ (.slice ao st'.length oc)).heap[r]? = _ from (heap_setCell_other w3 ⟨p, 3, none⟩ r _ (Ne.symm hpr)).trans (block_keep hb3 HR2.out)); have HS3 := Lib.hid hS3; have HR23 := Lib.hid (block_keep hb3 HR2.out); clear hb3 hO3 hV3 hS3 hD3 hN4 hV4 q0 q1 q2 q3 n0 n1 n2 n3 k0 k1 c0 c1 c2 c3 f0 f1 f2 f3; obtain ⟨⟨q0, q1, q2, q3⟩, n0, n1, n2, n3⟩ := cells4 HR23.out; obtain ⟨⟨c0, c1, c2, c3⟩, f0, f1, f2, f3⟩ := HS3.out.cells; simp only [List.length_cons] at c3))
         go_region
         all_goals
           go_wp2
           refine bodyPost_ret (results_val rfl _ _ r 27 _ (0, 0) _ rfl (by exact set4 HRX.out _ _ _ _) Tryz.underlying27 rfl (by exact infoPV) _ rfl) rfl ?_
           rw [HR7.out]
           exact ⟨F', _, rfl, (IsV.fin4 HVD2.out HND.out.stk _ _ _ _).drew, (Nxt.fin4 HS.out (HW2.out.trans (HB3.out.mono HW2.out.size)) (HND.out.weak fun b hb => .inl hb) (Nat.le_of_eq HRR.out.symm) _ _ _ _).drew⟩
end
section
variable {w0 w w' : World} {F F' G : Nat → Prop} {p : Nat} {a : Option Addr} {cap : Nat} {bs : List UInt8} {last : Bool} {st : List Lv} {at_ : Int} {gs : List Nat} {osl : Value}
def PStep (w0 w : World) (F G : Nat → Prop) (p : Nat) (a : Option Addr) (cap : Nat) (bs : List UInt8) (last : Bool) (R : Option PV × List Lv × Int × Int) (e : Ending) (w' : World) : Prop :=
 ∃ F' sa sn sc V, e = .returned (.tuple #[pvA V (.slice sa sn sc), .bool R.1.isSome, .int .i64 R.2.2.2]) ∧ (∀ X, R.1 = some X → V = X ∧ IsV w' F' V (.slice sa sn sc)) ∧ Nxt w0 w F G p a cap bs last R.2.1 R.2.2.1 F' w'
theorem stays_cell {S : Nat → Prop} {w w' : World} (h : Stays S w w') {b o : Nat} {v : Value} (hc : w.cell? ⟨b, o, none⟩ = some v) (hS : S b) : w'.cell? ⟨b, o, none⟩ = some v := by
 rw [World.cell?_of_block (w := w) (a := ⟨b, o, none⟩) (h.2 b (World.block_lt_of_cell? w _ hc) hS)]; exact hc
theorem stays_obj {S : Nat → Prop} {w w' : World} (h : Stays S w w') {b : Nat} {o : Obj} (hc : w.heap[b]? = some o) (hS : S b) : w'.heap[b]? = some o := by
 rw [h.2 b (lt_of_heap hc) hS]; exact hc
def G3 (G : Nat → Prop) (r : Nat) : Nat → Prop := fun b => G b ∨ b = r ∨ b = r + 1 ∨ b = r + 2
theorem Nxt.fin3 {W1 W2 : World} {r : Nat} (h : IsStk w0 w F G p a cap bs last st at_ gs osl) (hb : Below w.heap.size w W1) {st2 : List Lv} {at2 : Int} (N : Nxt w0 W1 F (G3 G r) p a cap bs last st2 at2 F' W2) (hr : w.heap.size ≤ r) {k : Nat} (hk : k = r + 1) (y0 y1 y2 y3 : Value) :
   Nxt w0 w F G p a cap bs last st2 at2 F' ((((W2.setCell ⟨k, 0, none⟩ y0).setCell ⟨k, 1, none⟩ y1).setCell ⟨k, 2, none⟩ y2).setCell ⟨k, 3, none⟩ y3) := by
 subst hk
 obtain ⟨gs2, osl2, hs⟩ := N.stk
 have hGl : ∀ b, G b → b < w.heap.size := fun b hb => (h.gb b hb).2
 have hFl : ∀ b, F b → b < w.heap.size := fun b hb => h.Flt hb
 have h1 := hb.size
 have h2 := N.sg.1
 refine ⟨⟨gs2, osl2, (hs.set4 (.inr (.inr (.inl rfl))) _ _ _ _).give fun b hb => .inl hb⟩, ⟨by rw [set4_size]; omega, fun b hb1 hG => ?_⟩, ⟨by rw [set4_size]; omega, fun b hb1 hf => ?_⟩, N.ff⟩
 · rw [set4_heap (by have := hGl b hG; omega), N.sg.2 b (by omega) (.inl hG), hb.block b hb1]
 · rw [set4_heap (by have := hFl b hf; omega), N.sf.2 b (by omega) hf, hb.block b hb1]
theorem Nxt.fin34 {W1 W2 : World} {r : Nat} (h : IsStk w0 w F G p a cap bs last st at_ gs osl) (hb : Below w.heap.size w W1) {st2 : List Lv} {at2 : Int} (N : Nxt w0 W1 F (G3 G r) p a cap bs last st2 at2 F' W2) (hr : w.heap.size ≤ r) (y0 y1 y2 y3 z0 z1 z2 z3 : Value) :
   Nxt w0 w F G p a cap bs last st2 at2 F' ((((((((W2.setCell ⟨r + 1 + 1, 0, none⟩ z0).setCell ⟨r + 1 + 1, 1, none⟩ z1).setCell ⟨r + 1 + 1, 2, none⟩ z2).setCell ⟨r + 1 + 1, 3, none⟩ z3).setCell ⟨r + 1, 0, none⟩ y0).setCell ⟨r + 1, 1, none⟩ y1).setCell ⟨r + 1, 2, none⟩ y2).setCell ⟨r + 1, 3, none⟩ y3) := by
 obtain ⟨gs2, osl2, hs⟩ := N.stk
 have hGl : ∀ b, G b → b < w.heap.size := fun b hb => (h.gb b hb).2
 have hFl : ∀ b, F b → b < w.heap.size := fun b hb => h.Flt hb
 have h1 := hb.size
 have h2 := N.sg.1
 refine ⟨⟨gs2, osl2, ((hs.set4 (r := r + 1 + 1) (.inr (.inr (.inr rfl))) _ _ _ _).set4 (.inr (.inr (.inl rfl))) _ _ _ _).give fun b hb => .inl hb⟩, ⟨by rw [set4_size, set4_size]; omega, fun b hb1 hG => ?_⟩, ⟨by rw [set4_size, set4_size]; omega, fun b hb1 hf => ?_⟩, N.ff⟩
 · rw [set4_heap (by have := hGl b hG; omega), set4_heap (by have := hGl b hG; omega), N.sg.2 b (by omega) (.inl hG), hb.block b hb1]
 · rw [set4_heap (by have := hFl b hf; omega), set4_heap (by have := hFl b hf; omega), N.sf.2 b (by omega) hf, hb.block b hb1]
theorem IsV.fin34 {W2 : World} {r : Nat} {st2 : List Lv} {at2 : Int} {v : PV} {sl : Value} (h : IsV W2 F' v sl) (N : Stk w0 W2 F' (G3 G r) p a cap bs last st2 at2) (y0 y1 y2 y3 z0 z1 z2 z3 : Value) :
   IsV ((((((((W2.setCell ⟨r + 1 + 1, 0, none⟩ z0).setCell ⟨r + 1 + 1, 1, none⟩ z1).setCell ⟨r + 1 + 1, 2, none⟩ z2).setCell ⟨r + 1 + 1, 3, none⟩ z3).setCell ⟨r + 1, 0, none⟩ y0).setCell ⟨r + 1, 1, none⟩ y1).setCell ⟨r + 1, 2, none⟩ y2).setCell ⟨r + 1, 3, none⟩ y3) F' v sl := by
 obtain ⟨gs2, osl2, hs⟩ := N
 refine IsV.keep ⟨by rw [set4_size, set4_size]; exact Nat.le_refl _, fun b _ hf => ?_⟩ (fun _ h => h) v h
 have hn := (hs.fb b hf).2.1
 rw [set4_heap (fun e => hn (.inr (.inr (.inl e)))), set4_heap (fun e => hn (.inr (.inr (.inr e))))]
theorem single_leaf (bs : List UInt8) (last : Bool) (st : List Lv) (at_ : Int) (x : Tk) : (singleV bs last st at_ x).1.l = [] := by
 unfold singleV
 split
 · rfl
 · split
   · split
     · rfl
     · rename_i v hv
       unfold wordV at hv
       split at hv
       · cases hv; rfl
       · split at hv
         · cases hv; rfl
         · split at hv
           · cases hv; rfl
           · cases hv
   · split
     · unfold refV
       simp only
       split
       · rfl
       · split
         · rfl
         · split
           · rfl
           · rfl
     · rfl
theorem results_val3 {P : Program} {fn : Func} {p u z : Tmp} {ty : TypeId} (h : fn.results = #[.cell p ty, .tmp u, .tmp z]) (tmps : Array Value) (w : World) (g : Nat) (t : TypeId) (cs : Array Value) (fr : Nat × Nat) (d : TypeDesc)
   (hp : tmps.getD p undef = .pointer (some ⟨g, 0, none⟩)) (hg : w.heap[g]? = some (.cells cs t fr))
   (hu : P.underlying ty = some d) (hd : (match d with | .struct _ | .array _ _ => true | _ => false) = true) (hi : (P.info? ty).map (·.size) = some cs.size) (v v2 : Value) (hv : tmps.getD u undef = v) (hv2 : tmps.getD z undef = v2) :
   (results fn tmps).run P w = .ok (.tuple #[.agg cs, v, v2]) w := by
 simp only [Array.getD_eq_getD_getElem?] at hp hv hv2
 simp [results, h, hp, hv, hv2, asAddr, Result.andThen, run_loadVar_row w g t ty cs fr d hg hu hd hi]
def S5 (w : World) (r : Nat) (kd : Int) : Prop := w.cell? ⟨r, 0, none⟩ = some (.int .i64 kd) ∧ w.cell? ⟨r + 2, 0, none⟩ = some (.int .i64 0) ∧ w.cell? ⟨r + 2, 1, none⟩ = some (.int .i64 0) ∧ w.cell? ⟨r + 2, 2, none⟩ = some (.string ⟨#[]⟩) ∧ w.cell? ⟨r + 2, 3, none⟩ = some (.slice none 0 0)
theorem S5.drew {w : World} {r : Nat} {kd : Int} (h : S5 w r kd) : S5 w.drew r kd := h
theorem S5.stays {w w' : World} {r : Nat} {kd : Int} (h : S5 w r kd) (hs : Stays (G3 G r) w w') : S5 w' r kd := by
 exact ⟨stays_cell hs h.1 (.inr (.inl rfl)), stays_cell hs h.2.1 (.inr (.inr (.inr rfl))), stays_cell hs h.2.2.1 (.inr (.inr (.inr rfl))), stays_cell hs h.2.2.2.1 (.inr (.inr (.inr rfl))), stays_cell hs h.2.2.2.2 (.inr (.inr (.inr rfl)))⟩
theorem S5.set4 {w : World} {r : Nat} {kd : Int} (h : S5 w r kd) (y0 y1 y2 y3 : Value) : S5 ((((w.setCell ⟨r + 1, 0, none⟩ y0).setCell ⟨r + 1, 1, none⟩ y1).setCell ⟨r + 1, 2, none⟩ y2).setCell ⟨r + 1, 3, none⟩ y3) r kd := by
 have g : ∀ b o v, b ≠ r + 1 → w.cell? ⟨b, o, none⟩ = some v → ((((w.setCell ⟨r + 1, 0, none⟩ y0).setCell ⟨r + 1, 1, none⟩ y1).setCell ⟨r + 1, 2, none⟩ y2).setCell ⟨r + 1, 3, none⟩ y3).cell? ⟨b, o, none⟩ = some v := fun b o v hb hc => by
   rw [World.cell?_of_block (w := w) (a := ⟨b, o, none⟩) (set4_heap hb _ _ _ _)]; exact hc
 exact ⟨g _ _ _ (by omega) h.1, g _ _ _ (by omega) h.2.1, g _ _ _ (by omega) h.2.2.1, g _ _ _ (by omega) h.2.2.2.1, g _ _ _ (by omega) h.2.2.2.2⟩
theorem step_any (h : IsStk w0 w F G p a cap bs last st at_ gs osl) (x : Tk) (f t : Int) (hlen : ∀ v ∈ st, v.l.length ≤ 400000) :
   Calls Tryz.prog 82 #[.pointer (some ⟨p, 0, none⟩), .agg (tokN x f t)] w (PStep w0 w F G p a cap bs last (stepV bs last st at_ x)) := by
 obtain ⟨R, hR⟩ : ∃ R, R = stepV bs last st at_ x := ⟨_, rfl⟩
 rw [← hR]
 have HS := Lib.hid h
 obtain ⟨r, hr⟩ : ∃ r, r = w.heap.size := ⟨_, rfl⟩
 have HRR := Lib.hid hr
 have HB1 := Lib.hid (belowA3 w (.cells (tokN x f t) 150) (.cells #[.int .i64 0, .int .i64 0, .string ⟨#[]⟩, .slice none 0 0] 27) (.cells #[.int .i64 0, .int .i64 0, .string ⟨#[]⟩, .slice none 0 0] 27))
 have h1 := h.res (G' := G3 G r) HB1.out (fun b hb => by
   rw [sizeA, sizeA, sizeA]
   rcases hb with hb | hb | hb | hb
   · exact .inl hb
   · exact .inr (by omega)
   · exact .inr (by omega)
   · exact .inr (by omega))
 have k0 := heapA_old (.cells #[.int .i64 0, .int .i64 0, .string ⟨#[]⟩, .slice none 0 0] 27) (heapA_old (.cells #[.int .i64 0, .int .i64 0, .string ⟨#[]⟩, .slice none 0 0] 27) (heapA_new (w := w) (b := r) (.cells (tokN x f t) 150) hr))
 have k1 := heapA_old (.cells #[.int .i64 0, .int .i64 0, .string ⟨#[]⟩, .slice none 0 0] 27) (heapA_new (w := w.alloc (.cells (tokN x f t) 150)) (b := r + 1) (.cells #[.int .i64 0, .int .i64 0, .string ⟨#[]⟩, .slice none 0 0] 27) (by rw [sizeA, hr]))
 have k2 := heapA_new (w := (w.alloc (.cells (tokN x f t) 150)).alloc (.cells #[.int .i64 0, .int .i64 0, .string ⟨#[]⟩, .slice none 0 0] 27)) (b := r + 2) (.cells #[.int .i64 0, .int .i64 0, .string ⟨#[]⟩, .slice none 0 0] 27) (by rw [sizeA, sizeA, hr])
 have HSG := Lib.hid (fun (W : World) (h : IsStk w0 W F (G3 G r) p a cap bs last st at_ gs osl) => single_any h x f t)
 have hkind : ∃ q0 q1 q2 q3 q4 q5 q6 q7, tokN x f t = #[q0, q1, q2, q3, q4, q5, q6, q7] ∧ q0 = .int .i64 x.kind := ⟨_, _, _, _, _, _, _, _, rfl, rfl⟩
 obtain ⟨q0, q1, q2, q3, q4, q5, q6, q7, htk, rfl⟩ := hkind
 rw [htk] at HB1 h1 k0 k1 k2 HSG ⊢
 have HH1 := Lib.hid h1
 have K0 := Lib.hid k0
 have K1 := Lib.hid k1
 have K2 := Lib.hid k2
 unfold stepV at hR
 have HR := Lib.hid hR
 have HLEN := Lib.hid hlen
 have hpw := h.lt
 have hpr : p ≠ r := by omega
 have hpr1 : p ≠ r + 1 := by omega
 have hpr2 : p ≠ r + 2 := by omega
 have hw0 : w.heap.size ≤ r := by omega
 have HW0 := Lib.hid hw0
 clear h1 k0 k1 k2 h hlen htk hR hpw hw0
 go_enter Tryz.func82, Tryz.ntmps82
 go_upto_region 3 with fail
 rw [← hr]
 generalize ((w.alloc _).alloc _).alloc _ = W1 at *
 generalize x.kind = kd at *
 clear hr
 by_cases hk0 : kd = 0
 · subst hk0
   have hR2 := Lib.hid (HR.out.trans (if_pos rfl))
   obtain ⟨⟨c0, -⟩, -⟩ := cells8 K0.out
   obtain ⟨⟨a0, a1, a2, a3⟩, b0, b1, b2, b3⟩ := cells4 K1.out
   obtain ⟨⟨d0, d1, d2, d3⟩, e0, e1, e2, e3⟩ := cells4 K2.out
   go_wp2
   refine bodyPost_ret (results_val3 rfl _ _ (r + 1) 27 _ (0, 0) _ rfl (by exact set4 K1.out _ _ _ _) Tryz.underlying27 rfl (by exact infoPV) _ _ rfl rfl) rfl ?_
   rw [hR2.out]
   exact ⟨F, none, 0, 0, PV.none, rfl, fun X hX => (by cases hX), Nxt.fin3 HS.out HB1.out (Nxt.refl HH1.out (Below.refl _ _)) HW0.out rfl _ _ _ _⟩
 have hR1 := HR.out.trans (if_neg hk0)
 have e0 : (kd == 0) = false := by rw [beq_eq_false_iff_ne]; exact hk0
 by_cases hk2 : kd = 2 ∨ kd = 4
 · have hR2 := hR1.trans (if_pos hk2)
   obtain ⟨dd, hdd⟩ : ∃ dd, dd = (kd == 4) := ⟨_, rfl⟩
   rw [← hdd] at hR2
   have HR2 := Lib.hid hR2
   have HBG := Lib.hid (begin_any (show IsStk w0 W1.drew F (G3 G r) p a cap bs last st at_ gs osl from HH1.out.drewN 1) dd)
   have HK0 := Lib.hid (show W1.drew.heap[r + 1]? = _ from K1.out)
   clear hR1 hR2 HSG HR
   obtain ⟨⟨c0, -⟩, -⟩ := cells8 K0.out
   obtain ⟨⟨d0, d1, d2, d3⟩, -⟩ := cells4 K2.out
   have HC0 : Hid (S5 W1 r kd) := Lib.hid ⟨c0, d0, d1, d2, d3⟩
   have hgo : ∀ wN, Nxt w0 W1.drew F (G3 G r) p a cap bs last (beginV st dd).1 at_ F wN → ∀ W, W = ((((wN.setCell ⟨r + 1, 0, none⟩ (.int .i64 0)).setCell ⟨r + 1, 1, none⟩ (.int .i64 0)).setCell ⟨r + 1, 2, none⟩ (.string ⟨#[]⟩)).setCell ⟨r + 1, 3, none⟩ (.slice none 0 0)) →
       PStep w0 w F G p a cap bs last R (.returned (.tuple #[.agg #[.int .i64 0, .int .i64 0, .string ⟨#[]⟩, .slice none 0 0], .bool false, .int .i64 (beginV st dd).2])) W := fun wN N W hW => by
     rw [HR2.out, hW]
     exact ⟨F, none, 0, 0, PV.none, rfl, fun X hX => (by cases hX), Nxt.fin3 HS.out HB1.out.drew N HW0.out rfl _ _ _ _⟩
   have HGO := Lib.hid hgo
   have hrr : r + 1 ≠ r := by omega
   clear hgo
   have e4 : (kd == 4) = dd := hdd.symm
   have hcase : (kd == 2) = true ∨ ((kd == 2) = false ∧ dd = true) := by
     rcases hk2 with rfl | rfl
     · exact .inl rfl
     · exact .inr ⟨rfl, hdd⟩
   clear hdd hk2 hk0
   rcases hcase with e2 | ⟨e2, rfl⟩
   all_goals
     go_wp2
     go_region_held3 (fun w' => w'.cell? ⟨r, 0, none⟩ = some (.int .i64 kd) ∧ w'.cell? ⟨r + 2, 0, none⟩ = some (.int .i64 0) ∧ w'.cell? ⟨r + 2, 1, none⟩ = some (.int .i64 0) ∧ w'.cell? ⟨r + 2, 2, none⟩ = some (.string ⟨#[]⟩) ∧ w'.cell? ⟨r + 2, 3, none⟩ = some (.slice none 0 0))
       ((show S5 _ r kd; (first
         | (with_reducible exact HC0.out.drew)
         | (with_reducible exact HC0.out)
         | (with_reducible exact Hid.out (by assumption))
         | (with_reducible exact S5.set4 (Hid.out (by assumption)) _ _ _ _))))
       ((go_at_call 118; (with_reducible refine HBG.out.mono ?_); rintro e wN ⟨rfl, hN⟩; have HSN := Lib.hid (HC0.out.drew.stays hN.sg); have HN := Lib.hid hN; have HK1 := Lib.hid (stays_obj hN.sg HK0.out (.inr (.inr (.inl rfl)))); obtain ⟨⟨a0, a1, a2, a3⟩, b0, b1, b2, b3⟩ := cells4 HK1.out))
     all_goals
       go_wp2
       refine bodyPost_ret (results_val3 rfl _ _ (r + 1) 27 _ (0, 0) _ rfl (by exact set4 HK1.out _ _ _ _) Tryz.underlying27 rfl (by exact infoPV) _ _ rfl rfl) rfl ?_
       exact HGO.out _ HN.out _ rfl
 have e2 : (kd == 2) = false := by rw [beq_eq_false_iff_ne]; intro e; exact hk2 (.inl e)
 have e4 : (kd == 4) = false := by rw [beq_eq_false_iff_ne]; intro e; exact hk2 (.inr e)
 have hR2 := hR1.trans (if_neg hk2)
 obtain ⟨⟨c0, c1, c2, c3, c4, c5, c6, c7⟩, -⟩ := cells8 K0.out
 have hr12 : r + 1 ≠ r + 2 := by omega
 have hr21 : r + 2 ≠ r + 1 := by omega
 have HFL := Lib.hid (fun b (hb : F b) => (show b < W1.heap.size ∧ b ≠ r + 2 by
   have h1 := HS.out.Flt hb
   have h2 := HB1.out.size
   have h3 := HW0.out
   omega))
 by_cases hk3 : kd = 3 ∨ kd = 5
 · have hR3 := hR2.trans (if_pos hk3)
   obtain ⟨dd, hdd⟩ : ∃ dd, dd = (kd == 5) := ⟨_, rfl⟩
   rw [← hdd] at hR3
   have HR3 := Lib.hid hR3
   have HEN := Lib.hid (end_any HH1.out dd HLEN.out)
   have e5 : (kd == 5) = dd := hdd.symm
   have hcase : (kd == 3) = true ∨ ((kd == 3) = false ∧ dd = true) := by
     rcases hk3 with rfl | rfl
     · exact .inl rfl
     · exact .inr ⟨rfl, hdd⟩
   clear hR1 hR2 hR3 HSG HR hk0 hk2 hk3 hdd c1 c2 c3 c4 c5 c6 c7
   rcases hcase with e3 | ⟨e3, rfl⟩
   all_goals
     go_wp2_with fail
     refine HEN.out.mono ?_
     rintro e wN ⟨F', sl, rfl, hV, hN⟩
     obtain ⟨sa, sc, rfl, -, -, -⟩ := hV.len
     have HN := Lib.hid hN
     have HV := Lib.hid hV
     have HK1 := Lib.hid (stays_obj hN.sg K1.out (.inr (.inr (.inl rfl))))
     have HK2 := Lib.hid (stays_obj hN.sg K2.out (.inr (.inr (.inr rfl))))
     obtain ⟨⟨a0, a1, a2, a3⟩, b0, b1, b2, b3⟩ := cells4 HK1.out
     obtain ⟨⟨d0, d1, d2, d3⟩, g0, g1, g2, g3⟩ := cells4 HK2.out
     clear hN hV c0
     generalize endV12 st _ = Q at *
     obtain ⟨V, st2, er⟩ := Q
     simp only at HR3 HV HN a0
     unfold pvA
     by_cases he : er = 0
     · subst he
       have HR4 := Lib.hid (HR3.out.trans (if_pos rfl))
       go_wp2
       refine bodyPost_ret (results_val3 rfl _ _ (r + 1) 27 _ (0, 0) _ rfl (by exact set4 ((set4_heap hr12 _ _ _ _).trans HK1.out) _ _ _ _) Tryz.underlying27 rfl (by exact infoPV) _ _ rfl rfl) rfl ?_
       rw [HR4.out]
       exact ⟨F', _, _, _, V, rfl, fun X hX => ⟨Option.some.inj hX, IsV.fin34 HV.out HN.out.stk _ _ _ _ _ _ _ _⟩, Nxt.fin34 HS.out HB1.out HN.out HW0.out _ _ _ _ _ _ _ _⟩
     · have f1 : (er == 0) = false := by rw [beq_eq_false_iff_ne]; exact he
       have HR4 := Lib.hid (HR3.out.trans (if_neg he))
       clear he
       go_wp2
       refine bodyPost_ret (results_val3 rfl _ _ (r + 1) 27 _ (0, 0) _ rfl (by exact set4 ((set4_heap hr12 _ _ _ _).trans HK1.out) _ _ _ _) Tryz.underlying27 rfl (by exact infoPV) _ _ rfl rfl) rfl ?_
       rw [HR4.out]
       exact ⟨F', _, _, _, V, rfl, fun X hX => (by cases hX), Nxt.fin34 HS.out HB1.out HN.out HW0.out _ _ _ _ _ _ _ _⟩
 have hR3 := hR2.trans (if_neg hk3)
 have e3 : (kd == 3) = false := by rw [beq_eq_false_iff_ne]; intro e; exact hk3 (.inl e)
 have e5 : (kd == 5) = false := by rw [beq_eq_false_iff_ne]; intro e; exact hk3 (.inr e)
 have HR3 := Lib.hid hR3
 have HSX := Lib.hid (HSG.out _ HH1.out)
 have HLF := Lib.hid (single_leaf bs last st at_ x)
 clear hR1 hR2 hR3 HSG HR hk0 hk2 hk3
 go_wp2_with fail
 refine HSX.out.mono ?_
 rintro e wN ⟨he, hs, hkp⟩
 have hN : Nxt w0 W1 F (G3 G r) p a cap bs last st (singleV bs last st at_ x).2.1 F wN := ⟨⟨_, _, hs⟩, ⟨hkp.size, fun b hb hG => hkp.block b hb (fun e => HH1.out.gp (e ▸ hG))⟩, ⟨hkp.size, fun b hb hf => hkp.block b hb (HH1.out.notF hf)⟩, fun _ h => h⟩
 have HN := Lib.hid hN
 have HK1 := Lib.hid (stays_obj hN.sg K1.out (.inr (.inr (.inl rfl))))
 have HK2 := Lib.hid (stays_obj hN.sg K2.out (.inr (.inr (.inr rfl))))
 obtain ⟨⟨a0, a1, a2, a3⟩, b0, b1, b2, b3⟩ := cells4 HK1.out
 obtain ⟨⟨d0, d1, d2, d3⟩, g0, g1, g2, g3⟩ := cells4 HK2.out
 obtain ⟨ao, oc, rfl, ho1, ho2⟩ := owns_slice hs.own
 obtain ⟨⟨p0, p1, p2, p3⟩, -⟩ := hs.cells
 clear hN hs hkp c0 c1 c2 c3 c4 c5 c6 c7 HSX
 generalize singleV bs last st at_ x = Q at *
 obtain ⟨V, at2, er⟩ := Q
 simp only at HR3 HN HLF he p1
 unfold pvA at he
 subst he
 by_cases he : er = 0
 case neg =>
   have f1 : (er == 0) = false := by rw [beq_eq_false_iff_ne]; exact he
   have HR4 := Lib.hid (HR3.out.trans (if_pos he))
   clear he
   go_wp2
   refine bodyPost_ret (results_val3 rfl _ _ (r + 1) 27 _ (0, 0) _ rfl (by exact set4 ((set4_heap hr12 _ _ _ _).trans HK1.out) _ _ _ _) Tryz.underlying27 rfl (by exact infoPV) _ _ rfl rfl) rfl ?_
   rw [HR4.out]
   exact ⟨F, _, _, _, V, rfl, fun X hX => (by cases hX), Nxt.fin34 HS.out HB1.out HN.out HW0.out _ _ _ _ _ _ _ _⟩
 subst he
 by_cases h64 : 64 ≤ st.length
 · have hd : decide (64 ≤ st.length) = true := decide_eq_true h64
   have hd2 : decide ((64 : Int) ≤ (st.length : Int)) = true := decide_eq_true (by omega)
   have HR4 := Lib.hid ((HR3.out.trans (if_neg (by simp))).trans (if_pos h64))
   clear h64
   go_wp2
   refine bodyPost_ret (results_val3 rfl _ _ (r + 1) 27 _ (0, 0) _ rfl (by exact set4 ((set4_heap hr12 _ _ _ _).trans HK1.out) _ _ _ _) Tryz.underlying27 rfl (by exact infoPV) _ _ rfl rfl) rfl ?_
   rw [HR4.out]
   exact ⟨F, _, _, _, V, rfl, fun X hX => (by cases hX), Nxt.fin34 HS.out HB1.out HN.out HW0.out _ _ _ _ _ _ _ _⟩
 · have hd : decide (64 ≤ st.length) = false := decide_eq_false h64
   have hd2 : decide ((64 : Int) ≤ (st.length : Int)) = false := decide_eq_false (by omega)
   have HR4 := Lib.hid ((HR3.out.trans (if_neg (by simp))).trans (if_neg h64))
   clear h64
   go_wp2
   refine bodyPost_ret (results_val3 rfl _ _ (r + 1) 27 _ (0, 0) _ rfl (by exact set4 ((set4_heap hr12 _ _ _ _).trans HK1.out) _ _ _ _) Tryz.underlying27 rfl (by exact infoPV) _ _ rfl rfl) rfl ?_
   rw [HR4.out]
   exact ⟨F, _, _, _, V, rfl, fun X hX => ⟨Option.some.inj hX, IsV.fin34 (IsV.leaf _ _ _ HLF.out) HN.out.stk _ _ _ _ _ _ _ _⟩, Nxt.fin34 HS.out HB1.out HN.out HW0.out _ _ _ _ _ _ _ _⟩
end
def DocEnd (w : World) (R : PV × Int × Int) (e : Ending) (w' : World) : Prop :=
 ∃ sl, e = .returned (.tuple #[pvA R.1 sl, .int .i64 R.2.1, .int .i64 R.2.2]) ∧ IsV w' (fun b => w.heap.size ≤ b) R.1 sl ∧ Below w.heap.size w w'
structure DvM (w W : World) (B : Nat) (tc : Array Value) : Prop where
 b0 : W.heap[B]? = some (.cells tc 111 (0, 0))
 b1 : W.heap[B + 1]? = some (.cells #[.int .i64 0, .int .i64 0, .string ⟨#[]⟩, .slice none 0 0] 27 (0, 0))
 b2 : W.heap[B + 1 + 1]? = some (.cells #[.int .i64 0, .int .i64 0, .string ⟨#[]⟩, .slice none 0 0] 27 (0, 0))
 bel : Below w.heap.size w W
 hB : B = w.heap.size
theorem DvM.keep {w W W' : World} {B : Nat} {tc : Array Value} (h : DvM w W B tc) (hb : Below W.heap.size W W') : DvM w W' B tc :=
 ⟨block_keep hb h.b0, block_keep hb h.b1, block_keep hb h.b2, h.bel.trans (hb.mono h.bel.size), h.hB⟩
theorem DvM.fin {w W : World} {B : Nat} {tc : Array Value} (h : DvM w W B tc) (y0 y1 y2 y3 : Value) :
   Below w.heap.size w ((((W.setCell ⟨B + 1, 0, none⟩ y0).setCell ⟨B + 1, 1, none⟩ y1).setCell ⟨B + 1, 2, none⟩ y2).setCell ⟨B + 1, 3, none⟩ y3) := below_set4 h.bel (by have := h.hB; omega) _ _ _ _
theorem DvM.start (w : World) (x : Array Value) {B : Nat} (hB : B = w.heap.size) : DvM w (((w.alloc (.cells x 111)).alloc (.cells #[.int .i64 0, .int .i64 0, .string ⟨#[]⟩, .slice none 0 0] 27)).alloc (.cells #[.int .i64 0, .int .i64 0, .string ⟨#[]⟩, .slice none 0 0] 27)) B x :=
 ⟨heapA_old _ (heapA_old _ (heapA_new _ hB)), heapA_old _ (heapA_new _ (by rw [sizeA, hB])), heapA_new _ (by rw [sizeA, sizeA, hB]), belowA3 _ _ _ _, hB⟩
theorem leaf_end {w W : World} {R : PV × Int × Int} (hl : R.1.l = []) (hb : Below w.heap.size w W) : DocEnd w R (.returned (.tuple #[pvA R.1 (.slice none 0 0), .int .i64 R.2.1, .int .i64 R.2.2])) W := ⟨_, rfl, IsV.leaf _ _ _ hl, hb⟩
theorem value_sing {w : World} {a : Option Addr} {cap : Nat} {bs : List UInt8} (hr : Row w 1 a bs.length cap (bs.map u8C)) (hn : bs.length ≤ 400000) (last : Bool) (x : Tk) (f tt D : Int) (hk : x.kind ≠ 0 ∧ x.kind ≠ 2 ∧ x.kind ≠ 3 ∧ x.kind ≠ 4 ∧ x.kind ≠ 5) :
   Calls Tryz.prog 87 #[.slice a bs.length cap, .agg (tokN x f tt), .bool last, .int .i64 D] w (DocEnd w (if (singD bs last x tt).2.2 ≠ 0 then (PV.none, 0, (singD bs last x tt).2.2) else if 64 ≤ D then (PV.none, 0, 15) else singD bs last x tt)) := by
 have HRF := Lib.hid (fun (W : World) (h : Below w.heap.size w W) => rref_any (hr.mono h) hn tt last x.vn)
 have HWH := Lib.hid (fun W => rwhole_tk x f tt W)
 obtain ⟨R, hR⟩ : ∃ R, R = (if (singD bs last x tt).2.2 ≠ 0 then (PV.none, 0, (singD bs last x tt).2.2) else if 64 ≤ D then (PV.none, 0, 15) else singD bs last x tt) := ⟨_, rfl⟩
 rw [← hR]
 obtain ⟨S, hS⟩ : ∃ S, S = singD bs last x tt := ⟨_, rfl⟩
 rw [← hS] at hR
 unfold singD at hS
 generalize refD bs last tt x.vn = rd at *
 have hwx : wholeV x = (x.kind == 1 && x.vk == 2) := rfl
 obtain ⟨wh, hwh⟩ : ∃ wh, wh = wholeV x := ⟨_, rfl⟩
 rw [← hwh] at HWH hS
 rw [← hwh] at hwx
 have HWX := Lib.hid hwx
 clear hwh hwx
 obtain ⟨xk, xvk, xvn, xvs, xs⟩ := x
 obtain ⟨hk0, hk2, hk3, hk4, hk5⟩ := hk
 simp only at hk0 hk2 hk3 hk4 hk5 hS HWX HRF
 unfold tokN at HWH ⊢
 simp only [tkV] at HWH hS ⊢
 have HR := Lib.hid hR
 have HS := Lib.hid hS
 have e0 : (xk == 0) = false := by rw [beq_eq_false_iff_ne]; exact hk0
 have e2 : (xk == 2) = false := by rw [beq_eq_false_iff_ne]; exact hk2
 have e3 : (xk == 3) = false := by rw [beq_eq_false_iff_ne]; exact hk3
 have e4 : (xk == 4) = false := by rw [beq_eq_false_iff_ne]; exact hk4
 have e5 : (xk == 5) = false := by rw [beq_eq_false_iff_ne]; exact hk5
 have w1 := eq_mkB xs [116, 114, 117, 101]
 have w2 := eq_mkB xs [102, 97, 108, 115, 101]
 have w3 := eq_mkB xs [110, 117, 108, 108]
 have HW1 := Lib.hid w1
 have HW2 := Lib.hid w2
 have HW3 := Lib.hid w3
 clear hR hS hr hn hk0 hk2 hk3 hk4 hk5 w1 w2 w3
 generalize mkB xs = xb at *
 generalize bs.length = L at *
 go_enter Tryz.func87, Tryz.ntmps87
 obtain ⟨B, hB⟩ : ∃ B, B = w.heap.size := ⟨_, rfl⟩
 have HM := Lib.hid (DvM.start w #[.int .i64 xk, .int .i64 f, .int .i64 tt, .int .i64 xvk, .int .i64 xvn, .string (mkB xvs), .slice none 0 0, .string xb] hB)
 go_upto_region 2 with fail
 rw [← hB]
 clear hB
 generalize ((w.alloc _).alloc _).alloc _ = W1 at *
 obtain ⟨⟨k0, k1, k2, k3, k4, k5, k6, k7⟩, -⟩ := cells8 HM.out.b0
 obtain ⟨V, hV⟩ : ∃ V, V = W1.heap.size := ⟨_, rfl⟩
 have HV0 := Lib.hid (heapA_new (w := W1) (b := V) (.cells #[.int .i64 xvk, .int .i64 xvn, .string (mkB xvs), .slice none 0 0] 27) hV)
 have HB0 := Lib.hid (belowA W1 (.cells #[.int .i64 xvk, .int .i64 xvn, .string (mkB xvs), .slice none 0 0] 27))
 have HVV := Lib.hid (Nat.le_of_eq hV.symm)
 go_upto_region 13 with fail
 rw [← hV]
 clear hV
 clear k0 k1 k2 k3 k4 k5 k6 k7
 generalize W1.alloc _ = W2 at *
 obtain ⟨⟨k0, k1, k2, k3, k4, k5, k6, k7⟩, -⟩ := cells8 (HM.out.keep HB0.out).b0
 obtain ⟨⟨v0, v1, v2, v3⟩, vf0, vf1, vf2, vf3⟩ := cells4 HV0.out
 obtain ⟨⟨n0, n1, n2, n3⟩, -⟩ := cells4 (HM.out.keep HB0.out).b2
 obtain ⟨⟨r0, r1, r2, r3⟩, rf0, rf1, rf2, rf3⟩ := cells4 (HM.out.keep HB0.out).b1
 by_cases hw : xk = 6
 · subst hw
   have hwh := HWX.out
   simp only [show ((6 : Int) == 1) = false from rfl, Bool.false_and] at hwh
   subst hwh
   have hS := HS.out
   rw [if_pos rfl] at hS
   have hq0 := HW1.out
   by_cases g0 : xs = [116, 114, 117, 101]
   · have HSV := Lib.hid (show S = (PV.mk 1 1 [] [], tt, 0) by rw [hS]; unfold wordV; rw [if_pos g0]; all_goals (try rfl))
     rw [decide_eq_true g0] at hq0
     clear hS g0 HRF HW1 HW2 HW3
     have HV3 := Lib.hid (set4 HV0.out (.int .i64 1) (.int .i64 1) (.string ⟨#[]⟩) (.slice none 0 0))
     have HB3 := Lib.hid (below_set4 HB0.out HVV.out (.int .i64 1) (.int .i64 1) (.string ⟨#[]⟩) (.slice none 0 0))
     go_upto_region 23 with fail
     clear k0 k1 k2 k3 k4 k5 k6 k7 v0 v1 v2 v3 vf0 vf1 vf2 vf3 n0 n1 n2 n3 r0 r1 r2 r3 rf0 rf1 rf2 rf3
     generalize (((World.setCell _ _ _).setCell _ _).setCell _ _).setCell _ _ = W3 at *
     obtain ⟨⟨k0, k1, k2, k3, k4, k5, k6, k7⟩, -⟩ := cells8 (HM.out.keep HB3.out).b0
     obtain ⟨⟨v0, v1, v2, v3⟩, vf0, vf1, vf2, vf3⟩ := cells4 HV3.out
     obtain ⟨⟨n0, n1, n2, n3⟩, -⟩ := cells4 (HM.out.keep HB3.out).b2
     obtain ⟨⟨r0, r1, r2, r3⟩, rf0, rf1, rf2, rf3⟩ := cells4 (HM.out.keep HB3.out).b1
     go_wp2_with fail
     refine (HWH.out _).mono ?_
     rintro e w4 ⟨rfl, hb⟩
     have HB4 := Lib.hid (HB3.out.trans (hb.mono HB3.out.size))
     have HV4 := Lib.hid (block_keep hb HV3.out)
     clear hb
     clear k0 k1 k2 k3 k4 k5 k6 k7 v0 v1 v2 v3 vf0 vf1 vf2 vf3 n0 n1 n2 n3 r0 r1 r2 r3 rf0 rf1 rf2 rf3
     obtain ⟨⟨k0, k1, k2, k3, k4, k5, k6, k7⟩, -⟩ := cells8 (HM.out.keep HB4.out).b0
     obtain ⟨⟨v0, v1, v2, v3⟩, vf0, vf1, vf2, vf3⟩ := cells4 HV4.out
     obtain ⟨⟨n0, n1, n2, n3⟩, -⟩ := cells4 (HM.out.keep HB4.out).b2
     obtain ⟨⟨r0, r1, r2, r3⟩, rf0, rf1, rf2, rf3⟩ := cells4 (HM.out.keep HB4.out).b1
     have hR := HR.out
     by_cases hd : 64 ≤ D
     · have d1 : decide (64 ≤ D) = true := decide_eq_true hd
       rw [if_neg (by rw [HSV.out]; simp), if_pos hd] at hR
       subst hR
       clear HR hd HS HSV
       go_wp2
       refine bodyPost_ret (results_val3 rfl _ _ (B + 1) 27 _ (0, 0) _ rfl (by exact set4 (HM.out.keep HB4.out).b1 _ _ _ _) Tryz.underlying27 rfl (by exact infoPV) _ _ rfl rfl) rfl ?_
       exact leaf_end (R := (PV.none, 0, 15)) rfl ((HM.out.keep HB4.out).fin _ _ _ _)
     · have d1 : decide (64 ≤ D) = false := decide_eq_false hd
       rw [if_neg (by rw [HSV.out]; simp), if_neg hd, HSV.out] at hR
       subst hR
       clear HR hd HS HSV
       go_wp2
       refine bodyPost_ret (results_val3 rfl _ _ (B + 1) 27 _ (0, 0) _ rfl (by exact set4 (HM.out.keep HB4.out).b1 _ _ _ _) Tryz.underlying27 rfl (by exact infoPV) _ _ rfl rfl) rfl ?_
       exact leaf_end (R := (PV.mk 1 1 [] [], tt, 0)) rfl ((HM.out.keep HB4.out).fin _ _ _ _)
   rw [decide_eq_false g0] at hq0
   have hq1 := HW2.out
   by_cases g1 : xs = [102, 97, 108, 115, 101]
   · have HSV := Lib.hid (show S = (PV.mk 1 0 [] [], tt, 0) by rw [hS]; unfold wordV; rw [if_neg g0]; rw [if_pos g1]; all_goals (try rfl))
     rw [decide_eq_true g1] at hq1
     clear hS g1 g0 HRF HW1 HW2 HW3
     have HV3 := Lib.hid (set4 HV0.out (.int .i64 1) (.int .i64 0) (.string ⟨#[]⟩) (.slice none 0 0))
     have HB3 := Lib.hid (below_set4 HB0.out HVV.out (.int .i64 1) (.int .i64 0) (.string ⟨#[]⟩) (.slice none 0 0))
     go_upto_region 23 with fail
     clear k0 k1 k2 k3 k4 k5 k6 k7 v0 v1 v2 v3 vf0 vf1 vf2 vf3 n0 n1 n2 n3 r0 r1 r2 r3 rf0 rf1 rf2 rf3
     generalize (((World.setCell _ _ _).setCell _ _).setCell _ _).setCell _ _ = W3 at *
     obtain ⟨⟨k0, k1, k2, k3, k4, k5, k6, k7⟩, -⟩ := cells8 (HM.out.keep HB3.out).b0
     obtain ⟨⟨v0, v1, v2, v3⟩, vf0, vf1, vf2, vf3⟩ := cells4 HV3.out
     obtain ⟨⟨n0, n1, n2, n3⟩, -⟩ := cells4 (HM.out.keep HB3.out).b2
     obtain ⟨⟨r0, r1, r2, r3⟩, rf0, rf1, rf2, rf3⟩ := cells4 (HM.out.keep HB3.out).b1
     go_wp2_with fail
     refine (HWH.out _).mono ?_
     rintro e w4 ⟨rfl, hb⟩
     have HB4 := Lib.hid (HB3.out.trans (hb.mono HB3.out.size))
     have HV4 := Lib.hid (block_keep hb HV3.out)
     clear hb
     clear k0 k1 k2 k3 k4 k5 k6 k7 v0 v1 v2 v3 vf0 vf1 vf2 vf3 n0 n1 n2 n3 r0 r1 r2 r3 rf0 rf1 rf2 rf3
     obtain ⟨⟨k0, k1, k2, k3, k4, k5, k6, k7⟩, -⟩ := cells8 (HM.out.keep HB4.out).b0
     obtain ⟨⟨v0, v1, v2, v3⟩, vf0, vf1, vf2, vf3⟩ := cells4 HV4.out
     obtain ⟨⟨n0, n1, n2, n3⟩, -⟩ := cells4 (HM.out.keep HB4.out).b2
     obtain ⟨⟨r0, r1, r2, r3⟩, rf0, rf1, rf2, rf3⟩ := cells4 (HM.out.keep HB4.out).b1
     have hR := HR.out
     by_cases hd : 64 ≤ D
     · have d1 : decide (64 ≤ D) = true := decide_eq_true hd
       rw [if_neg (by rw [HSV.out]; simp), if_pos hd] at hR
       subst hR
       clear HR hd HS HSV
       go_wp2
       refine bodyPost_ret (results_val3 rfl _ _ (B + 1) 27 _ (0, 0) _ rfl (by exact set4 (HM.out.keep HB4.out).b1 _ _ _ _) Tryz.underlying27 rfl (by exact infoPV) _ _ rfl rfl) rfl ?_
       exact leaf_end (R := (PV.none, 0, 15)) rfl ((HM.out.keep HB4.out).fin _ _ _ _)
     · have d1 : decide (64 ≤ D) = false := decide_eq_false hd
       rw [if_neg (by rw [HSV.out]; simp), if_neg hd, HSV.out] at hR
       subst hR
       clear HR hd HS HSV
       go_wp2
       refine bodyPost_ret (results_val3 rfl _ _ (B + 1) 27 _ (0, 0) _ rfl (by exact set4 (HM.out.keep HB4.out).b1 _ _ _ _) Tryz.underlying27 rfl (by exact infoPV) _ _ rfl rfl) rfl ?_
       exact leaf_end (R := (PV.mk 1 0 [] [], tt, 0)) rfl ((HM.out.keep HB4.out).fin _ _ _ _)
   rw [decide_eq_false g1] at hq1
   have hq2 := HW3.out
   by_cases g2 : xs = [110, 117, 108, 108]
   · have HSV := Lib.hid (show S = (PV.mk 0 0 [] [], tt, 0) by rw [hS]; unfold wordV; rw [if_neg g0]; rw [if_neg g1]; rw [if_pos g2]; all_goals (try rfl))
     rw [decide_eq_true g2] at hq2
     clear hS g2 g0 g1 HRF HW1 HW2 HW3
     have HV3 := Lib.hid (set4 HV0.out (.int .i64 0) (.int .i64 0) (.string ⟨#[]⟩) (.slice none 0 0))
     have HB3 := Lib.hid (below_set4 HB0.out HVV.out (.int .i64 0) (.int .i64 0) (.string ⟨#[]⟩) (.slice none 0 0))
     go_upto_region 23 with fail
     clear k0 k1 k2 k3 k4 k5 k6 k7 v0 v1 v2 v3 vf0 vf1 vf2 vf3 n0 n1 n2 n3 r0 r1 r2 r3 rf0 rf1 rf2 rf3
     generalize (((World.setCell _ _ _).setCell _ _).setCell _ _).setCell _ _ = W3 at *
     obtain ⟨⟨k0, k1, k2, k3, k4, k5, k6, k7⟩, -⟩ := cells8 (HM.out.keep HB3.out).b0
     obtain ⟨⟨v0, v1, v2, v3⟩, vf0, vf1, vf2, vf3⟩ := cells4 HV3.out
     obtain ⟨⟨n0, n1, n2, n3⟩, -⟩ := cells4 (HM.out.keep HB3.out).b2
     obtain ⟨⟨r0, r1, r2, r3⟩, rf0, rf1, rf2, rf3⟩ := cells4 (HM.out.keep HB3.out).b1
     go_wp2_with fail
     refine (HWH.out _).mono ?_
     rintro e w4 ⟨rfl, hb⟩
     have HB4 := Lib.hid (HB3.out.trans (hb.mono HB3.out.size))
     have HV4 := Lib.hid (block_keep hb HV3.out)
     clear hb
     clear k0 k1 k2 k3 k4 k5 k6 k7 v0 v1 v2 v3 vf0 vf1 vf2 vf3 n0 n1 n2 n3 r0 r1 r2 r3 rf0 rf1 rf2 rf3
     obtain ⟨⟨k0, k1, k2, k3, k4, k5, k6, k7⟩, -⟩ := cells8 (HM.out.keep HB4.out).b0
     obtain ⟨⟨v0, v1, v2, v3⟩, vf0, vf1, vf2, vf3⟩ := cells4 HV4.out
     obtain ⟨⟨n0, n1, n2, n3⟩, -⟩ := cells4 (HM.out.keep HB4.out).b2
     obtain ⟨⟨r0, r1, r2, r3⟩, rf0, rf1, rf2, rf3⟩ := cells4 (HM.out.keep HB4.out).b1
     have hR := HR.out
     by_cases hd : 64 ≤ D
     · have d1 : decide (64 ≤ D) = true := decide_eq_true hd
       rw [if_neg (by rw [HSV.out]; simp), if_pos hd] at hR
       subst hR
       clear HR hd HS HSV
       go_wp2
       refine bodyPost_ret (results_val3 rfl _ _ (B + 1) 27 _ (0, 0) _ rfl (by exact set4 (HM.out.keep HB4.out).b1 _ _ _ _) Tryz.underlying27 rfl (by exact infoPV) _ _ rfl rfl) rfl ?_
       exact leaf_end (R := (PV.none, 0, 15)) rfl ((HM.out.keep HB4.out).fin _ _ _ _)
     · have d1 : decide (64 ≤ D) = false := decide_eq_false hd
       rw [if_neg (by rw [HSV.out]; simp), if_neg hd, HSV.out] at hR
       subst hR
       clear HR hd HS HSV
       go_wp2
       refine bodyPost_ret (results_val3 rfl _ _ (B + 1) 27 _ (0, 0) _ rfl (by exact set4 (HM.out.keep HB4.out).b1 _ _ _ _) Tryz.underlying27 rfl (by exact infoPV) _ _ rfl rfl) rfl ?_
       exact leaf_end (R := (PV.mk 0 0 [] [], tt, 0)) rfl ((HM.out.keep HB4.out).fin _ _ _ _)
   rw [decide_eq_false g2] at hq2
   have HSV := Lib.hid (show S = (PV.none, 0, 11) by rw [hS]; unfold wordV; rw [if_neg g0, if_neg g1, if_neg g2])
   have hR := HR.out
   rw [HSV.out, if_pos (by decide)] at hR
   subst hR
   clear hS g0 g1 g2 HRF HW1 HW2 HW3 HR HS HSV
   go_wp2
   refine bodyPost_ret (results_val3 rfl _ _ (B + 1) 27 _ (0, 0) _ rfl (by exact set4 (HM.out.keep HB0.out).b1 _ _ _ _) Tryz.underlying27 rfl (by exact infoPV) _ _ rfl rfl) rfl ?_
   exact leaf_end (R := (PV.none, 0, 11)) rfl ((HM.out.keep HB0.out).fin _ _ _ _)
 have e6 : (xk == 6) = false := by rw [beq_eq_false_iff_ne]; exact hw
 have hS := HS.out
 rw [if_neg hw] at hS
 clear hw HW1 HW2 HW3
 cases wh with
 | false =>
   have HSV := Lib.hid (show S = (PV.mk xvk xvn xvs [], tt, 0) by rw [hS]; rfl)
   clear hS HRF
   go_wp2_with fail
   refine (HWH.out _).mono ?_
   rintro e w4 ⟨rfl, hb⟩
   have HB4 := Lib.hid (HB0.out.trans (hb.mono HB0.out.size))
   have HV4 := Lib.hid (block_keep hb HV0.out)
   clear hb
   clear k0 k1 k2 k3 k4 k5 k6 k7 v0 v1 v2 v3 vf0 vf1 vf2 vf3 n0 n1 n2 n3 r0 r1 r2 r3 rf0 rf1 rf2 rf3
   obtain ⟨⟨k0, k1, k2, k3, k4, k5, k6, k7⟩, -⟩ := cells8 (HM.out.keep HB4.out).b0
   obtain ⟨⟨v0, v1, v2, v3⟩, vf0, vf1, vf2, vf3⟩ := cells4 HV4.out
   obtain ⟨⟨n0, n1, n2, n3⟩, -⟩ := cells4 (HM.out.keep HB4.out).b2
   obtain ⟨⟨r0, r1, r2, r3⟩, rf0, rf1, rf2, rf3⟩ := cells4 (HM.out.keep HB4.out).b1
   have hR := HR.out
   by_cases hd : 64 ≤ D
   · have d1 : decide (64 ≤ D) = true := decide_eq_true hd
     rw [if_neg (by rw [HSV.out]; simp), if_pos hd] at hR
     subst hR
     clear HR hd HS HSV
     go_wp2
     refine bodyPost_ret (results_val3 rfl _ _ (B + 1) 27 _ (0, 0) _ rfl (by exact set4 (HM.out.keep HB4.out).b1 _ _ _ _) Tryz.underlying27 rfl (by exact infoPV) _ _ rfl rfl) rfl ?_
     exact leaf_end (R := (PV.none, 0, 15)) rfl ((HM.out.keep HB4.out).fin _ _ _ _)
   · have d1 : decide (64 ≤ D) = false := decide_eq_false hd
     rw [if_neg (by rw [HSV.out]; simp), if_neg hd, HSV.out] at hR
     subst hR
     clear HR hd HS HSV
     go_wp2
     refine bodyPost_ret (results_val3 rfl _ _ (B + 1) 27 _ (0, 0) _ rfl (by exact set4 (HM.out.keep HB4.out).b1 _ _ _ _) Tryz.underlying27 rfl (by exact infoPV) _ _ rfl rfl) rfl ?_
     exact leaf_end (R := (PV.mk xvk xvn xvs [], tt, 0)) rfl ((HM.out.keep HB4.out).fin _ _ _ _)
 | true =>
   rw [if_pos rfl] at hS
   have HS1 := Lib.hid hS
   clear hS
   go_wp2_with fail
   refine (HWH.out _).mono ?_
   rintro e w4 ⟨rfl, hb⟩
   have HB4 := Lib.hid (HB0.out.trans (hb.mono HB0.out.size))
   have HV4 := Lib.hid (block_keep hb HV0.out)
   clear hb
   clear k0 k1 k2 k3 k4 k5 k6 k7 v0 v1 v2 v3 vf0 vf1 vf2 vf3 n0 n1 n2 n3 r0 r1 r2 r3 rf0 rf1 rf2 rf3
   obtain ⟨⟨k0, k1, k2, k3, k4, k5, k6, k7⟩, -⟩ := cells8 (HM.out.keep HB4.out).b0
   obtain ⟨⟨v0, v1, v2, v3⟩, vf0, vf1, vf2, vf3⟩ := cells4 HV4.out
   obtain ⟨⟨n0, n1, n2, n3⟩, -⟩ := cells4 (HM.out.keep HB4.out).b2
   obtain ⟨⟨r0, r1, r2, r3⟩, rf0, rf1, rf2, rf3⟩ := cells4 (HM.out.keep HB4.out).b1
   obtain ⟨ri, rt, re⟩ := rd
   simp only at HS1 HRF
   go_wp2_with fail
   refine (HRF.out _ (HM.out.keep HB4.out).bel).mono ?_
   rintro e w5 ⟨rfl, hb⟩
   have HB5 := Lib.hid (HB4.out.trans (hb.mono HB4.out.size))
   have HV5 := Lib.hid (block_keep hb HV4.out)
   clear hb HRF
   clear k0 k1 k2 k3 k4 k5 k6 k7 v0 v1 v2 v3 vf0 vf1 vf2 vf3 n0 n1 n2 n3 r0 r1 r2 r3 rf0 rf1 rf2 rf3
   obtain ⟨⟨k0, k1, k2, k3, k4, k5, k6, k7⟩, -⟩ := cells8 (HM.out.keep HB5.out).b0
   obtain ⟨⟨v0, v1, v2, v3⟩, vf0, vf1, vf2, vf3⟩ := cells4 HV5.out
   obtain ⟨⟨n0, n1, n2, n3⟩, -⟩ := cells4 (HM.out.keep HB5.out).b2
   obtain ⟨⟨r0, r1, r2, r3⟩, rf0, rf1, rf2, rf3⟩ := cells4 (HM.out.keep HB5.out).b1
   have hS := HS1.out
   by_cases hre : re = 0
   case neg =>
     have e1 : (re == 0) = false := by rw [beq_eq_false_iff_ne]; exact hre
     have e1n : (re != 0) = true := by simp only [bne, e1, Bool.not_false]
     rw [if_pos hre] at hS
     have hR := HR.out
     rw [hS, if_pos hre] at hR
     subst hR
     clear hS HS1 HS HR hre
     go_wp2
     refine bodyPost_ret (results_val3 rfl _ _ (B + 1) 27 _ (0, 0) _ rfl (by exact set4 (HM.out.keep HB5.out).b1 _ _ _ _) Tryz.underlying27 rfl (by exact infoPV) _ _ rfl rfl) rfl ?_
     exact leaf_end (R := (PV.none, 0, re)) rfl ((HM.out.keep HB5.out).fin _ _ _ _)
   subst hre
   rw [if_neg (by simp)] at hS
   cases ri with
   | false =>
     have HSV := Lib.hid (show S = (PV.mk xvk xvn xvs [], tt, 0) by rw [hS]; rfl)
     clear hS HS1
     have hR := HR.out
     by_cases hd : 64 ≤ D
     · have d1 : decide (64 ≤ D) = true := decide_eq_true hd
       rw [if_neg (by rw [HSV.out]; simp), if_pos hd] at hR
       subst hR
       clear HR hd HS HSV
       go_wp2
       refine bodyPost_ret (results_val3 rfl _ _ (B + 1) 27 _ (0, 0) _ rfl (by exact set4 (HM.out.keep HB5.out).b1 _ _ _ _) Tryz.underlying27 rfl (by exact infoPV) _ _ rfl rfl) rfl ?_
       exact leaf_end (R := (PV.none, 0, 15)) rfl ((HM.out.keep HB5.out).fin _ _ _ _)
     · have d1 : decide (64 ≤ D) = false := decide_eq_false hd
       rw [if_neg (by rw [HSV.out]; simp), if_neg hd, HSV.out] at hR
       subst hR
       clear HR hd HS HSV
       go_wp2
       refine bodyPost_ret (results_val3 rfl _ _ (B + 1) 27 _ (0, 0) _ rfl (by exact set4 (HM.out.keep HB5.out).b1 _ _ _ _) Tryz.underlying27 rfl (by exact infoPV) _ _ rfl rfl) rfl ?_
       exact leaf_end (R := (PV.mk xvk xvn xvs [], tt, 0)) rfl ((HM.out.keep HB5.out).fin _ _ _ _)
   | true =>
     have HSV := Lib.hid (show S = (PV.mk 8 xvn [] [], rt, 0) by rw [hS]; rfl)
     clear hS HS1
     have HV6 := Lib.hid (set4 HV5.out (.int .i64 8) (.int .i64 xvn) (.string ⟨#[]⟩) (.slice none 0 0))
     have HB6 := Lib.hid (below_set4 HB5.out HVV.out (.int .i64 8) (.int .i64 xvn) (.string ⟨#[]⟩) (.slice none 0 0))
     go_upto_region 30 with fail
     clear k0 k1 k2 k3 k4 k5 k6 k7 v0 v1 v2 v3 vf0 vf1 vf2 vf3 n0 n1 n2 n3 r0 r1 r2 r3 rf0 rf1 rf2 rf3
     generalize (((World.setCell _ _ _).setCell _ _).setCell _ _).setCell _ _ = W6 at *
     obtain ⟨⟨k0, k1, k2, k3, k4, k5, k6, k7⟩, -⟩ := cells8 (HM.out.keep HB6.out).b0
     obtain ⟨⟨v0, v1, v2, v3⟩, vf0, vf1, vf2, vf3⟩ := cells4 HV6.out
     obtain ⟨⟨n0, n1, n2, n3⟩, -⟩ := cells4 (HM.out.keep HB6.out).b2
     obtain ⟨⟨r0, r1, r2, r3⟩, rf0, rf1, rf2, rf3⟩ := cells4 (HM.out.keep HB6.out).b1
     have hR := HR.out
     by_cases hd : 64 ≤ D
     · have d1 : decide (64 ≤ D) = true := decide_eq_true hd
       rw [if_neg (by rw [HSV.out]; simp), if_pos hd] at hR
       subst hR
       clear HR hd HS HSV
       go_wp2
       refine bodyPost_ret (results_val3 rfl _ _ (B + 1) 27 _ (0, 0) _ rfl (by exact set4 (HM.out.keep HB6.out).b1 _ _ _ _) Tryz.underlying27 rfl (by exact infoPV) _ _ rfl rfl) rfl ?_
       exact leaf_end (R := (PV.none, 0, 15)) rfl ((HM.out.keep HB6.out).fin _ _ _ _)
     · have d1 : decide (64 ≤ D) = false := decide_eq_false hd
       rw [if_neg (by rw [HSV.out]; simp), if_neg hd, HSV.out] at hR
       subst hR
       clear HR hd HS HSV
       go_wp2
       refine bodyPost_ret (results_val3 rfl _ _ (B + 1) 27 _ (0, 0) _ rfl (by exact set4 (HM.out.keep HB6.out).b1 _ _ _ _) Tryz.underlying27 rfl (by exact infoPV) _ _ rfl rfl) rfl ?_
       exact leaf_end (R := (PV.mk 8 xvn [] [], rt, 0)) rfl ((HM.out.keep HB6.out).fin _ _ _ _)
theorem value_k0 {w : World} {a : Option Addr} {cap L : Nat} (last : Bool) (x : Tk) (f tt D : Int) (hk : x.kind = 0) :
   Calls Tryz.prog 87 #[.slice a L cap, .agg (tokN x f tt), .bool last, .int .i64 D] w (DocEnd w (PV.none, 0, 10)) := by
 unfold tokN
 rw [hk]
 clear hk
 generalize x.vk = xvk at *
 generalize x.vn = xvn at *
 generalize mkB x.vs = xvb at *
 generalize mkB x.s = xb at *
 go_enter Tryz.func87, Tryz.ntmps87
 obtain ⟨B, hB⟩ : ∃ B, B = w.heap.size := ⟨_, rfl⟩
 have HM := Lib.hid (DvM.start w #[.int .i64 0, .int .i64 f, .int .i64 tt, .int .i64 xvk, .int .i64 xvn, .string xvb, .slice none 0 0, .string xb] hB)
 go_upto_region 2 with fail
 rw [← hB]
 clear hB
 generalize ((w.alloc _).alloc _).alloc _ = W1 at *
 obtain ⟨⟨k0, k1, k2, k3, k4, k5, k6, k7⟩, -⟩ := cells8 HM.out.b0
 obtain ⟨⟨n0, n1, n2, n3⟩, -⟩ := cells4 HM.out.b2
 obtain ⟨⟨r0, r1, r2, r3⟩, rf0, rf1, rf2, rf3⟩ := cells4 HM.out.b1
 go_wp2
 refine bodyPost_ret (results_val3 rfl _ _ (B + 1) 27 _ (0, 0) _ rfl (by exact set4 HM.out.b1 _ _ _ _) Tryz.underlying27 rfl (by exact infoPV) _ _ rfl rfl) rfl ?_
 exact leaf_end (R := (PV.none, 0, 10)) rfl (HM.out.fin _ _ _ _)
theorem value_k3 {w : World} {a : Option Addr} {cap L : Nat} (last : Bool) (x : Tk) (f tt D : Int) (hk : x.kind = 3) :
   Calls Tryz.prog 87 #[.slice a L cap, .agg (tokN x f tt), .bool last, .int .i64 D] w (DocEnd w (PV.none, 0, 11)) := by
 unfold tokN
 rw [hk]
 clear hk
 generalize x.vk = xvk at *
 generalize x.vn = xvn at *
 generalize mkB x.vs = xvb at *
 generalize mkB x.s = xb at *
 go_enter Tryz.func87, Tryz.ntmps87
 obtain ⟨B, hB⟩ : ∃ B, B = w.heap.size := ⟨_, rfl⟩
 have HM := Lib.hid (DvM.start w #[.int .i64 3, .int .i64 f, .int .i64 tt, .int .i64 xvk, .int .i64 xvn, .string xvb, .slice none 0 0, .string xb] hB)
 go_upto_region 2 with fail
 rw [← hB]
 clear hB
 generalize ((w.alloc _).alloc _).alloc _ = W1 at *
 obtain ⟨⟨k0, k1, k2, k3, k4, k5, k6, k7⟩, -⟩ := cells8 HM.out.b0
 obtain ⟨⟨n0, n1, n2, n3⟩, -⟩ := cells4 HM.out.b2
 obtain ⟨⟨r0, r1, r2, r3⟩, rf0, rf1, rf2, rf3⟩ := cells4 HM.out.b1
 go_wp2
 refine bodyPost_ret (results_val3 rfl _ _ (B + 1) 27 _ (0, 0) _ rfl (by exact set4 HM.out.b1 _ _ _ _) Tryz.underlying27 rfl (by exact infoPV) _ _ rfl rfl) rfl ?_
 exact leaf_end (R := (PV.none, 0, 11)) rfl (HM.out.fin _ _ _ _)
theorem value_k5 {w : World} {a : Option Addr} {cap L : Nat} (last : Bool) (x : Tk) (f tt D : Int) (hk : x.kind = 5) :
   Calls Tryz.prog 87 #[.slice a L cap, .agg (tokN x f tt), .bool last, .int .i64 D] w (DocEnd w (PV.none, 0, 11)) := by
 unfold tokN
 rw [hk]
 clear hk
 generalize x.vk = xvk at *
 generalize x.vn = xvn at *
 generalize mkB x.vs = xvb at *
 generalize mkB x.s = xb at *
 go_enter Tryz.func87, Tryz.ntmps87
 obtain ⟨B, hB⟩ : ∃ B, B = w.heap.size := ⟨_, rfl⟩
 have HM := Lib.hid (DvM.start w #[.int .i64 5, .int .i64 f, .int .i64 tt, .int .i64 xvk, .int .i64 xvn, .string xvb, .slice none 0 0, .string xb] hB)
 go_upto_region 2 with fail
 rw [← hB]
 clear hB
 generalize ((w.alloc _).alloc _).alloc _ = W1 at *
 obtain ⟨⟨k0, k1, k2, k3, k4, k5, k6, k7⟩, -⟩ := cells8 HM.out.b0
 obtain ⟨⟨n0, n1, n2, n3⟩, -⟩ := cells4 HM.out.b2
 obtain ⟨⟨r0, r1, r2, r3⟩, rf0, rf1, rf2, rf3⟩ := cells4 HM.out.b1
 go_wp2
 refine bodyPost_ret (results_val3 rfl _ _ (B + 1) 27 _ (0, 0) _ rfl (by exact set4 HM.out.b1 _ _ _ _) Tryz.underlying27 rfl (by exact infoPV) _ _ rfl rfl) rfl ?_
 exact leaf_end (R := (PV.none, 0, 11)) rfl (HM.out.fin _ _ _ _)
theorem value_d2 {w : World} {a : Option Addr} {cap L : Nat} (last : Bool) (x : Tk) (f tt D : Int) (hk : x.kind = 2) (hD : 64 ≤ D) :
   Calls Tryz.prog 87 #[.slice a L cap, .agg (tokN x f tt), .bool last, .int .i64 D] w (DocEnd w (PV.none, 0, 15)) := by
 unfold tokN
 rw [hk]
 clear hk
 generalize x.vk = xvk at *
 generalize x.vn = xvn at *
 generalize mkB x.vs = xvb at *
 generalize mkB x.s = xb at *
 have d1 : decide (64 ≤ D) = true := decide_eq_true hD
 clear hD
 go_enter Tryz.func87, Tryz.ntmps87
 obtain ⟨B, hB⟩ : ∃ B, B = w.heap.size := ⟨_, rfl⟩
 have HM := Lib.hid (DvM.start w #[.int .i64 2, .int .i64 f, .int .i64 tt, .int .i64 xvk, .int .i64 xvn, .string xvb, .slice none 0 0, .string xb] hB)
 go_upto_region 2 with fail
 rw [← hB]
 clear hB
 generalize ((w.alloc _).alloc _).alloc _ = W1 at *
 obtain ⟨⟨k0, k1, k2, k3, k4, k5, k6, k7⟩, -⟩ := cells8 HM.out.b0
 obtain ⟨⟨n0, n1, n2, n3⟩, -⟩ := cells4 HM.out.b2
 obtain ⟨⟨r0, r1, r2, r3⟩, rf0, rf1, rf2, rf3⟩ := cells4 HM.out.b1
 go_wp2
 refine bodyPost_ret (results_val3 rfl _ _ (B + 1) 27 _ (0, 0) _ rfl (by exact set4 HM.out.b1 _ _ _ _) Tryz.underlying27 rfl (by exact infoPV) _ _ rfl rfl) rfl ?_
 exact leaf_end (R := (PV.none, 0, 15)) rfl (HM.out.fin _ _ _ _)
theorem value_d4 {w : World} {a : Option Addr} {cap L : Nat} (last : Bool) (x : Tk) (f tt D : Int) (hk : x.kind = 4) (hD : 64 ≤ D) :
   Calls Tryz.prog 87 #[.slice a L cap, .agg (tokN x f tt), .bool last, .int .i64 D] w (DocEnd w (PV.none, 0, 15)) := by
 unfold tokN
 rw [hk]
 clear hk
 generalize x.vk = xvk at *
 generalize x.vn = xvn at *
 generalize mkB x.vs = xvb at *
 generalize mkB x.s = xb at *
 have d1 : decide (64 ≤ D) = true := decide_eq_true hD
 clear hD
 go_enter Tryz.func87, Tryz.ntmps87
 obtain ⟨B, hB⟩ : ∃ B, B = w.heap.size := ⟨_, rfl⟩
 have HM := Lib.hid (DvM.start w #[.int .i64 4, .int .i64 f, .int .i64 tt, .int .i64 xvk, .int .i64 xvn, .string xvb, .slice none 0 0, .string xb] hB)
 go_upto_region 2 with fail
 rw [← hB]
 clear hB
 generalize ((w.alloc _).alloc _).alloc _ = W1 at *
 obtain ⟨⟨k0, k1, k2, k3, k4, k5, k6, k7⟩, -⟩ := cells8 HM.out.b0
 obtain ⟨⟨n0, n1, n2, n3⟩, -⟩ := cells4 HM.out.b2
 obtain ⟨⟨r0, r1, r2, r3⟩, rf0, rf1, rf2, rf3⟩ := cells4 HM.out.b1
 go_wp2
 refine bodyPost_ret (results_val3 rfl _ _ (B + 1) 27 _ (0, 0) _ rfl (by exact set4 HM.out.b1 _ _ _ _) Tryz.underlying27 rfl (by exact infoPV) _ _ rfl rfl) rfl ?_
 exact leaf_end (R := (PV.none, 0, 15)) rfl (HM.out.fin _ _ _ _)
theorem value_o2 {w : World} {a : Option Addr} {cap L : Nat} (last : Bool) (x : Tk) (f tt D : Int) (hk : x.kind = 2) (hD : ¬ 64 ≤ D) (hD0 : 0 ≤ D) {R : PV × Int × Int} (hA : ∀ W, Below w.heap.size w W → Calls Tryz.prog 128 #[.slice a L cap, .int .i64 tt, .bool last, .int .i64 (D + 1)] W (DocEnd W R)) :
   Calls Tryz.prog 87 #[.slice a L cap, .agg (tokN x f tt), .bool last, .int .i64 D] w (DocEnd w R) := by
 unfold tokN
 rw [hk]
 clear hk
 generalize x.vk = xvk at *
 generalize x.vn = xvn at *
 generalize mkB x.vs = xvb at *
 generalize mkB x.s = xb at *
 have d1 : decide (64 ≤ D) = false := decide_eq_false hD
 have d2 : IntKind.i64.wrap (D + 1) = D + 1 := IntWalk.i64_in _ (by omega)
 have d3 : D < 64 := by omega
 have HA := Lib.hid hA
 clear hD hA
 go_enter Tryz.func87, Tryz.ntmps87
 obtain ⟨B, hB⟩ : ∃ B, B = w.heap.size := ⟨_, rfl⟩
 have HM := Lib.hid (DvM.start w #[.int .i64 2, .int .i64 f, .int .i64 tt, .int .i64 xvk, .int .i64 xvn, .string xvb, .slice none 0 0, .string xb] hB)
 go_upto_region 2 with fail
 rw [← hB]
 clear hB
 generalize ((w.alloc _).alloc _).alloc _ = W1 at *
 obtain ⟨⟨k0, k1, k2, k3, k4, k5, k6, k7⟩, -⟩ := cells8 HM.out.b0
 obtain ⟨⟨n0, n1, n2, n3⟩, -⟩ := cells4 HM.out.b2
 obtain ⟨⟨r0, r1, r2, r3⟩, rf0, rf1, rf2, rf3⟩ := cells4 HM.out.b1
 go_wp2_with fail
 refine (HA.out _ HM.out.bel).mono ?_
 rintro e w4 ⟨sl, rfl, hV, hb⟩
 have HM4 := Lib.hid (HM.out.keep hb)
 obtain ⟨sa, sc, rfl, -⟩ := hV.len
 have HV := Lib.hid hV
 have hlb : B + 1 < W1.heap.size := lt_of_heap HM.out.b1
 have HL := Lib.hid hlb
 have hwB := HM.out.hB
 have HWB := Lib.hid (show w.heap.size ≤ W1.heap.size by omega)
 clear hb hV HA k0 k1 k2 k3 k4 k5 k6 k7 n0 n1 n2 n3 r0 r1 r2 r3 rf0 rf1 rf2 rf3 hlb hwB
 obtain ⟨⟨r0, r1, r2, r3⟩, rf0, rf1, rf2, rf3⟩ := cells4 HM4.out.b1
 unfold pvA
 go_wp2
 refine bodyPost_ret (results_val3 rfl _ _ (B + 1) 27 _ (0, 0) _ rfl (by exact set4 HM4.out.b1 _ _ _ _) Tryz.underlying27 rfl (by exact infoPV) _ _ rfl rfl) rfl ?_
 exact ⟨_, rfl, IsV.keep (F := fun b => W1.heap.size ≤ b) ⟨by rw [set4_size]; exact Nat.le_refl _, fun b _ hb => set4_other (by have := HL.out; omega) _ _ _ _⟩ (fun b hb => Nat.le_trans HWB.out hb) _ HV.out, HM4.out.fin _ _ _ _⟩
theorem value_o4 {w : World} {a : Option Addr} {cap L : Nat} (last : Bool) (x : Tk) (f tt D : Int) (hk : x.kind = 4) (hD : ¬ 64 ≤ D) (hD0 : 0 ≤ D) {R : PV × Int × Int} (hA : ∀ W, Below w.heap.size w W → Calls Tryz.prog 129 #[.slice a L cap, .int .i64 tt, .bool last, .int .i64 (D + 1)] W (DocEnd W R)) :
   Calls Tryz.prog 87 #[.slice a L cap, .agg (tokN x f tt), .bool last, .int .i64 D] w (DocEnd w R) := by
 unfold tokN
 rw [hk]
 clear hk
 generalize x.vk = xvk at *
 generalize x.vn = xvn at *
 generalize mkB x.vs = xvb at *
 generalize mkB x.s = xb at *
 have d1 : decide (64 ≤ D) = false := decide_eq_false hD
 have d2 : IntKind.i64.wrap (D + 1) = D + 1 := IntWalk.i64_in _ (by omega)
 have d3 : D < 64 := by omega
 have HA := Lib.hid hA
 clear hD hA
 go_enter Tryz.func87, Tryz.ntmps87
 obtain ⟨B, hB⟩ : ∃ B, B = w.heap.size := ⟨_, rfl⟩
 have HM := Lib.hid (DvM.start w #[.int .i64 4, .int .i64 f, .int .i64 tt, .int .i64 xvk, .int .i64 xvn, .string xvb, .slice none 0 0, .string xb] hB)
 go_upto_region 2 with fail
 rw [← hB]
 clear hB
 generalize ((w.alloc _).alloc _).alloc _ = W1 at *
 obtain ⟨⟨k0, k1, k2, k3, k4, k5, k6, k7⟩, -⟩ := cells8 HM.out.b0
 obtain ⟨⟨n0, n1, n2, n3⟩, -⟩ := cells4 HM.out.b2
 obtain ⟨⟨r0, r1, r2, r3⟩, rf0, rf1, rf2, rf3⟩ := cells4 HM.out.b1
 go_wp2_with fail
 refine (HA.out _ HM.out.bel).mono ?_
 rintro e w4 ⟨sl, rfl, hV, hb⟩
 have HM4 := Lib.hid (HM.out.keep hb)
 obtain ⟨sa, sc, rfl, -⟩ := hV.len
 have HV := Lib.hid hV
 have hlb : B + 1 < W1.heap.size := lt_of_heap HM.out.b1
 have HL := Lib.hid hlb
 have hwB := HM.out.hB
 have HWB := Lib.hid (show w.heap.size ≤ W1.heap.size by omega)
 clear hb hV HA k0 k1 k2 k3 k4 k5 k6 k7 n0 n1 n2 n3 r0 r1 r2 r3 rf0 rf1 rf2 rf3 hlb hwB
 obtain ⟨⟨r0, r1, r2, r3⟩, rf0, rf1, rf2, rf3⟩ := cells4 HM4.out.b1
 unfold pvA
 go_wp2
 refine bodyPost_ret (results_val3 rfl _ _ (B + 1) 27 _ (0, 0) _ rfl (by exact set4 HM4.out.b1 _ _ _ _) Tryz.underlying27 rfl (by exact infoPV) _ _ rfl rfl) rfl ?_
 exact ⟨_, rfl, IsV.keep (F := fun b => W1.heap.size ≤ b) ⟨by rw [set4_size]; exact Nat.le_refl _, fun b _ hb => set4_other (by have := HL.out; omega) _ _ _ _⟩ (fun b hb => Nat.le_trans HWB.out hb) _ HV.out, HM4.out.fin _ _ _ _⟩
def dctV (ps : List (PV × PV)) : PV := .mk 7 0 [] (flatV ps)
theorem IsV.pair {w : World} {F : Nat → Prop} {ps : List (PV × PV)} {a : Option Addr} {n cap : Nat} (h : IsV w F (dctV ps) (.slice a n cap)) {j : Nat} {y : PV × PV} (hy : ps[j]? = some y) :
   ∃ b off s1 s2, a = some ⟨b, off, none⟩ ∧ IsV w F y.1 s1 ∧ IsV w F y.2 s2 ∧
     w.cell? ⟨b, off + 2 * j * 4, none⟩ = some (.int .i64 y.1.kind) ∧ w.cell? ⟨b, off + 2 * j * 4 + 1, none⟩ = some (.int .i64 y.1.n) ∧ w.cell? ⟨b, off + 2 * j * 4 + 2, none⟩ = some (.string (mkB y.1.s)) ∧ w.cell? ⟨b, off + 2 * j * 4 + 3, none⟩ = some s1 ∧
     w.cell? ⟨b, off + (2 * j + 1) * 4, none⟩ = some (.int .i64 y.2.kind) ∧ w.cell? ⟨b, off + (2 * j + 1) * 4 + 1, none⟩ = some (.int .i64 y.2.n) ∧ w.cell? ⟨b, off + (2 * j + 1) * 4 + 2, none⟩ = some (.string (mkB y.2.s)) ∧ w.cell? ⟨b, off + (2 * j + 1) * 4 + 3, none⟩ = some s2 := by
 have hjl := (List.getElem?_eq_some_iff.1 hy).1
 have hn : n = (flatV ps).length := by obtain ⟨a', cap', e, _⟩ := h.len; cases e; rfl
 obtain ⟨-, -, -, b, off, rfl, -, -, hx⟩ := h.at (by rw [hn, flat_lenD]; omega)
 obtain ⟨f1, f2⟩ := flat_at ps j y hy
 obtain ⟨s1, h1, c0, c1, c2, c3⟩ := hx _ _ f1
 obtain ⟨s2, h2, d0, d1, d2, d3⟩ := hx _ _ f2
 exact ⟨b, off, s1, s2, rfl, h1, h2, c0, c1, c2, c3, d0, d1, d2, d3⟩
def findI (key : List UInt8) (ps : List (PV × PV)) : Int := if fIx key ps < ps.length then ((2 * fIx key ps : Nat) : Int) else -1
theorem find_any {w : World} {F : Nat → Prop} {ps : List (PV × PV)} {sl : Value} (hv : IsV w F (dctV ps) sl) (h5 : ∀ y ∈ ps, y.1.kind = 5) (key : List UInt8) :
   Calls Tryz.prog 101 #[pvA (dctV ps) sl, .string (mkB key)] w fun e w' => e = .returned (.int .i64 (findI key ps)) ∧ Below w.heap.size w w' := by
 obtain ⟨a1, cap1, e1, g1, g2, -⟩ := hv.len
 subst e1
 obtain ⟨N, hN⟩ : ∃ N, N = (dctV ps).l.length := ⟨_, rfl⟩
 have hN2 : N = 2 * ps.length := by rw [hN]; exact flat_lenD ps
 rw [← hN] at hv g1 ⊢
 have HA := Lib.hid hv
 have m1 : (N : Int) ≤ 9223372036854775807 := by unfold maxLen at g2; omega
 have HNN := Lib.hid hN2
 have H5 := Lib.hid h5
 obtain ⟨R, hR⟩ : ∃ R, R = findI key ps := ⟨_, rfl⟩
 have HR := Lib.hid hR
 rw [← hR]
 unfold pvA
 rw [show (dctV ps).kind = 7 from rfl, show (dctV ps).n = 0 from rfl, show mkB (dctV ps).s = ⟨#[]⟩ from rfl]
 have HE := Lib.hid (fun (x : List UInt8) => show ((mkB x).toList == (mkB key).toList) = decide (x = key) by rw [toList_mkB key]; exact eq_mkB x key)
 clear hv hN hN2 h5 hR
 generalize mkB key = ks at *
 go_enter Tryz.func101, Tryz.ntmps101
 obtain ⟨B, hB⟩ : ∃ B, B = w.heap.size := ⟨_, rfl⟩
 have HX1 := Lib.hid (heapA_new (w := w) (b := B) (.cells #[.int .i64 7, .int .i64 0, .string ⟨#[]⟩, .slice a1 N cap1] 27) hB)
 have HW := Lib.hid (belowA w (.cells #[.int .i64 7, .int .i64 0, .string ⟨#[]⟩, .slice a1 N cap1] 27))
 go_wp2
 rw [← hB]
 clear hB
 generalize w.alloc _ = W1 at *
 obtain ⟨⟨c0, c1, c2, c3⟩, -⟩ := cells4 HX1.out
 go_loopw [5] (fun vk wr => ∃ j K : Nat, vk = .int .i64 K ∧ Hid (K = 2 * j) ∧ K ≤ N ∧ wr = W1 ∧ Hid (j ≤ fIx key ps)) (fun vk _ => N - (intOf vk).toNat)
 case atStart => exact ⟨0, 0, rfl, rfl, Nat.zero_le _, rfl, Nat.zero_le _⟩
 case round =>
   obtain ⟨j, K, rfl, HK, hK, hwr, HJ⟩ := hrel
   rw [hwr]
   clear hwr
   by_cases q1 : K < N
   case neg =>
     have hd1 : decide (K < N) = false := decide_eq_false q1
     have hd2 : decide ((K : Int) < (N : Int)) = false := decide_eq_false (by omega)
     have hq2 : ¬ (K : Int) < (N : Int) := by omega
     have hr : R = -1 := by
       rw [HR.out]
       unfold findI
       have h1 := HK.out
       have h2 := HNN.out
       have h3 := HJ.out
       rw [if_neg (by omega)]
     subst hr
     clear HE H5 HK HJ HR
     go_wp2
     go_ret
     exact ⟨rfl, HW.out⟩
   have hjl : j < ps.length := by
     have h1 := HK.out
     have h2 := HNN.out
     omega
   obtain ⟨y, hy⟩ : ∃ y, ps[j]? = some y := ⟨_, List.getElem?_eq_getElem hjl⟩
   obtain ⟨b1, o1, sy, sz, rfl, -, -, y0, -, y2, -⟩ := (HA.out.below HW.out).pair hy
   rw [H5.out y (List.mem_of_getElem? hy), ← HK.out] at y0
   rw [← HK.out] at y2
   have hE := HE.out y.1.s
   have hNe : K + 2 ≤ N := by have h1 := HK.out; have h2 := HNN.out; omega
   have hkl : (0 : Int) ≤ (K : Int) := by omega
   have hki : (K : Int) < (N : Int) := by omega
   have hd1 : decide (K < N) = true := decide_eq_true q1
   have hd2 : decide ((K : Int) < (N : Int)) = true := decide_eq_true hki
   by_cases hj : j = fIx key ps
   · have hs : y.1.s = key := fIx_eq key ps y (by rw [← hj]; exact hy)
     rw [decide_eq_true hs] at hE
     have hr : R = (K : Int) := by
       rw [HR.out]
       unfold findI
       rw [if_pos (by omega), ← hj, HK.out]
     subst hr
     generalize mkB y.1.s = ys at *
     clear HE H5 HK HJ HR hy hj hs hjl
     go_wp2
     go_ret
     exact ⟨rfl, HW.out⟩
   · have hj2 : j < fIx key ps := by have := HJ.out; omega
     have hs : y.1.s ≠ key := fIx_ne key ps j y hj2 hy
     rw [decide_eq_false hs] at hE
     generalize mkB y.1.s = ys at *
     have HJ2 := Lib.hid hj2
     clear HE H5 HR hy hj hs hjl hj2
     go_wp2
     go_roundw
     case rel => exact ⟨j + 1, K + 2, by go_num, by have := HK.out; show K + 2 = 2 * (j + 1); omega, hNe, trivial, HJ2.out⟩
     case measure => simp [intOf]; omega
end Go.Proofs.YtfafdeemfeaedaaGreat
