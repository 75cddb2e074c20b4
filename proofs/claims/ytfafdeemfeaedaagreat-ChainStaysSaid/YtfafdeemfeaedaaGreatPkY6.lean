/-
  Our texts Xr3 to Ps3, in one.
-/
import Derived.Test.YtfafdeemfeaedaaGreatPkY5
import Derived.Deep.LoopGhost
import Derived.Deep.CutBlock
import Derived.BigQuiet
import Derived.Deep.QuietTactic
import Derived.IntWalk
import Derived.Deep.RegionHeld3
import Derived.Deep.AppendLies
import Derived.PlainAid
import Derived.Deep.DeepCutAuto
import Derived.Test.YtfafdeemfeaedaaGreatProg
set_option maxRecDepth 8000
set_option maxHeartbeats 8000000
namespace Go.Proofs.YtfafdeemfeaedaaGreat
open Go.RowKit
theorem zd4 {w : World} {a : Option Addr} {cap : Nat} {bs : List UInt8} (hr : Row w 1 a bs.length cap (bs.map u8C)) : (convert 22 9 (.slice a bs.length cap)).run Tryz.prog w = .ok (.string (mkB bs)) w := by
 cases a with
 | none =>
   have h0 := hr.2.2.2.1 rfl
   have h1 := hr.2.1
   have ho : bs = [] := List.eq_nil_of_length_eq_zero (by omega)
   subst ho
   rw [h0]
   exact run_convert_bytes_string w 22 9 5 none 0 0 Tryz.underlying22 Tryz.underlying5 Tryz.underlying9
 | some x =>
   refine run_convert_bytes_back (P := Tryz.prog) w 22 9 5 x cap bs Tryz.underlying22 Tryz.underlying5 Tryz.underlying9 (fun j hj => ?_)
   obtain ⟨b, o, hx, -, hc⟩ := hr.2.2.2.2 (by omega)
   cases hx
   rw [Addr.add_lit]
   exact hc j (u8C bs[j]) (by simp [hj])
theorem xdig_any {w : World} {a : Option Addr} {n cap : Nat} {l : List UInt8} (hr : Row w 1 a n cap (l.map u8C)) (hl : l.length = n) (most : Int) :
   Calls Tryz.prog 157 #[.slice a n cap, .int .i64 most] w fun e w' => e = .returned (.int .i64 (dig1 l most)) ∧ Below w.heap.size w w' := by
 subst hl
 have hcv := zd4 hr
 have HD := Lib.hid (zbY (mkB l) w)
 rw [show bl (mkB l) = l from rfl] at HD
 unfold dig1
 generalize zav l = V at *
 obtain ⟨n, e⟩ := V
 unfold DigEnd at HD
 simp only at HD ⊢
 clear hr
 generalize l.length = L at *
 generalize mkB l = s at *
 by_cases he : e = 0
 · subst he
   by_cases hn : most < n
   · rw [if_pos (.inr hn)]
     go_enter Tryz.func157, Tryz.ntmps157
     go_wp2_with (go_at_call 184; refine HD.out.mono ?_; rintro e w' ⟨rfl, hb⟩; have HB := Lib.hid hb; clear hb)
     go_ret
     exact ⟨rfl, HB.out⟩
   · rw [if_neg (by simpa using hn)]
     go_enter Tryz.func157, Tryz.ntmps157
     go_wp2_with (go_at_call 184; refine HD.out.mono ?_; rintro e w' ⟨rfl, hb⟩; have HB := Lib.hid hb; clear hb)
     go_ret
     exact ⟨rfl, HB.out⟩
 · rw [if_pos (.inl he)]
   have e0 : (e == 0) = false := by rw [beq_eq_false_iff_ne]; exact he
   have e1 : (e != 0) = true := by simp only [bne, e0, Bool.not_false]
   clear he
   go_enter Tryz.func157, Tryz.ntmps157
   go_wp2_with (go_at_call 184; refine HD.out.mono ?_; rintro e w' ⟨rfl, hb⟩; have HB := Lib.hid hb; clear hb)
   go_ret
   exact ⟨rfl, HB.out⟩
theorem set3a {w : World} {b : Nat} {x0 x1 x2 : Value} {t : TypeId} (h : w.heap[b]? = some (.cells #[x0, x1, x2] t (0, 0))) (y0 y1 y2 : Value) :
   (((w.setCell ⟨b, 0, none⟩ y0).setCell ⟨b, 1, none⟩ y1).setCell ⟨b, 2, none⟩ y2).heap[b]? = some (.cells #[y0, y1, y2] t (0, 0)) := by
 rw [heap_setCell_same _ _ 2 _ _ _ (heap_setCell_same _ _ 1 _ _ _ (heap_setCell_same w _ 0 _ _ _ h))]; rfl
theorem zd6 {w : World} {b : Nat} {x0 x1 x2 : Value} {t : TypeId} (h : w.heap[b]? = some (.cells #[x0, x1, x2] t (0, 0))) :
   (w.cell? ⟨b, 0, none⟩ = some x0 ∧ w.cell? ⟨b, 1, none⟩ = some x1 ∧ w.cell? ⟨b, 2, none⟩ = some x2) ∧ (w.frozen? ⟨b, 0, none⟩ = false ∧ w.frozen? ⟨b, 1, none⟩ = false ∧ w.frozen? ⟨b, 2, none⟩ = false) := by
 refine ⟨⟨?_, ?_, ?_⟩, frozen_of_row w b 0 _ _ h, frozen_of_row w b 1 _ _ h, frozen_of_row w b 2 _ _ h⟩
 · rw [cell_of_row w b 0 _ _ _ h]; rfl
 · rw [cell_of_row w b 1 _ _ _ h]; rfl
 · rw [cell_of_row w b 2 _ _ _ h]; rfl
theorem u8_of {c d : UInt8} {n : Nat} (h : c.toNat = n) (hd : d.toNat = n) : c = d := UInt8.toNat_inj.1 (h.trans hd.symm)
theorem u8_beq (c d : UInt8) (n : Nat) (hd : d.toNat = n) : (c == d) = ((c.toNat : Int) == (n : Int)) := by
 by_cases h : c = d
 · subst h; rw [hd]; simp
 · have h2 : c.toNat ≠ n := fun e => h (u8_of e hd)
   rw [beq_eq_false_iff_ne.2 h, eq_comm, beq_eq_false_iff_ne]
   omega
theorem ent_isNone {s : List UInt8} (h : true = (entS s).isNone) : entS s = none := by
 cases hs : entS s with
 | none => rfl
 | some x => rw [hs] at h; cases h
theorem zem : (Tryz.prog.info? 44).map (·.size) = some 3 := by kernel_rfl
theorem skip_go {bs : List UInt8} {j : Nat} (hj : j < bs.length) (h : isSp (bs.getD j 0) = true) : zbl bs j = zbl bs (j + 1) := by
 unfold zbl
 rw [zaP hj, List.takeWhile_cons, if_pos h, List.length_cons]
 omega
theorem skip_stop {bs : List UInt8} {j : Nat} (hj : j < bs.length) (h : isSp (bs.getD j 0) = false) : zbl bs j = j := by
 unfold zbl
 rw [zaP hj, List.takeWhile_cons, if_neg (by rw [h]; decide)]
 rfl
theorem skip_end (bs : List UInt8) : zbl bs bs.length = bs.length := by
 unfold zbl
 rw [List.drop_length]
 rfl
theorem zdj {s : List UInt8} (h : dig1 (s.take 10) 2147483647 < 0 ∨ dig1 ((s.drop 11).take 5) 65535 < 0 ∨ s.getD 10 0 ≠ 32 ∨ s.getD 16 0 ≠ 32 ∨ (s.getD 17 0 ≠ 110 ∧ s.getD 17 0 ≠ 102) ∨ (s.getD 18 0 ≠ 32 ∧ s.getD 18 0 ≠ 10 ∧ s.getD 18 0 ≠ 13)) : entS s = none := by
 unfold entS
 rw [if_pos]
 rcases h with h | h | h | h | h | h
 · left
   unfold dig1 at h
   split at h
   · rename_i hq
     rcases hq with hq | hq
     · exact hq
     · have := zck (s.take 10)
       omega
   · have := zck (s.take 10)
     omega
 · unfold dig1 at h
   split at h
   · rename_i hq
     rcases hq with hq | hq
     · exact .inr (.inl hq)
     · exact .inr (.inr (.inl hq))
   · have := zck ((s.drop 11).take 5)
     omega
 · exact .inr (.inr (.inr (.inl h)))
 · exact .inr (.inr (.inr (.inr (.inl h))))
 · exact .inr (.inr (.inr (.inr (.inr (.inl h)))))
 · exact .inr (.inr (.inr (.inr (.inr (.inr h)))))
theorem row_cut {w : World} {b o n cap : Nat} {bs : List UInt8} (h : Row w 1 (some ⟨b, o, none⟩) n cap (bs.map u8C)) (u m : Nat) (hm : u + m ≤ n) : Row w 1 (some ⟨b, o + u, none⟩) m (cap - u) (((bs.drop u).take m).map u8C) := by
 obtain ⟨h1, h2, h3, -, h5⟩ := h
 rw [List.length_map] at h1
 refine ⟨by rw [List.length_map, List.length_take, List.length_drop]; omega, by omega, by omega, fun h => (by cases h), fun hm0 => ?_⟩
 obtain ⟨b', o', e, hb, hc⟩ := h5 (by omega)
 cases e
 refine ⟨b, o + u, rfl, hb, fun j x hj => ?_⟩
 rw [Nat.add_assoc]
 refine hc _ _ ?_
 rw [List.getElem?_map] at hj ⊢
 rw [List.getElem?_take] at hj
 split at hj
 · rw [List.getElem?_drop] at hj; exact hj
 · cases hj
theorem entV_cut {bs : List UInt8} {last : Bool} {k j : Nat} (h : zbl bs k = j) (hl : bs.length < j + 19) : entV bs last k = ({}, 0, za5 last) := by unfold entV; rw [h, if_pos hl]
theorem entV_bad {bs : List UInt8} {last : Bool} {k j : Nat} (h : zbl bs k = j) (hl : ¬ bs.length < j + 19) (hs : entS ((bs.drop j).take 19) = none) : entV bs last k = ({}, 0, 20) := by unfold entV; rw [h, if_neg hl, hs]
theorem entV_ok {bs : List UInt8} {last : Bool} {k j : Nat} (h : zbl bs k = j) (hl : ¬ bs.length < j + 19) {x : Ent} (hs : entS ((bs.drop j).take 19) = some x) : entV bs last k = (x, j + 19, 0) := by unfold entV; rw [h, if_neg hl, hs]
theorem ent_some {s : List UInt8} (h : false = (entS s).isNone) : entS s = some { at_ := dig1 (s.take 10) 2147483647, gen := dig1 ((s.drop 11).take 5) 65535, used := s.getD 17 0 == 110 } := by
 unfold entS at h ⊢
 split at h
 · cases h
 · rename_i hn
   rw [if_neg hn]
   have e1 : ¬ ((zav (s.take 10)).2 ≠ 0 ∨ 2147483647 < (zav (s.take 10)).1) := by
     have := zck (s.take 10)
     rintro (h | h)
     · exact hn (.inl h)
     · omega
   have e2 : ¬ ((zav ((s.drop 11).take 5)).2 ≠ 0 ∨ 65535 < (zav ((s.drop 11).take 5)).1) := by
     rintro (h | h)
     · exact hn (.inr (.inl h))
     · exact hn (.inr (.inr (.inl h)))
   unfold dig1
   rw [if_neg e1, if_neg e2]
theorem ent_good {s : List UInt8} (h1 : 0 ≤ dig1 (s.take 10) 2147483647) (h2 : 0 ≤ dig1 ((s.drop 11).take 5) 65535) (h3 : s.getD 10 0 = 32) (h4 : s.getD 16 0 = 32) (h5 : s.getD 17 0 = 110 ∨ s.getD 17 0 = 102) (h6 : s.getD 18 0 = 32 ∨ s.getD 18 0 = 10 ∨ s.getD 18 0 = 13) :
   entS s = some { at_ := dig1 (s.take 10) 2147483647, gen := dig1 ((s.drop 11).take 5) 65535, used := s.getD 17 0 == 110 } := by
 unfold dig1 at *
 have e1 : ¬ ((zav (s.take 10)).2 ≠ 0 ∨ 2147483647 < (zav (s.take 10)).1) := by intro hn; rw [if_pos hn] at h1; exact absurd h1 (by decide)
 have e2 : ¬ ((zav ((s.drop 11).take 5)).2 ≠ 0 ∨ 65535 < (zav ((s.drop 11).take 5)).1) := by intro hn; rw [if_pos hn] at h2; exact absurd h2 (by decide)
 rw [if_neg e1, if_neg e2]
 unfold entS
 rw [if_neg]
 rintro (hn | hn | hn | hn | hn | hn | hn)
 · exact e1 (.inl hn)
 · exact e2 (.inl hn)
 · exact e2 (.inr hn)
 · exact hn h3
 · exact hn h4
 · rcases h5 with h | h
   · exact hn.1 h
   · exact hn.2 h
 · rcases h6 with h | h | h
   · exact hn.1 h
   · exact hn.2.1 h
   · exact hn.2.2 h
section
variable {w0 w w' : World} {p : Nat} {a : Option Addr} {cap : Nat} {bs : List UInt8} {last : Bool} {at_ : Int}
theorem IsRd.set3r (h : IsRd w0 w p a cap bs last at_) {r : Nat} (hr : p ≠ r) (h0 : w0.heap.size ≤ r) (y0 y1 y2 : Value) : IsRd w0 (((w.setCell ⟨r, 0, none⟩ y0).setCell ⟨r, 1, none⟩ y1).setCell ⟨r, 2, none⟩ y2) p a cap bs last at_ :=
 ⟨by rw [heap_setCell_other _ _ _ _ hr, heap_setCell_other _ _ _ _ hr, heap_setCell_other _ _ _ _ hr]; exact h.blk, h.new, h.row, ((h.bel.setCell h0 _).setCell h0 _).setCell h0 _, h.small⟩
theorem zdp {S : Nat → Prop} {W : World} (h : zad S w W) {r : Nat} (hr : w.heap.size ≤ r) (y0 y1 y2 : Value) : zad S w (((W.setCell ⟨r, 0, none⟩ y0).setCell ⟨r, 1, none⟩ y1).setCell ⟨r, 2, none⟩ y2) :=
 ((h.setCell (.inr hr) _).setCell (.inr hr) _).setCell (.inr hr) _
theorem xopen_any (h : IsRd w0 w p a cap bs last at_) : Calls Tryz.prog 156 #[.pointer (some ⟨p, 0, none⟩)] w fun e w' => e = .returned (.int .i64 (za5 last)) ∧ w = w' := by
 obtain ⟨⟨-, -, c2⟩, -⟩ := h.cells
 clear h
 cases last
 · go_enter Tryz.func156, Tryz.ntmps156
   go_wp2
   go_ret
   exact ⟨rfl, rfl⟩
 · go_enter Tryz.func156, Tryz.ntmps156
   go_wp2
   go_ret
   exact ⟨rfl, rfl⟩
def EntEnd (w0 w : World) (p : Nat) (a : Option Addr) (cap : Nat) (bs : List UInt8) (last : Bool) (V : Ent × Nat × Int) (e : Ending) (w' : World) : Prop :=
 e = .returned (.tuple #[entA V.1, .int .i64 V.2.2]) ∧ (∃ at2 : Int, IsRd w0 w' p a cap bs last at2 ∧ (V.2.2 = 0 → at2 = V.2.1)) ∧ zad (fun b => b = p) w w'
theorem xentry_any {k : Nat} (h : IsRd w0 w p a cap bs last (k : Int)) (hk : k ≤ bs.length) : Calls Tryz.prog 117 #[.pointer (some ⟨p, 0, none⟩)] w (EntEnd w0 w p a cap bs last (entV bs last k)) := by
 obtain ⟨V, hV⟩ : ∃ V, V = entV bs last k := ⟨_, rfl⟩
 rw [← hV]
 have HV := Lib.hid hV
 have hsm := h.small
 have hcp := h.row.2.1
 have hcm := h.row.i64c
 have HR := Lib.hid h
 clear h hV
 go_enter Tryz.func117, Tryz.ntmps117
 go_upto_block 0 with fail
 have HB1 := Lib.hid (zah w (.cells #[.int .i64 0, .int .i64 0, .bool false] 44))
 have HS1 := Lib.hid (HR.out.mono HB1.out)
 obtain ⟨r, hr⟩ : ∃ r, r = w.heap.size := ⟨_, rfl⟩
 have HZ1 := Lib.hid (zac (w := w) (b := r) (.cells #[.int .i64 0, .int .i64 0, .bool false] 44) hr)
 have hpr : p ≠ r := by have := HR.out.lt; omega
 have HPR := Lib.hid hpr
 have HRR := Lib.hid (Nat.le_of_eq hr.symm)
 have HR0 := Lib.hid (Nat.le_trans HR.out.bel.size HRR.out)
 rw [← hr]
 clear hr hpr
 generalize w.alloc _ = W1 at *
 obtain ⟨J, hJ⟩ : ∃ J, J = zbl bs k := ⟨_, rfl⟩
 have HJ := Lib.hid hJ
 clear hJ
 go_cut [] from 8 (fun wx => ∃ j : Nat, k ≤ j ∧ j ≤ bs.length ∧ Hid (J = j) ∧ Hid (IsRd w0 wx p a cap bs last (j : Int)) ∧ Hid (zad (fun b => b = p) W1 wx))
 case first =>
   go_wp2_with fail
   go_loopg [] (bs.length - k) (fun g wr => ∃ j : Nat, g = bs.length - j ∧ k ≤ j ∧ j ≤ bs.length ∧ Hid (zbl bs j = J) ∧ Hid (IsRd w0 wr p a cap bs last (j : Int)) ∧ Hid (zad (fun b => b = p) W1 wr))
   case atStart => exact ⟨k, rfl, Nat.le_refl _, hk, Lib.hid HJ.out.symm, HS1, Lib.hid (zad.refl _ _)⟩
   case round =>
     obtain ⟨j, hg, hkj, hj, HSK, HI, HKP⟩ := hrel
     have HG := Lib.hid hg
     obtain ⟨⟨c0, c1, c2⟩, f0, f1, f2⟩ := HI.out.cells
     clear hg
     have hck : (j : Int) ≤ 400000 := by omega
     by_cases hjl : j < bs.length
     · obtain ⟨b, off, rfl, -, hcc⟩ := HI.out.bytes.at 0 j hjl
       have hcj := hcc j hjl
       unfold u8C at hcj
       have hjd : decide ((j : Int) < bs.length) = true := by simp; omega
       have hjd2 : decide (j < bs.length) = true := by simp; omega
       have HSP := Lib.hid (fun W => zcZ (bs.getD j 0).toNat W)
       rw [← spI_eq] at HSP
       have HG2 := Lib.hid (fun h => skip_go (bs := bs) hjl h)
       have HST := Lib.hid (fun h => skip_stop (bs := bs) hjl h)
       clear hcc
       generalize bs.getD j 0 = c at *
       obtain ⟨sp, hsp⟩ : ∃ sp, isSp c = sp := ⟨_, rfl⟩
       rw [hsp] at HSP
       have HSB := Lib.hid hsp
       clear hsp
       generalize c.toNat = x at *
       cases sp
       · go_wp2
         go_quiet ((go_at_call 155; exact (HSP.out _).mono fun _ _ ⟨he, hm⟩ => ⟨he, _, hm.symm⟩))
         go_wp2_with fail
         go_meet
         exact ⟨j, hkj, hj, Lib.hid (HSK.out.symm.trans (HST.out HSB.out)), Lib.hid (HI.out.mono (zae (Below.refl _ _) _)), Lib.hid (HKP.out.drewN _)⟩
       · go_wp2
         go_quiet ((go_at_call 155; exact (HSP.out _).mono fun _ _ ⟨he, hm⟩ => ⟨he, _, hm.symm⟩))
         go_wp2
         go_roundg (bs.length - (j + 1))
         case rel => exact ⟨j + 1, rfl, by omega, by omega, Lib.hid ((HG2.out HSB.out).symm.trans HSK.out), Lib.hid ((HI.out.mono (zae (Below.refl _ _) _)).setAt _), Lib.hid ((HKP.out.drewN _).setCell (.inl rfl) _)⟩
         case measure => have := HG.out; omega
     · have hje : j = bs.length := by omega
       have HJE := Lib.hid (show J = j by rw [← HSK.out, hje]; exact skip_end bs)
       have hjd : decide ((j : Int) < bs.length) = false := decide_eq_false (by omega)
       have hjd2 : decide (j < bs.length) = false := decide_eq_false (by omega)
       clear hje
       go_wp2
       go_quiet (fail)
       go_wp2_with fail
       go_meet
       exact ⟨j, hkj, hj, HJE, Lib.hid (HI.out.mono (zae (Below.refl _ _) _)), Lib.hid (HKP.out.drewN _)⟩
 case rest =>
   obtain ⟨j, hkj, hj, HJE, HI2, HK2⟩ := hcut
   have hck : (j : Int) ≤ 400000 := by omega
   generalize wc = W2 at *
   obtain ⟨⟨c0, c1, c2⟩, f0, f1, f2⟩ := HI2.out.cells
   have HZ2 := Lib.hid (HK2.out.obj HZ1.out (fun e => HPR.out e.symm))
   have HKW := Lib.hid (zad.trans (S := fun b => b = p) (zaq HB1.out) HK2.out (fun x h => .inl h))
   obtain ⟨⟨z0, z1, z2⟩, y0, y1, y2⟩ := zd6 HZ2.out
   by_cases hlen : bs.length < j + 19
   · have HV3 := Lib.hid (HV.out.trans (entV_cut (last := last) (HJ.out.symm.trans HJE.out) hlen))
     have hld : decide ((bs.length : Int) - j < 19) = true := decide_eq_true (by omega)
     have HOP := Lib.hid (fun q => xopen_any (HI2.out.mono (zae (Below.refl _ _) q)))
     clear hlen
     go_wp2
     go_quiet (fail)
     go_wp2_with (go_at_call 156; refine (HOP.out _).mono ?_; rintro e w' ⟨rfl, rfl⟩)
     refine bodyPost_ret (zaa rfl _ _ r 44 _ (0, 0) _ rfl (by exact set3a HZ2.out _ _ _) Tryz.underlying44 rfl (by exact zem) _ rfl) rfl ?_
     rw [HV3.out]
     exact ⟨rfl, ⟨_, (HI2.out.mono (zae (Below.refl _ _) _)).set3r HPR.out HR0.out _ _ _, fun h => absurd h (zdV last)⟩, zdp (HKW.out.drewN _) HRR.out _ _ _⟩
   · have hjl : j < bs.length := by omega
     have hld : decide ((bs.length : Int) - j < 19) = false := decide_eq_false (by omega)
     have HRB := HI2.out.bytes
     obtain ⟨b2, off2, ha, -, hcc⟩ := HRB.at 0 j hjl
     have HBP := Lib.hid (show ¬ b2 = p from fun e => by have h1 : b2 < w0.heap.size := HI2.out.row.lt (by omega) ⟨b2, off2, none⟩ ha; have h2 := HI2.out.new; omega)
     rw [ha] at c0 HRB
     have hj19 : j + 19 ≤ bs.length := by omega
     have HR1 := Lib.hid (row_cut HRB j 19 hj19)
     have HSL := Lib.hid (show ((bs.drop j).take 19).length = 19 by rw [List.length_take, List.length_drop]; omega)
     have HEB := Lib.hid (fun h => HV.out.trans (entV_bad (last := last) (HJ.out.symm.trans HJE.out) hlen h))
     have HEO := Lib.hid (fun x h => HV.out.trans (entV_ok (last := last) (x := x) (HJ.out.symm.trans HJE.out) hlen h))
     generalize (bs.drop j).take 19 = s at *
     clear hcc ha hlen HJE HJ HV HRB
     go_wp2
     go_quiet (fail)
     generalize nq = nqa
     go_wp2
     go_quiet (fail)
     generalize nq = nqb
     go_wp2
     have e19 : j + 18 + 1 - j = 19 := by omega
     rw [e19]
     have HI3 := Lib.hid (HI2.out.mono (zae (zae (Below.refl _ _) nqa) nqb))
     have HK3 := Lib.hid ((HKW.out.drewN nqa).drewN nqb)
     have HZ3 := Lib.hid (zab (zae (zae (Below.refl W2.heap.size W2) nqa) nqb) HZ2.out)
     have HR3 := Lib.hid (HR1.out.mono (zae (zae (Below.refl W2.heap.size W2) nqa) nqb))
     generalize (W2.drewN nqa).drewN nqb = W3 at *
     clear HI2 HK2 HKW HZ2 HR1 c0 c1 c2 f0 f1 f2 z0 z1 z2 y0 y1 y2
     have hC1 : 19 ≤ cap - j := by omega
     have hC2 : ((cap - j : Nat) : Int) ≤ 9223372036854775807 := by omega
     generalize cap - j = C at *
     have HRA := Lib.hid (row_cut HR3.out 0 10 (by omega))
     have HRG := Lib.hid (row_cut HR3.out 11 5 (by omega))
     simp only [List.drop_zero, Nat.add_zero, Nat.sub_zero] at HRA
     have HDA := Lib.hid (fun q : zbh W3 => xdig_any (HRA.out.mono q.h) (by rw [List.length_take]; have := HSL.out; omega) 2147483647)
     have HDG := Lib.hid (fun q : zbh W3 => xdig_any (HRG.out.mono q.h) (by rw [List.length_take, List.length_drop]; have := HSL.out; omega) 65535)
     obtain ⟨A, hA⟩ : ∃ A, A = dig1 (s.take 10) 2147483647 := ⟨_, rfl⟩
     obtain ⟨G, hG⟩ : ∃ G, G = dig1 ((s.drop 11).take 5) 65535 := ⟨_, rfl⟩
     rw [← hA] at HDA
     rw [← hG] at HDG
     have HA := Lib.hid hA
     have HGG := Lib.hid hG
     clear hA hG
     refine zcc (by kernel_rfl) (by kernel_rfl) ?_
     repeat (go_big_quiet_step ((first
       | (go_at_call_of 157 (Value.slice (some ⟨b2, off2 + j, none⟩) 10 C); with_reducible exact Calls.below_of (HDA.out _))
       | (go_at_call 157; with_reducible exact Calls.below_of (HDG.out _)))))
     refine wpQuiet_nil ?_
     rintro W4 ⟨⟨w4, hb4⟩, hw⟩
     replace hw : W4 = w4 := hw
     subst hw
     have HI4 := Lib.hid (HI3.out.mono hb4)
     have HK4 := Lib.hid (zad.trans HK3.out (zaq (S := fun _ => False) hb4) (fun x h => (by cases h)))
     have HZ4 := Lib.hid (zab hb4 HZ3.out)
     obtain ⟨_, _, ha, -, hcc⟩ := (HR3.out.mono hb4).at 0 0 (by decide)
     cases ha
     have hc10 := hcc 10 (by decide)
     have hc16 := hcc 16 (by decide)
     have hc17 := hcc 17 (by decide)
     have hc18 := hcc 18 (by decide)
     unfold u8C at hc10 hc16 hc17 hc18
     clear hcc hb4 HI3 HK3 HZ3 HR3 HRA HRG HDA HDG
     obtain ⟨⟨c0, c1, c2⟩, f0, f1, f2⟩ := HI4.out.cells
     obtain ⟨⟨z0, z1, z2⟩, y0, y1, y2⟩ := zd6 HZ4.out
     obtain ⟨x10, hx10⟩ : ∃ x, (s.getD 10 0).toNat = x := ⟨_, rfl⟩
     obtain ⟨x16, hx16⟩ : ∃ x, (s.getD 16 0).toNat = x := ⟨_, rfl⟩
     obtain ⟨x17, hx17⟩ : ∃ x, (s.getD 17 0).toNat = x := ⟨_, rfl⟩
     obtain ⟨x18, hx18⟩ : ∃ x, (s.getD 18 0).toNat = x := ⟨_, rfl⟩
     rw [hx10] at hc10
     rw [hx16] at hc16
     rw [hx17] at hc17
     rw [hx18] at hc18
     have HX10 := Lib.hid hx10
     have HX16 := Lib.hid hx16
     have HX17 := Lib.hid hx17
     have HX18 := Lib.hid hx18
     clear hx10 hx16 hx17 hx18
     obtain ⟨bd, hbd⟩ : ∃ bd, bd = (entS s).isNone := ⟨_, rfl⟩
     have HBD := Lib.hid hbd
     clear hbd
     go_upto_region 8 with fail
     go_cut [130] from 89 (fun v wx => v = .bool bd ∧ wx = W4)
     case first =>
       clear c0 c1 c2 f0 f1 f2 z0 z1 z2 y0 y1 y2 HEB HEO
       by_cases hA0 : A < 0
       case pos =>
         obtain rfl : bd = true := by rw [HBD.out, zdj (.inl (by rw [← HA.out]; exact hA0))]; rfl
         go_wp2_with fail
         go_meet
         exact ⟨rfl, rfl⟩
       by_cases hG0 : G < 0
       case pos =>
         obtain rfl : bd = true := by rw [HBD.out, zdj (.inr (.inl (by rw [← HGG.out]; exact hG0)))]; rfl
         go_wp2_with fail
         go_meet
         exact ⟨rfl, rfl⟩
       by_cases h10 : x10 = 32
       case neg =>
         obtain rfl : bd = true := by rw [HBD.out, zdj (.inr (.inr (.inl (fun e => h10 (by rw [← HX10.out, e]; rfl)))))]; rfl
         have e32 : ((x10 : Int) == 32) = false := by rw [beq_eq_false_iff_ne]; omega
         have f32 : ((x10 : Int) != 32) = true := by simp only [bne, e32, Bool.not_false]
         go_wp2_with fail
         go_meet
         exact ⟨rfl, rfl⟩
       subst h10
       by_cases h16 : x16 = 32
       case neg =>
         obtain rfl : bd = true := by rw [HBD.out, zdj (.inr (.inr (.inr (.inl (fun e => h16 (by rw [← HX16.out, e]; rfl))))))]; rfl
         have e32 : ((x16 : Int) == 32) = false := by rw [beq_eq_false_iff_ne]; omega
         have f32 : ((x16 : Int) != 32) = true := by simp only [bne, e32, Bool.not_false]
         go_wp2_with fail
         go_meet
         exact ⟨rfl, rfl⟩
       subst h16
       by_cases h17 : x17 = 110 ∨ x17 = 102
       case neg =>
         obtain rfl : bd = true := by rw [HBD.out, zdj (.inr (.inr (.inr (.inr (.inl ⟨fun e => h17 (.inl (by rw [← HX17.out, e]; rfl)), fun e => h17 (.inr (by rw [← HX17.out, e]; rfl))⟩)))))]; rfl
         have e110 : ((x17 : Int) == 110) = false := by rw [beq_eq_false_iff_ne]; omega
         have f110 : ((x17 : Int) != 110) = true := by simp only [bne, e110, Bool.not_false]
         have e102 : ((x17 : Int) == 102) = false := by rw [beq_eq_false_iff_ne]; omega
         have f102 : ((x17 : Int) != 102) = true := by simp only [bne, e102, Bool.not_false]
         go_wp2_with fail
         go_meet
         exact ⟨rfl, rfl⟩
       by_cases h18 : x18 = 32 ∨ x18 = 10 ∨ x18 = 13
       case neg =>
         obtain rfl : bd = true := by rw [HBD.out, zdj (.inr (.inr (.inr (.inr (.inr (⟨fun e => h18 (.inl (by rw [← HX18.out, e]; rfl)), fun e => h18 (.inr (.inl (by rw [← HX18.out, e]; rfl))), fun e => h18 (.inr (.inr (by rw [← HX18.out, e]; rfl)))⟩))))))]; rfl
         have e32 : ((x18 : Int) == 32) = false := by rw [beq_eq_false_iff_ne]; omega
         have f32 : ((x18 : Int) != 32) = true := by simp only [bne, e32, Bool.not_false]
         have e10 : ((x18 : Int) == 10) = false := by rw [beq_eq_false_iff_ne]; omega
         have f10 : ((x18 : Int) != 10) = true := by simp only [bne, e10, Bool.not_false]
         have e13 : ((x18 : Int) == 13) = false := by rw [beq_eq_false_iff_ne]; omega
         have f13 : ((x18 : Int) != 13) = true := by simp only [bne, e13, Bool.not_false]
         rcases h17 with rfl | rfl
         all_goals (go_wp2_with fail; go_meet; exact ⟨rfl, rfl⟩)
       obtain rfl : bd = false := by rw [HBD.out, ent_good (by rw [← HA.out]; omega) (by rw [← HGG.out]; omega) (u8_of HX10.out rfl) (u8_of HX16.out rfl) (h17.imp (fun e => u8_of (HX17.out.trans e) rfl) (fun e => u8_of (HX17.out.trans e) rfl)) (h18.imp (fun e => u8_of (HX18.out.trans e) rfl) (fun h => h.imp (fun e => u8_of (HX18.out.trans e) rfl) (fun e => u8_of (HX18.out.trans e) rfl)))]; rfl
       rcases h17 with rfl | rfl <;> rcases h18 with rfl | rfl | rfl
       all_goals (go_wp2_with fail; go_meet; exact ⟨rfl, rfl⟩)
     case rest =>
       obtain ⟨rfl, rfl⟩ := hcut
       cases bd
       case true =>
         have HVB := Lib.hid (HEB.out (ent_isNone HBD.out))
         clear HEB HEO hc10 hc16 hc17 hc18
         go_wp2
         refine bodyPost_ret (zaa rfl _ _ r 44 _ (0, 0) _ rfl (by exact set3a HZ4.out _ _ _) Tryz.underlying44 rfl (by exact zem) _ rfl) rfl ?_
         rw [HVB.out]
         exact ⟨rfl, ⟨_, HI4.out.set3r HPR.out HR0.out _ _ _, fun h => (by cases h)⟩, zdp HK4.out HRR.out _ _ _⟩
       have HVO := Lib.hid (HEO.out _ (ent_some HBD.out))
       rw [← HA.out, ← HGG.out] at HVO
       have HU := Lib.hid (show (s.getD 17 0 == 110) = ((x17 : Int) == 110) by rw [← HX17.out]; exact u8_beq _ 110 110 rfl)
       rw [HU.out] at HVO
       have hbp := HBP.out
       have hrp : ¬ r = p := Ne.symm HPR.out
       clear HEB HEO HU HA HGG hc10 hc16 hc18
       go_wp2
       refine bodyPost_ret (zaa rfl _ _ r 44 _ (0, 0) _ rfl (by exact set3a ((heap_setCell_other _ _ _ _ (show r ≠ (⟨p, 1, none⟩ : Addr).block from Ne.symm HPR.out)).trans HZ4.out) _ _ _) Tryz.underlying44 rfl (by exact zem) _ rfl) rfl ?_
       rw [HVO.out]
       exact ⟨rfl, ⟨_, (HI4.out.setAt _).set3r HPR.out HR0.out _ _ _, fun _ => rfl⟩, zdp (HK4.out.setCell (a := ⟨p, 1, none⟩) (.inl rfl) _) HRR.out _ _ _⟩
end
theorem own_new {P : Program} {w : World} {t ty e : TypeId} {z : Value} {size bytes : Nat} (T : zdw P t e z size bytes) {base : Nat} {v : Value} {n : Nat} {xs : List Value} (hown : w.ownsRow base e size v n xs)
   {a : Addr} {c : Nat} {news : List Value} (hl : news.length = 1 * size) (hnews : ∀ j u, news[j]? = some u → w.cell? (a.add j) = some u) (h1 : ∀ u ∈ news, u.oneCell' = true) (h63 : n + 1 ≤ maxLen) (hbytes : (n + 1) * bytes ≤ 140737488355328)
   {v' : Value} {w' : World} (hr : (Builtin.append_ #[t, t] ty #[v, .slice (some a) 1 c]).run P w = .ok v' w') : ∀ b, v'.ownBlock = some b → v.ownBlock = some b ∨ w.heap.size ≤ b := by
 obtain ⟨i, hi, hz, hs, hb⟩ := info_parts T.info
 subst hb
 subst hs
 have hsmall : n + 1 ≤ 9223372036854775807 := by simp only [maxLen] at h63; omega
 intro b hb
 rcases hown.2 with ⟨rfl, rfl⟩ | ⟨g, cap, cur, rfl, hbg, hg, hnc, hcm, hcs, htake⟩
 · rw [run_append_nil (P := P) w t ty e i z T.und hi hz a 1 c news hl hnews (by omega) (by omega) (by omega)] at hr
   cases hr
   right
   simp [Value.ownBlock] at hb
   omega
 · by_cases hroom : n + 1 ≤ cap
   · have hfit : n * i.size + news.length ≤ cur.size := by rw [hl, hcs, ← Nat.add_mul]; exact Nat.mul_le_mul_right _ hroom
     rw [run_append_room (P := P) w t ty e i T.und hi g n cap cur hg a 1 c news hl hnews h1 hroom hfit] at hr
     cases hr
     left
     simpa [Value.ownBlock] using hb
   · have holds : ∀ j u, xs[j]? = some u → w.cell? ((⟨g, 0, none⟩ : Addr).add j) = some u := hown.cells (g := g) rfl
     rw [run_append_grow (P := P) w t ty e i z T.und hi hz ⟨g, 0, none⟩ n cap xs hown.1 holds a 1 c news hl hnews (by omega) (by omega) (growslice_fits (by omega) hbytes)] at hr
     cases hr
     right
     simp [Value.ownBlock] at hb
     omega
theorem zde {P : Program} {w : World} {ops : Array Oper} {rest : List Oper} {o : Oper} {a : Act} {Q : Exit → Act → World → Prop} {t e : TypeId} {z : Value} {size bytes : Nat} (T : zdw P t e z size bytes)
   (hgd : o.guard = none) (s x : Operand) (ho : o.op = .call { callee := .builtin .append, args := #[s, x], argTypes := #[t, t] })
   (base : Nat) (v : Value) (n : Nat) (xs : List Value) (hs : a.eval s = v) (hown : w.ownsRow base e size v n xs)
   (ad : Addr) (c : Nat) (news : List Value) (hx : a.eval x = .slice (some ad) 1 c) (hr : Row w size (some ad) 1 c news) (h1 : ∀ u ∈ news, u.oneCell' = true)
   (h63 : n + 1 ≤ maxLen) (hbytes : (n + 1) * bytes ≤ 140737488355328) (hbase : base ≤ w.heap.size)
   (h : ∀ v' w', w'.ownsRow base e size v' (n + 1) (xs ++ news) → w.grownBy w' v.ownBlock → (∀ b, v'.ownBlock = some b → v.ownBlock = some b ∨ w.heap.size ≤ b) → wpList P ops Q rest (a.put o.dst v') w') : wpList P ops Q (o :: rest) a w := by
 obtain ⟨i, hi, hz, hs', hb⟩ := info_parts T.info
 have hl : news.length = 1 * size := hr.1
 have hnews : ∀ j u, news[j]? = some u → w.cell? (ad.add j) = some u := fun j u hj => by
   obtain ⟨b, off, hab, _, hc⟩ := hr.2.2.2.2 (by omega)
   obtain rfl := Option.some.inj hab
   rw [Addr.add_lit]; exact hc j u hj
 obtain ⟨v', w', hrun, h2, h3, h4⟩ := run_append_own (P := P) w base t o.type e i z size bytes T.und hi hz hs' hb T.cells T.pos v n xs hown ad 1 c news hl hnews h1 h63 hbytes hbase
 have h5 := own_new T hown hl hnews h1 h63 hbytes hrun
 refine wpList_plain hgd fun K hK => ?_
 unfold Oper.wp execOp
 simp only [ho, resolve, invoke, builtin, Sem.run_bind, Sem.run_pure, Result.andThen_ok, List.map_toArray, List.map_cons, List.map_nil, hs, hx, hrun]
 exact hK _ _ (h v' w' h2 h3 h5)
theorem zfs (w : World) (cs : Array Value) (e : TypeId) (n : Nat) (hn : cs.size = n) {b : Nat} (hb : w.heap.size = b) : Row (w.alloc (.cells cs e)) n (some ⟨b, 0, none⟩) 1 1 cs.toList := by
 subst hb
 exact ⟨by simp [hn], Nat.le_refl _, by simp [maxLen], fun h => (by cases h), fun _ => ⟨w.heap.size, 0, rfl, by rw [zam]; omega, fun j u hj => by
   rw [Nat.zero_add, cell_of_row _ _ _ _ _ _ (zac _ rfl)]; simpa using hj⟩⟩
def grp1 (bs : List UInt8) (last : Bool) (x : Tk) (k : Int) : Grp × Int × Int :=
 if zay x = false then (⟨0, []⟩, 0, 20)
 else if (nxtV bs last k).2.2.2 ≠ 0 then (⟨0, []⟩, 0, (nxtV bs last k).2.2.2)
 else if zay (nxtV bs last k).1 = false ∨ zd9 x.vn (nxtV bs last k).1.vn = false then (⟨0, []⟩, 0, 20)
 else if (zbo bs last (nxtV bs last k).1.vn.toNat (nxtV bs last k).2.2.1.toNat []).2.2 ≠ 0 then (⟨0, []⟩, 0, (zbo bs last (nxtV bs last k).1.vn.toNat (nxtV bs last k).2.2.1.toNat []).2.2)
 else (⟨x.vn, (zbo bs last (nxtV bs last k).1.vn.toNat (nxtV bs last k).2.2.1.toNat []).1⟩, (zbo bs last (nxtV bs last k).1.vn.toNat (nxtV bs last k).2.2.1.toNat []).2.1, 0)
theorem zcA {w : World} {b : Nat} {x0 x1 : Value} {t : TypeId} (h : w.heap[b]? = some (.cells #[x0, x1] t (0, 0))) (y0 y1 : Value) :
   ((w.setCell ⟨b, 0, none⟩ y0).setCell ⟨b, 1, none⟩ y1).heap[b]? = some (.cells #[y0, y1] t (0, 0)) := by
 rw [heap_setCell_same _ _ 1 _ _ _ (heap_setCell_same w _ 0 _ _ _ h)]; rfl
theorem zaI {w : World} {b : Nat} {x0 x1 : Value} {t : TypeId} (h : w.heap[b]? = some (.cells #[x0, x1] t (0, 0))) :
   (w.cell? ⟨b, 0, none⟩ = some x0 ∧ w.cell? ⟨b, 1, none⟩ = some x1) ∧ (w.frozen? ⟨b, 0, none⟩ = false ∧ w.frozen? ⟨b, 1, none⟩ = false) := by
 refine ⟨⟨?_, ?_⟩, frozen_of_row w b 0 _ _ h, frozen_of_row w b 1 _ _ h⟩
 · rw [cell_of_row w b 0 _ _ _ h]; rfl
 · rw [cell_of_row w b 1 _ _ _ h]; rfl
theorem zdm : (Tryz.prog.info? 42).map (·.size) = some 2 := by kernel_rfl
theorem EEnt : zdw Tryz.prog 40 44 (.agg #[.int .i64 0, .int .i64 0, .bool false]) 3 24 := ⟨Tryz.underlying40, by kernel_rfl, rfl, by omega⟩
theorem entV_le {bs : List UInt8} {last : Bool} {k : Nat} (_hk : k ≤ bs.length) (_h : (entV bs last k).2.2 = 0) : (entV bs last k).2.1 ≤ bs.length := by
 unfold entV
 split
 · exact Nat.zero_le _
 · split
   · exact Nat.zero_le _
   · show zbl bs k + 19 ≤ _; omega
section
variable {w0 w w' : World} {p : Nat} {a : Option Addr} {cap : Nat} {bs : List UInt8} {last : Bool} {at_ : Int}
theorem IsRd.set2r (h : IsRd w0 w p a cap bs last at_) {r : Nat} (hr : p ≠ r) (h0 : w0.heap.size ≤ r) (y0 y1 : Value) : IsRd w0 ((w.setCell ⟨r, 0, none⟩ y0).setCell ⟨r, 1, none⟩ y1) p a cap bs last at_ :=
 ⟨by rw [heap_setCell_other _ _ _ _ hr, heap_setCell_other _ _ _ _ hr]; exact h.blk, h.new, h.row, (h.bel.setCell h0 _).setCell h0 _, h.small⟩
theorem zey {S : Nat → Prop} {W : World} (h : zad S w W) {r : Nat} (hr : w.heap.size ≤ r) (y0 y1 : Value) : zad S w ((W.setCell ⟨r, 0, none⟩ y0).setCell ⟨r, 1, none⟩ y1) :=
 (h.setCell (.inr hr) _).setCell (.inr hr) _
theorem IsRd.grown (h : IsRd w0 w p a cap bs last at_) {row : Option Nat} (hg : w.grownBy w' row) (hr : ∀ b, row = some b → b ≠ p ∧ w0.heap.size ≤ b) : IsRd w0 w' p a cap bs last at_ :=
 ⟨(hg.block p h.lt (fun e => (hr p e.symm).1 rfl)).trans h.blk, h.new, h.row, h.bel.grown hg h.bel.size (fun b hb => (hr b hb).2), h.small⟩
theorem IsRd.set (h : IsRd w0 w p a cap bs last at_) {r : Nat} (hr : p ≠ r) (h0 : w0.heap.size ≤ r) (i : Nat) (y : Value) : IsRd w0 (w.setCell ⟨r, i, none⟩ y) p a cap bs last at_ :=
 ⟨by rw [heap_setCell_other _ _ _ _ hr]; exact h.blk, h.new, h.row, h.bel.setCell h0 _, h.small⟩
structure GrM (w W : World) (r g : Nat) (n : Int) (es : List Ent) (sv : Value) : Prop where
 blk : W.heap[g]? = some (.cells #[.int .i64 n, sv] 42 (0, 0))
 res : W.heap[r]? = some (.cells #[.int .i64 0, .slice none 0 0] 42 (0, 0))
 own : W.ownsRow w.heap.size 44 3 sv es.length (zcy es)
 kps : zad (fun b => b = p) w W
 gne : w.heap.size ≤ g ∧ r ≠ g ∧ g ≠ p
theorem GrM.ne {W : World} {r g : Nat} {n : Int} {es : List Ent} {sv : Value} (h : GrM (p := p) w W r g n es sv) {b : Nat} (hb : sv.ownBlock = some b) : b ≠ g ∧ b ≠ r := by
 obtain ⟨cs, hc⟩ := zaz h.own hb
 exact ⟨zaM hc h.blk (by decide), zaM hc h.res (by decide)⟩
theorem GrM.on {W W' : World} {r g : Nat} {n : Int} {es : List Ent} {sv : Value} (h : GrM (p := p) w W r g n es sv) (hr : r ≠ p) (hp : p < w.heap.size) (hk : zad (fun b => b = p) W W') : GrM (p := p) w W' r g n es sv :=
 ⟨hk.obj h.blk h.gne.2.2, hk.obj h.res hr, zaG h.own fun b hb => hk.block b (h.own.lt b hb).2 (by have := (h.own.lt b hb).1; omega), h.kps.trans hk (fun x hx => .inl hx), h.gne⟩
theorem GrM.atG {W W8 : World} {o : Obj} {r g : Nat} {n : Int} {es : List Ent} {sv : Value} (h : GrM (p := p) w W r g n es sv) (hg8 : (W.alloc o).grownBy W8 sv.ownBlock) : W8.heap[g]? = some (.cells #[.int .i64 n, sv] 42 (0, 0)) :=
 (hg8.block g (by rw [zam]; have := zag h.blk; omega) (fun e => (h.ne e.symm).1 rfl)).trans (zak _ h.blk)
theorem GrM.app {W W8 : World} {o : Obj} {r g : Nat} {n : Int} {es : List Ent} {sv : Value} (h : GrM (p := p) w W r g n es sv) (hg8 : (W.alloc o).grownBy W8 sv.ownBlock) {x : Ent} {v' : Value} (hO : W8.ownsRow w.heap.size 44 3 v' (es.length + 1) (zcy es ++ entC x)) :
   GrM (p := p) w (W8.setCell ⟨g, 1, none⟩ v') r g n (es ++ [x]) v' := by
 have hG := h.atG hg8
 refine ⟨by rw [heap_setCell_same _ g 1 _ _ _ hG]; rfl, ?_, ?_, ((h.kps.alloc o).grown hg8 (fun k hk => .inr (h.own.lt k hk).1)).setCell (.inr h.gne.1) _, h.gne⟩
 · rw [heap_setCell_other _ _ _ _ h.gne.2.1]
   exact (hg8.block r (by rw [zam]; have := zag h.res; omega) (fun e => (h.ne e.symm).2 rfl)).trans (zak _ h.res)
 · have h2 : zcy (es ++ [x]) = zcy es ++ entC x := by rw [entsC_append]; simp [zcy]
   rw [h2, List.length_append]
   refine zaG hO fun b hb => ?_
   obtain ⟨cs, hc⟩ := zaz hO hb
   exact heap_setCell_other _ _ _ _ (zaM hc hG (by decide))
theorem isE_own {W : World} {B : Nat} {es : List Ent} {sv : Value} (h : W.ownsRow B 44 3 sv es.length (zcy es)) : IsE W (fun b => B ≤ b) es sv := by
 obtain ⟨a, cap, e, -, -⟩ := zau h
 subst e
 exact ⟨a, cap, rfl, (Row.of_own h).2, fun h0 x hx => (h.lt x.block (by rw [hx]; rfl)).1⟩
theorem GrM.fin {W : World} {r g : Nat} {n : Int} {es : List Ent} {sv : Value} (h : GrM (p := p) w W r g n es sv) (y0 y1 : Value) : IsE ((W.setCell ⟨r, 0, none⟩ y0).setCell ⟨r, 1, none⟩ y1) (fun b => w.heap.size ≤ b) es sv :=
 isE_own (zaG h.own fun b hb => by rw [heap_setCell_other _ _ _ _ (show b ≠ r from (h.ne hb).2), heap_setCell_other _ _ _ _ (show b ≠ r from (h.ne hb).2)])
def GrpEnd (w0 w : World) (p : Nat) (a : Option Addr) (cap : Nat) (bs : List UInt8) (last : Bool) (V : Grp × Int × Int) (e : Ending) (w' : World) : Prop :=
 ∃ v, e = .returned (.tuple #[.agg #[.int .i64 V.1.first, v], .int .i64 V.2.2]) ∧ IsE w' (fun b => w.heap.size ≤ b) V.1.es v ∧ (∃ at2 : Int, IsRd w0 w' p a cap bs last at2 ∧ (V.2.2 = 0 → at2 = V.2.1)) ∧ zad (fun b => b = p) w w'
theorem grp_no {V : Grp × Int × Int} {W : World} {r : Nat} {e : Int} (hV : V = (⟨0, []⟩, 0, e)) (he : e ≠ 0) (hI : ∃ at2 : Int, IsRd w0 W p a cap bs last at2) (hk : zad (fun b => b = p) w W) (hpr : p ≠ r) (h0 : w0.heap.size ≤ r) (hr : w.heap.size ≤ r) (y0 y1 : Value) :
   GrpEnd w0 w p a cap bs last V (.returned (.tuple #[.agg #[.int .i64 0, .slice none 0 0], .int .i64 e])) ((W.setCell ⟨r, 0, none⟩ y0).setCell ⟨r, 1, none⟩ y1) := by
 subst hV
 obtain ⟨at2, hI⟩ := hI
 exact ⟨_, rfl, IsE.nil _ _, ⟨at2, hI.set2r hpr h0 _ _, fun h => absurd h he⟩, zey hk hr _ _⟩
theorem xgroup_any {k : Int} (h : IsRd w0 w p a cap bs last k) (h0 : 0 ≤ k) (h1 : k ≤ bs.length) (x : Tk) (f t : Int) : Calls Tryz.prog 80 #[.pointer (some ⟨p, 0, none⟩), .agg (tokN x f t)] w (GrpEnd w0 w p a cap bs last (grp1 bs last x k)) := by
 have HWX := Lib.hid (fun W => zep x f t W)
 have hto := zaK (bs := bs) (k := k) last h0 h1
 rw [← nxt_3] at hto
 have hsm := h.small
 have HN := Lib.hid (fun (W : World) (hI : IsRd w0 W p a cap bs last k) => zer hI)
 obtain ⟨V, hV⟩ : ∃ V, V = grp1 bs last x k := ⟨_, rfl⟩
 rw [← hV]
 unfold grp1 at hV
 generalize nxtV bs last k = U at *
 obtain ⟨y, f2, t2, E⟩ := U
 simp only at hV hto HN
 have HWY := Lib.hid (fun W => zep y f2 t2 W)
 have HV := Lib.hid hV
 have HR := Lib.hid h
 clear hV h
 unfold tokN at HWX HWY HN ⊢
 generalize zay x = wx at *
 generalize zay y = wy at *
 generalize x.kind = a0 at *
 generalize x.vk = a1 at *
 generalize x.vn = a2 at *
 generalize mkB x.vs = s1 at *
 generalize mkB x.s = s2 at *
 generalize y.kind = b0 at *
 generalize y.vk = b1 at *
 generalize y.vn = b2 at *
 generalize mkB y.vs = q1 at *
 generalize mkB y.s = q2 at *
 obtain ⟨B, hB⟩ : ∃ B, B = w.heap.size := ⟨_, rfl⟩
 have HB1 := Lib.hid (za6 w (.cells #[.int .i64 a0, .int .i64 f, .int .i64 t, .int .i64 a1, .int .i64 a2, .string s1, .slice none 0 0, .string s2] 150) (.cells #[.int .i64 0, .slice none 0 0] 42))
 have HX1 := Lib.hid (zak (w := w.alloc (.cells #[.int .i64 a0, .int .i64 f, .int .i64 t, .int .i64 a1, .int .i64 a2, .string s1, .slice none 0 0, .string s2] 150)) (.cells #[.int .i64 0, .slice none 0 0] 42) (zac (w := w) (b := B) (.cells #[.int .i64 a0, .int .i64 f, .int .i64 t, .int .i64 a1, .int .i64 a2, .string s1, .slice none 0 0, .string s2] 150) hB))
 have HZ1 := Lib.hid (zac (w := w.alloc (.cells #[.int .i64 a0, .int .i64 f, .int .i64 t, .int .i64 a1, .int .i64 a2, .string s1, .slice none 0 0, .string s2] 150)) (b := B + 1) (.cells #[.int .i64 0, .slice none 0 0] 42) (by rw [zam, hB]))
 have HI1 := Lib.hid (HR.out.mono HB1.out)
 have HPR := Lib.hid (show p ≠ B + 1 by have := HR.out.lt; omega)
 have HPB := Lib.hid (show p ≠ B by have := HR.out.lt; omega)
 have HRW := Lib.hid (show w.heap.size ≤ B + 1 by omega)
 have HR0 := Lib.hid (Nat.le_trans HR.out.bel.size HRW.out)
 have HK1 := Lib.hid (zaq (S := fun b => b = p) HB1.out)
 go_enter Tryz.func80, Tryz.ntmps80
 go_upto_region 1 with fail
 try rw [← hB]
 generalize World.alloc _ _ = W1 at *
 clear hB
 generalize B + 1 = r at *
 obtain ⟨⟨x0, x1, x2, x3, x4, x5, x6, x7⟩, -⟩ := zan HX1.out
 obtain ⟨⟨z0, z1⟩, y0, y1⟩ := zaI HZ1.out
 go_wp2_with fail
 refine (HWX.out _).mono ?_
 rintro e w2 ⟨rfl, hb2⟩
 have HX2 := Lib.hid (zab hb2 HX1.out)
 have HZ2 := Lib.hid (zab hb2 HZ1.out)
 have HI2 := Lib.hid (HI1.out.mono hb2)
 have HK2 := Lib.hid (zad.trans HK1.out (zaq (S := fun _ => False) hb2) (fun x h => (by cases h)))
 clear HX1 HZ1 HI1 HK1 HB1 HWX hb2 x0 x1 x2 x3 x4 x5 x6 x7 z0 z1 y0 y1
 obtain ⟨⟨x0, x1, x2, x3, x4, x5, x6, x7⟩, -⟩ := zan HX2.out
 obtain ⟨⟨z0, z1⟩, y0, y1⟩ := zaI HZ2.out
 cases wx
 case false =>
   have HV2 := Lib.hid (HV.out.trans (if_pos rfl))
   go_wp2
   refine bodyPost_ret (zaa rfl _ _ r 42 _ (0, 0) _ rfl (by exact zcA HZ2.out _ _) Tryz.underlying42 rfl (by exact zdm) _ rfl) rfl ?_
   exact grp_no HV2.out (by decide) ⟨_, HI2.out⟩ HK2.out HPR.out HR0.out HRW.out _ _
 have HV2 := Lib.hid (HV.out.trans (if_neg (by decide)))
 clear HV
 go_wp2_with fail
 refine (HN.out _ HI2.out).mono ?_
 rintro e w3 ⟨rfl, hi3, hk3⟩
 have HT3 := Lib.hid (zac (w := w3) (b := w3.heap.size) (.cells #[.int .i64 b0, .int .i64 f2, .int .i64 t2, .int .i64 b1, .int .i64 b2, .string q1, .slice none 0 0, .string q2] 150) rfl)
 have HX3 := Lib.hid (zak (.cells #[.int .i64 b0, .int .i64 f2, .int .i64 t2, .int .i64 b1, .int .i64 b2, .string q1, .slice none 0 0, .string q2] 150) (hk3.obj HX2.out (Ne.symm HPB.out)))
 have HZ3 := Lib.hid (zak (.cells #[.int .i64 b0, .int .i64 f2, .int .i64 t2, .int .i64 b1, .int .i64 b2, .string q1, .slice none 0 0, .string q2] 150) (hk3.obj HZ2.out (Ne.symm HPR.out)))
 have HI3 := Lib.hid (hi3.mono (zah w3 (.cells #[.int .i64 b0, .int .i64 f2, .int .i64 t2, .int .i64 b1, .int .i64 b2, .string q1, .slice none 0 0, .string q2] 150)))
 have HK3 := Lib.hid ((zad.trans HK2.out hk3 (fun x h => .inl h)).alloc (.cells #[.int .i64 b0, .int .i64 f2, .int .i64 t2, .int .i64 b1, .int .i64 b2, .string q1, .slice none 0 0, .string q2] 150))
 have HTW := Lib.hid (Nat.le_trans HK2.out.size hk3.size)
 have HTP := Lib.hid (show p ≠ w3.heap.size by have := hi3.lt; omega)
 have HTX := Lib.hid (show r < w3.heap.size ∧ B < w3.heap.size from ⟨zag (hk3.obj HZ2.out (Ne.symm HPR.out)), zag (hk3.obj HX2.out (Ne.symm HPB.out))⟩)
 clear HX2 HZ2 HI2 HK2 hi3 hk3 HN x0 x1 x2 x3 x4 x5 x6 x7 z0 z1 y0 y1
 go_upto_region 4 with fail
 obtain ⟨T, hT⟩ : ∃ T, T = w3.heap.size := ⟨_, rfl⟩
 rw [← hT] at HT3 HTW HTP HTX ⊢
 clear hT
 generalize World.alloc _ _ = W3 at *
 obtain ⟨⟨x0, x1, x2, x3, x4, x5, x6, x7⟩, -⟩ := zan HX3.out
 obtain ⟨⟨v0, v1, v2, v3, v4, v5, v6, v7⟩, -⟩ := zan HT3.out
 obtain ⟨⟨z0, z1⟩, y0, y1⟩ := zaI HZ3.out
 by_cases hE : E = 0
 case neg =>
   have HV3 := Lib.hid (HV2.out.trans (if_pos hE))
   have e0 : (E == 0) = false := by rw [beq_eq_false_iff_ne]; exact hE
   have e1 : (E != 0) = true := by simp only [bne, e0, Bool.not_false]
   have HE := Lib.hid hE
   clear hE
   go_wp2
   refine bodyPost_ret (zaa rfl _ _ r 42 _ (0, 0) _ rfl (by exact zcA HZ3.out _ _) Tryz.underlying42 rfl (by exact zdm) _ rfl) rfl ?_
   exact grp_no HV3.out HE.out ⟨_, HI3.out⟩ HK3.out HPR.out HR0.out HRW.out _ _
 subst hE
 have HV3 := Lib.hid (HV2.out.trans (if_neg (by decide)))
 clear HV2
 rw [if_pos rfl] at HI3
 obtain ⟨N, hN⟩ : ∃ N, N = b2.toNat := ⟨_, rfl⟩
 have HFT := Lib.hid (fun W => fits_any a2 b2 W)
 obtain ⟨fv, hfv⟩ : ∃ fv, fv = zd9 a2 b2 := ⟨_, rfl⟩
 rw [← hfv] at HFT HV3
 have HFV := Lib.hid hfv
 clear hfv
 rw [← hN] at HV3
 obtain ⟨Q, hQ⟩ : ∃ Q, Q = zbo bs last N t2.toNat [] := ⟨_, rfl⟩
 rw [← hQ] at HV3
 have HQ := Lib.hid hQ
 have HNN := Lib.hid hN
 clear hQ hN
 go_wp2_with fail
 refine (HWY.out _).mono ?_
 rintro e w4 ⟨rfl, hb4⟩
 have HX4 := Lib.hid (zab hb4 HX3.out)
 have HT4 := Lib.hid (zab hb4 HT3.out)
 have HZ4 := Lib.hid (zab hb4 HZ3.out)
 have HI4 := Lib.hid (HI3.out.mono hb4)
 have HK4 := Lib.hid (zad.trans HK3.out (zaq (S := fun _ => False) hb4) (fun x h => (by cases h)))
 clear HX3 HT3 HZ3 HI3 HK3 hb4 HWY x0 x1 x2 x3 x4 x5 x6 x7 v0 v1 v2 v3 v4 v5 v6 v7 z0 z1 y0 y1
 obtain ⟨⟨x0, x1, x2, x3, x4, x5, x6, x7⟩, -⟩ := zan HX4.out
 obtain ⟨⟨v0, v1, v2, v3, v4, v5, v6, v7⟩, -⟩ := zan HT4.out
 obtain ⟨⟨z0, z1⟩, y0, y1⟩ := zaI HZ4.out
 cases wy
 case false =>
   have HV4 := Lib.hid (HV3.out.trans (if_pos (.inl rfl)))
   go_wp2
   refine bodyPost_ret (zaa rfl _ _ r 42 _ (0, 0) _ rfl (by exact zcA HZ4.out _ _) Tryz.underlying42 rfl (by exact zdm) _ rfl) rfl ?_
   exact grp_no HV4.out (by decide) ⟨_, HI4.out⟩ HK4.out HPR.out HR0.out HRW.out _ _
 cases fv
 case false =>
   have HV4 := Lib.hid (HV3.out.trans (if_pos (.inr rfl)))
   go_wp2_with (go_at_call 116; refine (HFT.out _).mono ?_; rintro e w5 ⟨rfl, rfl⟩)
   refine bodyPost_ret (zaa rfl _ _ r 42 _ (0, 0) _ rfl (by exact zcA HZ4.out _ _) Tryz.underlying42 rfl (by exact zdm) _ rfl) rfl ?_
   exact grp_no HV4.out (by decide) ⟨_, HI4.out⟩ HK4.out HPR.out HR0.out HRW.out _ _
 have HV4 := Lib.hid (HV3.out.trans (if_neg (by simp)))
 have hfb : 0 ≤ b2 ∧ b2 ≤ 4097 := by
   have h := HFV.out
   unfold zd9 at h
   simp only [eq_comm (a := true), Bool.and_eq_true, decide_eq_true_eq] at h
   omega
 have hb2N : b2 = (N : Int) := by have := HNN.out; omega
 subst hb2N
 have hN7 : N ≤ 4097 := by omega
 clear HV3 HFV HNN hfb
 go_upto_region 9 with (go_at_call 116; refine (HFT.out _).mono ?_; rintro e w5 ⟨rfl, rfl⟩)
 have HT5 := Lib.hid (zak (.cells #[.int .i64 a2, .slice none 0 0] 42) HT4.out)
 have HG5 := Lib.hid (show GrM (p := p) w (w4.alloc (.cells #[.int .i64 a2, .slice none 0 0] 42)) r w4.heap.size a2 [] (.slice none 0 0) from ⟨zac _ rfl, zak _ HZ4.out, World.ownsRow_nil _ _ _ _, HK4.out.alloc _, HK4.out.size, Nat.ne_of_lt (zag HZ4.out), fun e => by have := HI4.out.lt; omega⟩)
 have HI5 := Lib.hid (HI4.out.mono (zah w4 (.cells #[.int .i64 a2, .slice none 0 0] 42)))
 have HPW := Lib.hid (show p < w.heap.size from HR.out.lt)
 have HWR0 := Lib.hid (Nat.le_trans HR.out.bel.size (Nat.le_refl _))
 generalize w4.heap.size = g at *
 generalize World.alloc _ _ = W5 at *
 clear HX4 HT4 HZ4 HI4 HK4 x0 x1 x2 x3 x4 x5 x6 x7 v0 v1 v2 v3 v4 v5 v6 v7 z0 z1 y0 y1
 obtain ⟨⟨v0, v1, v2, v3, v4, v5, v6, v7⟩, -⟩ := zan HT5.out
 go_wp2_with fail
 clear v0 v1 v2 v3 v4 v5 v6 v7 HT5
 go_loopw [49] (fun v wr => ∃ (c k2 : Nat) (es : List Ent) (sv : Value), v = .int .i64 c ∧ c ≤ N ∧ k2 ≤ bs.length ∧ Hid (es.length = c) ∧ Hid (IsRd w0 wr p a cap bs last (k2 : Int)) ∧ Hid (GrM (p := p) w wr r g a2 es sv) ∧ Hid (Q = zbo bs last (N - c) k2 es)) (fun v _ => N - (intOf v).toNat)
 case atStart => exact ⟨0, t2.toNat, [], .slice none 0 0, rfl, by omega, by omega, Lib.hid rfl, Lib.hid (by rw [Int.toNat_of_nonneg (by omega)]; exact HI5.out), HG5, HQ⟩
 case round =>
   obtain ⟨c, k2, es, sv, rfl, hcN, hk2, HES, HI, HGM, HQR⟩ := hrel
   by_cases hlt : c < N
   · have hcd : decide ((c : Int) < (N : Int)) = true := by simp; omega
     have hcd2 : decide (c < N) = true := by simp; omega
     have HEN := Lib.hid (xentry_any HI.out hk2)
     obtain ⟨m, hm⟩ : ∃ m, m + 1 = N - c := ⟨N - c - 1, by omega⟩
     have HM := Lib.hid hm
     have hQ1 := HQR.out
     rw [← hm, zbo] at hQ1
     have htl : (entV bs last k2).2.2 = 0 → (entV bs last k2).2.1 ≤ bs.length := fun h => entV_le hk2 h
     generalize entV bs last k2 = Y at *
     obtain ⟨ee, kk, er⟩ := Y
     simp only at hQ1 htl
     have HQ1 := Lib.hid hQ1
     unfold EntEnd entA at HEN
     simp only at HEN
     have HEE := Lib.hid (show entC ee = [.int .i64 ee.at_, .int .i64 ee.gen, .bool ee.used] from rfl)
     generalize ee.at_ = ea at *
     generalize ee.gen = eg at *
     generalize ee.used = eu at *
     clear hm hQ1 HQR
     go_wp2_with fail
     refine HEN.out.mono ?_
     rintro e w6 ⟨rfl, ⟨at2, hi6, hat⟩, hk6⟩
     have HE7 := Lib.hid (zac (w := w6) (b := w6.heap.size) (.cells #[.int .i64 ea, .int .i64 eg, .bool eu] 44) rfl)
     have HI7 := Lib.hid (hi6.mono (zah w6 (.cells #[.int .i64 ea, .int .i64 eg, .bool eu] 44)))
     have HG7 := Lib.hid ((HGM.out.on (Ne.symm HPR.out) HPW.out hk6).on (Ne.symm HPR.out) HPW.out (zaq (zah w6 (.cells #[.int .i64 ea, .int .i64 eg, .bool eu] 44))))
     have HAT := Lib.hid hat
     clear hi6 hk6 hat HEN HI HGM
     go_upto_region 12 with fail
     obtain ⟨z, hz⟩ : ∃ z, z = w6.heap.size := ⟨_, rfl⟩
     rw [← hz] at HE7 ⊢
     clear hz
     generalize w6.alloc _ = W7 at *
     obtain ⟨⟨l0, l1, l2⟩, -⟩ := zd6 HE7.out
     obtain ⟨⟨g0, g1⟩, gf0, gf1⟩ := zaI HG7.out.blk
     obtain ⟨⟨z0, z1⟩, y0, y1⟩ := zaI HG7.out.res
     by_cases her : er = 0
     case neg =>
       have e0 : (er == 0) = false := by rw [beq_eq_false_iff_ne]; exact her
       have e1 : (er != 0) = true := by simp only [bne, e0, Bool.not_false]
       have HVF := Lib.hid (HV4.out.trans (show _ = ((⟨0, []⟩, 0, er) : Grp × Int × Int) by rw [HQ1.out, if_pos her]; exact if_pos her))
       have HER := Lib.hid her
       clear her HQ1 HAT htl
       go_wp2
       refine bodyPost_ret (zaa rfl _ _ r 42 _ (0, 0) _ rfl (by exact zcA HG7.out.res _ _) Tryz.underlying42 rfl (by exact zdm) _ rfl) rfl ?_
       exact grp_no HVF.out HER.out ⟨_, HI7.out⟩ HG7.out.kps HPR.out HR0.out HRW.out _ _
     subst her
     obtain ⟨sa, sc, rfl, -, -⟩ := zau HG7.out.own
     have hL : es.length ≤ 4097 := by have := HES.out; omega
     have hone : ∀ u ∈ [Value.int .i64 ea, .int .i64 eg, .bool eu], u.oneCell' = true := by
       intro u hu
       simp at hu
       rcases hu with rfl | rfl | rfl <;> rfl
     have HONE := Lib.hid hone
     have HQ2 := Lib.hid (HQ1.out.trans (if_neg (by decide)))
     have HKK := Lib.hid (htl rfl)
     clear hone HQ1 htl
     go_wp2_with (at_builtin; go_loud (refine zde EEnt rfl (.tmp 61) (.tmp 63) rfl w.heap.size _ es.length _ rfl (HG7.out.own.alloc _) _ 1 _ rfl (zfs _ #[.int .i64 ea, .int .i64 eg, .bool eu] _ 3 rfl rfl) HONE.out (by unfold maxLen; omega) (by omega) (by rw [zam]; have := HG7.out.kps.size; omega) ?_); intro v' w8 hO8 hg8 hn8; obtain ⟨va, vc, rfl, -, -⟩ := zau hO8; have HG8 := Lib.hid (HG7.out.app hg8 (by rw [HEE.out]; exact hO8)); have HI8 := Lib.hid (((HI7.out.mono (zah _ _)).grown hg8 (fun b hb => ⟨fun e => by have := (HG7.out.own.lt b hb).1; have := HPW.out; omega, Nat.le_trans HR.out.bel.size (HG7.out.own.lt b hb).1⟩)).set (r := g) (Ne.symm HG7.out.gne.2.2) (Nat.le_trans HR.out.bel.size HG7.out.gne.1) 1 (.slice va (es.length + 1) vc)); obtain ⟨⟨q0, q1⟩, qf0, qf1⟩ := zaI (HG7.out.atG hg8); clear hO8 hg8 hn8)
     go_roundw
     case rel => exact ⟨c + 1, kk, es ++ [ee], _, by go_num, by omega, HKK.out, Lib.hid (by rw [List.length_append, HES.out]; rfl), by rw [← HAT.out rfl]; exact HI8, HG8, Lib.hid (by rw [HQ2.out, show N - (c + 1) = m by have := HM.out; omega])⟩
     case measure => simp [intOf]; omega
   · have hce : c = N := by omega
     subst hce
     have hcd : decide ((c : Int) < (c : Int)) = false := decide_eq_false (by omega)
     have hcd2 : decide (c < c) = false := decide_eq_false (by omega)
     have HQ2 := Lib.hid (HQR.out.trans (show zbo bs last (c - c) k2 es = (es, k2, 0) by rw [Nat.sub_self]; rfl))
     have HVF := Lib.hid (HV4.out.trans (show _ = ((⟨a2, es⟩, k2, 0) : Grp × Int × Int) by rw [HQ2.out]; exact if_neg (fun h => h rfl)))
     obtain ⟨⟨g0, g1⟩, gf0, gf1⟩ := zaI HGM.out.blk
     obtain ⟨⟨z0, z1⟩, y0, y1⟩ := zaI HGM.out.res
     obtain ⟨sa, sc, hsv, -, -⟩ := zau HGM.out.own
     subst hsv
     go_wp2
     refine bodyPost_ret (zaa rfl _ _ r 42 _ (0, 0) _ rfl (by exact zcA HGM.out.res _ _) Tryz.underlying42 rfl (by exact zdm) _ rfl) rfl ?_
     rw [HVF.out]
     refine ⟨_, rfl, ?_, ⟨_, HI.out.set2r HPR.out HR0.out _ _, fun _ => rfl⟩, zey HGM.out.kps HRW.out _ _⟩
     exact HGM.out.fin _ _
end
structure FlM (w : World) (a : Option Addr) (cap : Nat) (bs : List UInt8) (ka : Option Addr) (kc : Nat) (kn : List Bool) : Prop where
 row : Row w 1 a bs.length cap (bs.map u8C)
 kno : Row w 1 ka kn.length kc (kn.map Value.bool)
 len : kn.length = bs.length
theorem FlM.mono {w w' : World} {a : Option Addr} {cap : Nat} {bs : List UInt8} {ka : Option Addr} {kc : Nat} {kn : List Bool} (h : FlM w a cap bs ka kc kn) (hb : Below w.heap.size w w') : FlM w' a cap bs ka kc kn := ⟨h.row.mono hb, h.kno.mono hb, h.len⟩
def FromEnd (w : World) (bs : List UInt8) (kn : List Bool) (k : Nat) (e : Ending) (w' : World) : Prop :=
 ∃ a c, e = .returned (.tuple #[.slice a ((bs.drop k).take (zaw kn k - k)).length c, .bool (zaw kn k == bs.length)]) ∧ Row w' 1 a ((bs.drop k).take (zaw kn k - k)).length c (((bs.drop k).take (zaw kn k - k)).map u8C) ∧ Below w.heap.size w w'
theorem grps_err {bs : List UInt8} {last : Bool} {g : Nat} {gs : List Grp} {k : Int} (he : (nxtV bs last k).2.2.2 ≠ 0) : zaX bs last (g + 1) gs k = ([], 0, (nxtV bs last k).2.2.2) := by
 unfold zaX; simp only; rw [if_pos he]
theorem zeT {bs : List UInt8} {last : Bool} {g : Nat} {gs : List Grp} {k : Int} (he : (nxtV bs last k).2.2.2 = 0) (ht : zc0 (nxtV bs last k).1 = true) : zaX bs last (g + 1) gs k = (gs, (nxtV bs last k).2.2.1, 0) := by
 unfold zaX; simp only; rw [if_neg (by rw [he]; decide), if_pos ht]
theorem grps_bad {bs : List UInt8} {last : Bool} {g : Nat} {gs : List Grp} {k : Int} (he : (nxtV bs last k).2.2.2 = 0) (ht : zc0 (nxtV bs last k).1 = false) (hw : zay (nxtV bs last k).1 = false) : zaX bs last (g + 1) gs k = ([], 0, 20) := by
 unfold zaX; simp only; rw [if_neg (by rw [he]; decide), if_neg (by rw [ht]; decide), if_pos hw]
theorem grps_full {bs : List UInt8} {last : Bool} {g : Nat} {gs : List Grp} {k : Int} (he : (nxtV bs last k).2.2.2 = 0) (ht : zc0 (nxtV bs last k).1 = false) (hw : zay (nxtV bs last k).1 = true) (hl : gs.length = 64) :
   zaX bs last (g + 1) gs k = ([], 0, if (nxtV bs last (nxtV bs last k).2.2.1).2.2.2 ≠ 0 then (nxtV bs last (nxtV bs last k).2.2.1).2.2.2 else 20) := by
 unfold zaX; simp only
 rw [if_neg (by rw [he]; decide), if_neg (by rw [ht]; decide), if_neg (by rw [hw]; decide)]
 split
 · rfl
 · rw [if_pos (.inr (.inl hl))]
theorem grps_step {bs : List UInt8} {last : Bool} {g : Nat} {gs : List Grp} {k : Int} (he : (nxtV bs last k).2.2.2 = 0) (ht : zc0 (nxtV bs last k).1 = false) (hl : gs.length ≠ 64) :
   zaX bs last (g + 1) gs k = if (grp1 bs last (nxtV bs last k).1 (nxtV bs last k).2.2.1).2.2 ≠ 0 then ([], 0, (grp1 bs last (nxtV bs last k).1 (nxtV bs last k).2.2.1).2.2)
     else zaX bs last g (gs ++ [(grp1 bs last (nxtV bs last k).1 (nxtV bs last k).2.2.1).1]) (grp1 bs last (nxtV bs last k).1 (nxtV bs last k).2.2.1).2.1 := by
 conv => lhs; unfold zaX
 simp only
 rw [if_neg (by rw [he]; decide), if_neg (by rw [ht]; decide)]
 unfold grp1
 generalize nxtV bs last (nxtV bs last k).2.2.1 = u
 generalize nxtV bs last k = t
 by_cases hw : zay t.1 = false
 · simp [hw]
 rw [if_neg hw, if_neg hw]
 by_cases hu : u.2.2.2 ≠ 0
 · rw [if_pos hu, if_pos hu]
   simp [hu]
 rw [if_neg hu, if_neg hu]
 by_cases hf : zay u.1 = false ∨ zd9 t.1.vn u.1.vn = false
 · rw [if_pos (hf.imp id fun h => .inr h), if_pos hf]
   simp
 rw [if_neg (fun h => h.elim (fun a => hf (.inl a)) (fun b => b.elim hl (fun c => hf (.inr c)))), if_neg hf]
 by_cases hq : (zbo bs last u.1.vn.toNat u.2.2.1.toNat []).2.2 ≠ 0
 · rw [if_pos hq, if_pos hq]
   simp [hq]
 · rw [if_neg hq, if_neg hq]
   simp
theorem grp1_le {bs : List UInt8} {last : Bool} {x : Tk} {k : Int} (h0 : 0 ≤ k) (h1 : k ≤ bs.length) : 0 ≤ (grp1 bs last x k).2.1 ∧ (grp1 bs last x k).2.1 ≤ bs.length := by
 have hto := zaK (bs := bs) (k := k) last h0 h1
 rw [← nxt_3] at hto
 have hen : ∀ (m a : Nat) (l : List Ent), a ≤ bs.length → (zbo bs last m a l).2.1 ≤ bs.length := by
   intro m
   induction m with
   | zero => intro a l h; exact h
   | succ m ih =>
     intro a l h
     rw [zbo]
     split
     · exact Nat.zero_le _
     · rename_i he
       exact ih _ _ (entV_le h (by simpa using he))
 unfold grp1
 split
 · exact ⟨Int.le_refl _, by show (0 : Int) ≤ _; omega⟩
 split
 · exact ⟨Int.le_refl _, by show (0 : Int) ≤ _; omega⟩
 split
 · exact ⟨Int.le_refl _, by show (0 : Int) ≤ _; omega⟩
 split
 · exact ⟨Int.le_refl _, by show (0 : Int) ≤ _; omega⟩
 · have := hen (nxtV bs last k).1.vn.toNat (nxtV bs last k).2.2.1.toNat [] (by omega)
   exact ⟨by show (0 : Int) ≤ ((_ : Nat) : Int); omega, by show ((_ : Nat) : Int) ≤ _; omega⟩
theorem EGrp : zdw Tryz.prog 24 42 (.agg #[.int .i64 0, .slice none 0 0]) 2 32 := ⟨Tryz.underlying24, by kernel_rfl, rfl, by omega⟩
theorem trail_iff (x : Tk) : zc0 x = (x.kind == 6 && decide (x.s = [116, 114, 97, 105, 108, 101, 114])) := by
 unfold zc0
 congr 1
 by_cases h : x.s = [116, 114, 97, 105, 108, 101, 114] <;> simp [h]
theorem zb1 (W : World) (o : Obj) {b : Nat} (hb : b < W.heap.size) : (W.alloc o).heap[b]? = W.heap[b]? := (zah W o).block b hb
structure GsM (w W : World) (p : Nat) (gs : List Grp) (cs : List Value) (v : Value) : Prop where
 own : W.ownsRow w.heap.size 42 2 v gs.length cs
 hold : IsGs W (fun b => w.heap.size ≤ b ∧ v.ownBlock ≠ some b) gs cs
 kps : zad (fun b => b = p) w W
theorem GsM.on {w W W' : World} {p : Nat} {gs : List Grp} {cs : List Value} {v : Value} (h : GsM w W p gs cs v) (hp : p < w.heap.size) (hk : zad (fun b => b = p) W W') : GsM w W' p gs cs v :=
 ⟨zaG h.own fun b hb => hk.block b (h.own.lt b hb).2 (by have := (h.own.lt b hb).1; omega), h.hold.keep ⟨hk.size, fun b hb hF => hk.block b hb (by have := hF.1; omega)⟩ (fun _ h => h), h.kps.trans hk (fun x hx => .inl hx)⟩
theorem GsM.fin {w W : World} {p : Nat} {gs : List Grp} {cs : List Value} {v : Value} (h : GsM w W p gs cs v) : IsG W (fun b => w.heap.size ≤ b) gs v := by
 obtain ⟨a, cap, e, -, -⟩ := zau h.own
 subst e
 exact ⟨a, cap, cs, rfl, (Row.of_own h.own).2, fun h0 x hx => (h.own.lt x.block (by rw [hx]; rfl)).1, h.hold.keep (zax.refl _ _) (fun b hb => hb.1)⟩
theorem GsM.app {w W W8 : World} {p : Nat} {o : Obj} {gs : List Grp} {cs : List Value} {v v' : Value} (h : GsM w W p gs cs v) (hg8 : (W.alloc o).grownBy W8 v.ownBlock) {n : Int} {es : List Ent} {sv : Value} {B : Nat} (he : IsE W (fun b => B ≤ b) es sv) (hB : w.heap.size ≤ B) (hv : ∀ b, v.ownBlock = some b → b < B) (_hBW : B ≤ W.heap.size)
   (hO : W8.ownsRow w.heap.size 42 2 v' (gs.length + 1) (cs ++ [.int .i64 n, sv])) (hn : ∀ b, v'.ownBlock = some b → v.ownBlock = some b ∨ (W.alloc o).heap.size ≤ b) : GsM w W8 p (gs ++ [⟨n, es⟩]) (cs ++ [.int .i64 n, sv]) v' := by
 have hst : zax (fun b => v.ownBlock ≠ some b ∧ b < W.heap.size) W W8 := ⟨by have := hg8.size; rw [zam] at this; omega, fun b hb hF => by
   rw [hg8.block b (by rw [zam]; omega) (fun e => hF.1 e.symm)]
   exact (zb1 W o hb)⟩
 refine ⟨by rw [List.length_append]; exact hO, ?_, (h.kps.alloc o).grown hg8 (fun k hk => .inr (h.own.lt k hk).1)⟩
 have hnew : ∀ b, b < W.heap.size → v.ownBlock ≠ some b → v'.ownBlock ≠ some b := fun b hb hne e => by
   rcases hn b e with h1 | h1
   · exact hne h1
   · rw [zam] at h1; omega
 have lt_e : ∀ {es : List Ent} {sv : Value} {F : Nat → Prop}, IsE W F es sv → IsE W (fun b => F b ∧ b < W.heap.size) es sv := fun {es sv F} h => by
   obtain ⟨a, cap, e, hr, hF⟩ := h
   exact ⟨a, cap, e, hr, fun h0 x hx => ⟨hF h0 x hx, hr.lt h0 x hx⟩⟩
 have lt_g : ∀ {gs : List Grp} {cs : List Value} {F : Nat → Prop}, IsGs W F gs cs → IsGs W (fun b => F b ∧ b < W.heap.size) gs cs := fun {gs} => by
   induction gs with
   | nil => exact fun h => h
   | cons g gs ih => exact fun ⟨v, t, e, h1, h2⟩ => ⟨v, t, e, lt_e h1, ih h2⟩
 refine IsGs.snoc ?_ ?_
 · have h2 := (lt_g h.hold)
   have h3 : IsGs W8 (fun b => (w.heap.size ≤ b ∧ v.ownBlock ≠ some b) ∧ b < W.heap.size) gs cs := h2.keep ⟨hst.1, fun b hb hF => hst.2 b hb ⟨hF.1.2, hF.2⟩⟩ (fun _ h => h)
   exact h3.keep (zax.refl _ _) (fun b hb => ⟨hb.1.1, hnew b hb.2 hb.1.2⟩)
 · have h2 : IsE W (fun b => B ≤ b ∧ b < W.heap.size) es sv := lt_e he
   have hne : ∀ b, B ≤ b → v.ownBlock ≠ some b := fun b hb e => by have := hv b e; omega
   have h3 : IsE W8 (fun b => B ≤ b ∧ b < W.heap.size) es sv := h2.keep ⟨hst.1, fun b hb hF => hst.2 b hb ⟨hne b hF.1, hF.2⟩⟩ (fun _ h => h)
   exact h3.keep (zax.refl _ _) (fun b hb => ⟨Nat.le_trans hB hb.1, hnew b hb.2 (hne b hb.1)⟩)
section
variable {w0 w : World} {p : Nat} {a : Option Addr} {cap : Nat} {bs : List UInt8} {last : Bool}
def GsEnd (w0 w : World) (p : Nat) (a : Option Addr) (cap : Nat) (bs : List UInt8) (last : Bool) (V : List Grp × Int × Int) (e : Ending) (w' : World) : Prop :=
 ∃ v, e = .returned (.tuple #[v, .int .i64 V.2.2]) ∧ IsG w' (fun b => w.heap.size ≤ b) V.1 v ∧ (∃ at2 : Int, IsRd w0 w' p a cap bs last at2 ∧ (V.2.2 = 0 → at2 = V.2.1)) ∧ zad (fun b => b = p) w w'
theorem gs_no {V : List Grp × Int × Int} {W : World} {e : Int} (hV : V = ([], 0, e)) (he : e ≠ 0) (hI : ∃ at2 : Int, IsRd w0 W p a cap bs last at2) (hk : zad (fun b => b = p) w W) : GsEnd w0 w p a cap bs last V (.returned (.tuple #[.slice none 0 0, .int .i64 e])) W := by
 subst hV
 obtain ⟨at2, hI⟩ := hI
 exact ⟨_, rfl, IsG.nil _ _, ⟨at2, hI, fun h => absurd h he⟩, hk⟩
def lenV : Value → Nat | .slice _ n _ => n | _ => 0
theorem xgroups_any {k : Int} (h : IsRd w0 w p a cap bs last k) (h0 : 0 ≤ k) (h1 : k ≤ bs.length) : Calls Tryz.prog 44 #[.pointer (some ⟨p, 0, none⟩)] w (GsEnd w0 w p a cap bs last (zaX bs last 65 [] k)) := by
 have hsm := h.small
 have HPW := Lib.hid (show p < w.heap.size from h.lt)
 obtain ⟨R, hR⟩ : ∃ R, R = zaX bs last 65 [] k := ⟨_, rfl⟩
 rw [← hR]
 have HRR := Lib.hid hR
 have HR := Lib.hid h
 clear h hR
 go_enter Tryz.func44, Tryz.ntmps44
 go_wp2
 go_loopw [4] (fun v wr => ∃ (gs : List Grp) (k2 : Int) (cs : List Value), gs.length ≤ 64 ∧ 0 ≤ k2 ∧ k2 ≤ bs.length ∧ Hid (IsRd w0 wr p a cap bs last k2) ∧ Hid (GsM w wr p gs cs v) ∧ Hid (R = zaX bs last (65 - gs.length) gs k2)) (fun v _ => 65 - lenV v)
 case atStart => exact ⟨[], k, [], by simp, h0, h1, HR, Lib.hid ⟨World.ownsRow_nil _ _ _ _, rfl, zad.refl _ _⟩, HRR⟩
 case round =>
   obtain ⟨gs, k2, cs, hgl, hk0, hk1, HI, HGM, HQ⟩ := hrel
   obtain ⟨sa, sc, rfl, -, -⟩ := zau HGM.out.own
   have HN := Lib.hid (zer HI.out)
   have hto := zaK (bs := bs) (k := k2) last hk0 hk1
   rw [← nxt_3] at hto
   obtain ⟨m, hm⟩ : ∃ m, m + 1 = 65 - gs.length := ⟨64 - gs.length, by omega⟩
   have hQ := HQ.out
   rw [← hm] at hQ
   have HM := Lib.hid hm
   have HQE := Lib.hid (fun he => hQ.trans (grps_err he))
   have HQT := Lib.hid (fun he ht => hQ.trans (zeT he ht))
   have HQB := Lib.hid (fun he ht hw => hQ.trans (grps_bad he ht hw))
   have HQF := Lib.hid (fun he ht hw hl => hQ.trans (grps_full he ht hw hl))
   have HQS := Lib.hid (fun he ht hl => hQ.trans (grps_step he ht hl))
   have HN2 := Lib.hid (fun (W : World) (hI : IsRd w0 W p a cap bs last (nxtV bs last k2).2.2.1) => zer hI)
   have HGR := Lib.hid (fun (W : World) (hI : IsRd w0 W p a cap bs last (nxtV bs last k2).2.2.1) => xgroup_any hI (by omega) hto.2 (nxtV bs last k2).1 (nxtV bs last k2).2.1 (nxtV bs last k2).2.2.1)
   have HGL := Lib.hid (grp1_le (bs := bs) (last := last) (x := (nxtV bs last k2).1) (k := (nxtV bs last k2).2.2.1) (by omega) hto.2)
   have HGB := Lib.hid (fun (h : zay (nxtV bs last k2).1 = false) => show (grp1 bs last (nxtV bs last k2).1 (nxtV bs last k2).2.2.1).2.2 = 20 by unfold grp1; rw [if_pos h])
   have HTI := Lib.hid (trail_iff (nxtV bs last k2).1)
   have HWX := Lib.hid (fun W => zep (nxtV bs last k2).1 (nxtV bs last k2).2.1 (nxtV bs last k2).2.2.1 W)
   have HSQ := Lib.hid (zdC (nxtV bs last k2).1.s [116, 114, 97, 105, 108, 101, 114])
   clear hm hQ HQ
   generalize nxtV bs last k2 = U at *
   obtain ⟨x, f, t, E⟩ := U
   simp only at hto HN HQE HQT HQB HQF HQS HN2 HGR HGL HTI HWX HSQ
   generalize nxtV bs last t = U2 at *
   obtain ⟨y, f2, t2, E2⟩ := U2
   generalize grp1 bs last x t = G at *
   obtain ⟨⟨gn, ge⟩, gk, gr⟩ := G
   unfold GrpEnd at HGR
   simp only at HQF HQS HN2 HGR HGL HGB
   unfold tokN at HN HN2 HWX HGR
   obtain ⟨tr, htr⟩ : ∃ tr, tr = decide (x.s = [116, 114, 97, 105, 108, 101, 114]) := ⟨_, rfl⟩
   rw [← htr] at HTI HSQ
   rw [HTI.out] at HQT HQB HQF HQS
   clear htr HTI
   generalize zay x = wx at *
   generalize x.kind = a0 at *
   generalize x.vk = a1 at *
   generalize x.vn = a2 at *
   generalize mkB x.vs = s1 at *
   generalize mkB x.s = s2 at *
   generalize y.kind = b0 at *
   generalize y.vk = b1 at *
   generalize y.vn = b2 at *
   generalize mkB y.vs = q1 at *
   generalize mkB y.s = q2 at *
   go_wp2_with fail
   refine HN.out.mono ?_
   rintro e w3 ⟨rfl, hi3, hk3⟩
   have HT3 := Lib.hid (zac (w := w3) (b := w3.heap.size) (.cells #[.int .i64 a0, .int .i64 f, .int .i64 t, .int .i64 a1, .int .i64 a2, .string s1, .slice none 0 0, .string s2] 150) rfl)
   have HI3 := Lib.hid (hi3.mono (zah w3 (.cells #[.int .i64 a0, .int .i64 f, .int .i64 t, .int .i64 a1, .int .i64 a2, .string s1, .slice none 0 0, .string s2] 150)))
   have HG3 := Lib.hid ((HGM.out.on HPW.out hk3).on HPW.out (zaq (zah w3 (.cells #[.int .i64 a0, .int .i64 f, .int .i64 t, .int .i64 a1, .int .i64 a2, .string s1, .slice none 0 0, .string s2] 150))))
   have HTP := Lib.hid (show w3.heap.size ≠ p by have := hi3.lt; omega)
   clear hi3 hk3 HN HI HGM
   go_upto_region 3 with fail
   obtain ⟨T, hT⟩ : ∃ T, T = w3.heap.size := ⟨_, rfl⟩
   rw [← hT] at HT3 HTP ⊢
   clear hT
   generalize World.alloc _ _ = W3 at *
   obtain ⟨⟨v0, v1, v2, v3, v4, v5, v6, v7⟩, -⟩ := zan HT3.out
   by_cases hE : E = 0
   case neg =>
     have HV3 := Lib.hid (HQE.out hE)
     have e0 : (E == 0) = false := by rw [beq_eq_false_iff_ne]; exact hE
     have e1 : (E != 0) = true := by simp only [bne, e0, Bool.not_false]
     have HE := Lib.hid hE
     clear hE
     go_wp2
     go_ret2
     exact gs_no HV3.out HE.out ⟨_, HI3.out⟩ HG3.out.kps
   subst hE
   rw [if_pos rfl] at HI3
   have hsq := HSQ.out
   obtain ⟨k6, hk6⟩ : ∃ k6, k6 = (a0 == 6) := ⟨_, rfl⟩
   rw [← hk6] at HQT HQB HQF HQS
   have HK6 := Lib.hid hk6
   obtain ⟨tb, htb⟩ : ∃ tb, tb = (k6 && tr) := ⟨_, rfl⟩
   rw [← htb] at HQT HQB HQF HQS
   have HTB := Lib.hid htb
   clear htb hk6
   go_upto_region 5 with fail
   go_cut [27] from 10 to 59 (fun v wx => v = .bool tb ∧ wx = W3)
   case first =>
     clear HQT HQB HQF HQS HN2 HGR HGL HGB
     cases k6
     · have e6 := HK6.out.symm
       obtain rfl : tb = false := HTB.out
       go_wp2_with fail
       go_meet
       exact ⟨rfl, rfl⟩
     · have e6 := HK6.out.symm
       obtain rfl : tb = tr := HTB.out
       go_wp2_with fail
       go_meet
       exact ⟨rfl, rfl⟩
   case rest =>
   obtain ⟨rfl, hw⟩ := hcut
   subst hw
   clear hsq HSQ HK6 HTB
   cases tb
   case true =>
     have HV3 := Lib.hid (HQT.out rfl rfl)
     clear HQT HQB HQF HQS HN2 HGR HGL HGB v0 v1 v2 v3 v4 v5 v6 v7
     go_wp2
     go_ret2
     rw [HV3.out]
     exact ⟨_, rfl, HG3.out.fin, ⟨_, HI3.out, fun _ => rfl⟩, HG3.out.kps⟩
   have HQB2 := Lib.hid (HQB.out rfl rfl)
   have HQF2 := Lib.hid (HQF.out rfl rfl)
   have HQS2 := Lib.hid (HQS.out rfl rfl)
   clear HQT HQB HQF HQS
   obtain ⟨fb, hfb⟩ : ∃ fb, fb = (decide (gs.length = 64) && wx) := ⟨_, rfl⟩
   have HFB := Lib.hid hfb
   clear hfb
   go_upto_region 7 with fail
   go_cut [35] from 10 to 59 (fun v wx => v = .bool fb ∧ Hid (IsRd w0 wx p a cap bs last t) ∧ Hid (GsM w wx p gs cs (.slice sa gs.length sc)) ∧ Hid (wx.heap[T]? = some (.cells #[.int .i64 a0, .int .i64 f, .int .i64 t, .int .i64 a1, .int .i64 a2, .string s1, .slice none 0 0, .string s2] 150 (0, 0))))
   case first =>
     clear HQB2 HQF2 HQS2 HN2 HGR HGL HGB
     by_cases h64 : gs.length = 64
     · obtain rfl : fb = wx := by rw [HFB.out, decide_eq_true h64, Bool.true_and]
       have hd64 : ((gs.length : Int) == 64) = true := by rw [beq_iff_eq]; omega
       have hd64n : (gs.length == 64) = true := by rw [beq_iff_eq]; exact h64
       clear h64
       go_wp2_with (go_at_call 79; refine (HWX.out _).mono ?_; rintro e w4 ⟨rfl, hb4⟩; have HI4 := Lib.hid (HI3.out.mono hb4); have HG4 := Lib.hid (HG3.out.on HPW.out (zaq hb4)); have HT4 := Lib.hid (zab hb4 HT3.out))
       go_meet
       exact ⟨rfl, HI4, HG4, HT4⟩
     · obtain rfl : fb = false := by rw [HFB.out, decide_eq_false h64, Bool.false_and]
       have hd64 : ((gs.length : Int) == 64) = false := by rw [beq_eq_false_iff_ne]; omega
       have hd64n : (gs.length == 64) = false := by rw [beq_eq_false_iff_ne]; exact h64
       go_wp2_with fail
       go_meet
       exact ⟨rfl, HI3, HG3, HT3⟩
   case rest =>
   obtain ⟨rfl, HI4, HG4, HT4⟩ := hcut
   clear HI3 HG3 HT3 v0 v1 v2 v3 v4 v5 v6 v7 HWX
   obtain ⟨⟨v0, v1, v2, v3, v4, v5, v6, v7⟩, -⟩ := zan HT4.out
   cases fb
   case true =>
     have h64 : gs.length = 64 ∧ wx = true := by have := HFB.out; simpa using this.symm
     have HVF := Lib.hid (HQF2.out h64.2 h64.1)
     clear HQB2 HQS2 HQF2 HGR HGL HGB HFB h64
     go_wp2_with fail
     refine (HN2.out _ HI4.out).mono ?_
     rintro e w5 ⟨rfl, hi5, hk5⟩
     have HI5 := Lib.hid (hi5.mono (zah w5 (.cells #[.int .i64 b0, .int .i64 f2, .int .i64 t2, .int .i64 b1, .int .i64 b2, .string q1, .slice none 0 0, .string q2] 150)))
     have HG5 := Lib.hid ((HG4.out.on HPW.out hk5).on HPW.out (zaq (zah w5 (.cells #[.int .i64 b0, .int .i64 f2, .int .i64 t2, .int .i64 b1, .int .i64 b2, .string q1, .slice none 0 0, .string q2] 150))))
     have HT5 := Lib.hid (zac (w := w5) (b := w5.heap.size) (.cells #[.int .i64 b0, .int .i64 f2, .int .i64 t2, .int .i64 b1, .int .i64 b2, .string q1, .slice none 0 0, .string q2] 150) rfl)
     clear hi5 hk5 HN2 HI4 HG4 HT4 v0 v1 v2 v3 v4 v5 v6 v7
     go_upto_region 9 with fail
     generalize w5.heap.size = T5 at *
     generalize World.alloc _ _ = W5 at *
     obtain ⟨⟨v0, v1, v2, v3, v4, v5, v6, v7⟩, -⟩ := zan HT5.out
     by_cases hE2 : E2 = 0
     · subst hE2
       rw [if_neg (by decide)] at HVF
       go_wp2
       go_ret2
       exact gs_no HVF.out (by decide) ⟨_, HI5.out⟩ HG5.out.kps
     · have e0 : (E2 == 0) = false := by rw [beq_eq_false_iff_ne]; exact hE2
       have e1 : (E2 != 0) = true := by simp only [bne, e0, Bool.not_false]
       have HE2 := Lib.hid hE2
       rw [if_pos hE2] at HVF
       clear hE2
       go_wp2
       go_ret2
       exact gs_no HVF.out HE2.out ⟨_, HI5.out⟩ HG5.out.kps
   have HGE := Lib.hid (show gr ≠ 0 → R = ([], 0, gr) from fun h => by
     by_cases h64 : gs.length = 64
     · have hwx : wx = false := by have := HFB.out; rw [decide_eq_true h64, Bool.true_and] at this; exact this.symm
       rw [HQB2.out hwx, HGB.out hwx]
     · have := HQS2.out h64
       rw [if_pos h] at this
       exact this)
   have HGO := Lib.hid (show gr = 0 → gs.length ≠ 64 ∧ R = zaX bs last m (gs ++ [⟨gn, ge⟩]) gk from fun h => by
     by_cases h64 : gs.length = 64
     · have hwx : wx = false := by have := HFB.out; rw [decide_eq_true h64, Bool.true_and] at this; exact this.symm
       have := HGB.out hwx
       rw [h] at this
       cases this
     · have := HQS2.out h64
       rw [if_neg (by rw [h]; decide)] at this
       exact ⟨h64, this⟩)
   clear HQB2 HQF2 HQS2 HGB HFB HN2
   go_wp2_with fail
   refine (HGR.out _ HI4.out).mono ?_
   rintro e w6 ⟨gv, rfl, hie, ⟨at2, hi6, hat⟩, hk6⟩
   have HG6 := Lib.hid (HG4.out.on HPW.out hk6)
   have HVB := Lib.hid (show ∀ b, Value.ownBlock (.slice sa gs.length sc) = some b → b < wc.heap.size from fun b hb => (HG4.out.own.lt b hb).2)
   have HWW := Lib.hid (show w.heap.size ≤ wc.heap.size ∧ wc.heap.size ≤ w6.heap.size from ⟨HG4.out.kps.size, hk6.size⟩)
   obtain ⟨va, vc, rfl, -, -⟩ := hie.len
   have HI7 := Lib.hid (hi6.mono (zah w6 (.cells #[.int .i64 gn, .slice va ge.length vc] 42)))
   have HG7 := Lib.hid (HG6.out.on HPW.out (zaq (zah w6 (.cells #[.int .i64 gn, .slice va ge.length vc] 42))))
   have HE7 := Lib.hid (hie.below (zah w6 (.cells #[.int .i64 gn, .slice va ge.length vc] 42)))
   have HZ7 := Lib.hid (zac (w := w6) (b := w6.heap.size) (.cells #[.int .i64 gn, .slice va ge.length vc] 42) rfl)
   have HAT := Lib.hid hat
   have HWS := Lib.hid (zam w6 (.cells #[.int .i64 gn, .slice va ge.length vc] 42))
   clear hie hi6 hat hk6 HG4 HI4 HT4 HGR HG6 v0 v1 v2 v3 v4 v5 v6 v7
   go_upto_region 14 with fail
   obtain ⟨z, hz⟩ : ∃ z, z = w6.heap.size := ⟨_, rfl⟩
   rw [← hz] at HZ7 HWW HWS ⊢
   clear hz
   generalize w6.alloc _ = W7 at *
   obtain ⟨⟨z0, z1⟩, -⟩ := zaI HZ7.out
   by_cases hgr : gr = 0
   case neg =>
     have HVF := Lib.hid (HGE.out hgr)
     have e0 : (gr == 0) = false := by rw [beq_eq_false_iff_ne]; exact hgr
     have e1 : (gr != 0) = true := by simp only [bne, e0, Bool.not_false]
     have HE2 := Lib.hid hgr
     clear hgr
     go_wp2
     go_ret2
     exact gs_no HVF.out HE2.out ⟨_, HI7.out⟩ HG7.out.kps
   subst hgr
   obtain ⟨h64, hRQ⟩ := HGO.out rfl
   have hL : gs.length ≤ 63 := by omega
   have HRQ := Lib.hid hRQ
   have hone : ∀ u ∈ [Value.int .i64 gn, .slice va ge.length vc], u.oneCell' = true := by
     intro u hu
     simp at hu
     rcases hu with rfl | rfl <;> rfl
   have HONE := Lib.hid hone
   have HKK := Lib.hid HGL.out
   clear hone h64 hRQ HGO HGE HGL
   go_wp2_with (at_builtin; go_loud (refine zde EGrp rfl (.tmp 56) (.tmp 58) rfl w.heap.size _ gs.length _ rfl (HG7.out.own.alloc _) _ 1 _ rfl (zfs _ #[.int .i64 gn, .slice va ge.length vc] _ 2 rfl rfl) HONE.out (by unfold maxLen; omega) (by omega) (by rw [zam]; have := HG7.out.kps.size; omega) ?_); intro v' w8 hO8 hg8 hn8; obtain ⟨ua, uc, rfl, -, -⟩ := zau hO8; have HG8 := Lib.hid (HG7.out.app hg8 HE7.out HWW.out.1 HVB.out (by have := HWW.out.2; have := HWS.out; omega) hO8 hn8); have HI8 := Lib.hid ((HI7.out.mono (zah _ _)).grown hg8 (fun b hb => ⟨fun e => by have := (HG7.out.own.lt b hb).1; have := HPW.out; omega, Nat.le_trans HR.out.bel.size (HG7.out.own.lt b hb).1⟩)); clear hO8 hg8 hn8)
   go_roundw
   case rel => exact ⟨gs ++ [⟨gn, ge⟩], gk, _, by rw [List.length_append]; simp; omega, HKK.out.1, HKK.out.2, by rw [← HAT.out rfl]; exact HI8, HG8, Lib.hid (by rw [HRQ.out, List.length_append, show 65 - (gs.length + [(⟨gn, ge⟩ : Grp)].length) = m by have := HM.out; simp; omega])⟩
   case measure => simp [lenV]; omega
end
def pk : List Int → List UInt8
 | a :: b :: t => UInt8.ofNat (16 * a + b).toNat :: pk t
 | _ => []
theorem pk_append : ∀ (n : Nat) (l m : List Int), l.length = 2 * n → pk (l ++ m) = pk l ++ pk m
 | 0, l, m, h => by
   obtain rfl : l = [] := List.eq_nil_of_length_eq_zero (by omega)
   rfl
 | n + 1, l, m, h => by
   rcases l with _ | ⟨a, _ | ⟨b, t⟩⟩
   · simp at h
   · simp at h; omega
   · simp only [List.cons_append, pk]
     rw [pk_append n t m (by simp at h; omega)]
structure DgP (ds : List Int) (out : List UInt8) (half : Int) : Prop where
 bd : ∀ d ∈ ds, 0 ≤ d ∧ d ≤ 15
 form : ∃ ps : List Int, ps.length = 2 * out.length ∧ pk ps = out ∧ ((half = -1 ∧ ds = ps) ∨ (0 ≤ half ∧ ds = ps ++ [half]))
theorem DgP.nil : DgP [] [] (-1) := ⟨fun d h => (by cases h), [], rfl, rfl, .inl ⟨rfl, rfl⟩⟩
theorem DgP.put {ds : List Int} {out : List UInt8} {half : Int} (h : DgP ds out half) {d : Int} (h0 : 0 ≤ d) (h1 : d ≤ 15) : (half < 0 → DgP (ds ++ [d]) out d) ∧ (0 ≤ half → DgP (ds ++ [d]) (out ++ [UInt8.ofNat (16 * half + d).toNat]) (-1)) := by
 obtain ⟨hb, ps, hl, hp, hf⟩ := h
 have hb2 : ∀ x ∈ ds ++ [d], 0 ≤ x ∧ x ≤ 15 := fun x hx => by
   rcases List.mem_append.1 hx with h | h
   · exact hb x h
   · simp at h; subst h; exact ⟨h0, h1⟩
 refine ⟨fun hn => ⟨hb2, ps, hl, hp, .inr ⟨h0, ?_⟩⟩, fun hn => ⟨hb2, ds ++ [d], ?_, ?_, .inl ⟨rfl, rfl⟩⟩⟩
 · rcases hf with ⟨_, rfl⟩ | ⟨h, _⟩
   · rfl
   · omega
 · rcases hf with ⟨h, _⟩ | ⟨h, rfl⟩
   · omega
   · simp; omega
 · rcases hf with ⟨h, _⟩ | ⟨h, rfl⟩
   · omega
   · rw [List.append_assoc, pk_append _ _ _ hl, hp]; rfl
def i64C (x : Int) : Value := .int .i64 x
structure DgM (w : World) (v : Value) (ds : List Int) (wr : World) : Prop where
 row : wr.ownsRow w.heap.size 3 1 v ds.length (ds.map i64C)
 bel : Below w.heap.size w wr
theorem DgM.put {w wr w5 : World} {v v' : Value} {ds : List Int} (h : DgM w v ds wr) (d : Int) (O : Obj) (hO5 : w5.ownsRow w.heap.size 3 1 v' (ds.length + 1) (ds.map i64C ++ [.int .i64 d])) (hg5 : (wr.alloc O).grownBy w5 v.ownBlock) : DgM w v' (ds ++ [d]) w5 :=
 ⟨by have h := hO5; simpa [i64C] using h, (h.bel.alloc h.bel.size _).grown hg5 (by rw [zam]; have := h.bel.size; omega) (fun q hq => (h.row.lt q hq).1)⟩
theorem DgM.len {w wr : World} {v : Value} {ds : List Int} (h : DgM w v ds wr) : ∃ a cap, v = .slice a ds.length cap ∧ Row wr 1 a ds.length cap (ds.map i64C) := by
 obtain ⟨a, cap, hv, hr, -⟩ := Row.of_owns h.row
 exact ⟨a, cap, hv, hr⟩
structure PA (p : List UInt8) (N : Int) (ov : Bool) : Prop where
 dg : p.all isDg = true
 ov_ : ov = decide (2147483647 < valD p)
 n : ov = false → N = (valD p : Nat)
def PB (p : List UInt8) (i : Nat) (N P : Int) (ov : Bool) : Prop := ∃ w r, p = w ++ 46 :: r ∧ w.length = i ∧ PA w N ov ∧ r.all isDg = true ∧ P = (mil r : Nat)
theorem PA.nil : PA [] 0 false := ⟨rfl, rfl, fun _ => rfl⟩
theorem PA.over {p : List UInt8} {N : Int} (h : PA p N true) {c : UInt8} (hc : isDg c = true) : PA (p ++ [c]) N true :=
 ⟨zcV _ _ h.dg hc, by have := h.ov_; rw [eq_comm, decide_eq_true_iff] at this; rw [eq_comm, decide_eq_true_iff, zb0]; omega, fun h => by cases h⟩
theorem PA.more {p : List UInt8} {N : Int} (h : PA p N false) {c : UInt8} (hc : isDg c = true) (M : Int) (hM : M = 10 * N + (dgV c : Nat)) (o : Bool) (ho : o = decide (2147483647 < M)) : PA (p ++ [c]) M o := by
 have h1 := h.n rfl
 have hv : M = (valD (p ++ [c]) : Nat) := by rw [zb0, hM, h1]; omega
 refine ⟨zcV _ _ h.dg hc, ?_, fun _ => hv⟩
 rw [ho, Bool.eq_iff_iff, decide_eq_true_iff, decide_eq_true_iff]; omega
theorem mil_by (r : List UInt8) (c : UInt8) (b : Nat) (hb : b = 100000 / 10 ^ (min (r.length + 1) 7 - 1)) : mil (r ++ [c]) = mil r + b * dgV c := by
 by_cases h : r.length < 6
 · rw [mil_snoc_lt r c h, hb, Nat.min_eq_left (by omega)]
   congr 2
   have : r.length = 0 ∨ r.length = 1 ∨ r.length = 2 ∨ r.length = 3 ∨ r.length = 4 ∨ r.length = 5 := by omega
   rcases this with h | h | h | h | h | h <;> rw [h]
 · rw [mil_snoc_ge r c (by omega), hb, Nat.min_eq_right (by omega)]
   simp
theorem PB.more {p : List UInt8} {i : Nat} {N P : Int} {ov : Bool} (h : PB p i N P ov) {c : UInt8} (hc : isDg c = true) (b : Nat) (hb : b = 100000 / 10 ^ (min (p.length - i) 7 - 1)) (Q : Int) (hQ : Q = P + (b : Int) * ((c.toNat : Int) - 48)) : PB (p ++ [c]) i N Q ov := by
 obtain ⟨w, r, e, hl, hA, hr, hP⟩ := h
 have hlen := congrArg List.length e
 simp only [List.length_append, List.length_cons] at hlen
 refine ⟨w, r ++ [c], by rw [e]; simp, hl, hA, zcV _ _ hr hc, ?_⟩
 rw [mil_by r c b (by rw [hb]; congr 3; omega), hQ, hP, ← zfe hc]
 push_cast
 rfl
theorem PB.bd {p : List UInt8} {i : Nat} {N P : Int} {ov : Bool} (h : PB p i N P ov) : 0 ≤ P ∧ P ≤ 999999 := by
 obtain ⟨w, r, e, hl, hA, hr, rfl⟩ := h
 have := zeW r hr
 omega
theorem PA.fin {p : List UInt8} {N : Int} {ov : Bool} (h : PA p N ov) (sg : Int) : zaY sg p = if p.length = 0 then (0, 0, 11) else if ov = true then (0, 0, 5) else (2, sg * N, 0) := by
 rw [parseB_int sg p h.dg]
 by_cases h0 : p.length = 0
 · rw [if_pos h0, if_pos h0]
 · rw [if_neg h0, if_neg h0]
   have h1 := h.ov_
   cases ov
   · rw [eq_comm, decide_eq_false_iff_not] at h1
     rw [if_neg h1, if_neg (by decide), h.n rfl]
   · rw [eq_comm, decide_eq_true_iff] at h1
     rw [if_pos h1, if_pos rfl]
theorem PB.fin {p : List UInt8} {i : Nat} {N P : Int} {ov : Bool} (h : PB p i N P ov) (sg : Int) : zaY sg p = if p.length = 1 then (0, 0, 11) else if ov = true ∨ (N = 2147483647 ∧ 0 < P) then (0, 0, 5) else (3, sg * (1000000 * N + P), 0) := by
 obtain ⟨w, r, e, hl, hA, hr, rfl⟩ := h
 have hlen := congrArg List.length e
 simp only [List.length_append, List.length_cons] at hlen
 rw [e, parseB_real sg w r hA.dg hr, ← e]
 by_cases h0 : p.length = 1
 · rw [if_pos h0, if_pos (by omega)]
 · rw [if_neg h0, if_neg (by omega)]
   have h1 := hA.ov_
   cases ov
   · rw [eq_comm, decide_eq_false_iff_not] at h1
     have h2 := hA.n rfl
     by_cases h3 : N = 2147483647 ∧ 0 < ((mil r : Nat) : Int)
     · rw [if_pos (.inr (by omega)), if_pos (.inr h3)]
     · rw [if_neg (by rintro (h | h); exact h1 h; exact h3 (by omega)), if_neg (by rintro (h | h); cases h; exact h3 h), h2]
       rw [Int.natCast_add, Int.natCast_mul, Int.mul_comm 1000000]; rfl
   · rw [eq_comm, decide_eq_true_iff] at h1
     rw [if_pos (.inl h1), if_pos (.inl rfl)]
structure Rx (w : World) (r n : Nat) (f : Nat) (W : World) : Prop where
 blk : W.heap[r]? = some (.cells #[.int .i64 0, .int .i64 0, .int .i64 0, .int .i64 0, .int .i64 0, .string ⟨#[]⟩, .slice none 0 0, .string ⟨#[]⟩] 111 (0, 0))
 no : W.heap[n]? = some (.cells #[.int .i64 0, .int .i64 f, .int .i64 f, .int .i64 0, .int .i64 0, .string ⟨#[]⟩, .slice none 0 0, .string ⟨#[]⟩] 111 (0, 0))
 bel : Below w.heap.size w W
 wr : w.heap.size ≤ r
theorem Rx.on {w W W' : World} {r n f : Nat} (h : Rx w r n f W) (hb : Below W.heap.size W W') : Rx w r n f W' := ⟨zab hb h.blk, zab hb h.no, h.bel.trans (hb.mono h.bel.size), h.wr⟩
theorem Rx.alloc {w W : World} {r n f : Nat} (h : Rx w r n f W) (o : Obj) : Rx w r n f (W.alloc o) := h.on (zah W o)
theorem ze4 : ∀ a b : List UInt8, Op.bytesLess a b = sLt a b
 | [], [] => rfl
 | [], _ :: _ => rfl
 | _ :: _, [] => rfl
 | a :: l, b :: m => by
   simp only [Op.bytesLess, sLt]
   rw [ze4 l m]
   by_cases h : a.toNat < b.toNat
   · rw [if_pos h]
     have : (a < b) := h
     simp [this]
   · rw [if_neg h]
     have h' : ¬ (a < b) := h
     by_cases h2 : b.toNat < a.toNat
     · rw [if_pos h2]
       have : (a == b) = false := by rw [beq_eq_false_iff_ne]; intro e; subst e; omega
       simp [h', this]
     · rw [if_neg h2]
       have : a = b := UInt8.toNat_inj.1 (by omega)
       subst this
       simp
theorem za1 (l : List UInt8) : (mkB l).toList = l := by unfold mkB; exact ByteArray.toList_eq _
structure Box4 (w : World) (b : Nat) (v : PV) (sl : Value) : Prop where
 blk : w.heap[b]? = some (.cells #[.int .i64 v.kind, .int .i64 v.n, .string (mkB v.s), sl] 27 (0, 0))
theorem Box4.cells {w : World} {b : Nat} {v : PV} {sl : Value} (h : Box4 w b v sl) : w.cell? ⟨b, 0, none⟩ = some (.int .i64 v.kind) ∧ w.cell? ⟨b, 1, none⟩ = some (.int .i64 v.n) ∧ w.cell? ⟨b, 2, none⟩ = some (.string (mkB v.s)) ∧ w.cell? ⟨b, 3, none⟩ = some sl := by
 refine ⟨?_, ?_, ?_, ?_⟩
 · rw [cell_of_row w b 0 _ _ _ h.blk]; rfl
 · rw [cell_of_row w b 1 _ _ _ h.blk]; rfl
 · rw [cell_of_row w b 2 _ _ _ h.blk]; rfl
 · rw [cell_of_row w b 3 _ _ _ h.blk]; rfl
def anyF : Nat → Prop := fun _ => True
theorem IsV.any {w : World} {F : Nat → Prop} {v : PV} {sl : Value} (h : IsV w F v sl) : IsV w anyF v sl := h.weaken fun _ _ => trivial
theorem zen {w : World} {g n cap : Nat} {d : Bool} {a : Option Addr} (h : w.heap[g]? = some (.cells #[.bool d, .slice a n cap] 166 (0, 0))) (hn : n ≤ maxLen) :
   Calls Tryz.prog 158 #[.pointer (some ⟨g, 0, none⟩)] w fun e w' => e = .returned (.bool (d && n % 2 == 0)) ∧ w = w' := by
 have c0 : w.cell? ⟨g, 0, none⟩ = some (.bool d) := by rw [cell_of_row w g 0 _ _ _ h]; rfl
 have c1 : w.cell? ⟨g, 1, none⟩ = some (.slice a n cap) := by rw [cell_of_row w g 1 _ _ _ h]; rfl
 have hi : (n : Int) ≤ 9223372036854775807 := by unfold maxLen at hn; omega
 have he : ((n : Int) % 2 == 0) = (n % 2 == 0) := by rw [Bool.eq_iff_iff]; simp; omega
 have HE := Lib.hid he
 clear h hn he
 cases d
 · go_enter Tryz.func158, Tryz.ntmps158
   go_wp2
   go_ret
   exact ⟨rfl, rfl⟩
 · go_enter Tryz.func158, Tryz.ntmps158
   go_wp2
   go_ret
   exact ⟨za0 (by rw [Bool.true_and]; exact HE.out), rfl⟩
section
variable {w0 w w' : World} {F F' G : Nat → Prop} {p : Nat} {a : Option Addr} {cap : Nat} {bs : List UInt8} {last : Bool} {st : List Lv} {at_ : Int} {gs : List Nat} {osl : Value}
def RefEnd (w0 w : World) (F G : Nat → Prop) (p : Nat) (a : Option Addr) (cap : Nat) (bs : List UInt8) (last : Bool) (st : List Lv) (gs : List Nat) (osl : Value) (R : PV × Int × Int) (e : Ending) (w' : World) : Prop :=
 e = .returned (.tuple #[pvA R.1 (.slice none 0 0), .int .i64 R.2.2]) ∧ zap w0 w' F G p a cap bs last st R.2.1 gs osl ∧ zad (fun b => b = p) w w'
theorem fin4 (h : zap w0 w F G p a cap bs last st at_ gs osl) {W : World} (hb : Below w.heap.size w W) {q : Nat} (hq : w.heap.size ≤ q) (hl : q < W.heap.size) (y0 y1 y2 y3 : Value) :
   zap w0 ((((W.setCell ⟨q, 0, none⟩ y0).setCell ⟨q, 1, none⟩ y1).setCell ⟨q, 2, none⟩ y2).setCell ⟨q, 3, none⟩ y3) F G p a cap bs last st at_ gs osl ∧
     zad (fun b => b = p) w ((((W.setCell ⟨q, 0, none⟩ y0).setCell ⟨q, 1, none⟩ y1).setCell ⟨q, 2, none⟩ y2).setCell ⟨q, 3, none⟩ y3) :=
 ⟨((h.res (G' := fun b => G b ∨ b = q) hb (fun b hb => hb.imp id fun e => by rw [e]; exact ⟨hq, hl⟩)).set4 (.inr rfl) _ _ _ _).give fun b hb => .inl hb, zaR (zaq hb) hq _ _ _ _⟩
theorem fin4a (h : zap w0 w F G p a cap bs last st at_ gs osl) {W : World} (hb : Below w.heap.size w W) {q : Nat} (hq : w.heap.size ≤ q) (hl : q < W.heap.size) (at2 : Int) (y0 y1 y2 y3 : Value) :
   zap w0 (((((W.setCell ⟨p, 1, none⟩ (.int .i64 at2)).setCell ⟨q, 0, none⟩ y0).setCell ⟨q, 1, none⟩ y1).setCell ⟨q, 2, none⟩ y2).setCell ⟨q, 3, none⟩ y3) F G p a cap bs last st at2 gs osl ∧
     zad (fun b => b = p) w (((((W.setCell ⟨p, 1, none⟩ (.int .i64 at2)).setCell ⟨q, 0, none⟩ y0).setCell ⟨q, 1, none⟩ y1).setCell ⟨q, 2, none⟩ y2).setCell ⟨q, 3, none⟩ y3) :=
 ⟨(((h.res (G' := fun b => G b ∨ b = q) hb (fun b hb => hb.imp id fun e => by rw [e]; exact ⟨hq, hl⟩)).setAt at2).set4 (.inr rfl) _ _ _ _).give fun b hb => .inl hb,
   zaR (zad.setCell (S := fun b => b = p) (a := ⟨p, 1, none⟩) (zaq hb) (.inl rfl) _) hq _ _ _ _⟩
theorem drew4 {W : World} {S : Nat → Prop} (h : zap w0 W F G p a cap bs last st at_ gs osl ∧ zad S w W) : zap w0 W.drew F G p a cap bs last st at_ gs osl ∧ zad S w W.drew := ⟨h.1.drewN 1, h.2.drewN 1⟩
theorem ref_any (h : zap w0 w F G p a cap bs last st at_ gs osl) (v : PV) : Calls Tryz.prog 161 #[.pointer (some ⟨p, 0, none⟩), pvA v (.slice none 0 0)] w (RefEnd w0 w F G p a cap bs last st gs osl (refV bs last at_ v)) := by
 have HN := Lib.hid (fun (W : World) (hb : Below w.heap.size w W) => zcQ (h.bytes.mono hb) h.small at_ last)
 obtain ⟨R, hR⟩ : ∃ R, R = refV bs last at_ v := ⟨_, rfl⟩
 rw [← hR]
 unfold refV at hR
 simp only at hR
 have HWH := Lib.hid (fun (W : World) => zfv (zaf bs at_ last).1 (zaf bs at_ last).2.1 (zaf bs at_ last).2.2.1 W)
 have HN2 := Lib.hid (fun (W : World) (hb : Below w.heap.size w W) => zcQ (h.bytes.mono hb) h.small (zaf bs at_ last).2.2.1 last)
 generalize zaf bs (zaf bs at_ last).2.2.1 last = V2 at *
 generalize zaf bs at_ last = V at *
 obtain ⟨x, gf, gt, ger⟩ := V
 obtain ⟨y, rf, rt, rer⟩ := V2
 simp only at hR HN2 HWH
 unfold zds tokN at HN HN2
 unfold tokN at HWH
 simp only at HN HN2
 unfold pvA
 have HR := Lib.hid hR
 have HYS := Lib.hid (zdC y.s [82])
 clear hR
 generalize x.kind = ga0 at *
 generalize x.vk = ga1 at *
 generalize x.vn = ga2 at *
 generalize mkB x.vs = gs1 at *
 generalize mkB x.s = gs2 at *
 generalize y.kind = ra0 at *
 generalize y.vk = ra1 at *
 generalize y.vn = ra2 at *
 generalize mkB y.vs = rs1 at *
 generalize mkB y.s = rs2 at *
 generalize zay x = wh at *
 obtain ⟨vk, vn, vs, vl⟩ := v
 simp only [PV.kind, PV.n, PV.s] at HR ⊢
 have HS := Lib.hid h
 have hpw := h.lt
 clear h
 go_enter Tryz.func161, Tryz.ntmps161
 go_wp2
 have HB1 := Lib.hid (za6 w (.cells #[.int .i64 vk, .int .i64 vn, .string (mkB vs), .slice none 0 0] 27) (.cells #[.int .i64 0, .int .i64 0, .string ⟨#[]⟩, .slice none 0 0] 27))
 have HS1 := Lib.hid (HS.out.mono HB1.out)
 have HK3 := Lib.hid (zak (.cells #[.int .i64 0, .int .i64 0, .string ⟨#[]⟩, .slice none 0 0] 27) (zac (w := w) (b := w.heap.size) (.cells #[.int .i64 vk, .int .i64 vn, .string (mkB vs), .slice none 0 0] 27) rfl))
 have HK4 := Lib.hid (zac (w := w.alloc (.cells #[.int .i64 vk, .int .i64 vn, .string (mkB vs), .slice none 0 0] 27)) (b := w.heap.size + 1) (.cells #[.int .i64 0, .int .i64 0, .string ⟨#[]⟩, .slice none 0 0] 27) (by rw [zam]))
 generalize (w.alloc _).alloc _ = W1 at *
 obtain ⟨r, hr⟩ : ∃ r, r = w.heap.size := ⟨_, rfl⟩
 have hpr0 : p ≠ r := by omega
 have hpr1 : p ≠ r + 1 := by omega
 rw [← hr] at HK3 HK4 ⊢
 have HRR := Lib.hid hr
 clear hr hpw
 obtain ⟨⟨c0, c1, c2, c3⟩, f0, f1, f2, f3⟩ := HS1.out.cells
 go_upto_region 1 with fail
 go_cut [6, 7] from 9 (fun v6 v7 wx => ∃ r2, v6 = .pointer (some ⟨r2, 0, none⟩) ∧ v7 = .int .i64 ger ∧ Hid (TkM W1 wx r2 #[.int .i64 ga0, .int .i64 gf, .int .i64 gt, .int .i64 ga1, .int .i64 ga2, .string gs1, .slice none 0 0, .string gs2]))
 case first =>
   have HA1 := Lib.hid (fun o : Obj => (zah W1 o).drew)
   have HA2 := Lib.hid (fun o : Obj => HB1.out.trans ((HA1.out o).mono (show w.heap.size ≤ W1.heap.size from HB1.out.size)))
   have HC0 : Hid (S3 W1 p 0 (.slice a bs.length cap) p 1 (.int .i64 at_) p 2 (.bool last)) := Lib.hid ⟨c0, c1, c2⟩
   have HPR : Hid (p ≠ W1.heap.size ∧ p ≠ W1.heap.size ∧ p ≠ W1.heap.size) := Lib.hid ⟨Nat.ne_of_lt (World.block_lt_of_cell? W1 _ c0), Nat.ne_of_lt (World.block_lt_of_cell? W1 _ c1), Nat.ne_of_lt (World.block_lt_of_cell? W1 _ c2)⟩
   go_region_held3 (fun w' => w'.cell? ⟨p, 0, none⟩ = some (.slice a bs.length cap) ∧ w'.cell? ⟨p, 1, none⟩ = some (.int .i64 at_) ∧ w'.cell? ⟨p, 2, none⟩ = some (.bool last))
     ((show S3 _ p 0 (.slice a bs.length cap) p 1 (.int .i64 at_) p 2 (.bool last); (first
       | (with_reducible exact HC0.out.drew)
       | (with_reducible exact HC0.out)
       | (with_reducible exact (HC0.out.alloc _).drew)
       | (with_reducible exact Hid.out (by assumption))
       | (with_reducible exact S3.alloc (Hid.out (by assumption)) _)
       | (with_reducible exact S3.set8 (Hid.out (by assumption)) HPR.out.1 HPR.out.2.1 HPR.out.2.2 _ _ _ _ _ _ _ _))))
     ((go_at_call 115; first
       | ((with_reducible refine (HN.out _ HB1.out.drew).mono ?_); rintro e wN ⟨rfl, hbN⟩; have hbM : Below W1.heap.size W1 wN := (Below.refl _ _).drew.trans hbN; have HSN := Lib.hid (HC0.out.below hbM))
       | ((with_reducible refine (HN.out _ (HA2.out _)).mono ?_); rintro e wN ⟨rfl, hbN⟩; have hbM : Below W1.heap.size W1 wN := (HA1.out _).trans (hbN.mono (HA1.out _).size); have HSN := Lib.hid (HC0.out.below hbM); have HZ := Lib.hid (zab hbN (zac (w := W1) (b := W1.heap.size) (.cells #[.int .i64 0, .int .i64 0, .int .i64 0, .int .i64 0, .int .i64 0, .string ⟨#[]⟩, .slice none 0 0, .string ⟨#[]⟩] 150) rfl)); obtain ⟨⟨z0, z1, z2, z3, z4, z5, z6, z7⟩, y0, y1, y2, y3, y4, y5, y6, y7⟩ := zan HZ.out)))
   all_goals
     first
       | (obtain ⟨W2, hW2⟩ : ∃ W2, W2 = wN.alloc (.cells #[.int .i64 ga0, .int .i64 gf, .int .i64 gt, .int .i64 ga1, .int .i64 ga2, .string gs1, .slice none 0 0, .string gs2] 150) := ⟨_, rfl⟩
          rw [← hW2]
          have HT := Lib.hid (show TkM W1 W2 wN.heap.size #[.int .i64 ga0, .int .i64 gf, .int .i64 gt, .int .i64 ga1, .int .i64 ga2, .string gs1, .slice none 0 0, .string gs2] from ⟨by rw [hW2]; exact hbM.alloc hbM.size _, by rw [hW2]; exact zac _ rfl, hbM.size⟩)
          obtain ⟨r2, hr2⟩ : ∃ r2, r2 = wN.heap.size := ⟨_, rfl⟩
          rw [← hr2] at HT ⊢)
       | (obtain ⟨W2, hW2⟩ : ∃ W2, W2 = ((((((((wN.setCell ⟨W1.heap.size, 0, none⟩ (.int .i64 ga0)).setCell ⟨W1.heap.size, 1, none⟩ (.int .i64 gf)).setCell ⟨W1.heap.size, 2, none⟩ (.int .i64 gt)).setCell ⟨W1.heap.size, 3, none⟩ (.int .i64 ga1)).setCell ⟨W1.heap.size, 4, none⟩ (.int .i64 ga2)).setCell ⟨W1.heap.size, 5, none⟩ (.string gs1)).setCell ⟨W1.heap.size, 6, none⟩ (.slice none 0 0)).setCell ⟨W1.heap.size, 7, none⟩ (.string gs2)) := ⟨_, rfl⟩
          rw [← hW2]
          have HT := Lib.hid (show TkM W1 W2 W1.heap.size #[.int .i64 ga0, .int .i64 gf, .int .i64 gt, .int .i64 ga1, .int .i64 ga2, .string gs1, .slice none 0 0, .string gs2] from ⟨by rw [hW2]; exact zaV hbM (Nat.le_refl _) _ _ _ _ _ _ _ _, by rw [hW2]; exact set8 HZ.out _ _ _ _ _ _ _ _, Nat.le_refl _⟩)
          clear z0 z1 z2 z3 z4 z5 z6 z7 y0 y1 y2 y3 y4 y5 y6 y7 HZ
          obtain ⟨r2, hr2⟩ : ∃ r2, r2 = W1.heap.size := ⟨_, rfl⟩
          rw [← hr2] at HT ⊢)
     clear hW2 hr2 hbN hbM HSN
   all_goals
     go_wp2
     go_meet
     exact ⟨r2, rfl, rfl, HT⟩
 case rest =>
   obtain ⟨r2, rfl, rfl, HT⟩ := hcut
   have HS2 := Lib.hid (HS1.out.mono HT.out.bel)
   have HB2 := Lib.hid (HB1.out.trans (HT.out.bel.mono HB1.out.size))
   have HL3 := Lib.hid (zab HT.out.bel HK3.out)
   have HL4 := Lib.hid (zab HT.out.bel HK4.out)
   have HTK := Lib.hid HT.out.blk
   clear c0 c1 c2 c3 f0 f1 f2 f3 HT HK3 HK4 HS1 HB1 HN
   have hmv := Lib.hid (fun e w => more_any e w)
   by_cases hg : ger = 0
   case neg =>
     have e1 : (ger == 0) = false := by rw [beq_eq_false_iff_ne]; exact hg
     have e2 : (ger != 0) = true := by simp only [bne, e1, Bool.not_false]
     have hr2 := HR.out
     rw [if_pos (.inl hg)] at hr2
     have HR2 := Lib.hid hr2
     obtain ⟨⟨k0, k1, k2, k3⟩, m0, m1, m2, m3⟩ := zal HL3.out
     obtain ⟨⟨q0, q1, q2, q3⟩, n0, n1, n2, n3⟩ := zal HL4.out
     clear hr2 hg HR HN2
     go_wp2
     go_region_with ((go_at_call 190; refine (hmv.out _ _).mono ?_; rintro e w' ⟨rfl, rfl⟩))
     all_goals
       go_wp2
       refine bodyPost_ret (zaa rfl _ _ (r + 1) 27 _ (0, 0) _ rfl (by exact set4 HL4.out _ _ _ _) Tryz.underlying27 rfl (by exact zaC) _ rfl) rfl ?_
       rw [HR2.out]
       exact ⟨rfl, drew4 (fin4 HS.out HB2.out (by rw [HRR.out]; exact Nat.le_succ _) (zag HL4.out) _ _ _ _)⟩
   subst hg
   cases wh with
   | false =>
     have hr2 := HR.out
     rw [if_pos (.inr rfl)] at hr2
     have HR2 := Lib.hid hr2
     obtain ⟨⟨k0, k1, k2, k3, k4, k5, k6, k7⟩, -⟩ := zan HTK.out
     clear hr2 HR HN2
     go_wp2_with fail
     refine (HWH.out _).mono ?_
     rintro e w' ⟨rfl, hb⟩
     have HL3b := Lib.hid (zab hb HL3.out)
     have HL4b := Lib.hid (zab hb HL4.out)
     have HB3 := Lib.hid (HB2.out.trans (hb.mono HB2.out.size))
     obtain ⟨⟨k0, k1, k2, k3⟩, m0, m1, m2, m3⟩ := zal HL3b.out
     obtain ⟨⟨q0, q1, q2, q3⟩, n0, n1, n2, n3⟩ := zal HL4b.out
     clear hb
     go_wp2
     go_region_with ((go_at_call 190; refine (hmv.out _ _).mono ?_; rintro e w' ⟨rfl, rfl⟩))
     all_goals
       go_wp2
       refine bodyPost_ret (zaa rfl _ _ (r + 1) 27 _ (0, 0) _ rfl (by exact set4 HL4b.out _ _ _ _) Tryz.underlying27 rfl (by exact zaC) _ rfl) rfl ?_
       rw [HR2.out]
       exact ⟨rfl, drew4 (fin4 HS.out HB3.out (by rw [HRR.out]; exact Nat.le_succ _) (zag HL4b.out) _ _ _ _)⟩
   | true =>
     have hr1 := HR.out
     rw [if_neg (by simp)] at hr1
     have HRX := Lib.hid hr1
     obtain ⟨⟨k0, k1, k2, k3, k4, k5, k6, k7⟩, -⟩ := zan HTK.out
     clear hr1 HR
     go_upto_region 4 with (go_at_call 95; refine (HWH.out _).mono ?_; rintro e W3 ⟨rfl, hb3⟩)
     have HB3 := Lib.hid (HB2.out.trans (hb3.mono HB2.out.size))
     have HS3 := Lib.hid (HS2.out.mono hb3)
     have HL3b := Lib.hid (zab hb3 HL3.out)
     have HL4b := Lib.hid (zab hb3 HL4.out)
     have HTKb := Lib.hid (zab hb3 HTK.out)
     clear hb3 k0 k1 k2 k3 k4 k5 k6 k7
     go_cut [7, 8] from 9 (fun v7 v8 wx => ∃ r3, v7 = .int .i64 rer ∧ v8 = .pointer (some ⟨r3, 0, none⟩) ∧ Hid (TkM W3 wx r3 #[.int .i64 ra0, .int .i64 rf, .int .i64 rt, .int .i64 ra1, .int .i64 ra2, .string rs1, .slice none 0 0, .string rs2]))
     case first =>
       obtain ⟨⟨k0, k1, k2, k3, k4, k5, k6, k7⟩, -⟩ := zan HTKb.out
       obtain ⟨⟨c0, c1, c2, c3⟩, -⟩ := HS3.out.cells
       clear k0 k1 k3 k4 k5 k6 k7 c1 c3
       have HA1 := Lib.hid (fun o : Obj => (zah W3 o).drew)
       have HA2 := Lib.hid (fun o : Obj => HB3.out.trans ((HA1.out o).mono (show w.heap.size ≤ W3.heap.size from HB3.out.size)))
       have HC0 : Hid (S3 W3 p 0 (.slice a bs.length cap) r2 2 (.int .i64 gt) p 2 (.bool last)) := Lib.hid ⟨c0, k2, c2⟩
       have HPR : Hid (p ≠ W3.heap.size ∧ r2 ≠ W3.heap.size ∧ p ≠ W3.heap.size) := Lib.hid ⟨Nat.ne_of_lt (World.block_lt_of_cell? W3 _ c0), Nat.ne_of_lt (World.block_lt_of_cell? W3 _ k2), Nat.ne_of_lt (World.block_lt_of_cell? W3 _ c2)⟩
       go_region_held3 (fun w' => w'.cell? ⟨p, 0, none⟩ = some (.slice a bs.length cap) ∧ w'.cell? ⟨r2, 2, none⟩ = some (.int .i64 gt) ∧ w'.cell? ⟨p, 2, none⟩ = some (.bool last))
         ((show S3 _ p 0 (.slice a bs.length cap) r2 2 (.int .i64 gt) p 2 (.bool last); (first
           | (with_reducible exact HC0.out.drew)
           | (with_reducible exact HC0.out)
           | (with_reducible exact (HC0.out.alloc _).drew)
           | (with_reducible exact Hid.out (by assumption))
           | (with_reducible exact S3.alloc (Hid.out (by assumption)) _)
           | (with_reducible exact S3.set8 (Hid.out (by assumption)) HPR.out.1 HPR.out.2.1 HPR.out.2.2 _ _ _ _ _ _ _ _))))
         ((go_at_call 115; first
           | ((with_reducible refine (HN2.out _ HB3.out.drew).mono ?_); rintro e wN ⟨rfl, hbN⟩; have hbM : Below W3.heap.size W3 wN := (Below.refl _ _).drew.trans hbN; have HSN := Lib.hid (HC0.out.below hbM))
           | ((with_reducible refine (HN2.out _ (HA2.out _)).mono ?_); rintro e wN ⟨rfl, hbN⟩; have hbM : Below W3.heap.size W3 wN := (HA1.out _).trans (hbN.mono (HA1.out _).size); have HSN := Lib.hid (HC0.out.below hbM); have HZ := Lib.hid (zab hbN (zac (w := W3) (b := W3.heap.size) (.cells #[.int .i64 0, .int .i64 0, .int .i64 0, .int .i64 0, .int .i64 0, .string ⟨#[]⟩, .slice none 0 0, .string ⟨#[]⟩] 150) rfl)); obtain ⟨⟨z0, z1, z2, z3, z4, z5, z6, z7⟩, y0, y1, y2, y3, y4, y5, y6, y7⟩ := zan HZ.out)))
       all_goals
         first
           | (obtain ⟨W2, hW2⟩ : ∃ W2, W2 = wN.alloc (.cells #[.int .i64 ra0, .int .i64 rf, .int .i64 rt, .int .i64 ra1, .int .i64 ra2, .string rs1, .slice none 0 0, .string rs2] 150) := ⟨_, rfl⟩
              rw [← hW2]
              have HT := Lib.hid (show TkM W3 W2 wN.heap.size #[.int .i64 ra0, .int .i64 rf, .int .i64 rt, .int .i64 ra1, .int .i64 ra2, .string rs1, .slice none 0 0, .string rs2] from ⟨by rw [hW2]; exact hbM.alloc hbM.size _, by rw [hW2]; exact zac _ rfl, hbM.size⟩)
              obtain ⟨r2_1, hr2⟩ : ∃ r2_1, r2_1 = wN.heap.size := ⟨_, rfl⟩
              rw [← hr2] at HT ⊢)
           | (obtain ⟨W2, hW2⟩ : ∃ W2, W2 = ((((((((wN.setCell ⟨W3.heap.size, 0, none⟩ (.int .i64 ra0)).setCell ⟨W3.heap.size, 1, none⟩ (.int .i64 rf)).setCell ⟨W3.heap.size, 2, none⟩ (.int .i64 rt)).setCell ⟨W3.heap.size, 3, none⟩ (.int .i64 ra1)).setCell ⟨W3.heap.size, 4, none⟩ (.int .i64 ra2)).setCell ⟨W3.heap.size, 5, none⟩ (.string rs1)).setCell ⟨W3.heap.size, 6, none⟩ (.slice none 0 0)).setCell ⟨W3.heap.size, 7, none⟩ (.string rs2)) := ⟨_, rfl⟩
              rw [← hW2]
              have HT := Lib.hid (show TkM W3 W2 W3.heap.size #[.int .i64 ra0, .int .i64 rf, .int .i64 rt, .int .i64 ra1, .int .i64 ra2, .string rs1, .slice none 0 0, .string rs2] from ⟨by rw [hW2]; exact zaV hbM (Nat.le_refl _) _ _ _ _ _ _ _ _, by rw [hW2]; exact set8 HZ.out _ _ _ _ _ _ _ _, Nat.le_refl _⟩)
              clear z0 z1 z2 z3 z4 z5 z6 z7 y0 y1 y2 y3 y4 y5 y6 y7 HZ
              obtain ⟨r2_1, hr2⟩ : ∃ r2_1, r2_1 = W3.heap.size := ⟨_, rfl⟩
              rw [← hr2] at HT ⊢)
         clear hW2 hr2 hbN hbM HSN
       all_goals
         go_wp2
         go_meet
         exact ⟨r2_1, rfl, rfl, HT⟩
     case rest =>
       obtain ⟨r3, rfl, rfl, HT⟩ := hcut
       have HS4 := Lib.hid (HS3.out.mono HT.out.bel)
       have HB4 := Lib.hid (HB3.out.trans (HT.out.bel.mono HB3.out.size))
       have HM3 := Lib.hid (zab HT.out.bel HL3b.out)
       have HM4 := Lib.hid (zab HT.out.bel HL4b.out)
       have HU1 := Lib.hid (zab HT.out.bel HTKb.out)
       have HU2 := Lib.hid HT.out.blk
       clear HT
       obtain ⟨⟨k0, k1, k2, k3⟩, m0, m1, m2, m3⟩ := zal HM3.out
       obtain ⟨⟨q0, q1, q2, q3⟩, n0, n1, n2, n3⟩ := zal HM4.out
       obtain ⟨⟨t0, t1, t2, t3, t4, t5, t6, t7⟩, -⟩ := zan HU2.out
       obtain ⟨⟨d0, d1, d2, d3, d4, d5, d6, d7⟩, -⟩ := zan HU1.out
       obtain ⟨⟨c0, c1, c2, c3⟩, f0, f1, f2, f3⟩ := HS4.out.cells
       have hys := HYS.out
       by_cases h0 : rer = 0
       case neg =>
         have e1 : (rer == 0) = false := by rw [beq_eq_false_iff_ne]; exact h0
         have e2 : (rer != 0) = true := by simp only [bne, e1, Bool.not_false]
         have hr2 := HRX.out
         rw [if_pos (.inl h0)] at hr2
         have HR2 := Lib.hid hr2
         clear hr2 h0 hys
         go_wp2
         go_region_with ((go_at_call 190; refine (hmv.out _ _).mono ?_; rintro e w' ⟨rfl, rfl⟩))
         all_goals
           go_wp2
           refine bodyPost_ret (zaa rfl _ _ (r + 1) 27 _ (0, 0) _ rfl (by exact set4 HM4.out _ _ _ _) Tryz.underlying27 rfl (by exact zaC) _ rfl) rfl ?_
           rw [HR2.out]
           exact ⟨rfl, drew4 (fin4 HS.out HB4.out (by rw [HRR.out]; exact Nat.le_succ _) (zag HM4.out) _ _ _ _)⟩
       subst h0
       by_cases h6 : ra0 = 6
       case neg =>
         have e1 : (ra0 == 6) = false := by rw [beq_eq_false_iff_ne]; exact h6
         have e2 : (ra0 != 6) = true := by simp only [bne, e1, Bool.not_false]
         have hr2 := HRX.out
         rw [if_pos (.inr (.inl h6))] at hr2
         have HR2 := Lib.hid hr2
         clear hr2 h6 hys
         go_wp2
         go_region_with ((go_at_call 190; refine (hmv.out _ _).mono ?_; rintro e w' ⟨rfl, rfl⟩))
         all_goals
           go_wp2
           refine bodyPost_ret (zaa rfl _ _ (r + 1) 27 _ (0, 0) _ rfl (by exact set4 HM4.out _ _ _ _) Tryz.underlying27 rfl (by exact zaC) _ rfl) rfl ?_
           rw [HR2.out]
           exact ⟨rfl, drew4 (fin4 HS.out HB4.out (by rw [HRR.out]; exact Nat.le_succ _) (zag HM4.out) _ _ _ _)⟩
       subst h6
       by_cases hs : y.s = [82]
       case neg =>
         rw [decide_eq_false hs] at hys
         have hr2 := HRX.out
         rw [if_pos (.inr (.inr hs))] at hr2
         have HR2 := Lib.hid hr2
         clear hr2 hs
         go_wp2
         go_region_with ((go_at_call 190; refine (hmv.out _ _).mono ?_; rintro e w' ⟨rfl, rfl⟩))
         all_goals
           go_wp2
           refine bodyPost_ret (zaa rfl _ _ (r + 1) 27 _ (0, 0) _ rfl (by exact set4 HM4.out _ _ _ _) Tryz.underlying27 rfl (by exact zaC) _ rfl) rfl ?_
           rw [HR2.out]
           exact ⟨rfl, drew4 (fin4 HS.out HB4.out (by rw [HRR.out]; exact Nat.le_succ _) (zag HM4.out) _ _ _ _)⟩
       rw [decide_eq_true hs] at hys
       have hr2 := HRX.out
       rw [if_neg (by rintro (h | h | h); exact h rfl; exact h rfl; exact h hs)] at hr2
       have HRY := Lib.hid hr2
       clear hr2 hs
       by_cases hv1 : vn < 1
       case pos =>
         have hd : decide (vn < 1) = true := decide_eq_true hv1
         have hr2 := HRY.out.trans (if_pos (show vn < 1 ∨ 4096 < vn ∨ ga2 ≠ 0 from .inl hv1))
         have HR2 := Lib.hid hr2
         clear hr2 hv1
         go_wp2
         refine bodyPost_ret (zaa rfl _ _ (r + 1) 27 _ (0, 0) _ rfl (by exact set4 HM4.out _ _ _ _) Tryz.underlying27 rfl (by exact zaC) _ rfl) rfl ?_
         rw [HR2.out]
         exact ⟨rfl, fin4 HS.out HB4.out (by rw [HRR.out]; exact Nat.le_succ _) (zag HM4.out) _ _ _ _⟩
       have hd1 : decide (vn < 1) = false := decide_eq_false hv1
       by_cases hv2 : 4096 < vn
       case pos =>
         have hd : decide (4096 < vn) = true := decide_eq_true hv2
         have hr2 := HRY.out.trans (if_pos (show vn < 1 ∨ 4096 < vn ∨ ga2 ≠ 0 from .inr (.inl hv2)))
         have HR2 := Lib.hid hr2
         clear hr2 hv2 hv1
         go_wp2
         refine bodyPost_ret (zaa rfl _ _ (r + 1) 27 _ (0, 0) _ rfl (by exact set4 HM4.out _ _ _ _) Tryz.underlying27 rfl (by exact zaC) _ rfl) rfl ?_
         rw [HR2.out]
         exact ⟨rfl, fin4 HS.out HB4.out (by rw [HRR.out]; exact Nat.le_succ _) (zag HM4.out) _ _ _ _⟩
       have hd2 : decide (4096 < vn) = false := decide_eq_false hv2
       by_cases hg2 : ga2 = 0
       case neg =>
         have e1 : (ga2 == 0) = false := by rw [beq_eq_false_iff_ne]; exact hg2
         have e2 : (ga2 != 0) = true := by simp only [bne, e1, Bool.not_false]
         have hr2 := HRY.out.trans (if_pos (show vn < 1 ∨ 4096 < vn ∨ ga2 ≠ 0 from .inr (.inr hg2)))
         have HR2 := Lib.hid hr2
         clear hr2 hv2 hv1 hg2
         go_wp2
         refine bodyPost_ret (zaa rfl _ _ (r + 1) 27 _ (0, 0) _ rfl (by exact set4 HM4.out _ _ _ _) Tryz.underlying27 rfl (by exact zaC) _ rfl) rfl ?_
         rw [HR2.out]
         exact ⟨rfl, fin4 HS.out HB4.out (by rw [HRR.out]; exact Nat.le_succ _) (zag HM4.out) _ _ _ _⟩
       subst hg2
       have hr2 := HRY.out.trans (if_neg (show ¬ (vn < 1 ∨ 4096 < vn ∨ (0 : Int) ≠ 0) by rintro (h | h | h); exact hv1 h; exact hv2 h; exact h rfl))
       have HR2 := Lib.hid hr2
       clear hr2 hv2 hv1
       go_wp2
       refine bodyPost_ret (zaa rfl _ _ (r + 1) 27 _ (0, 0) _ rfl (by exact set4 ((heap_setCell_other _ _ _ _ (Ne.symm hpr1)).trans HM4.out) _ _ _ _) Tryz.underlying27 rfl (by exact zaC) _ rfl) rfl ?_
       rw [HR2.out]
       exact ⟨rfl, fin4a HS.out HB4.out (by rw [HRR.out]; exact Nat.le_succ _) (zag HM4.out) _ _ _ _ _⟩
end
end Go.Proofs.YtfafdeemfeaedaaGreat
