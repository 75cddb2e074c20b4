/-
  Our texts Xd2 to LawXParses, in one.
-/
import Derived.Test.YtfafdeemfeaedaaGreatPkP13
set_option maxRecDepth 8000
set_option maxHeartbeats 8000000
namespace Go.Proofs.YtfafdeemfeaedaaGreat
open Go.RowKit
theorem entR_bad {s : List UInt8} (h : (digitsV (s.take 10)).2 ≠ 0 ∨ (digitsV ((s.drop 11).take 5)).2 ≠ 0 ∨ 65535 < (digitsV ((s.drop 11).take 5)).1 ∨ s.getD 10 0 ≠ 32 ∨ s.getD 16 0 ≠ 32 ∨ (s.getD 17 0 ≠ 110 ∧ s.getD 17 0 ≠ 102) ∨
   (s.getD 18 0 ≠ 32 ∧ s.getD 18 0 ≠ 10 ∧ s.getD 18 0 ≠ 13)) : entS s = none := by unfold entS; rw [if_pos h]
theorem entR_ok {s : List UInt8} (h : ¬ ((digitsV (s.take 10)).2 ≠ 0 ∨ (digitsV ((s.drop 11).take 5)).2 ≠ 0 ∨ 65535 < (digitsV ((s.drop 11).take 5)).1 ∨ s.getD 10 0 ≠ 32 ∨ s.getD 16 0 ≠ 32 ∨ (s.getD 17 0 ≠ 110 ∧ s.getD 17 0 ≠ 102) ∨
   (s.getD 18 0 ≠ 32 ∧ s.getD 18 0 ≠ 10 ∧ s.getD 18 0 ≠ 13))) : (entS s).isNone = false := by unfold entS; rw [if_neg h]; rfl
theorem entR_some {s : List UInt8} (h : false = (entS s).isNone) : entS s = some { at_ := (digitsV (s.take 10)).1, gen := (digitsV ((s.drop 11).take 5)).1, used := s.getD 17 0 == 110 } := by
 unfold entS at h ⊢
 split at h
 · cases h
 · rename_i hn; rw [if_neg hn]
theorem bt_mkB {s : List UInt8} {k n : Nat} (h : s.length = n) (hk : k < n) : PlainAid.bt (mkB s) k = ((s.getD k 0).toNat : Int) := by
 have hk2 : k < (mkB s).size := by rw [mkB_size]; omega
 rw [← PlainAid.get_bt (mkB s) k hk2]
 congr 2
 have : bl (mkB s) = s := rfl
 rw [List.getD_eq_getElem?_getD, List.getElem?_eq_getElem (by omega)]
 rfl
theorem below_set3 {B : Nat} {w W : World} (h : Below B w W) {r : Nat} (hr : B ≤ r) (y0 y1 y2 : Value) : Below B w (((W.setCell ⟨r, 0, none⟩ y0).setCell ⟨r, 1, none⟩ y1).setCell ⟨r, 2, none⟩ y2) :=
 ((h.setCell hr _).setCell hr _).setCell hr _
theorem dentry_any {w : World} {a : Option Addr} {cap : Nat} {bs : List UInt8} (hr : Row w 1 a bs.length cap (bs.map u8C)) (hn : bs.length ≤ 400000) {k : Nat} (hk : k ≤ bs.length) (last : Bool) :
   Calls Tryz.prog 49 #[.slice a bs.length cap, .int .i64 k, .bool last] w (DEntEnd w (entV bs last k)) := by
 obtain ⟨V, hV⟩ : ∃ V, V = entV bs last k := ⟨_, rfl⟩
 rw [← hV]
 have HV := Lib.hid hV
 have hcp := hr.2.1
 have hcm := hr.i64c
 have HR := Lib.hid hr
 clear hr hV
 go_enter Tryz.func49, Tryz.ntmps49
 go_upto_block 0 with fail
 have HB1 := Lib.hid (belowA w (.cells #[.int .i64 0, .int .i64 0, .bool false] 44))
 obtain ⟨r, hr⟩ : ∃ r, r = w.heap.size := ⟨_, rfl⟩
 have HZ1 := Lib.hid (heapA_new (w := w) (b := r) (.cells #[.int .i64 0, .int .i64 0, .bool false] 44) hr)
 have HRR := Lib.hid (Nat.le_of_eq hr.symm)
 have HR1 := Lib.hid (HR.out.mono HB1.out)
 rw [← hr]
 clear hr HR
 generalize w.alloc _ = W1 at *
 obtain ⟨J, hJ⟩ : ∃ J, J = skipS bs k := ⟨_, rfl⟩
 have HJ := Lib.hid hJ
 clear hJ
 go_cut [1] from 14 (fun v wx => ∃ j : Nat, v = .int .i64 j ∧ j ≤ bs.length ∧ Hid (J = j) ∧ Hid (Below W1.heap.size W1 wx))
 case first =>
   go_wp2_with fail
   go_loopw [1] (fun v wr => ∃ j : Nat, v = .int .i64 j ∧ j ≤ bs.length ∧ Hid (skipS bs j = J) ∧ Hid (Below W1.heap.size W1 wr)) (fun v _ => bs.length - (intOf v).toNat)
   case atStart => exact ⟨k, rfl, hk, Lib.hid HJ.out.symm, Lib.hid (Below.refl _ _)⟩
   case round =>
     obtain ⟨j, rfl, hj, HSK, HB⟩ := hrel
     have hck : (j : Int) ≤ 400000 := by omega
     by_cases hjl : j < bs.length
     · obtain ⟨b, off, rfl, -, hcc⟩ := (HR1.out.mono HB.out).at 0 j hjl
       have hcj := hcc j hjl
       unfold u8C at hcj
       have hjd : decide ((j : Int) < bs.length) = true := by simp; omega
       have hjd2 : decide (j < bs.length) = true := by simp; omega
       have HSP := Lib.hid (fun W => rspace_any (bs.getD j 0).toNat W)
       rw [← spI_eq] at HSP
       have HG2 := Lib.hid (fun h => skip_go (bs := bs) hjl h)
       have HST := Lib.hid (fun h => skip_stop (bs := bs) hjl h)
       clear hcc
       generalize bs.getD j 0 = c at *
       obtain ⟨sp, hsp⟩ : ∃ sp, isSp c = sp := ⟨_, rfl⟩
       rw [hsp] at HSP
       have HSB := Lib.hid hsp
       clear hsp
       generalize c.toNat = x at *
       cases sp
       · go_wp2_with (go_at_call 85; refine (HSP.out _).mono ?_; rintro e w' ⟨rfl, rfl⟩)
         go_meet
         exact ⟨j, rfl, hj, Lib.hid (HSK.out.symm.trans (HST.out HSB.out)), Lib.hid HB.out⟩
       · go_wp2_with (go_at_call 85; refine (HSP.out _).mono ?_; rintro e w' ⟨rfl, rfl⟩)
         go_roundw
         case rel => exact ⟨j + 1, by go_num, by omega, Lib.hid ((HG2.out HSB.out).symm.trans HSK.out), Lib.hid HB.out⟩
         case measure => simp [intOf]; omega
     · have hje : j = bs.length := by omega
       have HJE := Lib.hid (show J = j by rw [← HSK.out, hje]; exact skip_end bs)
       have hjd : decide ((j : Int) < bs.length) = false := decide_eq_false (by omega)
       have hjd2 : decide (j < bs.length) = false := decide_eq_false (by omega)
       clear hje
       go_wp2_with fail
       go_meet
       exact ⟨j, rfl, hj, HJE, Lib.hid HB.out⟩
 case rest =>
   obtain ⟨j, rfl, hj, HJE, HB2⟩ := hcut
   have hck : (j : Int) ≤ 400000 := by omega
   generalize wc = W2 at *
   have HZ2 := Lib.hid (block_keep HB2.out HZ1.out)
   have HW2 := Lib.hid (HB1.out.trans (HB2.out.mono HB1.out.size))
   have HR2 := Lib.hid (HR1.out.mono HB2.out)
   clear HZ1 HR1
   by_cases hlen : bs.length < j + 19
   · have HV3 := Lib.hid (HV.out.trans (entV_cut (last := last) (HJ.out.symm.trans HJE.out) hlen))
     have hld : decide ((bs.length : Int) - j < 19) = true := decide_eq_true (by omega)
     clear hlen
     obtain ⟨⟨z0, z1, z2⟩, y0, y1, y2⟩ := cells3 HZ2.out
     cases last
     all_goals
       go_wp2
       refine bodyPost_ret (results_val3 rfl _ _ r 44 _ (0, 0) _ rfl (by exact set3a HZ2.out _ _ _) Tryz.underlying44 rfl (by exact infoEnt) _ _ rfl rfl) rfl ?_
       rw [HV3.out]
       exact ⟨rfl, below_set3 HW2.out HRR.out _ _ _⟩
   · have hjl : j < bs.length := by omega
     have hld : decide ((bs.length : Int) - j < 19) = false := decide_eq_false (by omega)
     obtain ⟨b2, off2, ha, -, -⟩ := HR2.out.at 0 j hjl
     subst ha
     have hj19 : j + 19 ≤ bs.length := by omega
     have HSL := Lib.hid (show ((bs.drop j).take 19).length = 19 by rw [List.length_take, List.length_drop]; omega)
     have hcv := conv_rowX (bs := (bs.drop j).take 19) (by rw [HSL.out]; exact row_cut HR2.out j 19 hj19)
     rw [HSL.out] at hcv
     have HEB := Lib.hid (fun h => HV.out.trans (entV_bad (last := last) (HJ.out.symm.trans HJE.out) hlen h))
     have HEO := Lib.hid (fun x h => HV.out.trans (entV_ok (last := last) (x := x) (HJ.out.symm.trans HJE.out) hlen h))
     have hC1 : 19 ≤ cap - j := by omega
     have hC2 : ((cap - j : Nat) : Int) ≤ 9223372036854775807 := by omega
     generalize (bs.drop j).take 19 = s at *
     clear hlen HJE HJ HV
     have hsz : (mkB s).size = 19 := by rw [mkB_size]; exact HSL.out
     have HDA := Lib.hid (fun W => rdigits_any ((mkB s).extract 0 10) W (by rw [ByteArray.size_extract]; omega))
     have HDG := Lib.hid (fun W => rdigits_any ((mkB s).extract 11 16) W (by rw [ByteArray.size_extract]; omega))
     rw [bl_ext, show bl (mkB s) = s from rfl] at HDA HDG
     simp only [List.drop_zero, Nat.sub_zero, show 16 - 11 = 5 from rfl] at HDA HDG
     unfold DigEnd at HDA HDG
     have hgb := PlainAid.get_bt (mkB s)
     have HB := Lib.hid (fun k h => bt_mkB (s := s) (k := k) HSL.out h)
     generalize mkB s = T at *
     obtain ⟨A, hA⟩ : ∃ A, A = digitsV (s.take 10) := ⟨_, rfl⟩
     obtain ⟨G, hG⟩ : ∃ G, G = digitsV ((s.drop 11).take 5) := ⟨_, rfl⟩
     rw [← hA] at HDA
     rw [← hG] at HDG
     have HA := Lib.hid hA
     have HGG := Lib.hid hG
     clear hA hG
     obtain ⟨an, ae⟩ := A
     obtain ⟨gn, ge⟩ := G
     simp only at HDA HDG
     go_upto_region 10 with (first
       | (go_at_call_of 86 (Value.string (T.extract 0 10)); refine (HDA.out _).mono ?_; rintro e w3 ⟨rfl, hb3⟩; have HB3 := Lib.hid hb3; clear hb3)
       | (go_at_call 86; refine (HDG.out _).mono ?_; rintro e w4 ⟨rfl, hb4⟩; have HB4 := Lib.hid hb4; clear hb4))
     have HZ4 := Lib.hid (block_keep HB4.out (block_keep HB3.out HZ2.out))
     have HW4 := Lib.hid ((HW2.out.trans (HB3.out.mono HW2.out.size)).trans (HB4.out.mono (HW2.out.trans (HB3.out.mono HW2.out.size)).size))
     have b10 := HB.out 10 (by decide)
     have b16 := HB.out 16 (by decide)
     have b17 := HB.out 17 (by decide)
     have b18 := HB.out 18 (by decide)
     obtain ⟨x10, hx10⟩ : ∃ x, (s.getD 10 0).toNat = x := ⟨_, rfl⟩
     obtain ⟨x16, hx16⟩ : ∃ x, (s.getD 16 0).toNat = x := ⟨_, rfl⟩
     obtain ⟨x17, hx17⟩ : ∃ x, (s.getD 17 0).toNat = x := ⟨_, rfl⟩
     obtain ⟨x18, hx18⟩ : ∃ x, (s.getD 18 0).toNat = x := ⟨_, rfl⟩
     rw [hx10] at b10
     rw [hx16] at b16
     rw [hx17] at b17
     rw [hx18] at b18
     have hq10 := (hgb 10 (by omega)).trans b10
     have hq16 := (hgb 16 (by omega)).trans b16
     have hq17 := (hgb 17 (by omega)).trans b17
     have hq18 := (hgb 18 (by omega)).trans b18
     have HX10 := Lib.hid hx10
     have HX16 := Lib.hid hx16
     have HX17 := Lib.hid hx17
     have HX18 := Lib.hid hx18
     clear hx10 hx16 hx17 hx18 b10 b16 b17 b18 hgb HB HB3 HB4 HZ2 HW2 HR2 HDA HDG hcv HB2
     obtain ⟨bd, hbd⟩ : ∃ bd, bd = (entS s).isNone := ⟨_, rfl⟩
     have HBD := Lib.hid hbd
     clear hbd
     generalize w4 = W4 at *
     go_cut [97] from 53 (fun v wx => v = .bool bd ∧ wx = W4)
     case first =>
       clear HEB HEO
       by_cases hA0 : ae = 0
       case neg =>
         obtain rfl : bd = true := by rw [HBD.out, entR_bad (.inl (by rw [← HA.out]; exact hA0))]; rfl
         have e0 : (ae == 0) = false := by rw [beq_eq_false_iff_ne]; exact hA0
         have f0 : (ae != 0) = true := by simp only [bne, e0, Bool.not_false]
         clear hA0
         go_wp2_with fail
         go_meet
         exact ⟨rfl, rfl⟩
       subst hA0
       by_cases hG0 : ge = 0
       case neg =>
         obtain rfl : bd = true := by rw [HBD.out, entR_bad (.inr (.inl (by rw [← HGG.out]; exact hG0)))]; rfl
         have e0 : (ge == 0) = false := by rw [beq_eq_false_iff_ne]; exact hG0
         have f0 : (ge != 0) = true := by simp only [bne, e0, Bool.not_false]
         clear hG0
         go_wp2_with fail
         go_meet
         exact ⟨rfl, rfl⟩
       subst hG0
       by_cases hG1 : 65535 < gn
       case pos =>
         obtain rfl : bd = true := by rw [HBD.out, entR_bad (.inr (.inr (.inl (by rw [← HGG.out]; exact hG1))))]; rfl
         go_wp2_with fail
         go_meet
         exact ⟨rfl, rfl⟩
       by_cases h10 : x10 = 32
       case neg =>
         obtain rfl : bd = true := by rw [HBD.out, entR_bad (.inr (.inr (.inr (.inl (fun e => h10 (by rw [← HX10.out, e]; rfl))))))]; rfl
         have e32 : ((x10 : Int) == 32) = false := by rw [beq_eq_false_iff_ne]; omega
         have f32 : ((x10 : Int) != 32) = true := by simp only [bne, e32, Bool.not_false]
         go_wp2_with fail
         go_meet
         exact ⟨rfl, rfl⟩
       subst h10
       by_cases h16 : x16 = 32
       case neg =>
         obtain rfl : bd = true := by rw [HBD.out, entR_bad (.inr (.inr (.inr (.inr (.inl (fun e => h16 (by rw [← HX16.out, e]; rfl)))))))]; rfl
         have e32 : ((x16 : Int) == 32) = false := by rw [beq_eq_false_iff_ne]; omega
         have f32 : ((x16 : Int) != 32) = true := by simp only [bne, e32, Bool.not_false]
         go_wp2_with fail
         go_meet
         exact ⟨rfl, rfl⟩
       subst h16
       by_cases h17 : x17 = 110 ∨ x17 = 102
       case neg =>
         obtain rfl : bd = true := by rw [HBD.out, entR_bad (.inr (.inr (.inr (.inr (.inr (.inl ⟨fun e => h17 (.inl (by rw [← HX17.out, e]; rfl)), fun e => h17 (.inr (by rw [← HX17.out, e]; rfl))⟩))))))]; rfl
         have e110 : ((x17 : Int) == 110) = false := by rw [beq_eq_false_iff_ne]; omega
         have f110 : ((x17 : Int) != 110) = true := by simp only [bne, e110, Bool.not_false]
         have e102 : ((x17 : Int) == 102) = false := by rw [beq_eq_false_iff_ne]; omega
         have f102 : ((x17 : Int) != 102) = true := by simp only [bne, e102, Bool.not_false]
         go_wp2_with fail
         go_meet
         exact ⟨rfl, rfl⟩
       by_cases h18 : x18 = 32 ∨ x18 = 10 ∨ x18 = 13
       case neg =>
         obtain rfl : bd = true := by rw [HBD.out, entR_bad (.inr (.inr (.inr (.inr (.inr (.inr (⟨fun e => h18 (.inl (by rw [← HX18.out, e]; rfl)), fun e => h18 (.inr (.inl (by rw [← HX18.out, e]; rfl))), fun e => h18 (.inr (.inr (by rw [← HX18.out, e]; rfl)))⟩)))))))]; rfl
         have e32 : ((x18 : Int) == 32) = false := by rw [beq_eq_false_iff_ne]; omega
         have f32 : ((x18 : Int) != 32) = true := by simp only [bne, e32, Bool.not_false]
         have e10 : ((x18 : Int) == 10) = false := by rw [beq_eq_false_iff_ne]; omega
         have f10 : ((x18 : Int) != 10) = true := by simp only [bne, e10, Bool.not_false]
         have e13 : ((x18 : Int) == 13) = false := by rw [beq_eq_false_iff_ne]; omega
         have f13 : ((x18 : Int) != 13) = true := by simp only [bne, e13, Bool.not_false]
         rcases h17 with rfl | rfl
         all_goals (go_wp2_with fail; go_meet; exact ⟨rfl, rfl⟩)
       obtain rfl : bd = false := by
         rw [HBD.out]
         refine entR_ok ?_
         rintro (h | h | h | h | h | h | h)
         · rw [← HA.out] at h; exact h rfl
         · rw [← HGG.out] at h; exact h rfl
         · rw [← HGG.out] at h; exact hG1 h
         · exact h (u8_of HX10.out rfl)
         · exact h (u8_of HX16.out rfl)
         · rcases h17 with e | e
           · exact h.1 (u8_of (HX17.out.trans e) rfl)
           · exact h.2 (u8_of (HX17.out.trans e) rfl)
         · rcases h18 with e | e | e
           · exact h.1 (u8_of (HX18.out.trans e) rfl)
           · exact h.2.1 (u8_of (HX18.out.trans e) rfl)
           · exact h.2.2 (u8_of (HX18.out.trans e) rfl)
       rcases h17 with rfl | rfl <;> rcases h18 with rfl | rfl | rfl
       all_goals (go_wp2_with fail; go_meet; exact ⟨rfl, rfl⟩)
     case rest =>
       obtain ⟨rfl, rfl⟩ := hcut
       obtain ⟨⟨z0, z1, z2⟩, y0, y1, y2⟩ := cells3 HZ4.out
       cases bd
       case true =>
         have HVB := Lib.hid (HEB.out (ent_isNone HBD.out))
         clear HEB HEO
         go_wp2
         refine bodyPost_ret (results_val3 rfl _ _ r 44 _ (0, 0) _ rfl (by exact set3a HZ4.out _ _ _) Tryz.underlying44 rfl (by exact infoEnt) _ _ rfl rfl) rfl ?_
         rw [HVB.out]
         exact ⟨rfl, below_set3 HW4.out HRR.out _ _ _⟩
       have HVO := Lib.hid (HEO.out _ (entR_some HBD.out))
       rw [← HA.out, ← HGG.out] at HVO
       have HU := Lib.hid (show (s.getD 17 0 == 110) = ((x17 : Int) == 110) by rw [← HX17.out]; exact u8_beq _ 110 110 rfl)
       rw [HU.out] at HVO
       clear HEB HEO HU HA HGG
       go_wp2
       refine bodyPost_ret (results_val3 rfl _ _ r 44 _ (0, 0) _ rfl (by exact set3a HZ4.out _ _ _) Tryz.underlying44 rfl (by exact infoEnt) _ _ rfl rfl) rfl ?_
       rw [HVO.out]
       exact ⟨rfl, below_set3 HW4.out HRR.out _ _ _⟩
structure EsM (w W : World) (g : Nat) (n : Int) (es : List Ent) (sv : Value) : Prop where
 blk : W.heap[g]? = some (.cells #[.int .i64 n, sv] 42 (0, 0))
 own : W.ownsRow w.heap.size 44 3 sv es.length (entsC es)
 kps : Keeps (fun b => b = g) w W
 gne : g < w.heap.size
theorem EsM.ne {w W : World} {g : Nat} {n : Int} {es : List Ent} {sv : Value} (h : EsM w W g n es sv) {b : Nat} (hb : sv.ownBlock = some b) : b ≠ g := by
 have := (h.own.lt b hb).1
 have := h.gne
 omega
theorem EsM.on {w W W' : World} {g : Nat} {n : Int} {es : List Ent} {sv : Value} (h : EsM w W g n es sv) (hk : Keeps (fun _ => False) W W') : EsM w W' g n es sv :=
 ⟨hk.obj h.blk (fun h => h), owns_heap h.own fun b hb => hk.block b (h.own.lt b hb).2 (fun h => h), h.kps.trans hk (fun x hx => (by cases hx)), h.gne⟩
theorem EsM.app {w W W8 : World} {o : Obj} {g : Nat} {n : Int} {es : List Ent} {sv : Value} (h : EsM w W g n es sv) (hg8 : (W.alloc o).grownBy W8 sv.ownBlock) {x : Ent} {v' : Value} (hO : W8.ownsRow w.heap.size 44 3 v' (es.length + 1) (entsC es ++ entC x)) :
   EsM w (W8.setCell ⟨g, 1, none⟩ v') g n (es ++ [x]) v' := by
 have hG : W8.heap[g]? = some (.cells #[.int .i64 n, sv] 42 (0, 0)) :=
   (hg8.block g (by rw [sizeA]; have := lt_of_heap h.blk; omega) (fun e => h.ne e.symm rfl)).trans (heapA_old _ h.blk)
 refine ⟨by rw [heap_setCell_same _ g 1 _ _ _ hG]; rfl, ?_, ((h.kps.alloc o).grown hg8 (fun k hk => .inr (h.own.lt k hk).1)).setCell (.inl rfl) _, h.gne⟩
 have h2 : entsC (es ++ [x]) = entsC es ++ entC x := by rw [entsC_append]; simp [entsC]
 rw [h2, List.length_append]
 refine owns_heap hO fun b hb => ?_
 obtain ⟨cs, hc⟩ := owns_type hO hb
 exact heap_setCell_other _ _ _ _ (type_ne hc hG (by decide))
theorem EsM.below {w W W' : World} {g : Nat} {n : Int} {es : List Ent} {sv : Value} (h : EsM w W g n es sv) (hb : Below W.heap.size W W') : EsM w W' g n es sv := h.on (keeps_below hb)
theorem EsM.outer {w W : World} {o : Obj} {g : Nat} {n : Int} {es : List Ent} {sv : Value} (h : EsM (w.alloc o) W g n es sv) (hg : g = w.heap.size) : Below w.heap.size w W :=
 (Keeps.trans (S := fun _ => False) (keeps_below (belowA w o)) h.kps (fun x hx => .inr (by omega))).below (Nat.le_refl _) (fun b hb => by cases hb)
theorem EsM.fin {w W : World} {g : Nat} {n : Int} {es : List Ent} {sv : Value} (h : EsM w W g n es sv) : IsE W (fun b => w.heap.size ≤ b) es sv := isE_own h.own
structure PsM (w W0 W : World) (r p : Nat) (gs : List Grp) (cs : List Value) (v : Value) : Prop where
 sb : W.heap[p]? = some (.cells #[v, .int .i64 0, .int .i64 0, .string ⟨#[]⟩, .slice none 0 0] 33 (0, 0))
 rb : W.heap[r]? = some (.cells #[.slice none 0 0, .int .i64 0, .int .i64 0, .string ⟨#[]⟩, .slice none 0 0] 33 (0, 0))
 gm : GsM W0 W p gs cs v
 bel : Below w.heap.size w W
 lt : w.heap.size ≤ r ∧ r < p ∧ p < W0.heap.size
theorem PsM.on {w W0 W W' : World} {r p : Nat} {gs : List Grp} {cs : List Value} {v : Value} (h : PsM w W0 W r p gs cs v) (hb : Below W.heap.size W W') : PsM w W0 W' r p gs cs v :=
 ⟨block_keep hb h.sb, block_keep hb h.rb, h.gm.on h.lt.2.2 (keeps_below hb), h.bel.trans (hb.mono h.bel.size), h.lt⟩
theorem PsM.app {w W0 W W8 : World} {r p : Nat} {o : Obj} {gs : List Grp} {cs : List Value} {v v' : Value} (h : PsM w W0 W r p gs cs v) (hg8 : (W.alloc o).grownBy W8 v.ownBlock) {n : Int} {es : List Ent} {sv : Value} (hG : GsM W0 W8 p (gs ++ [⟨n, es⟩]) (cs ++ [.int .i64 n, sv]) v') :
   PsM w W0 (W8.setCell ⟨p, 0, none⟩ v') r p (gs ++ [⟨n, es⟩]) (cs ++ [.int .i64 n, sv]) v' := by
 have hnp : ∀ {b}, v.ownBlock = some b → b ≠ p ∧ b ≠ r := fun {b} hb => by
   have := (h.gm.own.lt b hb).1
   have := h.lt
   omega
 have hP : W8.heap[p]? = some (.cells #[v, .int .i64 0, .int .i64 0, .string ⟨#[]⟩, .slice none 0 0] 33 (0, 0)) :=
   (hg8.block p (by rw [sizeA]; have := lt_of_heap h.sb; omega) (fun e => (hnp e.symm).1 rfl)).trans (heapA_old _ h.sb)
 have hR : W8.heap[r]? = some (.cells #[.slice none 0 0, .int .i64 0, .int .i64 0, .string ⟨#[]⟩, .slice none 0 0] 33 (0, 0)) :=
   (hg8.block r (by rw [sizeA]; have := lt_of_heap h.rb; omega) (fun e => (hnp e.symm).2 rfl)).trans (heapA_old _ h.rb)
 refine ⟨by rw [heap_setCell_same _ p 0 _ _ _ hP]; rfl, ?_, hG.on h.lt.2.2 ((Keeps.refl (fun b => b = p) W8).setCell (a := ⟨p, 0, none⟩) (.inl rfl) _), ?_, h.lt⟩
 · rw [heap_setCell_other _ _ _ _ (show r ≠ p by have := h.lt; omega)]; exact hR
 · have h1 : Below w.heap.size w W8 := (h.bel.alloc h.bel.size o).grown hg8 (by have := (h.bel.alloc h.bel.size o).size; omega) (fun b hb => by have := (h.gm.own.lt b hb).1; have := h.lt; omega)
   have h2 : w.heap.size ≤ (⟨p, 0, none⟩ : Addr).block := by have := h.lt; show w.heap.size ≤ p; omega
   exact h1.setCell h2 _
theorem infoRSecD : (Tryz.prog.info? 33).map (·.size) = some 5 := by kernel_rfl
theorem PsM.atP {w W0 W W8 : World} {r p : Nat} {o : Obj} {gs : List Grp} {cs : List Value} {v : Value} (h : PsM w W0 W r p gs cs v) (hg8 : (W.alloc o).grownBy W8 v.ownBlock) :
   W8.heap[p]? = some (.cells #[v, .int .i64 0, .int .i64 0, .string ⟨#[]⟩, .slice none 0 0] 33 (0, 0)) :=
 (hg8.block p (by rw [sizeA]; have := lt_of_heap h.sb; omega) (fun e => by have := (h.gm.own.lt p e.symm).1; have := h.lt; omega)).trans (heapA_old _ h.sb)
theorem PsM.ret {w W0 W : World} {r p : Nat} {gs : List Grp} {cs : List Value} {v : Value} (h : PsM w W0 W r p gs cs v) {V : Sec × Int × Int} {e : Int} (hV : V = (Sec.none, 0, e)) (y0 y1 y2 y3 y4 : Value) :
   SecEnd w V (.returned (.tuple #[.agg #[.slice none 0 0, .int .i64 0, .int .i64 0, .string ⟨#[]⟩, .slice none 0 0], .int .i64 0, .int .i64 e])) (((((W.setCell ⟨r, 0, none⟩ y0).setCell ⟨r, 1, none⟩ y1).setCell ⟨r, 2, none⟩ y2).setCell ⟨r, 3, none⟩ y3).setCell ⟨r, 4, none⟩ y4) :=
 sec_no hV h.bel h.lt.1 y0 y1 y2 y3 y4
theorem EsM.atG {w W W8 : World} {o : Obj} {g : Nat} {n : Int} {es : List Ent} {sv : Value} (h : EsM w W g n es sv) (hg8 : (W.alloc o).grownBy W8 sv.ownBlock) : W8.heap[g]? = some (.cells #[.int .i64 n, sv] 42 (0, 0)) :=
 (hg8.block g (by rw [sizeA]; have := lt_of_heap h.blk; omega) (fun e => h.ne e.symm rfl)).trans (heapA_old _ h.blk)
theorem set4p {w : World} {b : Nat} {x0 x1 x2 x3 x4 : Value} {t : TypeId} (h : w.heap[b]? = some (.cells #[x0, x1, x2, x3, x4] t (0, 0))) (y1 y2 y3 y4 : Value) :
   ((((w.setCell ⟨b, 1, none⟩ y1).setCell ⟨b, 2, none⟩ y2).setCell ⟨b, 3, none⟩ y3).setCell ⟨b, 4, none⟩ y4).heap[b]? = some (.cells #[x0, y1, y2, y3, y4] t (0, 0)) := by
 rw [heap_setCell_same _ _ 4 _ _ _ (heap_setCell_same _ _ 3 _ _ _ (heap_setCell_same _ _ 2 _ _ _ (heap_setCell_same w _ 1 _ _ _ h)))]; rfl
theorem set4p_other {w : World} {b c : Nat} (hc : c ≠ b) (y1 y2 y3 y4 : Value) : ((((w.setCell ⟨b, 1, none⟩ y1).setCell ⟨b, 2, none⟩ y2).setCell ⟨b, 3, none⟩ y3).setCell ⟨b, 4, none⟩ y4).heap[c]? = w.heap[c]? := by
 rw [heap_setCell_other _ _ _ _ hc, heap_setCell_other _ _ _ _ hc, heap_setCell_other _ _ _ _ hc, heap_setCell_other _ _ _ _ hc]
theorem set4p_size (w : World) (b : Nat) (y1 y2 y3 y4 : Value) : ((((w.setCell ⟨b, 1, none⟩ y1).setCell ⟨b, 2, none⟩ y2).setCell ⟨b, 3, none⟩ y3).setCell ⟨b, 4, none⟩ y4).heap.size = w.heap.size := by simp [World.setCell]
theorem below_set4p {B : Nat} {w0 w : World} (h : Below B w0 w) {b : Nat} (hb : B ≤ b) (y1 y2 y3 y4 : Value) : Below B w0 ((((w.setCell ⟨b, 1, none⟩ y1).setCell ⟨b, 2, none⟩ y2).setCell ⟨b, 3, none⟩ y3).setCell ⟨b, 4, none⟩ y4) :=
 (((h.setCell hb _).setCell hb _).setCell hb _).setCell hb _
def grpsR (bs : List UInt8) (last : Bool) (g : Nat) (gs : List Grp) (x : Tk) (U : Tk × Int × Int × Int) : List Grp × Int × Int :=
 if wholeV x = false then ([], 0, 20) else if U.2.2.2 ≠ 0 then ([], 0, U.2.2.2) else if wholeV U.1 = false ∨ gs.length = 64 ∨ fitsV x.vn U.1.vn = false then ([], 0, 20)
 else if (entsV bs last U.1.vn.toNat U.2.2.1.toNat []).2.2 ≠ 0 then ([], 0, (entsV bs last U.1.vn.toNat U.2.2.1.toNat []).2.2)
 else grpsV bs last g (gs ++ [⟨x.vn, (entsV bs last U.1.vn.toNat U.2.2.1.toNat []).1⟩]) ((entsV bs last U.1.vn.toNat U.2.2.1.toNat []).2.1 : Int)
theorem grps_all {bs : List UInt8} {last : Bool} {g : Nat} {gs : List Grp} {k : Int} (he : (nxtV bs last k).2.2.2 = 0) (ht : trailT (nxtV bs last k).1 = false) :
   grpsV bs last (g + 1) gs k = grpsR bs last g gs (nxtV bs last k).1 (nxtV bs last (nxtV bs last k).2.2.1) := by
 conv => lhs; unfold grpsV
 unfold grpsR
 simp only
 rw [if_neg (by rw [he]; decide), if_neg (by rw [ht]; decide)]
set_option maxHeartbeats 16000000 in
theorem dparse_any {w : World} {a : Option Addr} {cap : Nat} {bs : List UInt8} (hr : Row w 1 a bs.length cap (bs.map u8C)) (hn : bs.length ≤ 390000) (k : Int) (last : Bool) :
   Calls Tryz.prog 12 #[.slice a bs.length cap, .int .i64 k, .bool last] w (SecEnd w (secV bs last k)) := by
 have HW := Lib.hid (fun (W : World) (h : Below w.heap.size w W) => rword_any (hr.mono h) (by omega) k last [120, 114, 101, 102])
 have HOL := Lib.hid (fun h => oneX_le (bs := bs) (last := last) (k := k) (p := xrefT) h)
 obtain ⟨o1, o2⟩ := oneW_X xrefT (nextV bs k last)
 unfold WordEnd12 at HW
 rw [show wordT [120, 114, 101, 102] = xrefT from rfl, o1, o2] at HW
 clear o1 o2
 obtain ⟨V, hV⟩ : ∃ V, V = secV bs last k := ⟨_, rfl⟩
 rw [← hV]
 unfold secV at hV
 simp only at hV
 generalize oneX xrefT (nextV bs k last) = O at *
 obtain ⟨ot, oe⟩ := O
 simp only at hV HW HOL
 have HV := Lib.hid hV
 have HRB := Lib.hid hr
 clear hV hr
 obtain ⟨r, hr⟩ : ∃ r, r = w.heap.size := ⟨_, rfl⟩
 have HZ1 := Lib.hid (heapA_old (.cells #[.slice none 0 0, .int .i64 0, .int .i64 0, .string ⟨#[]⟩, .slice none 0 0] 33) (heapA_new (w := w) (b := r) (.cells #[.slice none 0 0, .int .i64 0, .int .i64 0, .string ⟨#[]⟩, .slice none 0 0] 33) hr))
 have HP1 := Lib.hid (heapA_new (w := w.alloc (.cells #[.slice none 0 0, .int .i64 0, .int .i64 0, .string ⟨#[]⟩, .slice none 0 0] 33)) (b := r + 1) (.cells #[.slice none 0 0, .int .i64 0, .int .i64 0, .string ⟨#[]⟩, .slice none 0 0] 33) (by rw [sizeA, hr]))
 have HB1 := Lib.hid (belowA2 w (.cells #[.slice none 0 0, .int .i64 0, .int .i64 0, .string ⟨#[]⟩, .slice none 0 0] 33) (.cells #[.slice none 0 0, .int .i64 0, .int .i64 0, .string ⟨#[]⟩, .slice none 0 0] 33))
 have HRW := Lib.hid (Nat.le_of_eq hr.symm)
 go_enter Tryz.func12, Tryz.ntmps12
 go_upto_region 2 with fail
 try rw [← hr]
 clear hr
 generalize World.alloc _ _ = W1 at *
 have HPR := Lib.hid (show r < r + 1 from Nat.lt_succ_self r)
 generalize r + 1 = p at *
 go_wp2_with fail
 refine (HW.out _ HB1.out).mono ?_
 rintro e w2 ⟨rfl, hb2⟩
 have HZ2 := Lib.hid (block_keep hb2 HZ1.out)
 have HP2 := Lib.hid (block_keep hb2 HP1.out)
 have HB2 := Lib.hid (HB1.out.trans (hb2.mono HB1.out.size))
 clear HZ1 HP1 HB1 HW hb2
 obtain ⟨⟨z0, z1, z2, z3, z4⟩, y0, y1, y2, y3, y4⟩ := cells5 HZ2.out
 by_cases hoe : oe = 0
 case neg =>
   have HV2 := Lib.hid (HV.out.trans (if_pos hoe))
   have e0 : (oe == 0) = false := by rw [beq_eq_false_iff_ne]; exact hoe
   have e1 : (oe != 0) = true := by simp only [bne, e0, Bool.not_false]
   clear hoe
   go_wp2
   refine bodyPost_ret (results_val3 rfl _ _ r 33 _ (0, 0) _ rfl (by exact set5 HZ2.out _ _ _ _ _) Tryz.underlying33 rfl (by exact infoRSecD) _ _ rfl rfl) rfl ?_
   exact sec_no HV2.out HB2.out HRW.out _ _ _ _ _
 subst hoe
 have HV2 := Lib.hid (HV.out.trans (if_neg (by simp)))
 obtain ⟨ho1, ho2⟩ := HOL.out rfl
 obtain ⟨G, hG⟩ : ∃ G, G = grpsV bs last 65 [] ot := ⟨_, rfl⟩
 rw [← hG] at HV2
 have HG := Lib.hid hG
 have HPM := Lib.hid (show PsM w w2 w2 r p [] [] (.slice none 0 0) from ⟨HP2.out, HZ2.out, ⟨World.ownsRow_nil _ _ _ _, rfl, Keeps.refl _ _⟩, HB2.out, HRW.out, HPR.out, lt_of_heap HP2.out⟩)
 clear hG HV HOL HZ2 HP2 HB2 z0 z1 z2 z3 z4 y0 y1 y2 y3 y4
 go_wp2_with fail
 go_loopw [1, 11] (fun v c wr => ∃ (gs : List Grp) (k2 : Int) (cs : List Value) (gv : Value), v = .int .i64 k2 ∧ c = .int .i64 gs.length ∧ gs.length ≤ 64 ∧ 0 ≤ k2 ∧ k2 ≤ bs.length ∧ Hid (PsM w w2 wr r p gs cs gv) ∧ Hid (G = grpsV bs last (65 - gs.length) gs k2)) (fun _ c _ => 65 - (intOf c).toNat)
 case atStart => exact ⟨[], ot, [], .slice none 0 0, rfl, rfl, by simp, ho1, ho2, HPM, HG⟩
 case round =>
   obtain ⟨gs, k2, cs, gv, rfl, rfl, hgl, hk0, hk1, HPM, HQ⟩ := hrel
   obtain ⟨sa, sc, rfl, -, -⟩ := owns_slice HPM.out.gm.own
   have HN := Lib.hid (dnext_any (HRB.out.mono HPM.out.bel) (by omega) k2 last)
   have hto := nextV_to (bs := bs) (k := k2) last hk0 hk1
   rw [← nxt_3] at hto
   obtain ⟨m, hm⟩ : ∃ m, m + 1 = 65 - gs.length := ⟨64 - gs.length, by omega⟩
   have hQ := HQ.out
   rw [← hm] at hQ
   have HM := Lib.hid hm
   have hg64 : decide ((gs.length : Int) ≤ 64) = true := decide_eq_true (by omega)
   have hg64n : decide (gs.length ≤ 64) = true := decide_eq_true hgl
   have HQE := Lib.hid (fun he => hQ.trans (grps_err he))
   have HQT := Lib.hid (fun he ht => hQ.trans (grps_trail he ht))
   have HQA := Lib.hid (fun he ht => hQ.trans (grps_all he ht))
   have HN2 := Lib.hid (fun (W : World) (hI : Below w.heap.size w W) => dnext_any (HRB.out.mono hI) (by omega) (nxtV bs last k2).2.2.1 last)
   have HTI := Lib.hid (trail_iff (nxtV bs last k2).1)
   have HWX := Lib.hid (fun W => r15whole_tk (nxtV bs last k2).1 (nxtV bs last k2).2.1 (nxtV bs last k2).2.2.1 W)
   have HSQ := Lib.hid (eq_mkB (nxtV bs last k2).1.s [116, 114, 97, 105, 108, 101, 114])
   have HPV := Lib.hid (fun (W : World) (h : Below w.heap.size w W) => rvalue_any (HRB.out.mono h) (by omega) last (nxtV bs last k2).2.2.1)
   clear hm hQ HQ
   generalize nxtV bs last k2 = U at *
   obtain ⟨x, f, t, E⟩ := U
   simp only at hto HN HQE HQT HQA HN2 HTI HWX HSQ HPV
   have hto2 := nextV_to (bs := bs) (k := t) last (by omega) hto.2
   rw [← nxt_3] at hto2
   generalize nxtV bs last t = U2 at *
   obtain ⟨y, f2, t2, E2⟩ := U2
   unfold grpsR at HQA
   simp only at HQA HN2 hto2
   have HWY := Lib.hid (fun W => r15whole_tk y f2 t2 W)
   unfold NxtEnd tokN at HN HN2
   simp only at HN HN2
   unfold tokN at HWX HWY
   obtain ⟨tr, htr⟩ : ∃ tr, tr = decide (x.s = [116, 114, 97, 105, 108, 101, 114]) := ⟨_, rfl⟩
   rw [← htr] at HTI HSQ
   rw [HTI.out] at HQT HQA
   clear htr HTI
   generalize wholeV x = wx at *
   generalize wholeV y = wy at *
   generalize x.kind = a0 at *
   generalize x.vk = a1 at *
   generalize x.vn = a2 at *
   generalize mkB x.vs = s1 at *
   generalize mkB x.s = s2 at *
   generalize y.kind = b0 at *
   generalize y.vk = b1 at *
   generalize y.vn = b2 at *
   generalize mkB y.vs = q1 at *
   generalize mkB y.s = q2 at *
   go_wp2_with fail
   refine HN.out.mono ?_
   rintro e w3 ⟨rfl, hb3⟩
   have hb3a := hb3.alloc hb3.size (.cells #[.int .i64 a0, .int .i64 f, .int .i64 t, .int .i64 a1, .int .i64 a2, .string s1, .slice none 0 0, .string s2] 111)
   have HT3 := Lib.hid (heapA_new (w := w3) (b := w3.heap.size) (.cells #[.int .i64 a0, .int .i64 f, .int .i64 t, .int .i64 a1, .int .i64 a2, .string s1, .slice none 0 0, .string s2] 111) rfl)
   have HP3 := Lib.hid (HPM.out.on hb3a)
   clear hb3 hb3a HN HPM
   go_upto_region 9 with fail
   obtain ⟨T, hT⟩ : ∃ T, T = w3.heap.size := ⟨_, rfl⟩
   rw [← hT] at HT3 ⊢
   clear hT
   generalize World.alloc _ _ = W3 at *
   obtain ⟨⟨v0, v1, v2, v3, v4, v5, v6, v7⟩, -⟩ := cells8 HT3.out
   by_cases hE : E = 0
   case neg =>
     have HG3 := HQE.out hE
     have HVF := Lib.hid (show V = (Sec.none, 0, E) from HV2.out.trans (by rw [HG3]; exact if_pos hE))
     have e0 : (E == 0) = false := by rw [beq_eq_false_iff_ne]; exact hE
     have e1 : (E != 0) = true := by simp only [bne, e0, Bool.not_false]
     obtain ⟨⟨z0, z1, z2, z3, z4⟩, y0, y1, y2, y3, y4⟩ := cells5 HP3.out.rb
     clear hE HG3
     go_wp2
     refine bodyPost_ret (results_val3 rfl _ _ r 33 _ (0, 0) _ rfl (by exact set5 HP3.out.rb _ _ _ _ _) Tryz.underlying33 rfl (by exact infoRSecD) _ _ rfl rfl) rfl ?_
     exact HP3.out.ret HVF.out _ _ _ _ _
   subst hE
   have hsq := HSQ.out
   obtain ⟨k6, hk6⟩ : ∃ k6, k6 = (a0 == 6) := ⟨_, rfl⟩
   rw [← hk6] at HQT HQA
   have HK6 := Lib.hid hk6
   obtain ⟨tb, htb⟩ : ∃ tb, tb = (k6 && tr) := ⟨_, rfl⟩
   rw [← htb] at HQT HQA
   have HTB := Lib.hid htb
   clear htb hk6
   go_upto_region 11 with fail
   go_cut [59] from 37 to 143 (fun v wx => v = .bool tb ∧ wx = W3)
   case first =>
     clear HQT HQA HQE HN2 HPV
     cases k6
     · have e6 := HK6.out.symm
       obtain rfl : tb = false := HTB.out
       go_wp2_with fail
       go_meet
       exact ⟨rfl, rfl⟩
     · have e6 := HK6.out.symm
       obtain rfl : tb = tr := HTB.out
       go_wp2_with fail
       go_meet
       exact ⟨rfl, rfl⟩
   case rest =>
   obtain ⟨rfl, hw⟩ := hcut
   subst hw
   clear hsq HSQ HK6 HTB
   cases tb
   case true =>
     have HG3 := HQT.out rfl rfl
     have HV3 := Lib.hid (show V = if (wholeD bs last t).2.2 ≠ 0 then (Sec.none, 0, (wholeD bs last t).2.2) else if (wholeD bs last t).1.kind ≠ 7 then (Sec.none, 0, 20) else (⟨gs, (wholeD bs last t).1⟩, (wholeD bs last t).2.1, 0) from HV2.out.trans (by rw [HG3]; exact if_neg (fun h => h rfl)))
     generalize wholeD bs last t = P at *
     obtain ⟨pv, xt, xe⟩ := P
     unfold DocEnd at HPV
     simp only at HV3 HPV
     clear HQT HQA HQE HN2 HG3
     go_wp2_with fail
     refine (HPV.out _ HP3.out.bel).mono ?_
     rintro e w5 ⟨sl, rfl, hx5, hb5⟩
     obtain ⟨la, lc, rfl, -, -, -⟩ := hx5.len
     simp only [pvA]
     have hb5a := hb5.alloc hb5.size (.cells #[.int .i64 pv.kind, .int .i64 pv.n, .string (mkB pv.s), .slice la pv.l.length lc] 27)
     have HT5 := Lib.hid (heapA_new (w := w5) (b := w5.heap.size) (.cells #[.int .i64 pv.kind, .int .i64 pv.n, .string (mkB pv.s), .slice la pv.l.length lc] 27) rfl)
     have HX5 := Lib.hid (hx5.below (belowA w5 (.cells #[.int .i64 pv.kind, .int .i64 pv.n, .string (mkB pv.s), .slice la pv.l.length lc] 27)))
     have HP5 := Lib.hid (HP3.out.on hb5a)
     have HWS := Lib.hid (lt_of_heap HP3.out.sb)
     clear hb5 hb5a hx5 HPV HP3 HT3 v0 v1 v2 v3 v4 v5 v6 v7
     go_upto_region 33 with fail
     generalize w5.heap.size = T5 at *
     generalize World.alloc _ _ = W5 at *
     obtain ⟨⟨t0, t1, t2', t3⟩, -⟩ := cells4 HT5.out
     obtain ⟨⟨z0, z1, z2, z3, z4⟩, y0, y1, y2, y3, y4⟩ := cells5 HP5.out.rb
     by_cases hxe : xe = 0
     case neg =>
       have HV4 := Lib.hid (HV3.out.trans (if_pos hxe))
       have e0 : (xe == 0) = false := by rw [beq_eq_false_iff_ne]; exact hxe
       have e1 : (xe != 0) = true := by simp only [bne, e0, Bool.not_false]
       clear hxe HX5
       go_wp2
       refine bodyPost_ret (results_val3 rfl _ _ r 33 _ (0, 0) _ rfl (by exact set5 HP5.out.rb _ _ _ _ _) Tryz.underlying33 rfl (by exact infoRSecD) _ _ rfl rfl) rfl ?_
       exact HP5.out.ret HV4.out _ _ _ _ _
     subst hxe
     have HV4 := Lib.hid (HV3.out.trans (if_neg (by simp)))
     clear HV3
     by_cases hxk : pv.kind = 7
     case neg =>
       have HV5 := Lib.hid (HV4.out.trans (if_pos hxk))
       have e0 : (pv.kind == 7) = false := by rw [beq_eq_false_iff_ne]; exact hxk
       have e1 : (pv.kind != 7) = true := by simp only [bne, e0, Bool.not_false]
       clear hxk HX5 HV4
       generalize pv.kind = xk at *
       go_wp2
       refine bodyPost_ret (results_val3 rfl _ _ r 33 _ (0, 0) _ rfl (by exact set5 HP5.out.rb _ _ _ _ _) Tryz.underlying33 rfl (by exact infoRSecD) _ _ rfl rfl) rfl ?_
       exact HP5.out.ret HV5.out _ _ _ _ _
     have HV5 := Lib.hid (HV4.out.trans (if_neg (fun h => h hxk)))
     have e0 : (pv.kind == 7) = true := by rw [beq_iff_eq]; exact hxk
     have e1 : (pv.kind != 7) = false := by simp only [bne, e0, Bool.not_true]
     clear hxk HV4
     have HSC := Lib.hid (show IsSec W5 (fun b => p < b) ⟨gs, pv⟩ (.slice sa gs.length sc) (.slice la pv.l.length lc) from
       ⟨HP5.out.gm.fin.keep (Stays.refl _ _) (fun b hb => by have := HP5.out.lt; show p < b; omega), HX5.out.keep (Stays.refl _ _) (fun b hb => by have := HWS.out; show p < b; omega)⟩)
     have HPA := Lib.hid (show secA ⟨gs, pv⟩ (.slice sa gs.length sc) (.slice la pv.l.length lc) = .agg #[.slice sa gs.length sc, .int .i64 pv.kind, .int .i64 pv.n, .string (mkB pv.s), .slice la pv.l.length lc] from rfl)
     generalize pv.kind = xk at *
     generalize pv.n = xn at *
     generalize mkB pv.s = xb at *
     obtain ⟨⟨g0, g1, g2, g3, g4⟩, h0, h1, h2, h3, h4⟩ := cells5 HP5.out.sb
     have HS6 := Lib.hid (set4p HP5.out.sb (.int .i64 xk) (.int .i64 xn) (.string xb) (.slice la pv.l.length lc))
     have HR6 := Lib.hid ((set4p_other (w := W5) (b := p) (c := r) (by have := HP5.out.lt; omega) (.int .i64 xk) (.int .i64 xn) (.string xb) (.slice la pv.l.length lc)).trans HP5.out.rb)
     have HB6 := Lib.hid (below_set4p HP5.out.bel (b := p) (by have := HP5.out.lt; omega) (.int .i64 xk) (.int .i64 xn) (.string xb) (.slice la pv.l.length lc))
     have HC6 := Lib.hid (show IsSec ((((W5.setCell ⟨p, 1, none⟩ (.int .i64 xk)).setCell ⟨p, 2, none⟩ (.int .i64 xn)).setCell ⟨p, 3, none⟩ (.string xb)).setCell ⟨p, 4, none⟩ (.slice la pv.l.length lc)) (fun b => p < b) ⟨gs, pv⟩ (.slice sa gs.length sc) (.slice la pv.l.length lc) from
       HSC.out.keep ⟨Nat.le_of_eq (set4p_size _ _ _ _ _ _).symm, fun b hb hF => set4p_other (by omega) _ _ _ _⟩ (fun _ h => h))
     have HRP := Lib.hid HP5.out.lt
     clear HX5 HSC HP5 z0 z1 z2 z3 z4 y0 y1 y2 y3 y4
     go_upto_region 38 with fail
     generalize World.setCell (World.setCell (World.setCell (World.setCell W5 _ _) _ _) _ _) _ _ = W6 at *
     clear g0 g1 g2 g3 g4 h0 h1 h2 h3 h4 t0 t1 t2' t3 HT5
     obtain ⟨⟨g0, g1, g2, g3, g4⟩, -⟩ := cells5 HS6.out
     obtain ⟨⟨z0, z1, z2, z3, z4⟩, y0, y1, y2, y3, y4⟩ := cells5 HR6.out
     go_wp2
     refine bodyPost_ret (results_val3 rfl _ _ r 33 _ (0, 0) _ rfl (by exact set5 HR6.out _ _ _ _ _) Tryz.underlying33 rfl (by exact infoRSecD) _ _ rfl rfl) rfl ?_
     rw [HV5.out]
     refine ⟨.slice sa gs.length sc, .slice la pv.l.length lc, by rw [HPA.out]; rfl, ?_, below_set5 HB6.out HRP.out.1 _ _ _ _ _⟩
     refine (sec_set5 (B := r + 1) (HC6.out.keep (Stays.refl _ _) (fun b hb => by have := HRP.out; show r + 1 ≤ b; omega)) (Nat.lt_succ_self r) _ _ _ _ _).keep (Stays.refl _ _) (fun b hb => by have := HRP.out; show w.heap.size ≤ b; omega)
   have HQA2 := Lib.hid (HQA.out rfl rfl)
   clear HQT HQA HQE HPV
   go_wp2_with fail
   refine (HWX.out _).mono ?_
   rintro e w4 ⟨rfl, hb4⟩
   have HP4 := Lib.hid (HP3.out.on hb4)
   have HT4 := Lib.hid (block_keep hb4 HT3.out)
   clear hb4 HP3 HT3 HWX v0 v1 v2 v3 v4 v5 v6 v7
   obtain ⟨⟨v0, v1, v2, v3, v4, v5, v6, v7⟩, -⟩ := cells8 HT4.out
   cases wx
   case false =>
     have HG3 := HQA2.out.trans (if_pos rfl)
     have HVF := Lib.hid (show V = (Sec.none, 0, 20) from HV2.out.trans (by rw [HG3]; exact if_pos (by decide)))
     obtain ⟨⟨z0, z1, z2, z3, z4⟩, y0, y1, y2, y3, y4⟩ := cells5 HP4.out.rb
     clear HG3 HQA2 HN2
     go_wp2
     refine bodyPost_ret (results_val3 rfl _ _ r 33 _ (0, 0) _ rfl (by exact set5 HP4.out.rb _ _ _ _ _) Tryz.underlying33 rfl (by exact infoRSecD) _ _ rfl rfl) rfl ?_
     exact HP4.out.ret HVF.out _ _ _ _ _
   have HQB := Lib.hid (HQA2.out.trans (if_neg (by decide)))
   have HN2b := Lib.hid (HN2.out _ HP4.out.bel)
   clear HQA2 HN2
   go_wp2_with fail
   refine HN2b.out.mono ?_
   rintro e w5 ⟨rfl, hb5⟩
   have hb5a := hb5.alloc hb5.size (.cells #[.int .i64 b0, .int .i64 f2, .int .i64 t2, .int .i64 b1, .int .i64 b2, .string q1, .slice none 0 0, .string q2] 111)
   have HY5 := Lib.hid (heapA_new (w := w5) (b := w5.heap.size) (.cells #[.int .i64 b0, .int .i64 f2, .int .i64 t2, .int .i64 b1, .int .i64 b2, .string q1, .slice none 0 0, .string q2] 111) rfl)
   have HT5 := Lib.hid (block_keep hb5a HT4.out)
   have HP5 := Lib.hid (HP4.out.on hb5a)
   clear hb5 hb5a HN2b HP4 HT4 v0 v1 v2 v3 v4 v5 v6 v7
   go_upto_region 16 with fail
   obtain ⟨Y, hY⟩ : ∃ Y, Y = w5.heap.size := ⟨_, rfl⟩
   rw [← hY] at HY5 ⊢
   clear hY
   generalize World.alloc _ _ = W5 at *
   obtain ⟨⟨v0, v1, v2, v3, v4, v5, v6, v7⟩, -⟩ := cells8 HT5.out
   obtain ⟨⟨u0, u1, u2, u3, u4, u5, u6, u7⟩, -⟩ := cells8 HY5.out
   by_cases hE2 : E2 = 0
   case neg =>
     have HG3 := HQB.out.trans (if_pos hE2)
     have HVF := Lib.hid (show V = (Sec.none, 0, E2) from HV2.out.trans (by rw [HG3]; exact if_pos hE2))
     have e0 : (E2 == 0) = false := by rw [beq_eq_false_iff_ne]; exact hE2
     have e1 : (E2 != 0) = true := by simp only [bne, e0, Bool.not_false]
     obtain ⟨⟨z0, z1, z2, z3, z4⟩, y0, y1, y2, y3, y4⟩ := cells5 HP5.out.rb
     clear hE2 HG3 HQB
     go_wp2
     refine bodyPost_ret (results_val3 rfl _ _ r 33 _ (0, 0) _ rfl (by exact set5 HP5.out.rb _ _ _ _ _) Tryz.underlying33 rfl (by exact infoRSecD) _ _ rfl rfl) rfl ?_
     exact HP5.out.ret HVF.out _ _ _ _ _
   subst hE2
   have HQC := Lib.hid (HQB.out.trans (if_neg (fun h => h rfl)))
   clear HQB
   go_wp2
   go_quiet (fail)
   have HP6 := Lib.hid (HP5.out.on (below_drewN (Below.refl _ _) nq))
   have HT6 := Lib.hid (block_keep (below_drewN (Below.refl _ _) nq) HT5.out)
   have HY6 := Lib.hid (block_keep (below_drewN (Below.refl _ _) nq) HY5.out)
   generalize W5.drewN nq = W6 at *
   clear HP5 HT5 HY5 v0 v1 v2 v3 v4 v5 v6 v7 u0 u1 u2 u3 u4 u5 u6 u7
   obtain ⟨⟨u0, u1, u2, u3, u4, u5, u6, u7⟩, -⟩ := cells8 HY6.out
   obtain ⟨bad, hbad⟩ : ∃ bad : Bool, bad = (!wy || (decide (gs.length = 64) || (decide (a2 < 0) || (decide (b2 < 0) || (decide (4097 < a2) || decide (4097 - a2 < b2)))))) := ⟨_, rfl⟩
   have HBD := Lib.hid hbad
   clear hbad
   go_upto_region 19 with fail
   go_cut [108] from 37 to 143 (fun v wx => v = .bool bad ∧ Hid (Below W6.heap.size W6 wx))
   case first =>
     clear HQC
     cases wy
     · obtain rfl : bad = true := HBD.out
       go_wp2_with (go_at_call 48; refine (HWY.out _).mono ?_; rintro e w7 ⟨rfl, hb7⟩; have HB7 := Lib.hid hb7; clear hb7)
       go_meet
       exact ⟨rfl, HB7⟩
     by_cases h64 : gs.length = 64
     · have hd64 : ((gs.length : Int) == 64) = true := by rw [beq_iff_eq]; omega
       have hd64n : (gs.length == 64) = true := by rw [beq_iff_eq]; exact h64
       obtain rfl : bad = true := by rw [HBD.out, decide_eq_true h64]; rfl
       clear h64
       go_wp2_with (go_at_call 48; refine (HWY.out _).mono ?_; rintro e w7 ⟨rfl, hb7⟩; have HB7 := Lib.hid hb7; clear hb7)
       go_meet
       exact ⟨rfl, HB7⟩
     have hd64 : ((gs.length : Int) == 64) = false := by rw [beq_eq_false_iff_ne]; omega
     have hd64n : (gs.length == 64) = false := by rw [beq_eq_false_iff_ne]; exact h64
     by_cases c1 : a2 < 0
     · have d1 : decide (a2 < 0) = true := decide_eq_true c1
       obtain rfl : bad = true := by rw [HBD.out, decide_eq_false h64, d1]; rfl
       go_wp2_with (go_at_call 48; refine (HWY.out _).mono ?_; rintro e w7 ⟨rfl, hb7⟩; have HB7 := Lib.hid hb7; clear hb7)
       go_meet
       exact ⟨rfl, HB7⟩
     have d1 : decide (a2 < 0) = false := decide_eq_false c1
     by_cases c2 : b2 < 0
     · have d2 : decide (b2 < 0) = true := decide_eq_true c2
       obtain rfl : bad = true := by rw [HBD.out, decide_eq_false h64, d1, d2]; rfl
       go_wp2_with (go_at_call 48; refine (HWY.out _).mono ?_; rintro e w7 ⟨rfl, hb7⟩; have HB7 := Lib.hid hb7; clear hb7)
       go_meet
       exact ⟨rfl, HB7⟩
     have d2 : decide (b2 < 0) = false := decide_eq_false c2
     by_cases c3 : 4097 < a2
     · have d3 : decide (4097 < a2) = true := decide_eq_true c3
       obtain rfl : bad = true := by rw [HBD.out, decide_eq_false h64, d1, d2, d3]; rfl
       go_wp2_with (go_at_call 48; refine (HWY.out _).mono ?_; rintro e w7 ⟨rfl, hb7⟩; have HB7 := Lib.hid hb7; clear hb7)
       go_meet
       exact ⟨rfl, HB7⟩
     have d3 : decide (4097 < a2) = false := decide_eq_false c3
     have a20 : 0 ≤ a2 := by omega
     have a21 : a2 ≤ 4097 := by omega
     obtain ⟨b4, hb4⟩ : ∃ b4, decide (4097 - a2 < b2) = b4 := ⟨_, rfl⟩
     obtain rfl : bad = b4 := by rw [HBD.out, decide_eq_false h64, d1, d2, d3, hb4]; rfl
     clear h64 c1 c2 c3
     go_wp2_with (go_at_call 48; refine (HWY.out _).mono ?_; rintro e w7 ⟨rfl, hb7⟩; have HB7 := Lib.hid hb7; clear hb7)
     go_meet
     exact ⟨rfl, HB7⟩
   case rest =>
   obtain ⟨rfl, HB7⟩ := hcut
   have HP7 := Lib.hid (HP6.out.on HB7.out)
   have HY7 := Lib.hid (block_keep HB7.out HY6.out)
   generalize wc = W7 at *
   clear HP6 HT6 HY6 HB7 HWY u0 u1 u2 u3 u4 u5 u6 u7
   obtain ⟨⟨u0, u1, u2, u3, u4, u5, u6, u7⟩, -⟩ := cells8 HY7.out
   have HBE := Lib.hid (show bad = true ↔ (wy = false ∨ gs.length = 64 ∨ fitsV a2 b2 = false) by
     rw [HBD.out]
     unfold fitsV
     simp only [Bool.or_eq_true, Bool.not_eq_true', decide_eq_true_eq, Bool.and_eq_false_iff, decide_eq_false_iff_not]
     refine or_congr Iff.rfl (or_congr Iff.rfl ?_)
     omega)
   clear HBD
   cases bad
   case true =>
     have HG3 := HQC.out.trans (if_pos (HBE.out.1 rfl))
     have HVF := Lib.hid (show V = (Sec.none, 0, 20) from HV2.out.trans (by rw [HG3]; exact if_pos (by decide)))
     obtain ⟨⟨z0, z1, z2, z3, z4⟩, y0, y1, y2, y3, y4⟩ := cells5 HP7.out.rb
     clear HG3 HQC HBE
     go_wp2
     refine bodyPost_ret (results_val3 rfl _ _ r 33 _ (0, 0) _ rfl (by exact set5 HP7.out.rb _ _ _ _ _) Tryz.underlying33 rfl (by exact infoRSecD) _ _ rfl rfl) rfl ?_
     exact HP7.out.ret HVF.out _ _ _ _ _
   have hnb : ¬ (wy = false ∨ gs.length = 64 ∨ fitsV a2 b2 = false) := fun h => by have := HBE.out.2 h; cases this
   have HQD := Lib.hid (HQC.out.trans (if_neg hnb))
   have hfit : fitsV a2 b2 = true := by
     cases h : fitsV a2 b2 with
     | true => rfl
     | false => exact absurd (.inr (.inr h)) hnb
   have h64 : gs.length ≤ 63 := by
     have : gs.length ≠ 64 := fun h => hnb (.inr (.inl h))
     omega
   have hfb : 0 ≤ b2 ∧ b2 ≤ 4097 ∧ 0 ≤ a2 ∧ a2 ≤ 4097 := by
     unfold fitsV at hfit
     simp only [Bool.and_eq_true, decide_eq_true_eq] at hfit
     omega
   obtain ⟨N, hN⟩ : ∃ N : Nat, b2 = (N : Int) := ⟨b2.toNat, by omega⟩
   subst hN
   have hN7 : N ≤ 4097 := by omega
   rw [show ((N : Int)).toNat = N from rfl] at HQD
   obtain ⟨T2, hT2⟩ : ∃ T2 : Nat, t2 = (T2 : Int) := ⟨t2.toNat, by omega⟩
   subst hT2
   rw [show ((T2 : Int)).toNat = T2 from rfl] at HQD
   have hT2l : T2 ≤ bs.length := by omega
   obtain ⟨Q, hQ⟩ : ∃ Q, Q = entsV bs last N T2 [] := ⟨_, rfl⟩
   rw [← hQ] at HQD
   have HQ := Lib.hid hQ
   have HFB := Lib.hid hfb
   clear hQ hnb hfit hfb HQC HBE hto2
   have HY8 := Lib.hid (heapA_old (.cells #[.int .i64 a2, .slice none 0 0] 42) HY7.out)
   have HE8 := Lib.hid (show EsM (W7.alloc (.cells #[.int .i64 a2, .slice none 0 0] 42)) (W7.alloc (.cells #[.int .i64 a2, .slice none 0 0] 42)) W7.heap.size a2 [] (.slice none 0 0) from
     ⟨heapA_new _ rfl, World.ownsRow_nil _ _ _ _, Keeps.refl _ _, by rw [sizeA]; omega⟩)
   have HPO := Lib.hid (fun (W : World) (es : List Ent) (sv : Value) (h : EsM (W7.alloc (.cells #[.int .i64 a2, .slice none 0 0] 42)) W W7.heap.size a2 es sv) => HP7.out.on (h.outer rfl))
   have HVB := Lib.hid (show ∀ b, Value.ownBlock (.slice sa gs.length sc) = some b → b < (W7.alloc (.cells #[.int .i64 a2, .slice none 0 0] 42)).heap.size from fun b hb => by have := (HP7.out.gm.own.lt b hb).2; rw [sizeA]; omega)
   have HWW := Lib.hid (show w2.heap.size ≤ (W7.alloc (.cells #[.int .i64 a2, .slice none 0 0] 42)).heap.size by have := HP7.out.gm.kps.size; rw [sizeA]; omega)
   go_upto_region 23 with fail
   generalize W7.heap.size = g at *
   generalize World.alloc _ _ = W8 at *
   clear HP7 HY7 HY8 u0 u1 u2 u3 u4 u5 u6 u7
   go_wp2_with fail
   go_loopw [1, 19] (fun v1 v wr => ∃ (c k3 : Nat) (es : List Ent) (sv : Value), v1 = .int .i64 k3 ∧ v = .int .i64 c ∧ c ≤ N ∧ k3 ≤ bs.length ∧ Hid (es.length = c) ∧ Hid (EsM W8 wr g a2 es sv) ∧ Hid (Q = entsV bs last (N - c) k3 es)) (fun _ v _ => N - (intOf v).toNat)
   case atStart => exact ⟨0, T2, [], .slice none 0 0, rfl, rfl, by omega, hT2l, Lib.hid rfl, HE8, HQ⟩
   case round =>
     obtain ⟨c, k3, es, sv, rfl, rfl, hcN, hk3, HES, HEM, HQR⟩ := hrel
     by_cases hlt : c < N
     · have hcd : decide ((c : Int) < (N : Int)) = true := by simp; omega
       have hcd2 : decide (c < N) = true := by simp; omega
       have HEN := Lib.hid (dentry_any (HRB.out.mono (HPO.out _ _ _ HEM.out).bel) (by omega) hk3 last)
       obtain ⟨m2, hm2⟩ : ∃ m2, m2 + 1 = N - c := ⟨N - c - 1, by omega⟩
       have HM2 := Lib.hid hm2
       have hQ1 := HQR.out
       rw [← hm2, entsV] at hQ1
       have htl : (entV bs last k3).2.2 = 0 → (entV bs last k3).2.1 ≤ bs.length := fun h => entV_le hk3 h
       generalize entV bs last k3 = Z at *
       obtain ⟨ee, kk, er⟩ := Z
       simp only at hQ1 htl
       have HQ1 := Lib.hid hQ1
       unfold DEntEnd entA at HEN
       simp only at HEN
       have HEE := Lib.hid (show entC ee = [.int .i64 ee.at_, .int .i64 ee.gen, .bool ee.used] from rfl)
       generalize ee.at_ = ea at *
       generalize ee.gen = eg at *
       generalize ee.used = eu at *
       clear hm2 hQ1 HQR
       go_wp2_with fail
       refine HEN.out.mono ?_
       rintro e w6 ⟨rfl, hb6⟩
       have hb6a := hb6.alloc hb6.size (.cells #[.int .i64 ea, .int .i64 eg, .bool eu] 44)
       have HE7 := Lib.hid (heapA_new (w := w6) (b := w6.heap.size) (.cells #[.int .i64 ea, .int .i64 eg, .bool eu] 44) rfl)
       have HG7 := Lib.hid (HEM.out.below hb6a)
       clear hb6 hb6a HEN HEM
       go_upto_region 27 with fail
       obtain ⟨z, hz⟩ : ∃ z, z = w6.heap.size := ⟨_, rfl⟩
       rw [← hz] at HE7 ⊢
       clear hz
       generalize w6.alloc _ = W9 at *
       obtain ⟨⟨l0, l1, l2⟩, -⟩ := cells3 HE7.out
       obtain ⟨⟨g0, g1⟩, gf0, gf1⟩ := cells2 HG7.out.blk
       by_cases her : er = 0
       case neg =>
         have e0 : (er == 0) = false := by rw [beq_eq_false_iff_ne]; exact her
         have e1 : (er != 0) = true := by simp only [bne, e0, Bool.not_false]
         have hq3 : Q = ([], 0, er) := HQ1.out.trans (if_pos her)
         have HG3 : G = ([], 0, er) := HQD.out.trans (by rw [hq3]; exact if_pos her)
         have HVF := Lib.hid (show V = (Sec.none, 0, er) from HV2.out.trans (by rw [HG3]; exact if_pos her))
         have HP9 := Lib.hid (HPO.out _ _ _ HG7.out)
         obtain ⟨⟨z0, z1, z2, z3, z4⟩, y0, y1, y2, y3, y4⟩ := cells5 HP9.out.rb
         clear her hq3 HG3 HQ1 htl
         go_wp2
         refine bodyPost_ret (results_val3 rfl _ _ r 33 _ (0, 0) _ rfl (by exact set5 HP9.out.rb _ _ _ _ _) Tryz.underlying33 rfl (by exact infoRSecD) _ _ rfl rfl) rfl ?_
         exact HP9.out.ret HVF.out _ _ _ _ _
       subst her
       obtain ⟨va, vc, rfl, -, -⟩ := owns_slice HG7.out.own
       have hL : es.length ≤ 4097 := by have := HES.out; omega
       have hone : ∀ u ∈ [Value.int .i64 ea, .int .i64 eg, .bool eu], u.oneCell' = true := by
         intro u hu
         simp at hu
         rcases hu with rfl | rfl | rfl <;> rfl
       have HONE := Lib.hid hone
       have HQ2 := Lib.hid (HQ1.out.trans (if_neg (by decide)))
       have HKK := Lib.hid (htl rfl)
       clear hone HQ1 htl
       go_wp2_with (at_builtin; go_loud (refine append_one EEnt rfl (.tmp 132) (.tmp 134) rfl W8.heap.size _ es.length _ rfl (HG7.out.own.alloc _) _ 1 _ rfl (row_newS _ #[.int .i64 ea, .int .i64 eg, .bool eu] _ 3 rfl rfl) HONE.out (by unfold maxLen; omega) (by omega) (by rw [sizeA]; have := HG7.out.kps.size; omega) ?_); intro v' w8 hO8 hg8 hn8; obtain ⟨ua, uc, rfl, -, -⟩ := owns_slice hO8; have HG8 := Lib.hid (HG7.out.app hg8 (by rw [HEE.out]; exact hO8)); obtain ⟨⟨q0, q1'⟩, qf0, qf1⟩ := cells2 (HG7.out.atG hg8); clear hO8 hg8 hn8)
       go_roundw
       case rel => exact ⟨c + 1, kk, es ++ [ee], _, rfl, by go_num, by omega, HKK.out, Lib.hid (by rw [List.length_append, HES.out]; rfl), HG8, Lib.hid (by rw [HQ2.out, show N - (c + 1) = m2 by have := HM2.out; omega])⟩
       case measure => simp [intOf]; omega
     · have hce : c = N := by omega
       subst hce
       have hcd : decide ((c : Int) < (c : Int)) = false := decide_eq_false (by omega)
       have hcd2 : decide (c < c) = false := decide_eq_false (by omega)
       have hq3 : Q = (es, k3, 0) := HQR.out.trans (show entsV bs last (c - c) k3 es = (es, k3, 0) by rw [Nat.sub_self]; rfl)
       have HG3 := Lib.hid (show G = grpsV bs last m (gs ++ [⟨a2, es⟩]) (k3 : Int) from HQD.out.trans (by rw [hq3]; exact if_neg (fun h => h rfl)))
       have HPW := Lib.hid (HPO.out _ _ _ HEM.out)
       have HGF := Lib.hid HEM.out.fin
       obtain ⟨va, vc, rfl, -, -⟩ := owns_slice HEM.out.own
       obtain ⟨⟨g0, g1⟩, gf0, gf1⟩ := cells2 HEM.out.blk
       obtain ⟨⟨p0, p1, p2, p3, p4⟩, pf0, pf1, pf2, pf3, pf4⟩ := cells5 HPW.out.sb
       have HSZ := Lib.hid (show W8.heap.size ≤ wr.heap.size from HEM.out.kps.size)
       have hone : ∀ u ∈ [Value.int .i64 a2, .slice va es.length vc], u.oneCell' = true := by
         intro u hu
         simp at hu
         rcases hu with rfl | rfl <;> rfl
       have HONE := Lib.hid hone
       clear hone hq3 HQR HQD HEM HPO HES
       go_wp2_with (at_builtin; go_loud (refine append_one EGrp rfl (.tmp 139) (.tmp 141) rfl w2.heap.size _ gs.length _ rfl (HPW.out.gm.own.alloc _) _ 1 _ rfl (row_newS _ #[.int .i64 a2, .slice va es.length vc] _ 2 rfl rfl) HONE.out (by unfold maxLen; omega) (by omega) (by rw [sizeA]; have := HPW.out.gm.kps.size; omega) ?_); intro v' w8 hO8 hg8 hn8; obtain ⟨ua, uc, rfl, -, -⟩ := owns_slice hO8; have HP8 := Lib.hid (HPW.out.app hg8 (HPW.out.gm.app hg8 HGF.out HWW.out HVB.out HSZ.out hO8 hn8)); obtain ⟨⟨q0, q1', q2', q3', q4'⟩, qf0, qf1, qf2, qf3, qf4⟩ := cells5 (HPW.out.atP hg8); clear hO8 hg8 hn8)
       go_roundw
       case rel => exact ⟨gs ++ [⟨a2, es⟩], (k3 : Int), _, _, rfl, by rw [List.length_append]; go_num, by rw [List.length_append]; simp; omega, by omega, by omega, HP8, Lib.hid (by rw [HG3.out, List.length_append, show 65 - (gs.length + [(⟨a2, es⟩ : Grp)].length) = m by have := HM.out; simp; omega])⟩
       case measure => simp [intOf]; omega
theorem law_xparses {a : Option Addr} {cap : Nat} {bs : List UInt8} (k : Int) (last : Bool) (w : World) (hr : Row w 1 a bs.length cap (bs.map u8C)) :
   Calls Tryz.prog 3 #[.slice a bs.length cap, .int .i64 k, .bool last] w (PlEndX w) := by
 have hi := hr.i64
 have HW := Lib.hid (fun W => works15 W)
 by_cases hbig : 600 < bs.length
 · have hb2 : decide (600 < bs.length) = true := decide_eq_true hbig
   have hb3 : decide ((600 : Int) < bs.length) = true := decide_eq_true (by omega)
   clear hr hbig
   go_enter Tryz.func3, Tryz.ntmps3
   go_wp2_with (go_at_call 10; refine (HW.out _).mono ?_; rintro e w' ⟨rfl, hb⟩)
   go_ret
   exact ⟨rfl, hb⟩
 have hb2 : decide (600 < bs.length) = false := decide_eq_false hbig
 have hb3 : decide ((600 : Int) < bs.length) = false := decide_eq_false (by omega)
 have hl4 : bs.length ≤ 600 := by omega
 clear hbig
 have HN1 := Lib.hid (fun (W : World) (h : Below w.heap.size w W) => xparse_any (hr.mono h) (by omega) k last)
 have HN2 := Lib.hid (fun (W : World) (h : Below w.heap.size w W) => dparse_any (hr.mono h) (by omega) k last)
 obtain ⟨V, hV⟩ : ∃ V, V = secV bs last k := ⟨_, rfl⟩
 rw [← hV] at HN1 HN2
 clear hV
 obtain ⟨s, n, er⟩ := V
 have HSS := Lib.hid (fun (W : World) (g1 s1 g2 s2 : Value) (h1 : IsSec W anyF s g1 s1) (h2 : IsSec W anyF s g2 s2) => dsame_eq h1 h2)
 unfold secA at HSS
 have HOF := Lib.hid (fun (ga sa : Option Addr) (gl gc sl sc : Nat) (k n : Int) (b : ByteArray) (W : World) => of15_any (.slice ga gl gc) (.slice sa sl sc) k n b ga sa gl gc sl sc W rfl rfl)
 clear hr
 go_enter Tryz.func3, Tryz.ntmps3
 go_wp2_with fail
 refine (HN1.out _ (Below.refl _ _)).mono ?_
 rintro e w1 h1
 obtain ⟨ga1, gc1, sa1, sc1, rfl, hx1, hb1⟩ := h1.split
 have HX1 := Lib.hid (hx1.below (belowA w1 (.cells #[.slice ga1 s.gs.length gc1, .int .i64 s.tr.kind, .int .i64 s.tr.n, .string (mkB s.tr.s), .slice sa1 s.tr.l.length sc1] 29)))
 have HB1 := Lib.hid (hb1.alloc hb1.size (.cells #[.slice ga1 s.gs.length gc1, .int .i64 s.tr.kind, .int .i64 s.tr.n, .string (mkB s.tr.s), .slice sa1 s.tr.l.length sc1] 29))
 have HT1 := Lib.hid (heapA_new (w := w1) (.cells #[.slice ga1 s.gs.length gc1, .int .i64 s.tr.kind, .int .i64 s.tr.n, .string (mkB s.tr.s), .slice sa1 s.tr.l.length sc1] 29) rfl)
 clear h1 hx1 hb1 HN1
 go_upto_region 2 with fail
 generalize w1.heap.size = T1 at *
 generalize World.alloc _ _ = W1 at *
 have HN2b := Lib.hid (HN2.out _ HB1.out)
 go_wp2_with fail
 refine HN2b.out.mono ?_
 rintro e w2 h2
 obtain ⟨ga2, gc2, sa2, sc2, rfl, hx2, hb2⟩ := h2.split
 have hb2' := hb2.alloc hb2.size (.cells #[.slice ga2 s.gs.length gc2, .int .i64 s.tr.kind, .int .i64 s.tr.n, .string (mkB s.tr.s), .slice sa2 s.tr.l.length sc2] 33)
 have HX1b := Lib.hid (HX1.out.below hb2')
 have HT1b := Lib.hid (block_keep hb2' HT1.out)
 have HX2 := Lib.hid (hx2.below (belowA w2 (.cells #[.slice ga2 s.gs.length gc2, .int .i64 s.tr.kind, .int .i64 s.tr.n, .string (mkB s.tr.s), .slice sa2 s.tr.l.length sc2] 33)))
 have HB2 := Lib.hid (HB1.out.trans (hb2'.mono HB1.out.size))
 have HT2 := Lib.hid (heapA_new (w := w2) (.cells #[.slice ga2 s.gs.length gc2, .int .i64 s.tr.kind, .int .i64 s.tr.n, .string (mkB s.tr.s), .slice sa2 s.tr.l.length sc2] 33) rfl)
 clear h2 hx2 hb2 hb2' HN2 HN2b HX1 HT1 HB1
 go_upto_region 3 with fail
 generalize w2.heap.size = T2 at *
 generalize World.alloc _ _ = W2 at *
 obtain ⟨⟨x0, x1, x2, x3, x4⟩, -⟩ := cells5 HT1b.out
 obtain ⟨⟨y0, y1, y2, y3, y4⟩, -⟩ := cells5 HT2.out
 have HS2 := Lib.hid (fun p : BelowW W2 => HSS.out p.w _ _ _ _ (HX1b.out.below p.h) (HX2.out.below p.h))
 clear HSS HX1b HX2 HT1b HT2
 have hee : (er == er) = true := by simp
 have hnn : (n == n) = true := by simp
 generalize s.gs.length = gl at *
 generalize s.tr.kind = xk at *
 generalize s.tr.n = xn at *
 generalize mkB s.tr.s = xb at *
 generalize s.tr.l.length = xl at *
 have HO1 := Lib.hid (fun p : BelowW W2 => HOF.out ga1 sa1 gl gc1 xl sc1 xk xn xb p.w)
 have q0 := BelowW.cell x0
 have q1 := BelowW.cell x1
 have q2 := BelowW.cell x2
 have q3 := BelowW.cell x3
 have q4 := BelowW.cell x4
 have r0 := BelowW.cell y0
 have r1 := BelowW.cell y1
 have r2 := BelowW.cell y2
 have r3 := BelowW.cell y3
 have r4 := BelowW.cell y4
 clear x0 x1 x2 x3 x4 y0 y1 y2 y3 y4 HOF
 refine wp_region_below (by kernel_rfl) (by kernel_rfl) ?_
 repeat (go_big_quiet_step ((first
   | (go_at_call 14; first | (with_reducible exact Calls.below_of (HO1.out _)))
   | (go_at_call 13; first | (with_reducible exact Calls.below_of (HS2.out _)))
   | (go_at_call 10; with_reducible exact Calls.below_of (HW.out _)))))
 refine wpQuiet_nil ?_
 rintro _ ⟨⟨w6, hb6⟩, rfl⟩
 go_wp2
 go_ret
 exact ⟨rfl, HB2.out.trans (hb6.mono HB2.out.size)⟩
end Go.Proofs.YtfafdeemfeaedaaGreat
