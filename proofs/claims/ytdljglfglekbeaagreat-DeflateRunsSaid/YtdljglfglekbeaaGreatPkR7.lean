/-
  Our texts Lz6 to LawDRun, in one.
-/
import Derived.Test.YtdljglfglekbeaaGreatPkR6
import Derived.Maps.OwnOps
import Derived.Lib.SlBytesConst
import Derived.Lib.SmallJoins
import Derived.Deep.AppendLies
import Derived.Deep.RegionHeldLaw
set_option maxRecDepth 8000
set_option maxHeartbeats 8000000
namespace Go.Proofs.YtdljglfglekbeaaGreat
open Go.RowKit Go.Maps Go.ChangeMaps
theorem heap_made {w : World} {base bo n : Nat} (h : w.ownsRow base 3 1 (.slice (some ⟨bo, 0, none⟩) n n) n (madeCells #[.int .i64 0] (n * 1)).toList) : w.heap[bo]? = some (.cells (fl n fun _ => .int .i64 0).toArray 3 (0, 0)) := by
 rcases h.2 with ⟨h1, -⟩ | ⟨g, cap, cur, hv, -, hg, -, -, hcs, htk⟩
 · cases h1
 · simp only [Value.slice.injEq, Option.some.injEq, Addr.mk.injEq] at hv
   obtain ⟨⟨rfl, -, -⟩, -, rfl⟩ := hv
   rw [hg, ← zcn]
   rw [Nat.mul_one] at hcs htk
   rw [List.take_of_length_le (by rw [Array.length_toList, hcs]; exact Nat.le_refl _)] at htk
   rw [toList_madeCells_one] at htk
   rw [← htk]
theorem ETokL : zcd Tryz.prog 104 136 (.agg #[.int .u8 0, .int .i64 0, .int .i64 0]) 3 24 := ⟨Tryz.underlying104, by kernel_rfl, rfl, by omega⟩
theorem ETInt : zcd Tryz.prog 39 3 (.int .i64 0) 1 8 := ⟨Tryz.underlying39, by kernel_rfl, rfl, by omega⟩
theorem row_newT (w : World) (x y z : Value) (e : TypeId) : Row (w.alloc (.cells #[x, y, z] e)) 3 (some ⟨w.heap.size, 0, none⟩) 1 1 [x, y, z] :=
 ⟨rfl, Nat.le_refl _, by simp [maxLen], fun h => (by cases h), fun _ => ⟨w.heap.size, 0, rfl, by rw [zaf]; omega, fun j u hj => by
   rw [Nat.zero_add, cell_of_row _ _ _ _ _ _ (zal _ rfl)]; simpa using hj⟩⟩
theorem one3 {x y z : Value} (hx : x.oneCell' = true) (hy : y.oneCell' = true) (hz : z.oneCell' = true) : ∀ u ∈ [x, y, z], u.oneCell' = true := by
 intro u hu
 simp at hu
 rcases hu with rfl | rfl | rfl
 · exact hx
 · exact hy
 · exact hz
theorem cells3 {w : World} {g : Nat} {x y z : Value} {e : TypeId} (h : w.heap[g]? = some (.cells #[x, y, z] e (0, 0))) : (w.cell? ⟨g, 0, none⟩ = some x ∧ w.cell? ⟨g, 1, none⟩ = some y ∧ w.cell? ⟨g, 2, none⟩ = some z) ∧ ∀ j, w.frozen? ⟨g, j, none⟩ = false :=
 ⟨⟨by rw [cell_of_row w g 0 _ _ _ h]; rfl, by rw [cell_of_row w g 1 _ _ _ h]; rfl, by rw [cell_of_row w g 2 _ _ _ h]; rfl⟩, fun j => frozen_of_row w g j _ _ h⟩
def TokEnd (b : List UInt8) (w : World) (e : Ending) (w' : World) : Prop :=
 Below w.heap.size w w' ∧ ∃ (ts : List LT) (a : Option Addr) (cap : Nat), e = .returned (.slice a ts.length cap) ∧ Row w' 3 a ts.length cap (tokV ts) ∧ (∀ x, a = some x → w.heap.size ≤ x.block ∧ x.block < w'.heap.size) ∧ expT ts [] = some b ∧ ts.length ≤ b.length
def TokI (w wr : World) (B1 fb pb mb : Nat) (a : Option Addr) (n cap i : Nat) (b : List UInt8) (v : Value) : Prop :=
 ∃ ts : List LT, zbv b i ts ∧ FinQ wr fb pb mb a n cap i b ∧ Below w.heap.size w wr ∧ wr.ownsRow B1 136 3 v ts.length (tokV ts) ∧ B1 ≤ wr.heap.size
theorem zcG {w : World} {a : Option Addr} {n cap : Nat} {b : List UInt8} (hr : Row w 1 a n cap (b.map fun x => .int .u8 x.toNat)) (ha : ∀ x, a = some x → x.block < w.heap.size) (hn : n ≤ 100000) :
   Calls Tryz.prog 69 #[.slice a n cap] w (TokEnd b w) := by
 have hl : b.length = n := by have := hr.1; simpa using this
 have hcapm := hr.2.2.1
 have hcapn := hr.2.1
 unfold maxLen at hcapm
 have hmm := @run_makeMap Tryz.prog
 have hd0 : decide ((n : Int) > 16777216) = false := decide_eq_false (by omega)
 have HR := Lib.hid hr
 have HA := Lib.hid ha
 have HL := Lib.hid hl
 clear hr ha hl
 go_enter Tryz.func69, Tryz.ntmps69
 go_upto_region 4 with (at_make; refine make_full ETInt rfl (.tmp 15) (.tmp 15) rfl .i64 .i64 _ _ n rfl rfl rfl rfl (by omega) (by unfold maxLen; omega) ?_; intro w1 hown hb1; have HM := Lib.hid (heap_made hown); have HB1 := Lib.hid hb1; clear hown hb1)
 obtain ⟨fb, hfb⟩ : ∃ fb, fb = w1.heap.size := ⟨_, rfl⟩
 obtain ⟨mb, hmb⟩ : ∃ mb, mb = w.heap.size := ⟨_, rfl⟩
 have hb1 := HB1.out
 have hs1 := (Array.getElem?_eq_some_iff.1 HM.out).1
 rw [zaf] at hs1
 have hbw : Below w.heap.size w w1 := (zap w _).trans (hb1.mono (by rw [zaf]; omega))
 have hMb : MapT w1 mb 0 n := by
   have h := MapT.made w n
   rw [← hmb] at h
   exact h.keep (hb1.block mb (by rw [zaf]; omega))
 have hbn : ∀ W : World, Below w.heap.size w W → Row W 1 a n cap (b.map fun x => .int .u8 x.toNat) := fun W hW => HR.out.mono hW
 have hQ : FinQ (w1.alloc (.cells #[.slice a n cap, .map (some mb), .slice (some ⟨mb + 1, 0, none⟩) n n] 134)) fb (mb + 1) mb a n cap 0 b := {
   c0 := by rw [hfb, cell_of_row _ _ 0 _ _ _ (heap_alloc_new w1 _)]; rfl
   c1 := by rw [hfb, cell_of_row _ _ 1 _ _ _ (heap_alloc_new w1 _)]; rfl
   c2 := by rw [hfb, cell_of_row _ _ 2 _ _ _ (heap_alloc_new w1 _)]; rfl
   row := hbn _ (hbw.alloc hbw.size _)
   m := hMb.keep ((zap w1 _).block mb (by omega))
   p := ⟨fun _ => 0, zbg _ (by have h := HM.out; rw [zaf, ← hmb] at h; exact h), fun j hj => ⟨by show (-1 : Int) ≤ 0; omega, by show (0 : Int) < n; omega⟩⟩
   pm := by omega
   fp := by omega
   fm := by omega
   ap := fun x hx => by have := HA.out x hx; omega }
 have HI0 := Lib.hid (show TokI w (w1.alloc (.cells #[.slice a n cap, .map (some mb), .slice (some ⟨mb + 1, 0, none⟩) n n] 134)) (fb + 1) fb (mb + 1) mb a n cap 0 b (.slice none 0 0) from
   ⟨[], zbv.zero b, hQ, hbw.alloc hbw.size _, World.ownsRow_nil _ _ _ _, by rw [zaf]; omega⟩)
 have hlay : mb < fb ∧ mb + 1 < fb ∧ w.heap.size ≤ mb ∧ w.heap.size ≤ mb + 1 := by omega
 clear hb1 hs1 hbw hMb hbn hQ HM HB1 hmm
 rw [← hfb, ← hmb]
 generalize w1.alloc (.cells #[.slice a n cap, .map (some mb), .slice (some ⟨mb + 1, 0, none⟩) n n] 134) = w2 at HI0 ⊢
 clear hfb
 have HMB := Lib.hid hmb
 clear hmb
 generalize mb + 1 = pb at HI0 hlay ⊢
 go_wp2_with fail
 go_loopw [4, 5] (fun v vi wr => ∃ i : Nat, vi = .int .i64 i ∧ i ≤ n ∧ Hid (TokI w wr (fb + 1) fb pb mb a n cap i b v)) (fun _ vi _ => n - (intOf vi).toNat)
 case atStart => exact ⟨0, rfl, Nat.zero_le _, HI0⟩
 case round =>
   obtain ⟨i, rfl, hi, HI⟩ := hrel
   by_cases hlt : i < n
   case neg =>
     have hd1 : decide ((i : Int) < (n : Int)) = false := decide_eq_false (by omega)
     go_wp2_with fail
     have hin : i = n := by omega
     subst hin
     obtain ⟨ts, h1, h2, h3, h4, -⟩ := HI.out
     obtain ⟨aS, cS, rfl, hrow, haS⟩ := Row.of_owns h4
     have HEND := Lib.hid (show TokEnd b w (.returned (.slice aS ts.length cS)) wr from by
       have hts := h1.len (Nat.le_of_eq HL.out.symm)
       refine ⟨h3, ts, aS, cS, rfl, hrow, fun x hx => ⟨by have := haS x hx; omega, ?_⟩, ?_, by rw [HL.out]; exact hts⟩
       · have := h4.lt x.block (by rw [hx]; rfl)
         exact this.2
       · have h := h1
         unfold zbv at h
         rw [List.take_of_length_le (Nat.le_of_eq HL.out)] at h
         exact h)
     clear h1 h2 h3 h4 hrow haS HI
     go_wp2_with fail
     go_ret
     exact HEND.out
   have hd1 : decide ((i : Int) < (n : Int)) = true := decide_eq_true (by omega)
   have hin : (i : Int) < (n : Int) := by omega
   obtain ⟨ts, h1, h2, h3, h4, h5⟩ := HI.out
   obtain ⟨bb, off, rfl, -, hcc⟩ := h2.row.at 0 0 (by omega)
   have z0 := hcc i hlt
   have HTT := Lib.hid h1
   have HX := Lib.hid (show ∃ u : UInt8, u = b.getD i 0 from ⟨_, rfl⟩)
   have hx256 := (b.getD i 0).toNat_lt
   obtain ⟨x, hx⟩ : ∃ x, x = (b.getD i 0).toNat := ⟨_, rfl⟩
   have HXX := Lib.hid hx
   rw [← hx] at z0 hx256
   clear hx hcc HX
   have hbA := zap wr (.cells #[.int .u8 x, .int .i64 0, .int .i64 0] 136)
   have HS3 := Lib.hid (show FinQ (wr.alloc (.cells #[.int .u8 x, .int .i64 0, .int .i64 0] 136)) fb pb mb (some ⟨bb, off, none⟩) n cap i b ∧ Below w.heap.size w (wr.alloc (.cells #[.int .u8 x, .int .i64 0, .int .i64 0] 136)) ∧ (wr.alloc (.cells #[.int .u8 x, .int .i64 0, .int .i64 0] 136)).ownsRow (fb + 1) 136 3 u4 ts.length (tokV ts) from
     ⟨h2.below hbA, h3.alloc h3.size _, zad h4 hbA⟩)
   have HBK := Lib.hid (heap_alloc_new wr (.cells #[.int .u8 x, .int .i64 0, .int .i64 0] 136))
   have HOB := Lib.hid (show ∀ q, u4.ownBlock = some q → fb + 1 ≤ q ∧ q < wr.heap.size from h4.lt)
   have hs3 := zaf wr (.cells #[.int .u8 x, .int .i64 0, .int .i64 0] 136)
   have HBEST := Lib.hid (best_any HS3.out.1 hlt (by omega))
   clear h1 h2 h3 h4 HI hbA
   go_upto_region 8 with fail
   obtain ⟨tb, htb⟩ : ∃ tb, tb = wr.heap.size := ⟨_, rfl⟩
   rw [← htb] at hs3 HBK HOB h5 ⊢
   have HTB := Lib.hid htb
   clear htb z0
   generalize wr.alloc (.cells #[.int .u8 x, .int .i64 0, .int .i64 0] 136) = w3 at HS3 HBK hs3 HBEST ⊢
   go_upto_region 9 with fail
   refine HBEST.out.mono ?_
   rintro e w4 ⟨hb4, kk, far, rfl, hrep, h3k⟩
   have hq4 := HS3.out.1.below hb4
   have hbw4 : Below w.heap.size w w4 := HS3.out.2.1.trans (hb4.mono HS3.out.2.1.size)
   have ho4 := zad HS3.out.2.2 hb4
   have hblk4 := zbh hb4 HBK.out
   have hs4 := hb4.size
   clear hb4 HBEST HS3 HBK
   by_cases hk0 : kk = 0
   · subst hk0
     obtain ⟨⟨T0, T1, T2⟩, -⟩ := cells3 hblk4
     have dk0 : decide ((0 : Int) > 0) = false := by decide
     have HQ6 := Lib.hid hq4
     have HB6 := Lib.hid hbw4
     have HO6 := Lib.hid ho4
     have hs6 : tb + 1 ≤ w4.heap.size := by omega
     have hiM : i + max 1 0 ≤ n := by omega
     have HNEW := Lib.hid (show ∃ t : LT, x = t.b.toNat ∧ 0 = t.len ∧ (0 : Int) = t.far ∧ zbv b (i + max 1 0) (ts ++ [t]) from ⟨⟨b.getD i 0, 0, 0⟩, HXX.out, rfl, rfl, HTT.out.lit (by rw [HL.out]; exact hlt)⟩)
     have hLk : (0 : Nat) ≤ 258 := by omega
     obtain ⟨X, hX⟩ : ∃ X, X = x := ⟨_, rfl⟩
     obtain ⟨Lk, hLk0⟩ : ∃ Lk : Nat, Lk = 0 := ⟨_, rfl⟩
     obtain ⟨F, hF⟩ : ∃ F : Int, F = 0 := ⟨_, rfl⟩
     rw [← hX] at T0 HNEW
     have T1b : w4.cell? ⟨tb, 1, none⟩ = some (.int .i64 (Lk : Nat)) := by rw [hLk0]; exact T1
     rw [← hF] at T2
     rw [← hLk0] at HNEW hiM hLk
     rw [← hF] at HNEW
     clear T1 hX hF hLk0 hq4 hbw4 ho4 hblk4 hrep h3k
     have T1 := T1b
     clear T1b
     go_upto_region 11 with fail
     generalize w4 = w6 at HQ6 HB6 HO6 T0 T1 T2 hs6 hs4 ⊢
     have hM1 : 1 ≤ max 1 Lk := by omega
     have HSZ := Lib.hid (tsize_any (w := w6) X Lk F (by omega))
     obtain ⟨M, hM⟩ : ∃ M, M = max 1 Lk := ⟨_, rfl⟩
     rw [← hM] at hiM hM1 HNEW HSZ
     have HMM := Lib.hid hM
     clear hM
     go_wp2_with fail
     refine HSZ.out.mono ?_
     rintro e w7 ⟨rfl, hb7⟩
     have HQ7 := Lib.hid (HQ6.out.below hb7)
     have HB7 := Lib.hid (show Below w.heap.size w w7 from HB6.out.trans (hb7.mono HB6.out.size))
     have HO7 := Lib.hid (zad HO6.out hb7)
     have T07 := cell?_keep hb7 T0
     have T17 := cell?_keep hb7 T1
     have T27 := cell?_keep hb7 T2
     have hS7 := hb7.size
     have hmn : 0 ≤ (M : Int) := by omega
     clear hb7 HQ6 HB6 HO6 T0 T1 T2 HSZ
     go_wp2_with fail
     go_loopw [5, 41] (fun vi vk wk => ∃ k : Nat, vk = .int .i64 k ∧ vi = .int .i64 (i + k : Nat) ∧ k ≤ M ∧ Hid (FinQ wk fb pb mb (some ⟨bb, off, none⟩) n cap (i + k) b) ∧ Hid (zaa (fun b => b = pb ∨ b = mb) w7 wk)) (fun _ vk _ => M - (intOf vk).toNat)
     case atStart => exact ⟨0, rfl, rfl, Nat.zero_le _, HQ7, Lib.hid (zaa.refl _ _)⟩
     case round =>
       obtain ⟨k, rfl, rfl, hk, HQk, HKk⟩ := hrel
       by_cases hkM : k < M
       case neg =>
         have hkM2 : k = M := by omega
         have dk : decide ((k : Int) < (M : Int)) = false := decide_eq_false (by omega)
         obtain ⟨i2, hi2⟩ : ∃ i2, i2 = i + M := ⟨_, rfl⟩
         subst hkM2
         rw [← hi2] at HQk hiM HNEW ⊢
         have hk7 := HKk.out
         have hs8 := hk7.size
         have HO8 := Lib.hid (zaD HO7.out hk7 (fun q hq hc => by have := (HO7.out.lt q hq).1; omega))
         have HB8 := Lib.hid (show Below w.heap.size w wr from HB7.out.trans (hk7.below (B := w.heap.size) (by omega) (fun q hq => by omega)))
         have T08 := hk7.cell T07 (by omega)
         have T18 := hk7.cell T17 (by omega)
         have T28 := hk7.cell T27 (by omega)
         have htl : ts.length ≤ 100000 := by have := HTT.out.len (i := i) (by rw [HL.out]; omega); omega
         have HVR := Lib.hid HO8.out.lt
         have HS8 := Lib.hid hs8
         have HS7 := Lib.hid hS7
         clear hk7 hs8 T07 T17 T27 HQ7 HB7 HO7 HKk
         go_wp2_with (at_builtin; refine zah ETokL rfl (.tmp 49) (.tmp 51) rfl (fb + 1) _ ts.length _ rfl (HO8.out.alloc _) _ 1 1 _ rfl (row_newT _ _ _ _ _) (one3 rfl rfl rfl) (by unfold maxLen; omega) (by omega) (by rw [zaf]; have := HS8.out; have := HS7.out; omega) ?_; intro v' w9 hO9 hg9 hnil9; have HO9 := Lib.hid hO9; have HG9 := Lib.hid hg9; clear hO9 hg9 hnil9)
         have hg9 := HG9.out
         have hs9 := hg9.size
         rw [zaf] at hs9
         have hk9 : zaa (fun q => fb + 1 ≤ q) wr w9 := ((zaa.refl _ wr).alloc _).grown hg9 (fun q hq => .inl (HVR.out q hq).1)
         have HFIN := Lib.hid (show TokI w w9 (fb + 1) fb pb mb (some ⟨bb, off, none⟩) n cap i2 b v' from by
           obtain ⟨t, ht1, ht2, ht3, ht4⟩ := HNEW.out
           refine ⟨ts ++ [t], ht4, HQk.out.keeps hk9 (by omega) (by omega) (by omega) (fun q hq => by have := HA.out q hq; have := HMB.out; omega), HB8.out.trans ((hk9.below (B := fb + 1) (by have := HS8.out; have := HS7.out; omega) (fun q hq => hq)).mono (by have := HMB.out; omega)), ?_, by have := HS8.out; have := HS7.out; omega⟩
           have h := HO9.out
           rw [zdn, List.length_append]
           rw [ht1, ht2, ht3] at h
           exact h)
         clear hg9 hs9 hk9 HO9 HG9 HO8 HB8 HVR HNEW
         go_wp2_with fail
         go_roundw
         case rel => exact ⟨i2, by rw [hi2, Int.natCast_add], hiM, HFIN⟩
         case measure => simp [intOf]; omega
       have dk : decide ((k : Int) < (M : Int)) = true := decide_eq_true (by omega)
       have HNT := Lib.hid (note_any (i := i + k) HQk.out (by omega) (by omega) (by omega))
       go_wp2_with fail
       refine HNT.out.mono ?_
       rintro e w8 ⟨rfl, hq8, hk8⟩
       have HQ8 := Lib.hid hq8
       have HK8 := Lib.hid (HKk.out.trans hk8 fun q hq => .inl hq)
       clear hq8 hk8 HNT HKk HQk
       go_wp2_with fail
       go_roundw
       case rel => exact ⟨k + 1, by go_num, by go_num, by omega, HQ8, HK8⟩
       case measure => simp [intOf]; omega
   · obtain ⟨⟨T0, T1, T2⟩, hfz⟩ := cells3 hblk4
     have f0 := hfz 0
     have f1 := hfz 1
     have f2 := hfz 2
     have dk0 : decide ((kk : Int) > 0) = true := decide_eq_true (by omega)
     rcases hrep with ⟨h0, -⟩ | ⟨hpos, hmo, hf32⟩
     · exact absurd h0 hk0
     obtain ⟨hk258, hmm2⟩ := hmo
     obtain ⟨hf1, hfi, hkn, hmt⟩ := hmm2 hpos
     obtain ⟨F, rfl⟩ : ∃ F : Nat, far = F := ⟨far.toNat, by omega⟩
     have hiM : i + max 1 kk ≤ n := by have := HL.out; omega
     have HNEW := Lib.hid (show ∃ t : LT, 0 = t.b.toNat ∧ kk = t.len ∧ (F : Int) = t.far ∧ zbv b (i + max 1 kk) (ts ++ [t]) from ⟨⟨0, kk, F⟩, rfl, rfl, rfl, by
       rw [show max 1 kk = kk from by omega]
       exact HTT.out.rep (h3k hpos) hk258 (by omega) (by omega) (by omega) hkn (fun j hj => by have h := hmt j hj; simpa using h)⟩)
     have hdk : (0 : Int) < (kk : Int) := by omega
     clear hmm2 hmt hf1 hfi hf32 h3k hkn hfz
     have HQ4 := Lib.hid hq4
     have HB4 := Lib.hid hbw4
     have HO4 := Lib.hid ho4
     have HBL4 := Lib.hid hblk4
     clear hq4 hbw4 ho4 hblk4
     go_upto_region 11 with fail
     have hk6 : zaa (fun q => q = tb) w4 (((w4.setCell ⟨tb, 0, none⟩ (.int .u8 0)).setCell ⟨tb, 1, none⟩ (.int .i64 (kk : Nat))).setCell ⟨tb, 2, none⟩ (.int .i64 (F : Nat))) := (((zaa.refl (fun q => q = tb) w4).setCell (a := ⟨tb, 0, none⟩) (.inl rfl) _).setCell (a := ⟨tb, 1, none⟩) (.inl rfl) _).setCell (a := ⟨tb, 2, none⟩) (.inl rfl) _
     have e0 : (((w4.setCell ⟨tb, 0, none⟩ (.int .u8 0)).setCell ⟨tb, 1, none⟩ (.int .i64 (kk : Nat))).setCell ⟨tb, 2, none⟩ (.int .i64 (F : Nat))).cell? ⟨tb, 0, none⟩ = some (.int .u8 0) := by
       rw [World.cell?_setCell_other _ _ _ _ (by simp), World.cell?_setCell_other _ _ _ _ (by simp)]
       exact World.cell?_setCell_same _ _ _ T0
     have e1 : (((w4.setCell ⟨tb, 0, none⟩ (.int .u8 0)).setCell ⟨tb, 1, none⟩ (.int .i64 (kk : Nat))).setCell ⟨tb, 2, none⟩ (.int .i64 (F : Nat))).cell? ⟨tb, 1, none⟩ = some (.int .i64 (kk : Nat)) := by
       rw [World.cell?_setCell_other _ _ _ _ (by simp)]
       exact World.cell?_setCell_same _ _ _ (u := .int .i64 0) (by rw [World.cell?_setCell_other _ _ _ _ (by simp)]; exact T1)
     have e2 : (((w4.setCell ⟨tb, 0, none⟩ (.int .u8 0)).setCell ⟨tb, 1, none⟩ (.int .i64 (kk : Nat))).setCell ⟨tb, 2, none⟩ (.int .i64 (F : Nat))).cell? ⟨tb, 2, none⟩ = some (.int .i64 (F : Nat)) :=
       World.cell?_setCell_same _ _ _ (u := .int .i64 0) (by rw [World.cell?_setCell_other _ _ _ _ (by simp), World.cell?_setCell_other _ _ _ _ (by simp)]; exact T2)
     generalize (((w4.setCell ⟨tb, 0, none⟩ (.int .u8 0)).setCell ⟨tb, 1, none⟩ (.int .i64 (kk : Nat))).setCell ⟨tb, 2, none⟩ (.int .i64 (F : Nat))) = w6 at hk6 e0 e1 e2 ⊢
     have hs6 := hk6.size
     have HQ6 := Lib.hid (HQ4.out.keeps hk6 (by omega) (by omega) (by omega) (fun q hq => by have := HA.out q hq; have := HMB.out; omega))
     have HB6 := Lib.hid (show Below w.heap.size w w6 from HB4.out.trans ((hk6.below (B := tb) (by omega) (fun q hq => by omega)).mono (by have := HMB.out; omega)))
     have HO6 := Lib.hid (zaD HO4.out hk6 (fun q hq hc => by have := (HOB.out q hq).2; omega))
     clear hk6 T0 T1 T2 f0 f1 f2 HQ4 HB4 HO4 HBL4 hk0 hpos dk0 hdk
     have hLk := hk258
     have T0 := e0
     have T1 := e1
     have T2 := e2
     clear e0 e1 e2 hk258
     obtain ⟨X, hX⟩ : ∃ X : Nat, X = 0 := ⟨_, rfl⟩
     have T0b : w6.cell? ⟨tb, 0, none⟩ = some (.int .u8 (X : Nat)) := by rw [hX]; exact T0
     have HNEW2 := Lib.hid (show ∃ t : LT, X = t.b.toNat ∧ kk = t.len ∧ (F : Int) = t.far ∧ zbv b (i + max 1 kk) (ts ++ [t]) from by rw [hX]; exact HNEW.out)
     clear T0 HNEW hX
     have T0 := T0b
     have HNEW := HNEW2
     clear T0b HNEW2
     generalize (F : Int) = F2 at T2 HNEW ⊢
     have hM1 : 1 ≤ max 1 kk := by omega
     have HSZ := Lib.hid (tsize_any (w := w6) X kk F2 (by omega))
     obtain ⟨M, hM⟩ : ∃ M, M = max 1 kk := ⟨_, rfl⟩
     rw [← hM] at hiM hM1 HNEW HSZ
     have HMM := Lib.hid hM
     clear hM
     go_wp2_with fail
     refine HSZ.out.mono ?_
     rintro e w7 ⟨rfl, hb7⟩
     have HQ7 := Lib.hid (HQ6.out.below hb7)
     have HB7 := Lib.hid (show Below w.heap.size w w7 from HB6.out.trans (hb7.mono HB6.out.size))
     have HO7 := Lib.hid (zad HO6.out hb7)
     have T07 := cell?_keep hb7 T0
     have T17 := cell?_keep hb7 T1
     have T27 := cell?_keep hb7 T2
     have hS7 := hb7.size
     have hmn : 0 ≤ (M : Int) := by omega
     clear hb7 HQ6 HB6 HO6 T0 T1 T2 HSZ
     go_wp2_with fail
     go_loopw [5, 41] (fun vi vk wk => ∃ k : Nat, vk = .int .i64 k ∧ vi = .int .i64 (i + k : Nat) ∧ k ≤ M ∧ Hid (FinQ wk fb pb mb (some ⟨bb, off, none⟩) n cap (i + k) b) ∧ Hid (zaa (fun b => b = pb ∨ b = mb) w7 wk)) (fun _ vk _ => M - (intOf vk).toNat)
     case atStart => exact ⟨0, rfl, rfl, Nat.zero_le _, HQ7, Lib.hid (zaa.refl _ _)⟩
     case round =>
       obtain ⟨k, rfl, rfl, hk, HQk, HKk⟩ := hrel
       by_cases hkM : k < M
       case neg =>
         have hkM2 : k = M := by omega
         have dk : decide ((k : Int) < (M : Int)) = false := decide_eq_false (by omega)
         obtain ⟨i2, hi2⟩ : ∃ i2, i2 = i + M := ⟨_, rfl⟩
         subst hkM2
         rw [← hi2] at HQk hiM HNEW ⊢
         have hk7 := HKk.out
         have hs8 := hk7.size
         have HO8 := Lib.hid (zaD HO7.out hk7 (fun q hq hc => by have := (HO7.out.lt q hq).1; omega))
         have HB8 := Lib.hid (show Below w.heap.size w wr from HB7.out.trans (hk7.below (B := w.heap.size) (by omega) (fun q hq => by omega)))
         have T08 := hk7.cell T07 (by omega)
         have T18 := hk7.cell T17 (by omega)
         have T28 := hk7.cell T27 (by omega)
         have htl : ts.length ≤ 100000 := by have := HTT.out.len (i := i) (by rw [HL.out]; omega); omega
         have HVR := Lib.hid HO8.out.lt
         have HS8 := Lib.hid hs8
         have HS7 := Lib.hid hS7
         clear hk7 hs8 T07 T17 T27 HQ7 HB7 HO7 HKk
         go_wp2_with (at_builtin; refine zah ETokL rfl (.tmp 49) (.tmp 51) rfl (fb + 1) _ ts.length _ rfl (HO8.out.alloc _) _ 1 1 _ rfl (row_newT _ _ _ _ _) (one3 rfl rfl rfl) (by unfold maxLen; omega) (by omega) (by rw [zaf]; have := HS8.out; have := HS7.out; omega) ?_; intro v' w9 hO9 hg9 hnil9; have HO9 := Lib.hid hO9; have HG9 := Lib.hid hg9; clear hO9 hg9 hnil9)
         have hg9 := HG9.out
         have hs9 := hg9.size
         rw [zaf] at hs9
         have hk9 : zaa (fun q => fb + 1 ≤ q) wr w9 := ((zaa.refl _ wr).alloc _).grown hg9 (fun q hq => .inl (HVR.out q hq).1)
         have HFIN := Lib.hid (show TokI w w9 (fb + 1) fb pb mb (some ⟨bb, off, none⟩) n cap i2 b v' from by
           obtain ⟨t, ht1, ht2, ht3, ht4⟩ := HNEW.out
           refine ⟨ts ++ [t], ht4, HQk.out.keeps hk9 (by omega) (by omega) (by omega) (fun q hq => by have := HA.out q hq; have := HMB.out; omega), HB8.out.trans ((hk9.below (B := fb + 1) (by have := HS8.out; have := HS7.out; omega) (fun q hq => hq)).mono (by have := HMB.out; omega)), ?_, by have := HS8.out; have := HS7.out; omega⟩
           have h := HO9.out
           rw [zdn, List.length_append]
           rw [ht1, ht2, ht3] at h
           exact h)
         clear hg9 hs9 hk9 HO9 HG9 HO8 HB8 HVR HNEW
         go_wp2_with fail
         go_roundw
         case rel => exact ⟨i2, by rw [hi2, Int.natCast_add], hiM, HFIN⟩
         case measure => simp [intOf]; omega
       have dk : decide ((k : Int) < (M : Int)) = true := decide_eq_true (by omega)
       have HNT := Lib.hid (note_any (i := i + k) HQk.out (by omega) (by omega) (by omega))
       go_wp2_with fail
       refine HNT.out.mono ?_
       rintro e w8 ⟨rfl, hq8, hk8⟩
       have HQ8 := Lib.hid hq8
       have HK8 := Lib.hid (HKk.out.trans hk8 fun q hq => .inl hq)
       clear hq8 hk8 HNT HKk HQk
       go_wp2_with fail
       go_roundw
       case rel => exact ⟨k + 1, by go_num, by go_num, by omega, HQ8, HK8⟩
       case measure => simp [intOf]; omega
end Go.Proofs.YtdljglfglekbeaaGreat
namespace Go.Proofs.YtdljglfglekbeaaGreat
open Go.RowKit Go.Sort
theorem tokB_le {l d : List Int} (hl : ∀ s, lenN l s ≤ 15) (hd : ∀ s, lenN d s ≤ 15) {ts : List LT} (h : ∀ t ∈ ts, t.may) : (tokB l d ts).length ≤ 60 * ts.length + 15 := by
 rw [zdM, List.length_append, zam]
 have := tokC_le hl hd h
 have := hl 256
 omega
theorem fixB_le (last : Bool) {ts : List LT} (h : ∀ t ∈ ts, t.may) : (fixB last ts).length ≤ 60 * ts.length + 18 := by
 unfold fixB
 rw [List.length_append, zaj]
 have := tokB_le (zdB (zao zbY).2.2.1) (zdB (zao zb3).2.2.1) h
 omega
theorem stoB_le (p : Nat) (last : Bool) (b : List UInt8) : (stoB p last b).length ≤ 8 * b.length + 60 := by
 unfold stoB
 simp only [List.length_append, zaj, zac, zbi, List.length_replicate]
 omega
def zcD (w : World) (S : Nat → Prop) (wb : Nat) (B : List Bool) (kind : Nat) (last : Bool) (b : List UInt8) (e : Ending) (w' : World) : Prop :=
 e = .returned (.tuple #[]) ∧ ∃ Z, zc5 B.length kind last b Z ∧ Z.length ≤ 60 * b.length + 8000 ∧ zab w S wb false (B ++ Z) w'
def DynSaid : Prop := ∀ (w : World) (S : Nat → Prop) (wb cap : Nat) (a : Option Addr) (B : List Bool) (ts : List LT) (last : Bool) (b : List UInt8), WrQ w S wb false B → Row w 3 a ts.length cap (tokV ts) → (∀ x, a = some x → ¬ S x.block) → (∀ x, a = some x → x.block < w.heap.size) →
 expT ts [] = some b → ts.length ≤ b.length → b.length ≤ 65535 → B.length < 34359738368 → Calls Tryz.prog 70 #[wrA wb, .slice a ts.length cap, .bool last] w (zcD w S wb B 2 last b)
theorem part_any {w : World} {S : Nat → Prop} {wb n cap kind : Nat} {a : Option Addr} {B : List Bool} {b : List UInt8} (last : Bool) (hk : kind ≤ 2) (hd : kind = 2 → DynSaid) (h : WrQ w S wb false B) (hr : Row w 1 a n cap (b.map fun x => .int .u8 x.toNat)) (ha : ∀ x, a = some x → ¬ S x.block)
   (hal : ∀ x, a = some x → x.block < w.heap.size) (hb : n ≤ 65535) (hlt : B.length < 34359738368) :
   Calls Tryz.prog 39 #[wrA wb, .slice a n cap, .int .i64 kind, .bool last] w (zcD w S wb B kind last b) := by
 have hl : b.length = n := by have := hr.1; simpa using this
 have hc : (w.alloc (.cells #[.pointer (some ⟨wb, 0, none⟩)] 62)).cell? ⟨w.heap.size, 0, none⟩ = some (.pointer (some ⟨wb, 0, none⟩)) := by
   rw [cell_of_row _ _ 0 _ _ _ (heap_alloc_new w _)]; rfl
 have hno : ¬ S w.heap.size := h.out
 have HQ := Lib.hid (h.alloc (.cells #[.pointer (some ⟨wb, 0, none⟩)] 62))
 have HE := Lib.hid (fun (B' : List Bool) (w' : World) (hn : zab (w.alloc (.cells #[.pointer (some ⟨wb, 0, none⟩)] 62)) S wb false B' w') => zab.trans (S := S) ((zaa.refl S w).alloc (.cells #[.pointer (some ⟨wb, 0, none⟩)] 62)) (fun b hb => .inl hb) hn)
 have HR := Lib.hid (hr.mono (zap w (.cells #[.pointer (some ⟨wb, 0, none⟩)] 62)))
 have hs0 : (w.alloc (.cells #[.pointer (some ⟨wb, 0, none⟩)] 62)).heap.size = w.heap.size + 1 := zaf _ _
 have HSL := Lib.hid (fun b (hb : S b) => (h.lt b hb).2)
 have HA := Lib.hid ha
 have HAL := Lib.hid hal
 have HX := Lib.hid hno
 have HL := Lib.hid hl
 have HD := Lib.hid hd
 have hcapm := hr.2.2.1
 have hcapn := hr.2.1
 unfold maxLen at hcapm
 clear h hr ha hal hno hl hd
 have hk3 : kind = 0 ∨ kind = 1 ∨ kind = 2 := by omega
 rcases hk3 with rfl | rfl | rfl
 · have HST := Lib.hid (by
     have h := stored_any (a := a) (cap := cap) (b := b) last HQ.out (by rw [HL.out]; exact HR.out) HA.out (by rw [HL.out]; exact hb) (by omega)
     rw [HL.out] at h
     exact h)
   unfold wrA at HST ⊢
   go_enter Tryz.func39, Tryz.ntmps39
   go_wp2_with fail
   refine HST.out.mono ?_
   rintro e w1 ⟨rfl, hn1⟩
   have HEND := Lib.hid (show zcD w S wb B 0 last b (.returned (.tuple #[])) w1 from ⟨rfl, _, .inl ⟨rfl, by rw [HL.out]; exact hb, rfl⟩, Nat.le_trans (stoB_le _ _ _) (by omega), HE.out _ _ hn1⟩)
   clear hn1 HST
   go_wp2_with fail
   go_end0
   exact HEND.out
 · have HTK := Lib.hid (show ∀ w', Below (w.alloc (.cells #[.pointer (some ⟨wb, 0, none⟩)] 62)).heap.size (w.alloc (.cells #[.pointer (some ⟨wb, 0, none⟩)] 62)) w' → Calls Tryz.prog 69 #[.slice a n cap] w' (TokEnd b w') from
     fun w' hb' => zcG (HR.out.mono hb') (fun x hx => by have := HAL.out x hx; have := hb'.size; omega) (by omega))
   have HFX := Lib.hid (show ∀ w' w1 (ts : List LT) (aT : Option Addr) (cT : Nat), Below (w.alloc (.cells #[.pointer (some ⟨wb, 0, none⟩)] 62)).heap.size (w.alloc (.cells #[.pointer (some ⟨wb, 0, none⟩)] 62)) w' → Below w'.heap.size w' w1 → Row w1 3 aT ts.length cT (tokV ts) → (∀ x, aT = some x → w'.heap.size ≤ x.block ∧ x.block < w1.heap.size) → expT ts [] = some b → ts.length ≤ b.length →
       Calls Tryz.prog 68 #[wrA wb, .slice aT ts.length cT, .bool last] w1 (fun e w2 => e = .returned (.tuple #[]) ∧ zcD w S wb B 1 last b (.returned (.tuple #[])) w2) from
     fun w' w1 ts aT cT hb1 hb2 hrT haT heT hlT => by
       have hs1 := hb1.size
       have hs2 := hb2.size
       have hb12 : Below (w.alloc (.cells #[.pointer (some ⟨wb, 0, none⟩)] 62)).heap.size (w.alloc (.cells #[.pointer (some ⟨wb, 0, none⟩)] 62)) w1 := hb1.trans (hb2.mono hs1)
       have q1 := HQ.out.blw hb12
       have hln := HL.out
       have hnS : ∀ x, aT = some x → ¬ S x.block := fun x hx hS => by have := HSL.out _ hS; have := (haT x hx).1; omega
       refine (fixed_blk last q1 hrT hnS (fun x hx => (haT x hx).2) (zbB heT) (by omega) (by omega)).mono ?_
       rintro e w2 ⟨rfl, hn2⟩
       refine ⟨rfl, rfl, _, .inr (.inl ⟨rfl, ts, heT, rfl⟩), Nat.le_trans (fixB_le last (zbB heT)) (by omega), HE.out _ _ (zab.trans (S := S) (zaa.of_below2 hb12) (fun b hb => .inl hb) hn2)⟩)
   unfold wrA at HFX
   unfold wrA
   go_enter Tryz.func39, Tryz.ntmps39
   go_upto_region 5 with fail
   generalize (w.alloc (.cells #[.pointer (some ⟨wb, 0, none⟩)] 62)) = w0 at HTK HFX HQ HE HR hs0 hc ⊢
   have hw0 : w.heap.size < w0.heap.size := by omega
   go_region_with (first
     | (go_at_call 69; refine (HTK.out _ ((Below.refl _ _).drew)).mono ?_; rintro e w1 ⟨hb1, ts, aT, cT, rfl, hrT, haT, heT, hlT⟩; have hc1 : w1.cell? ⟨w.heap.size, 0, none⟩ = some (.pointer (some ⟨wb, 0, none⟩)) := zay hb1 hw0 hc)
     | (go_at_call 68; refine (HFX.out _ _ ts aT cT ((Below.refl _ _).drew) hb1 hrT haT heT hlT).mono ?_; rintro e w2 ⟨rfl, hend⟩))
   all_goals (go_wp2; go_end0; exact hend)
 · have HTK := Lib.hid (show ∀ w', Below (w.alloc (.cells #[.pointer (some ⟨wb, 0, none⟩)] 62)).heap.size (w.alloc (.cells #[.pointer (some ⟨wb, 0, none⟩)] 62)) w' → Calls Tryz.prog 69 #[.slice a n cap] w' (TokEnd b w') from
     fun w' hb' => zcG (HR.out.mono hb') (fun x hx => by have := HAL.out x hx; have := hb'.size; omega) (by omega))
   have HFX := Lib.hid (show ∀ w' w1 (ts : List LT) (aT : Option Addr) (cT : Nat), Below (w.alloc (.cells #[.pointer (some ⟨wb, 0, none⟩)] 62)).heap.size (w.alloc (.cells #[.pointer (some ⟨wb, 0, none⟩)] 62)) w' → Below w'.heap.size w' w1 → Row w1 3 aT ts.length cT (tokV ts) → (∀ x, aT = some x → w'.heap.size ≤ x.block ∧ x.block < w1.heap.size) → expT ts [] = some b → ts.length ≤ b.length →
       Calls Tryz.prog 70 #[wrA wb, .slice aT ts.length cT, .bool last] w1 (fun e w2 => e = .returned (.tuple #[]) ∧ zcD w S wb B 2 last b (.returned (.tuple #[])) w2) from
     fun w' w1 ts aT cT hb1 hb2 hrT haT heT hlT => by
       have hs1 := hb1.size
       have hs2 := hb2.size
       have hb12 : Below (w.alloc (.cells #[.pointer (some ⟨wb, 0, none⟩)] 62)).heap.size (w.alloc (.cells #[.pointer (some ⟨wb, 0, none⟩)] 62)) w1 := hb1.trans (hb2.mono hs1)
       have q1 := HQ.out.blw hb12
       have hln := HL.out
       have hnS : ∀ x, aT = some x → ¬ S x.block := fun x hx hS => by have := HSL.out _ hS; have := (haT x hx).1; omega
       refine (HD.out rfl w1 S wb cT aT B ts last b q1 hrT hnS (fun x hx => (haT x hx).2) heT hlT (by omega) hlt).mono ?_
       rintro e w2 ⟨rfl, Z, hZ, hZl, hn2⟩
       refine ⟨rfl, rfl, Z, hZ, hZl, HE.out _ _ (zab.trans (S := S) (zaa.of_below2 hb12) (fun b hb => .inl hb) hn2)⟩)
   unfold wrA at HFX
   unfold wrA
   go_enter Tryz.func39, Tryz.ntmps39
   go_upto_region 7 with fail
   generalize (w.alloc (.cells #[.pointer (some ⟨wb, 0, none⟩)] 62)) = w0 at HTK HFX HQ HE HR hs0 hc ⊢
   have hw0 : w.heap.size < w0.heap.size := by omega
   go_region_with (first
     | (go_at_call 69; refine (HTK.out _ ((Below.refl _ _).drew)).mono ?_; rintro e w1 ⟨hb1, ts, aT, cT, rfl, hrT, haT, heT, hlT⟩; have hc1 : w1.cell? ⟨w.heap.size, 0, none⟩ = some (.pointer (some ⟨wb, 0, none⟩)) := zay hb1 hw0 hc)
     | (go_at_call 70; refine (HFX.out _ _ ts aT cT ((Below.refl _ _).drew) hb1 hrT haT heT hlT).mono ?_; rintro e w2 ⟨rfl, hend⟩))
   all_goals (go_wp2; go_end0; exact hend)
def PackEnd (w : World) (b : List UInt8) (kind : Nat) (e : Ending) (w' : World) : Prop :=
 Below w.heap.size w w' ∧ ∃ (bs : List UInt8) (v : Value) (Z : List Bool), e = .returned v ∧ w'.ownsRow w.heap.size 5 1 v bs.length (bs.map fun b => .int .u8 b.toNat) ∧ zc5 0 kind true b Z ∧ zaY bs false Z ∧ Z.length ≤ 60 * b.length + 8000
theorem pack_any {w : World} {n cap kind cb : Nat} {a : Option Addr} {b : List UInt8} (hk : kind ≤ 2) (hd : kind = 2 → DynSaid) (hr : Row w 1 a n cap (b.map fun x => .int .u8 x.toNat)) (hal : ∀ x, a = some x → x.block < w.heap.size)
   (hc : w.cell? ⟨cb, 0, none⟩ = some (.slice a n cap)) (hb : n ≤ 65535) :
   Calls Tryz.prog 37 #[.int .i64 kind, .pointer (some ⟨cb, 0, none⟩)] w (PackEnd w b kind) := by
 have HR := Lib.hid hr
 have HAL := Lib.hid hal
 have hl : b.length = n := by have := hr.1; simpa using this
 have HL := Lib.hid hl
 have HD := Lib.hid hd
 have HNW := Lib.hid (new_wr false w)
 have hcb : cb < w.heap.size := World.block_lt_of_cell? w _ hc
 clear hr hal hl hd
 go_enter Tryz.func37, Tryz.ntmps37
 go_wp2_with fail
 refine HNW.out.mono ?_
 rintro e w1 ⟨rfl, hq1, hb1, hs1⟩
 have hc1 := zay hb1 hcb hc
 have hbA := zap w1 (.cells #[.pointer (some ⟨w.heap.size, 0, none⟩)] 62)
 have hc2 := cell?_keep hbA hc1
 have hq2 := hq1.alloc (.cells #[.pointer (some ⟨w.heap.size, 0, none⟩)] 62)
 have ht2 : (w1.alloc (.cells #[.pointer (some ⟨w.heap.size, 0, none⟩)] 62)).cell? ⟨w1.heap.size, 0, none⟩ = some (.pointer (some ⟨w.heap.size, 0, none⟩)) := by
   rw [cell_of_row _ _ 0 _ _ _ (heap_alloc_new w1 _)]; rfl
 have HB2 := Lib.hid (show Below w.heap.size w (w1.alloc (.cells #[.pointer (some ⟨w.heap.size, 0, none⟩)] 62)) from hb1.alloc hb1.size _)
 have hs2 := zaf w1 (.cells #[.pointer (some ⟨w.heap.size, 0, none⟩)] 62)
 have HQ2 := Lib.hid hq2
 clear hb1 hq1 hbA hq2 hc hc1
 go_upto_region 2 with fail
 rw [hs1] at ht2 hs2
 obtain ⟨tb, htb⟩ : ∃ tb, tb = w.heap.size + 1 := ⟨_, rfl⟩
 rw [← htb] at ht2 hs2 ⊢
 generalize w1.alloc (.cells #[.pointer (some ⟨w.heap.size, 0, none⟩)] 62) = w2 at HB2 HQ2 hc2 ht2 hs2 ⊢
 obtain ⟨wb, hwb⟩ : ∃ wb, wb = w.heap.size := ⟨_, rfl⟩
 rw [← hwb] at ht2 HQ2 ⊢
 have HPT := Lib.hid (part_any (wb := wb) (n := n) (cap := cap) (kind := kind) (a := a) (B := []) (b := b) true hk HD.out HQ2.out (HR.out.mono HB2.out) (fun x hx h => by have := HAL.out x hx; omega) (fun x hx => by have := HAL.out x hx; have := HB2.out.size; omega) hb (by simp))
 unfold wrA at HPT
 have HWB := Lib.hid hwb
 have HTB := Lib.hid htb
 clear hwb htb
 go_upto_region 3 with fail
 refine HPT.out.mono ?_
 rintro e w3 ⟨rfl, Z, hZ, hZl, hn3⟩
 have ht3 := hn3.cell ht2 (by have := HWB.out; have := HTB.out; omega)
 rw [List.nil_append] at hn3
 obtain ⟨S3, q3, k3, s3⟩ := hn3
 have hb3 : Below w.heap.size w w3 := HB2.out.trans (k3.below HB2.out.size (fun b hb => by have := HWB.out; omega))
 have HBY := Lib.hid (wbytes_any wb false Z S3 w3 q3 (by have := HL.out; omega))
 have HB3 := Lib.hid hb3
 have HZ := Lib.hid (And.intro hZ hZl)
 clear hZ hZl q3 k3 s3 hb3 HPT HQ2 HNW hc2 ht2
 go_wp2_with fail
 refine HBY.out.mono ?_
 rintro e w4 ⟨bs, v, hw, rfl, hO, hb4⟩
 have HEND := Lib.hid (show PackEnd w b kind (.returned v) w4 from ⟨HB3.out.trans (hb4.mono HB3.out.size), bs, v, Z, rfl, za7 hO HB3.out.size, HZ.out.1, hw, HZ.out.2⟩)
 clear hw hO hb4 HBY
 go_wp2_with fail
 go_ret
 exact HEND.out
def DefEnd (w : World) (b : List UInt8) (kind : Nat) (e : Ending) (w' : World) : Prop :=
 Below w.heap.size w w' ∧ ∃ (bs : List UInt8) (v : Value) (Z : List Bool) (k : Nat), e = .returned (.tuple #[v, .int .i64 0]) ∧ w'.ownsRow w.heap.size 5 1 v bs.length (bs.map fun b => .int .u8 b.toNat) ∧ k ≤ 2 ∧ (kind ≤ 2 → k = kind) ∧ zc5 0 k true b Z ∧ zaY bs false Z ∧ Z.length ≤ 60 * b.length + 8000
theorem zcM {w : World} {n cap kind : Nat} {a : Option Addr} {b : List UInt8} (hk : kind ≤ 2) (hd : kind = 2 → DynSaid) (hr : Row w 1 a n cap (b.map fun x => .int .u8 x.toNat)) (hal : ∀ x, a = some x → x.block < w.heap.size) (hb : n ≤ 65535) :
   Calls Tryz.prog 13 #[.slice a n cap, .int .i64 kind] w (DefEnd w b kind) := by
 have hbA := zap w (.cells #[.slice a n cap] 22)
 have hsA := zaf w (.cells #[.slice a n cap] 22)
 have hc : (w.alloc (.cells #[.slice a n cap] 22)).cell? ⟨w.heap.size, 0, none⟩ = some (.slice a n cap) := by
   rw [cell_of_row _ _ 0 _ _ _ (heap_alloc_new w _)]; rfl
 have HP := Lib.hid (pack_any hk hd (hr.mono hbA) (fun x hx => by have := hal x hx; omega) hc hb)
 have HB := Lib.hid hbA
 have d1 : decide ((kind : Int) < 0) = false := decide_eq_false (by omega)
 have d2 : decide ((kind : Int) > 3) = false := decide_eq_false (by omega)
 have d3 : decide ((n : Int) > 16777216) = false := decide_eq_false (by omega)
 have d4 : ((kind : Int) != 3) = true := by simp; omega
 have d4b : ((kind : Int) == 3) = false := by simp; omega
 have d4c : decide ((kind : Int) = 3) = false := decide_eq_false (by omega)
 clear hr hal hbA hsA
 go_enter Tryz.func13, Tryz.ntmps13
 go_upto_region 1 with fail
 generalize w.alloc (.cells #[.slice a n cap] 22) = w0 at HP HB hc ⊢
 go_wp2_with fail
 refine HP.out.mono ?_
 rintro e w1 ⟨hb1, bs, v, Z, rfl, hO, hZ, hw, hl⟩
 have HEND := Lib.hid (show DefEnd w b kind (.returned (.tuple #[v, .int .i64 0])) w1 from ⟨HB.out.trans (hb1.mono HB.out.size), bs, v, Z, kind, rfl, za7 hO HB.out.size, hk, fun _ => rfl, hZ, hw, hl⟩)
 clear hb1 hO hZ hw hl HP
 go_wp2_with fail
 go_ret2
 exact HEND.out
def mkB7 (l : List UInt8) : ByteArray := ⟨l.toArray⟩
theorem conv_own7 {w : World} {base : Nat} {v : Value} {o : List UInt8} (hr : w.ownsRow base 5 1 v o.length (o.map fun b => .int .u8 b.toNat)) : (convert 22 9 v).run Tryz.prog w = .ok (.string (mkB7 o)) w := by
 rcases hr.2 with ⟨rfl, h0⟩ | ⟨g, cap, cur, rfl, _⟩
 · have ho : o = [] := List.eq_nil_of_length_eq_zero h0
   subst ho
   rw [run_convert_bytes_string w 22 9 5 none 0 0 Tryz.underlying22 Tryz.underlying5 Tryz.underlying9]
   rfl
 · refine run_convert_bytes_back (P := Tryz.prog) w 22 9 5 ⟨g, 0, none⟩ cap o Tryz.underlying22 Tryz.underlying5 Tryz.underlying9 (fun j hj => ?_)
   exact hr.cells (g := g) rfl j (.int .u8 o[j].toNat) (by simp [hj])
theorem bound_zero (w : World) : Calls Tryz.prog 17 #[.int .i64 0] w fun e w' => e = .returned (.int .i64 5) ∧ w = w' := by
 go_enter Tryz.func17, Tryz.ntmps17
 go_wp2
 go_ret
 exact ⟨rfl, rfl⟩
theorem wrote_len {bs : List UInt8} {Z : List Bool} (h : zaY bs false Z) : bs.length ≤ (Z.length + 7) / 8 := Nat.le_of_eq h.1
theorem works07_one {bs : List UInt8} {Z : List Bool} {k : Nat} {b : List UInt8} (hP : zc5 0 k true b Z) (hw : zaY bs false Z) {most : Nat} (hm : b.length ≤ most) :
   (endI bs most).e = 0 ∧ resO (endI bs most) = b ∧ resN (endI bs most) = bs.length := by
 have h := (zbs.one (p := 0) hP).res (most := most) hw (by simpa using hm)
 simpa using h
set_option maxRecDepth 20000 in
theorem works7_any (w : World) : Calls Tryz.prog 12 #[] w fun e w' => e = .returned (.bool true) ∧ Below w.heap.size w w' := by
 have HA := Lib.hid (zcM (w := w) (n := 0) (cap := 0) (kind := 0) (a := none) (b := []) (by omega) (fun h => by omega) (Row.nil w 1) (fun x hx => by cases hx) (by omega))
 have kc := fun (W : World) (C : Array Value) (n c : Nat) => Lib.run_convert_bytes_const (P := Tryz.prog) W 22 5 C n c Tryz.underlying22 Tryz.underlying5
 go_enter Tryz.func12, Tryz.ntmps12
 go_wp2_with fail
 refine HA.out.mono ?_
 rintro e w1 ⟨hb1, bsA, vA, ZA, kA, rfl, hOA, -, hkA, hZA, hwA, -⟩
 obtain rfl := hkA (by omega)
 have hA : bsA = [1, 0, 0, 255, 255] := by
   rcases hZA with ⟨-, -, rfl⟩ | ⟨h, -⟩ | ⟨h, -⟩
   · exact (sto_bytes hwA (by simp)).trans (by decide)
   · cases h
   · cases h
 subst hA
 obtain ⟨a1, c1, rfl, -, -⟩ := Row.of_owns hOA
 have HOA := Lib.hid hOA
 have HB1 := Lib.hid hb1
 clear hOA hZA hwA hkA hb1
 have hbC := zap w1 (.cells #[.int .u8 97] 5 (1, 2))
 have HBB := Lib.hid (zcM (w := w1.alloc (.cells #[.int .u8 97] 5 (1, 2))) (n := 1) (cap := 1) (kind := 1) (a := some ⟨w1.heap.size, 0, none⟩) (b := [97]) (by omega) (fun h => by omega)
   ⟨rfl, Nat.le_refl _, by simp [maxLen], fun h => (by cases h), fun _ => ⟨_, _, rfl, by rw [zaf]; omega, fun j u hj => by
     rw [Nat.zero_add, World.cell?_alloc_mark]; simpa using hj⟩⟩ (fun x hx => by cases hx; rw [zaf]; exact Nat.lt_succ_self _) (by omega))
 have HB2 := Lib.hid (HB1.out.trans (hbC.mono HB1.out.size))
 have HOA2 := Lib.hid (zad HOA.out hbC)
 clear hbC HOA
 go_wp2_with fail
 refine HBB.out.mono ?_
 rintro e w3 ⟨hb3, bsB, vB, ZB, kB, rfl, hOB, -, hkB, hZB, hwB, -⟩
 obtain rfl := hkB (by omega)
 have hbl : bsB.length ≤ 100 := by
   rcases hZB with ⟨h, -⟩ | ⟨-, ts, hts, rfl⟩ | ⟨h, -⟩
   · cases h
   · have h1 := fixB_le true (zbB hts)
     have h2 := zcE ts hts
     have h3 := wrote_len hwB
     simp at h2
     omega
   · cases h
 obtain ⟨he, hres, hrn⟩ := works07_one hZB hwB (most := 9) (by decide)
 obtain ⟨a2, c2, rfl, hrB, -⟩ := Row.of_owns hOB
 have HI := Lib.hid (inflate_res w3 a2 c2 9 bsB hrB (by omega) (by omega))
 have HB3 := Lib.hid (HB2.out.trans (hb3.mono HB2.out.size))
 have HOA3 := Lib.hid (zad HOA2.out hb3)
 have HR := Lib.hid (And.intro he (And.intro hres hrn))
 clear hb3 hOB hkB hZB hwB hrB he hres hrn HOA2 HBB
 go_wp2_with fail
 refine HI.out.mono ?_
 rintro e w4 ⟨v4, B4, rfl, hO4, hb4⟩
 rw [HR.out.1, HR.out.2.1, HR.out.2.2] at *
 obtain ⟨a4, c4, rfl, -, -⟩ := Row.of_owns hO4
 have hcx : (convert 22 9 (.slice a4 ([97] : List UInt8).length c4)).run Tryz.prog w4 = .ok (.string (mkB7 [97])) w4 := conv_own7 hO4
 have hcy : (convert 22 9 (.slice a1 ([1, 0, 0, 255, 255] : List UInt8).length c1)).run Tryz.prog w4 = .ok (.string (mkB7 [1, 0, 0, 255, 255])) w4 := conv_own7 (zad HOA3.out hb4)
 have HE := Lib.hid (HB3.out.trans (hb4.mono HB3.out.size))
 have HBD := Lib.hid (bound_zero w4)
 clear hO4 hb4 HI
 dsimp only [List.length_cons, List.length_nil] at hcx hcy ⊢
 have ht : ((mkB7 [97]).toList == [97]) = true := by kernel_rfl
 have ht2 : ((mkB7 [1, 0, 0, 255, 255]).toList == [1, 0, 0, 255, 255]) = true := by kernel_rfl
 go_wp2_with fail
 refine HBD.out.mono ?_
 rintro e w5 ⟨rfl, rfl⟩
 go_wp2_with fail
 go_ret
 exact ⟨rfl, HE.out⟩
theorem zdD : zcd Tryz.prog 42 45 (.agg #[.int .i64 0, .int .i64 0]) 2 16 := ⟨Tryz.underlying42, by kernel_rfl, rfl, by omega⟩
theorem zds {w w' : World} {r : Option Nat} (h : w.drew.grownBy w' r) : w.grownBy w' r := ⟨h.os, h.tape, h.output, h.size, h.block⟩
def zbN (l : List Int) (k : Nat) : Bool := decide (l.length ≤ 316) && (l.take k).all fun x => decide (0 ≤ x) && decide (x ≤ 15)
theorem goodR_succ (l : List Int) (k : Nat) (hk : k < l.length) : zbN l (k + 1) = (zbN l k && decide (0 ≤ l.getD k 0) && decide (l.getD k 0 ≤ 15)) := by
 have e : l.take (k + 1) = l.take k ++ [l.getD k 0] := by
   rw [List.take_add_one, List.getD_eq_getElem?_getD, List.getElem?_eq_getElem hk]; rfl
 unfold zbN
 rw [e, List.all_append]
 simp [Bool.and_assoc]
theorem goodR_true {l : List Int} (h : zbN l l.length = true) : l.length ≤ 316 ∧ ∃ L : List Nat, l = L.map (fun k : Nat => (k : Int)) ∧ ∀ x ∈ L, x ≤ 15 := by
 unfold zbN at h
 rw [List.take_length, Bool.and_eq_true] at h
 refine ⟨by simpa using h.1, l.map Int.toNat, ?_, fun x hx => ?_⟩
 · rw [List.map_map]
   have : ∀ x ∈ l, ((fun k : Nat => (k : Int)) ∘ Int.toNat) x = x := fun x hx => by
     have := List.all_eq_true.1 h.2 x hx
     simp at this
     show ((x.toNat : Nat) : Int) = x
     omega
   exact ((List.map_congr_left this).trans (List.map_id' l)).symm
 · obtain ⟨y, hy, rfl⟩ := List.mem_map.1 hx
   have := List.all_eq_true.1 h.2 y hy
   simp at this
   omega
theorem goodR_false {l : List Int} (h : zbN l l.length = false) : 316 < l.length ∨ l.any badR = true := by
 unfold zbN at h
 rw [List.take_length] at h
 by_cases h1 : l.length ≤ 316
 · right
   simp only [h1, decide_true, Bool.true_and] at h
   rw [List.all_eq_false] at h
   obtain ⟨x, hx, hb⟩ := h
   rw [List.any_eq_true]
   refine ⟨x, hx, ?_⟩
   unfold badR
   simp at hb ⊢
   omega
 · left; omega
theorem law_druns {w : World} {a : Option Addr} {n cap : Nat} {l : List Int} (hr : Row w 1 a n cap (l.map fun x => .int .i64 x)) : Calls Tryz.prog 6 #[.slice a n cap] w fun e w' => e = .returned (.bool true) ∧ Below w.heap.size w w' := by
 have hl := hr.len1
 have HW := Lib.hid (fun W => works7_any W)
 have hni : (n : Int) ≤ 9223372036854775807 := hr.i64
 by_cases h400 : 400 < n
 · have d1 : decide ((n : Int) > 400) = true := decide_eq_true (by omega)
   clear hr
   go_enter Tryz.func6, Tryz.ntmps6
   go_wp2_with fail
   refine (HW.out _).mono ?_
   rintro e w1 ⟨rfl, hb⟩
   have HB := Lib.hid hb
   clear hb
   go_wp2_with fail
   go_ret
   exact ⟨rfl, HB.out⟩
 have d1 : decide ((n : Int) > 400) = false := decide_eq_false (by omega)
 have HR := Lib.hid hr
 have HL := Lib.hid hl
 have hcapm := hr.2.2.1
 have hcapn := hr.2.1
 unfold maxLen at hcapm
 have HG0 := Lib.hid (show zbN l 0 = decide ((n : Int) ≤ 316) from by
   unfold zbN
   rw [hl, List.take_zero, List.all_nil, Bool.and_true]
   exact decide_eq_decide.2 (by omega))
 have HRB := Lib.hid (fun (hh : 316 < n ∨ l.any badR = true) (W : World) (hb : Below w.heap.size w W) => runs_bad (hr.mono hb) hh)
 clear hr hl
 go_enter Tryz.func6, Tryz.ntmps6
 go_wp2_with fail
 go_loopw [3, 4] (fun vf vk wr => ∃ k : Nat, vk = .int .i64 k ∧ k ≤ n ∧ wr = w ∧ vf = .bool (zbN l k)) (fun _ vk _ => n - (intOf vk).toNat)
 case atStart => exact ⟨0, rfl, Nat.zero_le _, rfl, by rw [HG0.out]⟩
 case round =>
   obtain ⟨k, rfl, hk, rfl, hf⟩ := hrel
   subst hf
   by_cases hkn : k < n
   case pos =>
     have hd : decide ((k : Int) < (n : Int)) = true := decide_eq_true (by omega)
     have hdi : (k : Int) < (n : Int) := by omega
     obtain ⟨bb, off, rfl, -, hcc⟩ := HR.out.at (0 : Int) 0 (by omega)
     have z0 := hcc k hkn
     have HS := Lib.hid (goodR_succ l k (by rw [HL.out]; exact hkn))
     clear hcc
     generalize l.getD k 0 = x at z0 HS
     generalize zbN l k = f at HS ⊢
     by_cases c0 : f = true
     · subst c0
       by_cases c1 : 0 ≤ x
       · have e1 : decide (x ≥ 0) = true := decide_eq_true c1
         have HS2 := Lib.hid (show zbN l (k + 1) = decide (x ≤ 15) from by rw [HS.out, decide_eq_true c1]; rfl)
         clear HS
         go_wp2_with fail
         go_roundw
         case rel => exact ⟨k + 1, by go_num, by omega, by trivial, by rw [HS2.out]⟩
         case measure => simp [intOf]; omega
       · have e1 : decide (x ≥ 0) = false := decide_eq_false c1
         have e1b : ¬ 0 ≤ x := c1
         have HS2 := Lib.hid (show zbN l (k + 1) = false from by rw [HS.out, decide_eq_false c1]; rfl)
         clear HS
         go_wp2_with fail
         go_roundw
         case rel => exact ⟨k + 1, by go_num, by omega, by trivial, by rw [HS2.out]⟩
         case measure => simp [intOf]; omega
     · have c0 : f = false := by simpa using c0
       subst c0
       have HS2 := Lib.hid (show zbN l (k + 1) = false from by rw [HS.out]; rfl)
       clear HS
       go_wp2_with fail
       go_roundw
       case rel => exact ⟨k + 1, by go_num, by omega, by trivial, by rw [HS2.out]⟩
       case measure => simp [intOf]; omega
   have hkn2 : k = n := by omega
   subst hkn2
   have hd : decide ((k : Int) < (k : Int)) = false := decide_eq_false (by omega)
   obtain ⟨g, hg⟩ : ∃ g, g = zbN l k := ⟨_, rfl⟩
   have HG := Lib.hid hg
   rw [← hg]
   clear hg
   by_cases hgt : g = true
   case neg =>
     have hgf : g = false := by simpa using hgt
     subst hgf
     have HRN := Lib.hid (HRB.out (by have h := goodR_false (l := l) (by rw [HL.out]; exact HG.out.symm); rw [HL.out] at h; exact h) wr (Below.refl _ _))
     clear HRB
     go_wp2_with fail
     refine HRN.out.mono ?_
     rintro e w1 ⟨hb1, v1, rfl, hO1⟩
     obtain ⟨a1, c1, rfl, -, -⟩ := Row.of_owns hO1
     have HB1 := Lib.hid hb1
     clear hb1 hO1 HRN
     go_wp2_with fail
     go_loopw [6, 7] (fun vs vk wk => vs = .slice none 0 0 ∧ vk = .int .i64 0 ∧ wk = w1) (fun _ _ _ => 0)
     case atStart => exact ⟨rfl, rfl, rfl⟩
     case round =>
       obtain ⟨rfl, rfl, rfl⟩ := hrel
       go_wp2_with fail
       refine (HW.out _).mono ?_
       rintro e w2 ⟨rfl, hb⟩
       have HB := Lib.hid (HB1.out.trans (hb.mono HB1.out.size))
       clear hb
       go_wp2_with fail
       go_ret
       exact ⟨rfl, HB.out⟩
   subst hgt
   obtain ⟨h316, L, hLl, hL15⟩ := goodR_true (l := l) (by rw [HL.out]; exact HG.out.symm)
   have hLlen : L.length = k := by have h := HL.out; rw [hLl, List.length_map] at h; exact h
   have hrow : Row wr 1 a k cap (nV L) := by
     have h := HR.out
     rw [hLl, List.map_map] at h
     exact h
   have HRN := Lib.hid (runs_fine hrow (by rw [← hLlen]; rw [hLl, List.length_map] at h316; exact h316) hL15)
   have HBACK := Lib.hid (show zaM (zbm L.length L) [] = some L from by rw [zdj L.length L [] (Nat.le_refl _) hL15, List.nil_append])
   have hRlen : (zbm L.length L).length ≤ 400 := by
     have h := zaR _ HBACK.out
     simp at h
     omega
   have HROW := Lib.hid hrow
   have HLL := Lib.hid hLlen
   clear hLlen hrow hLl h316 hL15 HR HL HG HRB HG0
   generalize zbm L.length L = R at HRN HBACK hRlen
   go_wp2_with fail
   refine HRN.out.mono ?_
   rintro e w1 ⟨hb1, v1, rfl, hO1⟩
   obtain ⟨a1, c1, rfl, hR1, hA1⟩ := Row.of_owns hO1
   have HB1 := Lib.hid hb1
   have HR1 := Lib.hid hR1
   have HA1 := Lib.hid (show ∀ x, a1 = some x → x.block < w1.heap.size from fun x hx => by
     have := hO1.lt x.block (by rw [hx]; rfl)
     exact this.2)
   have hc1 := hR1.2.1
   have hc1m := hR1.2.2.1
   unfold maxLen at hc1m
   obtain ⟨N, hN⟩ : ∃ N, N = R.length := ⟨_, rfl⟩
   rw [← hN] at HR1 hc1 hRlen ⊢
   have HN := Lib.hid hN
   clear hb1 hO1 HRN hR1 hN hA1
   go_wp2_with fail
   go_loopw [6, 7] (fun vs vj wk => ∃ j : Nat, vj = .int .i64 j ∧ j ≤ N ∧ Hid (wk.ownsRow w1.heap.size 45 2 vs j (prV (R.take j))) ∧ Hid (Below w1.heap.size w1 wk)) (fun _ vj _ => N - (intOf vj).toNat)
   case atStart => exact ⟨0, rfl, Nat.zero_le _, Lib.hid (World.ownsRow_nil _ _ _ _), Lib.hid (Below.refl _ _)⟩
   case round =>
     obtain ⟨j, rfl, hj, HO, HB⟩ := hrel
     obtain ⟨sa, sc, rfl, hSrow, hSbase⟩ := Row.of_owns HO.out
     by_cases hjN : j < N
     case pos =>
       have hd2 : decide ((j : Int) < (N : Int)) = true := decide_eq_true (by omega)
       have hdi2 : (j : Int) < (N : Int) := by omega
       obtain ⟨⟨s, v⟩, hsv⟩ : ∃ p, R[j]? = some p := ⟨_, List.getElem?_eq_getElem (by rw [← HN.out]; exact hjN)⟩
       obtain ⟨bb, off, rfl, hbb, hcc⟩ := HR1.out.2.2.2.2 (by omega)
       obtain ⟨t0, t1⟩ := prV_at R j s v hsv
       have z0 : wr.cell? ⟨bb, off + j * 2, none⟩ = some (.int .i64 s) := zay HB.out hbb (hcc _ _ t0)
       have z1 : wr.cell? ⟨bb, off + j * 2 + 1, none⟩ = some (.int .i64 v) := zay HB.out hbb (by rw [Nat.add_assoc]; exact hcc _ _ t1)
       have HTK := Lib.hid (show prV (R.take (j + 1)) = prV (R.take j) ++ [.int .i64 s, .int .i64 v] from by
         rw [List.take_add_one, hsv, za3]; rfl)
       obtain ⟨iB, hiB, hzB, hsB, hbB⟩ := info_parts zdD.info
       clear hcc t0 t1 hsv hSrow hSbase
       go_wp2_with fail
       go_region_held_law (fun w' => w'.cell? ⟨bb, off + j * 2, none⟩ = some (.int .i64 s) ∧ w'.cell? ⟨bb, off + j * 2 + 1, none⟩ = some (.int .i64 v))
         (first
           | go_keep
           | (go_split_ands; exact ⟨HA8.out _ _ _ (by assumption) hbb, HA8.out _ _ _ (by assumption) hbb⟩))
         (first
           | (refine step_append_lies _ (by rfl) _ _ _ (by rfl) w1.heap.size 45 iB _ 2 16 zdD.und hiB hzB hsB hbB zdD.cells zdD.pos (.slice sa j sc) j (prV (R.take j)) (by rfl) ((HO.out.alloc _).drew) ⟨wr.heap.size, 0, none⟩ 1 1 [.int .i64 s, .int .i64 v] (by rfl) (by rfl) (World.news_of_block (cs := #[.int .i64 s, .int .i64 v]) (t := 45) (fr := (0, 0)) (heap_alloc_new wr _)) (by simp [Value.oneCell']) (by omega) (by unfold maxLen; omega) (by omega) (by simp; have := HB.out.size; omega) (wr.heap.size + 1) (by simp) ?_; intro g cap7 w7 hO7 hgrow hat hlt7; have HO8 := Lib.hid hO7; have HB8 := Lib.hid ((HB.out.alloc HB.out.size _).grown (zds hgrow) (by rw [zaf]; have := HB.out.size; omega) (fun b hb => (HO.out.lt b hb).1)); have HA8 := Lib.hid (fun (b o : Nat) (u : Value) (h : World.cell? _ ⟨b, o, none⟩ = some u) (hb : b < w1.heap.size) => (zaa.of_grown (S := fun q => w1.heap.size ≤ q) hgrow (fun q hq => (HO.out.lt q hq).1)).cell h (Nat.not_le.2 hb)); clear hO7 hgrow hat hlt7))
       simp only [List.getElem_toArray, List.getElem_cons_succ, List.getElem_cons_zero, List.setIfInBounds_toArray, List.set_cons_zero, List.set_cons_succ]
       go_wp2_with fail
       exact ⟨⟨j + 1, by go_num, by omega, by rw [HTK.out]; exact HO8, HB8⟩, by simp [intOf]; omega⟩
     have hjN2 : j = N := by omega
     subst hjN2
     have hd2 : decide ((j : Int) < (j : Int)) = false := decide_eq_false (by omega)
     have HLN := Lib.hid (rlens_any (w := wr) (a := sa) (n := j) (cap := sc) (R := R) (M := L) (by rw [List.take_of_length_le (Nat.le_of_eq HN.out.symm)] at hSrow; exact hSrow) HBACK.out (by rw [HLL.out]; omega))
     have HRX := Lib.hid (show Row wr 1 a k cap (nV L) from HROW.out.mono (HB1.out.trans (HB.out.mono HB1.out.size)))
     have HBX := Lib.hid (HB1.out.trans (HB.out.mono HB1.out.size))
     clear hSrow hSbase HO HB HB1 HROW HBACK HR1
     go_wp2_with fail
     refine HLN.out.mono ?_
     rintro e w2 ⟨hb2, v2, rfl, hO2⟩
     obtain ⟨a2, c2, rfl, hR2, -⟩ := Row.of_owns hO2
     have HR2 := Lib.hid hR2
     have HB2 := Lib.hid (HBX.out.trans (hb2.mono HBX.out.size))
     have HR3 := Lib.hid (HRX.out.mono hb2)
     have hll : L.length = k := HLL.out
     rw [hll] at HR2 ⊢
     clear hb2 hO2 hR2 HBX HRX HLN hll
     have hc2 := HR2.out.2.1
     have hc2m := HR2.out.2.2.1
     unfold maxLen at hc2m
     have hkk : ((k : Int) != (k : Int)) = false := by simp
     have hkk2 : ((k : Int) == (k : Int)) = true := by simp
     go_wp2_with fail
     go_loopw [10] (fun vj wk => ∃ q : Nat, vj = .int .i64 q ∧ q ≤ k ∧ Hid (∃ t, wk = w2.drewN t)) (fun vj _ => k - (intOf vj).toNat)
     case atStart => exact ⟨0, rfl, Nat.zero_le _, Lib.hid ⟨0, rfl⟩⟩
     case round =>
       obtain ⟨q, rfl, hq, HQ⟩ := hrel
       obtain ⟨t, ht⟩ := HQ.out
       have HBt := Lib.hid (show RowKit.Below _ _ wr from by rw [ht]; exact zaw HB2.out t)
       by_cases hqk : q < k
       case neg =>
         have hqk2 : q = k := by omega
         subst hqk2
         have hd3 : decide ((q : Int) < (q : Int)) = false := decide_eq_false (by omega)
         have HWW := Lib.hid (HW.out wr)
         clear ht HQ HW
         go_wp2_with fail
         refine HWW.out.mono ?_
         rintro e w3 ⟨rfl, hb3⟩
         have HB3 := Lib.hid (HBt.out.trans (hb3.mono HBt.out.size))
         clear hb3 HWW HBt
         go_wp2_with fail
         go_ret
         exact ⟨rfl, HB3.out⟩
       have hd3 : decide ((q : Int) < (k : Int)) = true := decide_eq_true (by omega)
       have hdi3 : (q : Int) < (k : Int) := by omega
       obtain ⟨b2, o2, rfl, -, hcc2⟩ := HR2.out.at (0 : Nat) 0 (by omega)
       obtain ⟨b3, o3, rfl, -, hcc3⟩ := HR3.out.at (0 : Nat) 0 (by omega)
       have z2 : wr.cell? ⟨b2, o2 + q, none⟩ = some (.int .i64 (L.getD q 0 : Nat)) := by rw [ht]; exact hcc2 q hqk
       have z3 : wr.cell? ⟨b3, o3 + q, none⟩ = some (.int .i64 (L.getD q 0 : Nat)) := by rw [ht]; exact hcc3 q hqk
       have HT := Lib.hid ht
       clear hcc2 hcc3 ht HQ
       generalize ((L.getD q 0 : Nat) : Int) = y at z2 z3
       have hyy : (y != y) = false := by simp
       go_wp2_with fail
       go_quiet (fail)
       go_wp2_with fail
       go_roundw
       case rel => exact ⟨q + 1, by go_num, by omega, Lib.hid ⟨t + nq, by rw [HT.out]; exact zb9 _ _ _⟩⟩
       case measure => simp [intOf]; omega
end Go.Proofs.YtdljglfglekbeaaGreat
