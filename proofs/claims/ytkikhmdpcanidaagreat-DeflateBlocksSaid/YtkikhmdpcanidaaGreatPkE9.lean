/-
  Our texts Lz6 to SortO, in one.
-/
import Derived.Test.YtkikhmdpcanidaaGreatPkE8
import Derived.Maps.OwnOps
import Derived.Lib.SlBytesConst
import Derived.Lib.SmallJoins
import Derived.Deep.RegionHeld3
import Derived.Deep.OwnRows
import Derived.Test.YtkikhmdpcanidaaGreatProg
import Derived.Deep.AppendLies
set_option maxRecDepth 8000
set_option maxHeartbeats 8000000
namespace Go.Proofs.YtkikhmdpcanidaaGreat
open Go.RowKit Go.Maps Go.ChangeMaps
theorem heap_made {w : World} {base bo n : Nat} (h : w.ownsRow base 3 1 (.slice (some ⟨bo, 0, none⟩) n n) n (madeCells #[.int .i64 0] (n * 1)).toList) : w.heap[bo]? = some (.cells (fl n fun _ => .int .i64 0).toArray 3 (0, 0)) := by
 rcases h.2 with ⟨h1, -⟩ | ⟨g, cap, cur, hv, -, hg, -, -, hcs, htk⟩
 · cases h1
 · simp only [Value.slice.injEq, Option.some.injEq, Addr.mk.injEq] at hv
   obtain ⟨⟨rfl, -, -⟩, -, rfl⟩ := hv
   rw [hg, ← zcx]
   rw [Nat.mul_one] at hcs htk
   rw [List.take_of_length_le (by rw [Array.length_toList, hcs]; exact Nat.le_refl _)] at htk
   rw [toList_madeCells_one] at htk
   rw [← htk]
theorem ETokL : zcZ Tryz.prog 89 123 (.agg #[.int .u8 0, .int .i64 0, .int .i64 0]) 3 24 := ⟨Tryz.underlying89, by kernel_rfl, rfl, by omega⟩
theorem ETInt : zcZ Tryz.prog 34 3 (.int .i64 0) 1 8 := ⟨Tryz.underlying34, by kernel_rfl, rfl, by omega⟩
theorem row_newT (w : World) (x y z : Value) (e : TypeId) : Row (w.alloc (.cells #[x, y, z] e)) 3 (some ⟨w.heap.size, 0, none⟩) 1 1 [x, y, z] :=
 ⟨rfl, Nat.le_refl _, by simp [maxLen], fun h => (by cases h), fun _ => ⟨w.heap.size, 0, rfl, by rw [zad]; omega, fun j u hj => by
   rw [Nat.zero_add, cell_of_row _ _ _ _ _ _ (zah _ rfl)]; simpa using hj⟩⟩
theorem one3 {x y z : Value} (hx : x.oneCell' = true) (hy : y.oneCell' = true) (hz : z.oneCell' = true) : ∀ u ∈ [x, y, z], u.oneCell' = true := by
 intro u hu
 simp at hu
 rcases hu with rfl | rfl | rfl
 · exact hx
 · exact hy
 · exact hz
theorem cells3 {w : World} {g : Nat} {x y z : Value} {e : TypeId} (h : w.heap[g]? = some (.cells #[x, y, z] e (0, 0))) : (w.cell? ⟨g, 0, none⟩ = some x ∧ w.cell? ⟨g, 1, none⟩ = some y ∧ w.cell? ⟨g, 2, none⟩ = some z) ∧ ∀ j, w.frozen? ⟨g, j, none⟩ = false :=
 ⟨⟨by rw [cell_of_row w g 0 _ _ _ h]; rfl, by rw [cell_of_row w g 1 _ _ _ h]; rfl, by rw [cell_of_row w g 2 _ _ _ h]; rfl⟩, fun j => frozen_of_row w g j _ _ h⟩
def TokEnd (b : List UInt8) (w : World) (e : Ending) (w' : World) : Prop :=
 Below w.heap.size w w' ∧ ∃ (ts : List LT) (a : Option Addr) (cap : Nat), e = .returned (.slice a ts.length cap) ∧ Row w' 3 a ts.length cap (tokV ts) ∧ (∀ x, a = some x → w.heap.size ≤ x.block ∧ x.block < w'.heap.size) ∧ expT ts [] = some b ∧ ts.length ≤ b.length
def TokI (w wr : World) (B1 fb pb mb : Nat) (a : Option Addr) (n cap i : Nat) (b : List UInt8) (v : Value) : Prop :=
 ∃ ts : List LT, zcn b i ts ∧ FinQ wr fb pb mb a n cap i b ∧ Below w.heap.size w wr ∧ wr.ownsRow B1 123 3 v ts.length (tokV ts) ∧ B1 ≤ wr.heap.size
theorem zep {w : World} {a : Option Addr} {n cap : Nat} {b : List UInt8} (hr : Row w 1 a n cap (b.map fun x => .int .u8 x.toNat)) (ha : ∀ x, a = some x → x.block < w.heap.size) (hn : n ≤ 100000) :
   Calls Tryz.prog 54 #[.slice a n cap] w (TokEnd b w) := by
 have hl : b.length = n := by have := hr.1; simpa using this
 have hcapm := hr.2.2.1
 have hcapn := hr.2.1
 unfold maxLen at hcapm
 have hmm := @run_makeMap Tryz.prog
 have hd0 : decide ((n : Int) > 16777216) = false := decide_eq_false (by omega)
 have HR := Lib.hid hr
 have HA := Lib.hid ha
 have HL := Lib.hid hl
 clear hr ha hl
 go_enter Tryz.func54, Tryz.ntmps54
 go_upto_region 4 with (at_make; refine zcu ETInt rfl (.tmp 15) (.tmp 15) rfl .i64 .i64 _ _ n rfl rfl rfl rfl (by omega) (by unfold maxLen; omega) ?_; intro w1 hown hb1; have HM := Lib.hid (heap_made hown); have HB1 := Lib.hid hb1; clear hown hb1)
 obtain ⟨fb, hfb⟩ : ∃ fb, fb = w1.heap.size := ⟨_, rfl⟩
 obtain ⟨mb, hmb⟩ : ∃ mb, mb = w.heap.size := ⟨_, rfl⟩
 have hb1 := HB1.out
 have hs1 := (Array.getElem?_eq_some_iff.1 HM.out).1
 rw [zad] at hs1
 have hbw : Below w.heap.size w w1 := (zai w _).trans (hb1.mono (by rw [zad]; omega))
 have hMb : MapT w1 mb 0 n := by
   have h := MapT.made w n
   rw [← hmb] at h
   exact h.keep (hb1.block mb (by rw [zad]; omega))
 have hbn : ∀ W : World, Below w.heap.size w W → Row W 1 a n cap (b.map fun x => .int .u8 x.toNat) := fun W hW => HR.out.mono hW
 have hQ : FinQ (w1.alloc (.cells #[.slice a n cap, .map (some mb), .slice (some ⟨mb + 1, 0, none⟩) n n] 121)) fb (mb + 1) mb a n cap 0 b := {
   c0 := by rw [hfb, cell_of_row _ _ 0 _ _ _ (heap_alloc_new w1 _)]; rfl
   c1 := by rw [hfb, cell_of_row _ _ 1 _ _ _ (heap_alloc_new w1 _)]; rfl
   c2 := by rw [hfb, cell_of_row _ _ 2 _ _ _ (heap_alloc_new w1 _)]; rfl
   row := hbn _ (hbw.alloc hbw.size _)
   m := hMb.keep ((zai w1 _).block mb (by omega))
   p := ⟨fun _ => 0, zaL _ (by have h := HM.out; rw [zad, ← hmb] at h; exact h), fun j hj => ⟨by show (-1 : Int) ≤ 0; omega, by show (0 : Int) < n; omega⟩⟩
   pm := by omega
   fp := by omega
   fm := by omega
   ap := fun x hx => by have := HA.out x hx; omega }
 have HI0 := Lib.hid (show TokI w (w1.alloc (.cells #[.slice a n cap, .map (some mb), .slice (some ⟨mb + 1, 0, none⟩) n n] 121)) (fb + 1) fb (mb + 1) mb a n cap 0 b (.slice none 0 0) from
   ⟨[], zcn.zero b, hQ, hbw.alloc hbw.size _, World.ownsRow_nil _ _ _ _, by rw [zad]; omega⟩)
 have hlay : mb < fb ∧ mb + 1 < fb ∧ w.heap.size ≤ mb ∧ w.heap.size ≤ mb + 1 := by omega
 clear hb1 hs1 hbw hMb hbn hQ HM HB1 hmm
 rw [← hfb, ← hmb]
 generalize w1.alloc (.cells #[.slice a n cap, .map (some mb), .slice (some ⟨mb + 1, 0, none⟩) n n] 121) = w2 at HI0 ⊢
 clear hfb
 have HMB := Lib.hid hmb
 clear hmb
 generalize mb + 1 = pb at HI0 hlay ⊢
 go_wp2_with fail
 go_loopw [4, 5] (fun v vi wr => ∃ i : Nat, vi = .int .i64 i ∧ i ≤ n ∧ Hid (TokI w wr (fb + 1) fb pb mb a n cap i b v)) (fun _ vi _ => n - (intOf vi).toNat)
 case atStart => exact ⟨0, rfl, Nat.zero_le _, HI0⟩
 case round =>
   obtain ⟨i, rfl, hi, HI⟩ := hrel
   by_cases hlt : i < n
   case neg =>
     have hd1 : decide ((i : Int) < (n : Int)) = false := decide_eq_false (by omega)
     go_wp2_with fail
     have hin : i = n := by omega
     subst hin
     obtain ⟨ts, h1, h2, h3, h4, -⟩ := HI.out
     obtain ⟨aS, cS, rfl, hrow, haS⟩ := Row.of_owns h4
     have HEND := Lib.hid (show TokEnd b w (.returned (.slice aS ts.length cS)) wr from by
       have hts := h1.len (Nat.le_of_eq HL.out.symm)
       refine ⟨h3, ts, aS, cS, rfl, hrow, fun x hx => ⟨by have := haS x hx; omega, ?_⟩, ?_, by rw [HL.out]; exact hts⟩
       · have := h4.lt x.block (by rw [hx]; rfl)
         exact this.2
       · have h := h1
         unfold zcn at h
         rw [List.take_of_length_le (Nat.le_of_eq HL.out)] at h
         exact h)
     clear h1 h2 h3 h4 hrow haS HI
     go_wp2_with fail
     go_ret
     exact HEND.out
   have hd1 : decide ((i : Int) < (n : Int)) = true := decide_eq_true (by omega)
   have hin : (i : Int) < (n : Int) := by omega
   obtain ⟨ts, h1, h2, h3, h4, h5⟩ := HI.out
   obtain ⟨bb, off, rfl, -, hcc⟩ := h2.row.at 0 0 (by omega)
   have z0 := hcc i hlt
   have HTT := Lib.hid h1
   have HX := Lib.hid (show ∃ u : UInt8, u = b.getD i 0 from ⟨_, rfl⟩)
   have hx256 := (b.getD i 0).toNat_lt
   obtain ⟨x, hx⟩ : ∃ x, x = (b.getD i 0).toNat := ⟨_, rfl⟩
   have HXX := Lib.hid hx
   rw [← hx] at z0 hx256
   clear hx hcc HX
   have hbA := zai wr (.cells #[.int .u8 x, .int .i64 0, .int .i64 0] 123)
   have HS3 := Lib.hid (show FinQ (wr.alloc (.cells #[.int .u8 x, .int .i64 0, .int .i64 0] 123)) fb pb mb (some ⟨bb, off, none⟩) n cap i b ∧ Below w.heap.size w (wr.alloc (.cells #[.int .u8 x, .int .i64 0, .int .i64 0] 123)) ∧ (wr.alloc (.cells #[.int .u8 x, .int .i64 0, .int .i64 0] 123)).ownsRow (fb + 1) 123 3 u4 ts.length (tokV ts) from
     ⟨h2.below hbA, h3.alloc h3.size _, zab h4 hbA⟩)
   have HBK := Lib.hid (heap_alloc_new wr (.cells #[.int .u8 x, .int .i64 0, .int .i64 0] 123))
   have HOB := Lib.hid (show ∀ q, u4.ownBlock = some q → fb + 1 ≤ q ∧ q < wr.heap.size from h4.lt)
   have hs3 := zad wr (.cells #[.int .u8 x, .int .i64 0, .int .i64 0] 123)
   have HBEST := Lib.hid (best_any HS3.out.1 hlt (by omega))
   clear h1 h2 h3 h4 HI hbA
   go_upto_region 8 with fail
   obtain ⟨tb, htb⟩ : ∃ tb, tb = wr.heap.size := ⟨_, rfl⟩
   rw [← htb] at hs3 HBK HOB h5 ⊢
   have HTB := Lib.hid htb
   clear htb z0
   generalize wr.alloc (.cells #[.int .u8 x, .int .i64 0, .int .i64 0] 123) = w3 at HS3 HBK hs3 HBEST ⊢
   go_upto_region 9 with fail
   refine HBEST.out.mono ?_
   rintro e w4 ⟨hb4, kk, far, rfl, hrep, h3k⟩
   have hq4 := HS3.out.1.below hb4
   have hbw4 : Below w.heap.size w w4 := HS3.out.2.1.trans (hb4.mono HS3.out.2.1.size)
   have ho4 := zab HS3.out.2.2 hb4
   have hblk4 := za3 hb4 HBK.out
   have hs4 := hb4.size
   clear hb4 HBEST HS3 HBK
   by_cases hk0 : kk = 0
   · subst hk0
     obtain ⟨⟨T0, T1, T2⟩, -⟩ := cells3 hblk4
     have dk0 : decide ((0 : Int) > 0) = false := by decide
     have HQ6 := Lib.hid hq4
     have HB6 := Lib.hid hbw4
     have HO6 := Lib.hid ho4
     have hs6 : tb + 1 ≤ w4.heap.size := by omega
     have hiM : i + max 1 0 ≤ n := by omega
     have HNEW := Lib.hid (show ∃ t : LT, x = t.b.toNat ∧ 0 = t.len ∧ (0 : Int) = t.far ∧ zcn b (i + max 1 0) (ts ++ [t]) from ⟨⟨b.getD i 0, 0, 0⟩, HXX.out, rfl, rfl, HTT.out.lit (by rw [HL.out]; exact hlt)⟩)
     have hLk : (0 : Nat) ≤ 258 := by omega
     obtain ⟨X, hX⟩ : ∃ X, X = x := ⟨_, rfl⟩
     obtain ⟨Lk, hLk0⟩ : ∃ Lk : Nat, Lk = 0 := ⟨_, rfl⟩
     obtain ⟨F, hF⟩ : ∃ F : Int, F = 0 := ⟨_, rfl⟩
     rw [← hX] at T0 HNEW
     have T1b : w4.cell? ⟨tb, 1, none⟩ = some (.int .i64 (Lk : Nat)) := by rw [hLk0]; exact T1
     rw [← hF] at T2
     rw [← hLk0] at HNEW hiM hLk
     rw [← hF] at HNEW
     clear T1 hX hF hLk0 hq4 hbw4 ho4 hblk4 hrep h3k
     have T1 := T1b
     clear T1b
     go_upto_region 11 with fail
     generalize w4 = w6 at HQ6 HB6 HO6 T0 T1 T2 hs6 hs4 ⊢
     have hM1 : 1 ≤ max 1 Lk := by omega
     have HSZ := Lib.hid (tsize_any (w := w6) X Lk F (by omega))
     obtain ⟨M, hM⟩ : ∃ M, M = max 1 Lk := ⟨_, rfl⟩
     rw [← hM] at hiM hM1 HNEW HSZ
     have HMM := Lib.hid hM
     clear hM
     go_wp2_with fail
     refine HSZ.out.mono ?_
     rintro e w7 ⟨rfl, hb7⟩
     have HQ7 := Lib.hid (HQ6.out.below hb7)
     have HB7 := Lib.hid (show Below w.heap.size w w7 from HB6.out.trans (hb7.mono HB6.out.size))
     have HO7 := Lib.hid (zab HO6.out hb7)
     have T07 := cell?_keep hb7 T0
     have T17 := cell?_keep hb7 T1
     have T27 := cell?_keep hb7 T2
     have hS7 := hb7.size
     have hmn : 0 ≤ (M : Int) := by omega
     clear hb7 HQ6 HB6 HO6 T0 T1 T2 HSZ
     go_wp2_with fail
     go_loopw [5, 41] (fun vi vk wk => ∃ k : Nat, vk = .int .i64 k ∧ vi = .int .i64 (i + k : Nat) ∧ k ≤ M ∧ Hid (FinQ wk fb pb mb (some ⟨bb, off, none⟩) n cap (i + k) b) ∧ Hid (zaa (fun b => b = pb ∨ b = mb) w7 wk)) (fun _ vk _ => M - (intOf vk).toNat)
     case atStart => exact ⟨0, rfl, rfl, Nat.zero_le _, HQ7, Lib.hid (zaa.refl _ _)⟩
     case round =>
       obtain ⟨k, rfl, rfl, hk, HQk, HKk⟩ := hrel
       by_cases hkM : k < M
       case neg =>
         have hkM2 : k = M := by omega
         have dk : decide ((k : Int) < (M : Int)) = false := decide_eq_false (by omega)
         obtain ⟨i2, hi2⟩ : ∃ i2, i2 = i + M := ⟨_, rfl⟩
         subst hkM2
         rw [← hi2] at HQk hiM HNEW ⊢
         have hk7 := HKk.out
         have hs8 := hk7.size
         have HO8 := Lib.hid (zao HO7.out hk7 (fun q hq hc => by have := (HO7.out.lt q hq).1; omega))
         have HB8 := Lib.hid (show Below w.heap.size w wr from HB7.out.trans (hk7.below (B := w.heap.size) (by omega) (fun q hq => by omega)))
         have T08 := hk7.cell T07 (by omega)
         have T18 := hk7.cell T17 (by omega)
         have T28 := hk7.cell T27 (by omega)
         have htl : ts.length ≤ 100000 := by have := HTT.out.len (i := i) (by rw [HL.out]; omega); omega
         have HVR := Lib.hid HO8.out.lt
         have HS8 := Lib.hid hs8
         have HS7 := Lib.hid hS7
         clear hk7 hs8 T07 T17 T27 HQ7 HB7 HO7 HKk
         go_wp2_with (at_builtin; refine zae ETokL rfl (.tmp 49) (.tmp 51) rfl (fb + 1) _ ts.length _ rfl (HO8.out.alloc _) _ 1 1 _ rfl (row_newT _ _ _ _ _) (one3 rfl rfl rfl) (by unfold maxLen; omega) (by omega) (by rw [zad]; have := HS8.out; have := HS7.out; omega) ?_; intro v' w9 hO9 hg9 hnil9; have HO9 := Lib.hid hO9; have HG9 := Lib.hid hg9; clear hO9 hg9 hnil9)
         have hg9 := HG9.out
         have hs9 := hg9.size
         rw [zad] at hs9
         have hk9 : zaa (fun q => fb + 1 ≤ q) wr w9 := ((zaa.refl _ wr).alloc _).grown hg9 (fun q hq => .inl (HVR.out q hq).1)
         have HFIN := Lib.hid (show TokI w w9 (fb + 1) fb pb mb (some ⟨bb, off, none⟩) n cap i2 b v' from by
           obtain ⟨t, ht1, ht2, ht3, ht4⟩ := HNEW.out
           refine ⟨ts ++ [t], ht4, HQk.out.keeps hk9 (by omega) (by omega) (by omega) (fun q hq => by have := HA.out q hq; have := HMB.out; omega), HB8.out.trans ((hk9.below (B := fb + 1) (by have := HS8.out; have := HS7.out; omega) (fun q hq => hq)).mono (by have := HMB.out; omega)), ?_, by have := HS8.out; have := HS7.out; omega⟩
           have h := HO9.out
           rw [zf7, List.length_append]
           rw [ht1, ht2, ht3] at h
           exact h)
         clear hg9 hs9 hk9 HO9 HG9 HO8 HB8 HVR HNEW
         go_wp2_with fail
         go_roundw
         case rel => exact ⟨i2, by rw [hi2, Int.natCast_add], hiM, HFIN⟩
         case measure => simp [intOf]; omega
       have dk : decide ((k : Int) < (M : Int)) = true := decide_eq_true (by omega)
       have HNT := Lib.hid (note_any (i := i + k) HQk.out (by omega) (by omega) (by omega))
       go_wp2_with fail
       refine HNT.out.mono ?_
       rintro e w8 ⟨rfl, hq8, hk8⟩
       have HQ8 := Lib.hid hq8
       have HK8 := Lib.hid (HKk.out.trans hk8 fun q hq => .inl hq)
       clear hq8 hk8 HNT HKk HQk
       go_wp2_with fail
       go_roundw
       case rel => exact ⟨k + 1, by go_num, by go_num, by omega, HQ8, HK8⟩
       case measure => simp [intOf]; omega
   · obtain ⟨⟨T0, T1, T2⟩, hfz⟩ := cells3 hblk4
     have f0 := hfz 0
     have f1 := hfz 1
     have f2 := hfz 2
     have dk0 : decide ((kk : Int) > 0) = true := decide_eq_true (by omega)
     rcases hrep with ⟨h0, -⟩ | ⟨hpos, hmo, hf32⟩
     · exact absurd h0 hk0
     obtain ⟨hk258, hmm2⟩ := hmo
     obtain ⟨hf1, hfi, hkn, hmt⟩ := hmm2 hpos
     obtain ⟨F, rfl⟩ : ∃ F : Nat, far = F := ⟨far.toNat, by omega⟩
     have hiM : i + max 1 kk ≤ n := by have := HL.out; omega
     have HNEW := Lib.hid (show ∃ t : LT, 0 = t.b.toNat ∧ kk = t.len ∧ (F : Int) = t.far ∧ zcn b (i + max 1 kk) (ts ++ [t]) from ⟨⟨0, kk, F⟩, rfl, rfl, rfl, by
       rw [show max 1 kk = kk from by omega]
       exact HTT.out.rep (h3k hpos) hk258 (by omega) (by omega) (by omega) hkn (fun j hj => by have h := hmt j hj; simpa using h)⟩)
     have hdk : (0 : Int) < (kk : Int) := by omega
     clear hmm2 hmt hf1 hfi hf32 h3k hkn hfz
     have HQ4 := Lib.hid hq4
     have HB4 := Lib.hid hbw4
     have HO4 := Lib.hid ho4
     have HBL4 := Lib.hid hblk4
     clear hq4 hbw4 ho4 hblk4
     go_upto_region 11 with fail
     have hk6 : zaa (fun q => q = tb) w4 (((w4.setCell ⟨tb, 0, none⟩ (.int .u8 0)).setCell ⟨tb, 1, none⟩ (.int .i64 (kk : Nat))).setCell ⟨tb, 2, none⟩ (.int .i64 (F : Nat))) := (((zaa.refl (fun q => q = tb) w4).setCell (a := ⟨tb, 0, none⟩) (.inl rfl) _).setCell (a := ⟨tb, 1, none⟩) (.inl rfl) _).setCell (a := ⟨tb, 2, none⟩) (.inl rfl) _
     have e0 : (((w4.setCell ⟨tb, 0, none⟩ (.int .u8 0)).setCell ⟨tb, 1, none⟩ (.int .i64 (kk : Nat))).setCell ⟨tb, 2, none⟩ (.int .i64 (F : Nat))).cell? ⟨tb, 0, none⟩ = some (.int .u8 0) := by
       rw [World.cell?_setCell_other _ _ _ _ (by simp), World.cell?_setCell_other _ _ _ _ (by simp)]
       exact World.cell?_setCell_same _ _ _ T0
     have e1 : (((w4.setCell ⟨tb, 0, none⟩ (.int .u8 0)).setCell ⟨tb, 1, none⟩ (.int .i64 (kk : Nat))).setCell ⟨tb, 2, none⟩ (.int .i64 (F : Nat))).cell? ⟨tb, 1, none⟩ = some (.int .i64 (kk : Nat)) := by
       rw [World.cell?_setCell_other _ _ _ _ (by simp)]
       exact World.cell?_setCell_same _ _ _ (u := .int .i64 0) (by rw [World.cell?_setCell_other _ _ _ _ (by simp)]; exact T1)
     have e2 : (((w4.setCell ⟨tb, 0, none⟩ (.int .u8 0)).setCell ⟨tb, 1, none⟩ (.int .i64 (kk : Nat))).setCell ⟨tb, 2, none⟩ (.int .i64 (F : Nat))).cell? ⟨tb, 2, none⟩ = some (.int .i64 (F : Nat)) :=
       World.cell?_setCell_same _ _ _ (u := .int .i64 0) (by rw [World.cell?_setCell_other _ _ _ _ (by simp), World.cell?_setCell_other _ _ _ _ (by simp)]; exact T2)
     generalize (((w4.setCell ⟨tb, 0, none⟩ (.int .u8 0)).setCell ⟨tb, 1, none⟩ (.int .i64 (kk : Nat))).setCell ⟨tb, 2, none⟩ (.int .i64 (F : Nat))) = w6 at hk6 e0 e1 e2 ⊢
     have hs6 := hk6.size
     have HQ6 := Lib.hid (HQ4.out.keeps hk6 (by omega) (by omega) (by omega) (fun q hq => by have := HA.out q hq; have := HMB.out; omega))
     have HB6 := Lib.hid (show Below w.heap.size w w6 from HB4.out.trans ((hk6.below (B := tb) (by omega) (fun q hq => by omega)).mono (by have := HMB.out; omega)))
     have HO6 := Lib.hid (zao HO4.out hk6 (fun q hq hc => by have := (HOB.out q hq).2; omega))
     clear hk6 T0 T1 T2 f0 f1 f2 HQ4 HB4 HO4 HBL4 hk0 hpos dk0 hdk
     have hLk := hk258
     have T0 := e0
     have T1 := e1
     have T2 := e2
     clear e0 e1 e2 hk258
     obtain ⟨X, hX⟩ : ∃ X : Nat, X = 0 := ⟨_, rfl⟩
     have T0b : w6.cell? ⟨tb, 0, none⟩ = some (.int .u8 (X : Nat)) := by rw [hX]; exact T0
     have HNEW2 := Lib.hid (show ∃ t : LT, X = t.b.toNat ∧ kk = t.len ∧ (F : Int) = t.far ∧ zcn b (i + max 1 kk) (ts ++ [t]) from by rw [hX]; exact HNEW.out)
     clear T0 HNEW hX
     have T0 := T0b
     have HNEW := HNEW2
     clear T0b HNEW2
     generalize (F : Int) = F2 at T2 HNEW ⊢
     have hM1 : 1 ≤ max 1 kk := by omega
     have HSZ := Lib.hid (tsize_any (w := w6) X kk F2 (by omega))
     obtain ⟨M, hM⟩ : ∃ M, M = max 1 kk := ⟨_, rfl⟩
     rw [← hM] at hiM hM1 HNEW HSZ
     have HMM := Lib.hid hM
     clear hM
     go_wp2_with fail
     refine HSZ.out.mono ?_
     rintro e w7 ⟨rfl, hb7⟩
     have HQ7 := Lib.hid (HQ6.out.below hb7)
     have HB7 := Lib.hid (show Below w.heap.size w w7 from HB6.out.trans (hb7.mono HB6.out.size))
     have HO7 := Lib.hid (zab HO6.out hb7)
     have T07 := cell?_keep hb7 T0
     have T17 := cell?_keep hb7 T1
     have T27 := cell?_keep hb7 T2
     have hS7 := hb7.size
     have hmn : 0 ≤ (M : Int) := by omega
     clear hb7 HQ6 HB6 HO6 T0 T1 T2 HSZ
     go_wp2_with fail
     go_loopw [5, 41] (fun vi vk wk => ∃ k : Nat, vk = .int .i64 k ∧ vi = .int .i64 (i + k : Nat) ∧ k ≤ M ∧ Hid (FinQ wk fb pb mb (some ⟨bb, off, none⟩) n cap (i + k) b) ∧ Hid (zaa (fun b => b = pb ∨ b = mb) w7 wk)) (fun _ vk _ => M - (intOf vk).toNat)
     case atStart => exact ⟨0, rfl, rfl, Nat.zero_le _, HQ7, Lib.hid (zaa.refl _ _)⟩
     case round =>
       obtain ⟨k, rfl, rfl, hk, HQk, HKk⟩ := hrel
       by_cases hkM : k < M
       case neg =>
         have hkM2 : k = M := by omega
         have dk : decide ((k : Int) < (M : Int)) = false := decide_eq_false (by omega)
         obtain ⟨i2, hi2⟩ : ∃ i2, i2 = i + M := ⟨_, rfl⟩
         subst hkM2
         rw [← hi2] at HQk hiM HNEW ⊢
         have hk7 := HKk.out
         have hs8 := hk7.size
         have HO8 := Lib.hid (zao HO7.out hk7 (fun q hq hc => by have := (HO7.out.lt q hq).1; omega))
         have HB8 := Lib.hid (show Below w.heap.size w wr from HB7.out.trans (hk7.below (B := w.heap.size) (by omega) (fun q hq => by omega)))
         have T08 := hk7.cell T07 (by omega)
         have T18 := hk7.cell T17 (by omega)
         have T28 := hk7.cell T27 (by omega)
         have htl : ts.length ≤ 100000 := by have := HTT.out.len (i := i) (by rw [HL.out]; omega); omega
         have HVR := Lib.hid HO8.out.lt
         have HS8 := Lib.hid hs8
         have HS7 := Lib.hid hS7
         clear hk7 hs8 T07 T17 T27 HQ7 HB7 HO7 HKk
         go_wp2_with (at_builtin; refine zae ETokL rfl (.tmp 49) (.tmp 51) rfl (fb + 1) _ ts.length _ rfl (HO8.out.alloc _) _ 1 1 _ rfl (row_newT _ _ _ _ _) (one3 rfl rfl rfl) (by unfold maxLen; omega) (by omega) (by rw [zad]; have := HS8.out; have := HS7.out; omega) ?_; intro v' w9 hO9 hg9 hnil9; have HO9 := Lib.hid hO9; have HG9 := Lib.hid hg9; clear hO9 hg9 hnil9)
         have hg9 := HG9.out
         have hs9 := hg9.size
         rw [zad] at hs9
         have hk9 : zaa (fun q => fb + 1 ≤ q) wr w9 := ((zaa.refl _ wr).alloc _).grown hg9 (fun q hq => .inl (HVR.out q hq).1)
         have HFIN := Lib.hid (show TokI w w9 (fb + 1) fb pb mb (some ⟨bb, off, none⟩) n cap i2 b v' from by
           obtain ⟨t, ht1, ht2, ht3, ht4⟩ := HNEW.out
           refine ⟨ts ++ [t], ht4, HQk.out.keeps hk9 (by omega) (by omega) (by omega) (fun q hq => by have := HA.out q hq; have := HMB.out; omega), HB8.out.trans ((hk9.below (B := fb + 1) (by have := HS8.out; have := HS7.out; omega) (fun q hq => hq)).mono (by have := HMB.out; omega)), ?_, by have := HS8.out; have := HS7.out; omega⟩
           have h := HO9.out
           rw [zf7, List.length_append]
           rw [ht1, ht2, ht3] at h
           exact h)
         clear hg9 hs9 hk9 HO9 HG9 HO8 HB8 HVR HNEW
         go_wp2_with fail
         go_roundw
         case rel => exact ⟨i2, by rw [hi2, Int.natCast_add], hiM, HFIN⟩
         case measure => simp [intOf]; omega
       have dk : decide ((k : Int) < (M : Int)) = true := decide_eq_true (by omega)
       have HNT := Lib.hid (note_any (i := i + k) HQk.out (by omega) (by omega) (by omega))
       go_wp2_with fail
       refine HNT.out.mono ?_
       rintro e w8 ⟨rfl, hq8, hk8⟩
       have HQ8 := Lib.hid hq8
       have HK8 := Lib.hid (HKk.out.trans hk8 fun q hq => .inl hq)
       clear hq8 hk8 HNT HKk HQk
       go_wp2_with fail
       go_roundw
       case rel => exact ⟨k + 1, by go_num, by go_num, by omega, HQ8, HK8⟩
       case measure => simp [intOf]; omega
end Go.Proofs.YtkikhmdpcanidaaGreat
namespace Go.Proofs.YtkikhmdpcanidaaGreat
open Go.RowKit Go.Sort
theorem tokB_le {l d : List Int} (hl : ∀ s, lenN l s ≤ 15) (hd : ∀ s, lenN d s ≤ 15) {ts : List LT} (h : ∀ t ∈ ts, t.may) : (tokB l d ts).length ≤ 60 * ts.length + 15 := by
 rw [zfR, List.length_append, zax]
 have := tokC_le hl hd h
 have := hl 256
 omega
theorem fixB_le (last : Bool) {ts : List LT} (h : ∀ t ∈ ts, t.may) : (fixB last ts).length ≤ 60 * ts.length + 18 := by
 unfold fixB
 rw [List.length_append, zap]
 have := tokB_le (zc7 (zar zcA).2.2.1) (zc7 (zar zco).2.2.1) h
 omega
theorem stoB_le (p : Nat) (last : Bool) (b : List UInt8) : (stoB p last b).length ≤ 8 * b.length + 60 := by
 unfold stoB
 simp only [List.length_append, zap, zag, zb7, List.length_replicate]
 omega
def zdJ (w : World) (S : Nat → Prop) (wb : Nat) (B : List Bool) (kind : Nat) (last : Bool) (b : List UInt8) (e : Ending) (w' : World) : Prop :=
 e = .returned (.tuple #[]) ∧ ∃ Z, zdI B.length kind last b Z ∧ Z.length ≤ 60 * b.length + 8000 ∧ zac w S wb false (B ++ Z) w'
def zgh : Prop := ∀ (w : World) (S : Nat → Prop) (wb cap : Nat) (a : Option Addr) (B : List Bool) (ts : List LT) (last : Bool) (b : List UInt8), WrQ w S wb false B → Row w 3 a ts.length cap (tokV ts) → (∀ x, a = some x → ¬ S x.block) → (∀ x, a = some x → x.block < w.heap.size) →
 expT ts [] = some b → ts.length ≤ b.length → b.length ≤ 65535 → B.length < 34359738368 → Calls Tryz.prog 55 #[wrA wb, .slice a ts.length cap, .bool last] w (zdJ w S wb B 2 last b)
theorem part_any {w : World} {S : Nat → Prop} {wb n cap kind : Nat} {a : Option Addr} {B : List Bool} {b : List UInt8} (last : Bool) (hk : kind ≤ 2) (hd : kind = 2 → zgh) (h : WrQ w S wb false B) (hr : Row w 1 a n cap (b.map fun x => .int .u8 x.toNat)) (ha : ∀ x, a = some x → ¬ S x.block)
   (hal : ∀ x, a = some x → x.block < w.heap.size) (hb : n ≤ 65535) (hlt : B.length < 34359738368) :
   Calls Tryz.prog 29 #[wrA wb, .slice a n cap, .int .i64 kind, .bool last] w (zdJ w S wb B kind last b) := by
 have hl : b.length = n := by have := hr.1; simpa using this
 have hc : (w.alloc (.cells #[.pointer (some ⟨wb, 0, none⟩)] 48)).cell? ⟨w.heap.size, 0, none⟩ = some (.pointer (some ⟨wb, 0, none⟩)) := by
   rw [cell_of_row _ _ 0 _ _ _ (heap_alloc_new w _)]; rfl
 have hno : ¬ S w.heap.size := h.out
 have HQ := Lib.hid (h.alloc (.cells #[.pointer (some ⟨wb, 0, none⟩)] 48))
 have HE := Lib.hid (fun (B' : List Bool) (w' : World) (hn : zac (w.alloc (.cells #[.pointer (some ⟨wb, 0, none⟩)] 48)) S wb false B' w') => zac.trans (S := S) ((zaa.refl S w).alloc (.cells #[.pointer (some ⟨wb, 0, none⟩)] 48)) (fun b hb => .inl hb) hn)
 have HR := Lib.hid (hr.mono (zai w (.cells #[.pointer (some ⟨wb, 0, none⟩)] 48)))
 have hs0 : (w.alloc (.cells #[.pointer (some ⟨wb, 0, none⟩)] 48)).heap.size = w.heap.size + 1 := zad _ _
 have HSL := Lib.hid (fun b (hb : S b) => (h.lt b hb).2)
 have HA := Lib.hid ha
 have HAL := Lib.hid hal
 have HX := Lib.hid hno
 have HL := Lib.hid hl
 have HD := Lib.hid hd
 have hcapm := hr.2.2.1
 have hcapn := hr.2.1
 unfold maxLen at hcapm
 clear h hr ha hal hno hl hd
 have hk3 : kind = 0 ∨ kind = 1 ∨ kind = 2 := by omega
 rcases hk3 with rfl | rfl | rfl
 · have HST := Lib.hid (by
     have h := stored_any (a := a) (cap := cap) (b := b) last HQ.out (by rw [HL.out]; exact HR.out) HA.out (by rw [HL.out]; exact hb) (by omega)
     rw [HL.out] at h
     exact h)
   unfold wrA at HST ⊢
   go_enter Tryz.func29, Tryz.ntmps29
   go_wp2_with fail
   refine HST.out.mono ?_
   rintro e w1 ⟨rfl, hn1⟩
   have HEND := Lib.hid (show zdJ w S wb B 0 last b (.returned (.tuple #[])) w1 from ⟨rfl, _, .inl ⟨rfl, by rw [HL.out]; exact hb, rfl⟩, Nat.le_trans (stoB_le _ _ _) (by omega), HE.out _ _ hn1⟩)
   clear hn1 HST
   go_wp2_with fail
   go_end0
   exact HEND.out
 · have HTK := Lib.hid (show ∀ w', Below (w.alloc (.cells #[.pointer (some ⟨wb, 0, none⟩)] 48)).heap.size (w.alloc (.cells #[.pointer (some ⟨wb, 0, none⟩)] 48)) w' → Calls Tryz.prog 54 #[.slice a n cap] w' (TokEnd b w') from
     fun w' hb' => zep (HR.out.mono hb') (fun x hx => by have := HAL.out x hx; have := hb'.size; omega) (by omega))
   have HFX := Lib.hid (show ∀ w' w1 (ts : List LT) (aT : Option Addr) (cT : Nat), Below (w.alloc (.cells #[.pointer (some ⟨wb, 0, none⟩)] 48)).heap.size (w.alloc (.cells #[.pointer (some ⟨wb, 0, none⟩)] 48)) w' → Below w'.heap.size w' w1 → Row w1 3 aT ts.length cT (tokV ts) → (∀ x, aT = some x → w'.heap.size ≤ x.block ∧ x.block < w1.heap.size) → expT ts [] = some b → ts.length ≤ b.length →
       Calls Tryz.prog 53 #[wrA wb, .slice aT ts.length cT, .bool last] w1 (fun e w2 => e = .returned (.tuple #[]) ∧ zdJ w S wb B 1 last b (.returned (.tuple #[])) w2) from
     fun w' w1 ts aT cT hb1 hb2 hrT haT heT hlT => by
       have hs1 := hb1.size
       have hs2 := hb2.size
       have hb12 : Below (w.alloc (.cells #[.pointer (some ⟨wb, 0, none⟩)] 48)).heap.size (w.alloc (.cells #[.pointer (some ⟨wb, 0, none⟩)] 48)) w1 := hb1.trans (hb2.mono hs1)
       have q1 := HQ.out.blw hb12
       have hln := HL.out
       have hnS : ∀ x, aT = some x → ¬ S x.block := fun x hx hS => by have := HSL.out _ hS; have := (haT x hx).1; omega
       refine (fixed_blk last q1 hrT hnS (fun x hx => (haT x hx).2) (zbW heT) (by omega) (by omega)).mono ?_
       rintro e w2 ⟨rfl, hn2⟩
       refine ⟨rfl, rfl, _, .inr (.inl ⟨rfl, ts, heT, rfl⟩), Nat.le_trans (fixB_le last (zbW heT)) (by omega), HE.out _ _ (zac.trans (S := S) (zaa.of_below2 hb12) (fun b hb => .inl hb) hn2)⟩)
   unfold wrA at HFX
   unfold wrA
   go_enter Tryz.func29, Tryz.ntmps29
   go_upto_region 5 with fail
   generalize (w.alloc (.cells #[.pointer (some ⟨wb, 0, none⟩)] 48)) = w0 at HTK HFX HQ HE HR hs0 hc ⊢
   have hw0 : w.heap.size < w0.heap.size := by omega
   go_region_with (first
     | (go_at_call 54; refine (HTK.out _ ((Below.refl _ _).drew)).mono ?_; rintro e w1 ⟨hb1, ts, aT, cT, rfl, hrT, haT, heT, hlT⟩; have hc1 : w1.cell? ⟨w.heap.size, 0, none⟩ = some (.pointer (some ⟨wb, 0, none⟩)) := zam hb1 hw0 hc)
     | (go_at_call 53; refine (HFX.out _ _ ts aT cT ((Below.refl _ _).drew) hb1 hrT haT heT hlT).mono ?_; rintro e w2 ⟨rfl, hend⟩))
   all_goals (go_wp2; go_end0; exact hend)
 · have HTK := Lib.hid (show ∀ w', Below (w.alloc (.cells #[.pointer (some ⟨wb, 0, none⟩)] 48)).heap.size (w.alloc (.cells #[.pointer (some ⟨wb, 0, none⟩)] 48)) w' → Calls Tryz.prog 54 #[.slice a n cap] w' (TokEnd b w') from
     fun w' hb' => zep (HR.out.mono hb') (fun x hx => by have := HAL.out x hx; have := hb'.size; omega) (by omega))
   have HFX := Lib.hid (show ∀ w' w1 (ts : List LT) (aT : Option Addr) (cT : Nat), Below (w.alloc (.cells #[.pointer (some ⟨wb, 0, none⟩)] 48)).heap.size (w.alloc (.cells #[.pointer (some ⟨wb, 0, none⟩)] 48)) w' → Below w'.heap.size w' w1 → Row w1 3 aT ts.length cT (tokV ts) → (∀ x, aT = some x → w'.heap.size ≤ x.block ∧ x.block < w1.heap.size) → expT ts [] = some b → ts.length ≤ b.length →
       Calls Tryz.prog 55 #[wrA wb, .slice aT ts.length cT, .bool last] w1 (fun e w2 => e = .returned (.tuple #[]) ∧ zdJ w S wb B 2 last b (.returned (.tuple #[])) w2) from
     fun w' w1 ts aT cT hb1 hb2 hrT haT heT hlT => by
       have hs1 := hb1.size
       have hs2 := hb2.size
       have hb12 : Below (w.alloc (.cells #[.pointer (some ⟨wb, 0, none⟩)] 48)).heap.size (w.alloc (.cells #[.pointer (some ⟨wb, 0, none⟩)] 48)) w1 := hb1.trans (hb2.mono hs1)
       have q1 := HQ.out.blw hb12
       have hln := HL.out
       have hnS : ∀ x, aT = some x → ¬ S x.block := fun x hx hS => by have := HSL.out _ hS; have := (haT x hx).1; omega
       refine (HD.out rfl w1 S wb cT aT B ts last b q1 hrT hnS (fun x hx => (haT x hx).2) heT hlT (by omega) hlt).mono ?_
       rintro e w2 ⟨rfl, Z, hZ, hZl, hn2⟩
       refine ⟨rfl, rfl, Z, hZ, hZl, HE.out _ _ (zac.trans (S := S) (zaa.of_below2 hb12) (fun b hb => .inl hb) hn2)⟩)
   unfold wrA at HFX
   unfold wrA
   go_enter Tryz.func29, Tryz.ntmps29
   go_upto_region 7 with fail
   generalize (w.alloc (.cells #[.pointer (some ⟨wb, 0, none⟩)] 48)) = w0 at HTK HFX HQ HE HR hs0 hc ⊢
   have hw0 : w.heap.size < w0.heap.size := by omega
   go_region_with (first
     | (go_at_call 54; refine (HTK.out _ ((Below.refl _ _).drew)).mono ?_; rintro e w1 ⟨hb1, ts, aT, cT, rfl, hrT, haT, heT, hlT⟩; have hc1 : w1.cell? ⟨w.heap.size, 0, none⟩ = some (.pointer (some ⟨wb, 0, none⟩)) := zam hb1 hw0 hc)
     | (go_at_call 55; refine (HFX.out _ _ ts aT cT ((Below.refl _ _).drew) hb1 hrT haT heT hlT).mono ?_; rintro e w2 ⟨rfl, hend⟩))
   all_goals (go_wp2; go_end0; exact hend)
def PackEnd (w : World) (b : List UInt8) (kind : Nat) (e : Ending) (w' : World) : Prop :=
 Below w.heap.size w w' ∧ ∃ (bs : List UInt8) (v : Value) (Z : List Bool), e = .returned v ∧ w'.ownsRow w.heap.size 5 1 v bs.length (bs.map fun b => .int .u8 b.toNat) ∧ zdI 0 kind true b Z ∧ za5 bs false Z ∧ Z.length ≤ 60 * b.length + 8000
theorem pack_any {w : World} {n cap kind cb : Nat} {a : Option Addr} {b : List UInt8} (hk : kind ≤ 2) (hd : kind = 2 → zgh) (hr : Row w 1 a n cap (b.map fun x => .int .u8 x.toNat)) (hal : ∀ x, a = some x → x.block < w.heap.size)
   (hc : w.cell? ⟨cb, 0, none⟩ = some (.slice a n cap)) (hb : n ≤ 65535) :
   Calls Tryz.prog 27 #[.int .i64 kind, .pointer (some ⟨cb, 0, none⟩)] w (PackEnd w b kind) := by
 have HR := Lib.hid hr
 have HAL := Lib.hid hal
 have hl : b.length = n := by have := hr.1; simpa using this
 have HL := Lib.hid hl
 have HD := Lib.hid hd
 have HNW := Lib.hid (new_wr false w)
 have hcb : cb < w.heap.size := World.block_lt_of_cell? w _ hc
 clear hr hal hl hd
 go_enter Tryz.func27, Tryz.ntmps27
 go_wp2_with fail
 refine HNW.out.mono ?_
 rintro e w1 ⟨rfl, hq1, hb1, hs1⟩
 have hc1 := zam hb1 hcb hc
 have hbA := zai w1 (.cells #[.pointer (some ⟨w.heap.size, 0, none⟩)] 48)
 have hc2 := cell?_keep hbA hc1
 have hq2 := hq1.alloc (.cells #[.pointer (some ⟨w.heap.size, 0, none⟩)] 48)
 have ht2 : (w1.alloc (.cells #[.pointer (some ⟨w.heap.size, 0, none⟩)] 48)).cell? ⟨w1.heap.size, 0, none⟩ = some (.pointer (some ⟨w.heap.size, 0, none⟩)) := by
   rw [cell_of_row _ _ 0 _ _ _ (heap_alloc_new w1 _)]; rfl
 have HB2 := Lib.hid (show Below w.heap.size w (w1.alloc (.cells #[.pointer (some ⟨w.heap.size, 0, none⟩)] 48)) from hb1.alloc hb1.size _)
 have hs2 := zad w1 (.cells #[.pointer (some ⟨w.heap.size, 0, none⟩)] 48)
 have HQ2 := Lib.hid hq2
 clear hb1 hq1 hbA hq2 hc hc1
 go_upto_region 2 with fail
 rw [hs1] at ht2 hs2
 obtain ⟨tb, htb⟩ : ∃ tb, tb = w.heap.size + 1 := ⟨_, rfl⟩
 rw [← htb] at ht2 hs2 ⊢
 generalize w1.alloc (.cells #[.pointer (some ⟨w.heap.size, 0, none⟩)] 48) = w2 at HB2 HQ2 hc2 ht2 hs2 ⊢
 obtain ⟨wb, hwb⟩ : ∃ wb, wb = w.heap.size := ⟨_, rfl⟩
 rw [← hwb] at ht2 HQ2 ⊢
 have HPT := Lib.hid (part_any (wb := wb) (n := n) (cap := cap) (kind := kind) (a := a) (B := []) (b := b) true hk HD.out HQ2.out (HR.out.mono HB2.out) (fun x hx h => by have := HAL.out x hx; omega) (fun x hx => by have := HAL.out x hx; have := HB2.out.size; omega) hb (by simp))
 unfold wrA at HPT
 have HWB := Lib.hid hwb
 have HTB := Lib.hid htb
 clear hwb htb
 go_upto_region 3 with fail
 refine HPT.out.mono ?_
 rintro e w3 ⟨rfl, Z, hZ, hZl, hn3⟩
 have ht3 := hn3.cell ht2 (by have := HWB.out; have := HTB.out; omega)
 rw [List.nil_append] at hn3
 obtain ⟨S3, q3, k3, s3⟩ := hn3
 have hb3 : Below w.heap.size w w3 := HB2.out.trans (k3.below HB2.out.size (fun b hb => by have := HWB.out; omega))
 have HBY := Lib.hid (wbytes_any wb false Z S3 w3 q3 (by have := HL.out; omega))
 have HB3 := Lib.hid hb3
 have HZ := Lib.hid (And.intro hZ hZl)
 clear hZ hZl q3 k3 s3 hb3 HPT HQ2 HNW hc2 ht2
 go_wp2_with fail
 refine HBY.out.mono ?_
 rintro e w4 ⟨bs, v, hw, rfl, hO, hb4⟩
 have HEND := Lib.hid (show PackEnd w b kind (.returned v) w4 from ⟨HB3.out.trans (hb4.mono HB3.out.size), bs, v, Z, rfl, zaI hO HB3.out.size, HZ.out.1, hw, HZ.out.2⟩)
 clear hw hO hb4 HBY
 go_wp2_with fail
 go_ret
 exact HEND.out
def DefEnd (w : World) (b : List UInt8) (kind : Nat) (e : Ending) (w' : World) : Prop :=
 Below w.heap.size w w' ∧ ∃ (bs : List UInt8) (v : Value) (Z : List Bool) (k : Nat), e = .returned (.tuple #[v, .int .i64 0]) ∧ w'.ownsRow w.heap.size 5 1 v bs.length (bs.map fun b => .int .u8 b.toNat) ∧ k ≤ 2 ∧ (kind ≤ 2 → k = kind) ∧ zdI 0 k true b Z ∧ za5 bs false Z ∧ Z.length ≤ 60 * b.length + 8000
theorem zck {w : World} {n cap kind : Nat} {a : Option Addr} {b : List UInt8} (hk : kind ≤ 2) (hd : kind = 2 → zgh) (hr : Row w 1 a n cap (b.map fun x => .int .u8 x.toNat)) (hal : ∀ x, a = some x → x.block < w.heap.size) (hb : n ≤ 65535) :
   Calls Tryz.prog 11 #[.slice a n cap, .int .i64 kind] w (DefEnd w b kind) := by
 have hbA := zai w (.cells #[.slice a n cap] 22)
 have hsA := zad w (.cells #[.slice a n cap] 22)
 have hc : (w.alloc (.cells #[.slice a n cap] 22)).cell? ⟨w.heap.size, 0, none⟩ = some (.slice a n cap) := by
   rw [cell_of_row _ _ 0 _ _ _ (heap_alloc_new w _)]; rfl
 have HP := Lib.hid (pack_any hk hd (hr.mono hbA) (fun x hx => by have := hal x hx; omega) hc hb)
 have HB := Lib.hid hbA
 have d1 : decide ((kind : Int) < 0) = false := decide_eq_false (by omega)
 have d2 : decide ((kind : Int) > 3) = false := decide_eq_false (by omega)
 have d3 : decide ((n : Int) > 16777216) = false := decide_eq_false (by omega)
 have d4 : ((kind : Int) != 3) = true := by simp; omega
 have d4b : ((kind : Int) == 3) = false := by simp; omega
 have d4c : decide ((kind : Int) = 3) = false := decide_eq_false (by omega)
 clear hr hal hbA hsA
 go_enter Tryz.func11, Tryz.ntmps11
 go_upto_region 1 with fail
 generalize w.alloc (.cells #[.slice a n cap] 22) = w0 at HP HB hc ⊢
 go_wp2_with fail
 refine HP.out.mono ?_
 rintro e w1 ⟨hb1, bs, v, Z, rfl, hO, hZ, hw, hl⟩
 have HEND := Lib.hid (show DefEnd w b kind (.returned (.tuple #[v, .int .i64 0])) w1 from ⟨HB.out.trans (hb1.mono HB.out.size), bs, v, Z, kind, rfl, zaI hO HB.out.size, hk, fun _ => rfl, hZ, hw, hl⟩)
 clear hb1 hO hZ hw hl HP
 go_wp2_with fail
 go_ret2
 exact HEND.out
def mkB7 (l : List UInt8) : ByteArray := ⟨l.toArray⟩
theorem zaW {w : World} {base : Nat} {v : Value} {o : List UInt8} (hr : w.ownsRow base 5 1 v o.length (o.map fun b => .int .u8 b.toNat)) : (convert 22 9 v).run Tryz.prog w = .ok (.string (mkB7 o)) w := by
 rcases hr.2 with ⟨rfl, h0⟩ | ⟨g, cap, cur, rfl, _⟩
 · have ho : o = [] := List.eq_nil_of_length_eq_zero h0
   subst ho
   rw [run_convert_bytes_string w 22 9 5 none 0 0 Tryz.underlying22 Tryz.underlying5 Tryz.underlying9]
   rfl
 · refine run_convert_bytes_back (P := Tryz.prog) w 22 9 5 ⟨g, 0, none⟩ cap o Tryz.underlying22 Tryz.underlying5 Tryz.underlying9 (fun j hj => ?_)
   exact hr.cells (g := g) rfl j (.int .u8 o[j].toNat) (by simp [hj])
theorem bound_zero (w : World) : Calls Tryz.prog 15 #[.int .i64 0] w fun e w' => e = .returned (.int .i64 5) ∧ w = w' := by
 go_enter Tryz.func15, Tryz.ntmps15
 go_wp2
 go_ret
 exact ⟨rfl, rfl⟩
theorem zeI {bs : List UInt8} {Z : List Bool} (h : za5 bs false Z) : bs.length ≤ (Z.length + 7) / 8 := Nat.le_of_eq h.1
theorem zeK {bs : List UInt8} {Z : List Bool} {k : Nat} {b : List UInt8} (hP : zdI 0 k true b Z) (hw : za5 bs false Z) {most : Nat} (hm : b.length ≤ most) :
   (endI bs most).e = 0 ∧ resO (endI bs most) = b ∧ resN (endI bs most) = bs.length := by
 have h := (zbw.one (p := 0) hP).res (most := most) hw (by simpa using hm)
 simpa using h
set_option maxRecDepth 20000 in
theorem works7_any (w : World) : Calls Tryz.prog 10 #[] w fun e w' => e = .returned (.bool true) ∧ Below w.heap.size w w' := by
 have HA := Lib.hid (zck (w := w) (n := 0) (cap := 0) (kind := 0) (a := none) (b := []) (by omega) (fun h => by omega) (Row.nil w 1) (fun x hx => by cases hx) (by omega))
 have kc := fun (W : World) (C : Array Value) (n c : Nat) => Lib.run_convert_bytes_const (P := Tryz.prog) W 22 5 C n c Tryz.underlying22 Tryz.underlying5
 go_enter Tryz.func10, Tryz.ntmps10
 go_wp2_with fail
 refine HA.out.mono ?_
 rintro e w1 ⟨hb1, bsA, vA, ZA, kA, rfl, hOA, -, hkA, hZA, hwA, -⟩
 obtain rfl := hkA (by omega)
 have hA : bsA = [1, 0, 0, 255, 255] := by
   rcases hZA with ⟨-, -, rfl⟩ | ⟨h, -⟩ | ⟨h, -⟩
   · exact (zeh hwA (by simp)).trans (by decide)
   · cases h
   · cases h
 subst hA
 obtain ⟨a1, c1, rfl, -, -⟩ := Row.of_owns hOA
 have HOA := Lib.hid hOA
 have HB1 := Lib.hid hb1
 clear hOA hZA hwA hkA hb1
 have hbC := zai w1 (.cells #[.int .u8 97] 5 (1, 2))
 have HBB := Lib.hid (zck (w := w1.alloc (.cells #[.int .u8 97] 5 (1, 2))) (n := 1) (cap := 1) (kind := 1) (a := some ⟨w1.heap.size, 0, none⟩) (b := [97]) (by omega) (fun h => by omega)
   ⟨rfl, Nat.le_refl _, by simp [maxLen], fun h => (by cases h), fun _ => ⟨_, _, rfl, by rw [zad]; omega, fun j u hj => by
     rw [Nat.zero_add, World.cell?_alloc_mark]; simpa using hj⟩⟩ (fun x hx => by cases hx; rw [zad]; exact Nat.lt_succ_self _) (by omega))
 have HB2 := Lib.hid (HB1.out.trans (hbC.mono HB1.out.size))
 have HOA2 := Lib.hid (zab HOA.out hbC)
 clear hbC HOA
 go_wp2_with fail
 refine HBB.out.mono ?_
 rintro e w3 ⟨hb3, bsB, vB, ZB, kB, rfl, hOB, -, hkB, hZB, hwB, -⟩
 obtain rfl := hkB (by omega)
 have hbl : bsB.length ≤ 100 := by
   rcases hZB with ⟨h, -⟩ | ⟨-, ts, hts, rfl⟩ | ⟨h, -⟩
   · cases h
   · have h1 := fixB_le true (zbW hts)
     have h2 := zdF ts hts
     have h3 := zeI hwB
     simp at h2
     omega
   · cases h
 obtain ⟨he, hres, hrn⟩ := zeK hZB hwB (most := 9) (by decide)
 obtain ⟨a2, c2, rfl, hrB, -⟩ := Row.of_owns hOB
 have HI := Lib.hid (zc8 w3 a2 c2 9 bsB hrB (by omega) (by omega))
 have HB3 := Lib.hid (HB2.out.trans (hb3.mono HB2.out.size))
 have HOA3 := Lib.hid (zab HOA2.out hb3)
 have HR := Lib.hid (And.intro he (And.intro hres hrn))
 clear hb3 hOB hkB hZB hwB hrB he hres hrn HOA2 HBB
 go_wp2_with fail
 refine HI.out.mono ?_
 rintro e w4 ⟨v4, B4, rfl, hO4, hb4⟩
 rw [HR.out.1, HR.out.2.1, HR.out.2.2] at *
 obtain ⟨a4, c4, rfl, -, -⟩ := Row.of_owns hO4
 have hcx : (convert 22 9 (.slice a4 ([97] : List UInt8).length c4)).run Tryz.prog w4 = .ok (.string (mkB7 [97])) w4 := zaW hO4
 have hcy : (convert 22 9 (.slice a1 ([1, 0, 0, 255, 255] : List UInt8).length c1)).run Tryz.prog w4 = .ok (.string (mkB7 [1, 0, 0, 255, 255])) w4 := zaW (zab HOA3.out hb4)
 have HE := Lib.hid (HB3.out.trans (hb4.mono HB3.out.size))
 have HBD := Lib.hid (bound_zero w4)
 clear hO4 hb4 HI
 dsimp only [List.length_cons, List.length_nil] at hcx hcy ⊢
 have ht : ((mkB7 [97]).toList == [97]) = true := by kernel_rfl
 have ht2 : ((mkB7 [1, 0, 0, 255, 255]).toList == [1, 0, 0, 255, 255]) = true := by kernel_rfl
 go_wp2_with fail
 refine HBD.out.mono ?_
 rintro e w5 ⟨rfl, rfl⟩
 go_wp2_with fail
 go_ret
 exact ⟨rfl, HE.out⟩
theorem zfa {w : World} {a : Option Addr} {cap : Nat} {bs : List UInt8} (hr : Row w 1 a bs.length cap (bs.map u8C)) : (convert 22 9 (.slice a bs.length cap)).run Tryz.prog w = .ok (.string (mkB7 bs)) w := by
 cases a with
 | none =>
   have h0 := hr.2.2.2.1 rfl
   have h1 := hr.2.1
   have ho : bs = [] := List.eq_nil_of_length_eq_zero (by omega)
   subst ho
   rw [h0]
   exact run_convert_bytes_string w 22 9 5 none 0 0 Tryz.underlying22 Tryz.underlying5 Tryz.underlying9
 | some x =>
   refine run_convert_bytes_back (P := Tryz.prog) w 22 9 5 x cap bs Tryz.underlying22 Tryz.underlying5 Tryz.underlying9 (fun j hj => ?_)
   obtain ⟨b, o, hx, -, hc⟩ := hr.2.2.2.2 (by omega)
   cases hx
   rw [Addr.add_lit]
   exact hc j (u8C bs[j]) (by simp [hj])
theorem eq_mkB7 (a b : List UInt8) : ((mkB7 a).toList == (mkB7 b).toList) = decide (a = b) := by
 have e : ∀ l, (mkB7 l).toList = l := fun l => by unfold mkB7; exact ByteArray.toList_eq _
 rw [e, e]; exact Bool.beq_eq_decide_eq a b
def zbB (w : World) (V : List UInt8 × Nat × Int) (e : Ending) (w' : World) : Prop :=
 ∃ v B, e = .returned (.tuple #[v, .int .i64 (V.2.1 : Nat), .int .i64 V.2.2]) ∧ w'.ownsRow B 5 1 v V.1.length (V.1.map u8C) ∧ Below w.heap.size w w'
noncomputable def unpM (b : List UInt8) (most : Int) : List UInt8 × Nat × Int := if most < 0 ∨ 16777216 < most then ([], 0, 2) else unpV b most.toNat
theorem zbB.bad {w w' : World} {e : Int} (hb : Below w.heap.size w w') : zbB w ([], 0, e) (.returned (.tuple #[.slice none 0 0, .int .i64 0, .int .i64 e])) w' := ⟨_, 0, rfl, World.ownsRow_nil _ _ _ _, hb⟩
theorem zdP (w : World) (a : Option Addr) (cap most : Nat) (bs : List UInt8) (hr : Row w 1 a bs.length cap (bs.map u8C)) (hbl : bs.length ≤ 100000) (hm : most ≤ 16777216) :
   Calls Tryz.prog 13 #[.slice a bs.length cap, .int .i64 most] w (zcW (endI bs most) w) :=
 rinflate_any w a cap most bs hr hbl hm (zbK bs) (zbK bs) (zeH bs most).1
theorem row_two {w : World} {x : Addr} {b : List UInt8} {cap : Nat} (h : Row w 1 (some x) b.length cap (b.map u8C)) (h2 : 2 ≤ b.length) : Row w 1 (if cap = 2 then some x else some (x.add 2)) (b.length - 2) (cap - 2) ((b.drop 2).map u8C) := by
 have hc := h.2.1
 by_cases e : cap = 2
 · rw [if_pos e]
   obtain ⟨h1, h3, h4, h5, h6⟩ := h
   refine ⟨by simp, by omega, by omega, fun h => (by cases h), fun h => by omega⟩
 · rw [if_neg e, List.map_drop]
   exact h.dropAt 2 h2
theorem row_four {w : World} {bb off : Nat} {b : List UInt8} {cap N : Nat} (h : Row w 1 (some ⟨bb, off, none⟩) b.length cap (b.map u8C)) (h2 : N + 6 ≤ b.length) : Row w 1 (some ⟨bb, off + (N + 2), none⟩) 4 (cap - (N + 2)) (((b.drop (N + 2)).take 4).map u8C) := by
 obtain ⟨h1, h3, h4, h5, h6⟩ := h
 obtain ⟨b', o', e, hlt, hc⟩ := h6 (by omega)
 cases e
 refine ⟨by simp; omega, by omega, by omega, fun h => (by cases h), fun _ => ⟨bb, _, rfl, hlt, fun j u hj => ?_⟩⟩
 rw [List.map_take, List.map_drop, List.getElem?_take] at hj
 split at hj
 · rw [List.getElem?_drop] at hj
   have := hc _ u hj
   rwa [show off + (N + 2 + j) = off + (N + 2) + j by omega] at this
 · cases hj
theorem runpack_any {w : World} {a : Option Addr} {cap : Nat} {b : List UInt8} (most : Int) (hr : Row w 1 a b.length cap (b.map u8C)) (hal : ∀ x, a = some x → x.block < w.heap.size) (hbl : b.length ≤ 100000) :
   Calls Tryz.prog 20 #[.slice a b.length cap, .int .i64 most] w (zbB w (unpM b most)) := by
 have HR := Lib.hid hr
 have hcapn := hr.2.1
 have hcapm := hr.2.2.1
 unfold maxLen at hcapm
 by_cases m1 : most < 0
 · have d1 : decide (most < 0) = true := decide_eq_true m1
   have HV := Lib.hid (show unpM b most = ([], 0, 2) from if_pos (.inl m1))
   clear hr
   go_enter Tryz.func20, Tryz.ntmps20
   go_wp2_with fail
   go_ret3
   rw [HV.out]
   exact zbB.bad (Below.refl _ _)
 have d1 : decide (most < 0) = false := decide_eq_false m1
 by_cases m2 : 16777216 < most
 · have d2 : decide (most > 16777216) = true := decide_eq_true m2
   have HV := Lib.hid (show unpM b most = ([], 0, 2) from if_pos (.inr m2))
   clear hr
   go_enter Tryz.func20, Tryz.ntmps20
   go_wp2_with fail
   go_ret3
   rw [HV.out]
   exact zbB.bad (Below.refl _ _)
 have d2 : decide (most > 16777216) = false := decide_eq_false m2
 obtain ⟨M, rfl⟩ : ∃ M : Nat, most = M := ⟨most.toNat, by omega⟩
 have hM : M ≤ 16777216 := by omega
 have HV := Lib.hid (show unpM b M = unpV b M from if_neg (by omega))
 rw [HV.out]
 have HCK := Lib.hid (rcheck_any hr)
 by_cases hck : chkV b = 0
 case neg =>
   have HU := Lib.hid (show unpV b M = ([], 0, chkV b) from if_pos hck)
   generalize chkV b = c at *
   have hb : (c != 0) = true := by simpa using hck
   clear hr
   go_enter Tryz.func20, Tryz.ntmps20
   go_wp2_with fail
   refine HCK.out.mono ?_
   rintro e w1 ⟨rfl, q, rfl⟩
   go_wp2_with fail
   go_ret3
   rw [HU.out]
   exact zbB.bad (zak (Below.refl _ _) q)
 have hl2 : 2 ≤ b.length := by
   rcases Nat.lt_or_ge b.length 2 with h | h
   · unfold chkV at hck; rw [if_pos h] at hck; cases hck
   · exact h
 have HU := Lib.hid (show unpV b M = _ from by unfold unpV; rw [if_neg (fun h => h hck)])
 rw [hck] at HCK
 obtain ⟨bb, off, rfl, hbb, -⟩ := hr.at 0 0 (by omega)
 have hI := (fun (W : World) (hb : Below w.heap.size w W) => by
   have h := zdP W (if cap = 2 then some ⟨bb, off, none⟩ else some ((⟨bb, off, none⟩ : Addr).add 2)) (cap - 2) M (b.drop 2) (by rw [List.length_drop]; exact row_two (hr.mono hb) hl2) (by rw [List.length_drop]; omega) hM
   rw [List.length_drop] at h
   exact h : ∀ (W : World) (hb : Below w.heap.size w W), Calls Tryz.prog 13 #[.slice (if cap = 2 then some ⟨bb, off, none⟩ else some ((⟨bb, off, none⟩ : Addr).add 2)) (b.length - 2) (cap - 2), .int .i64 M] W (zcW (endI (b.drop 2) M) W))
 have hend := zeH (b.drop 2) M
 have hole := endI_le (b.drop 2) M
 obtain ⟨s, hs⟩ : ∃ s, s = endI (b.drop 2) M := ⟨_, rfl⟩
 rw [← hs] at hI HU hend hole
 have hat := hend.2
 rw [List.length_drop] at hat
 obtain ⟨O, C, D, hOC, HI⟩ : ∃ O C D, ((cap = 2 ∧ O = off ∧ C = 0 ∧ D = 0) ∨ (¬ cap = 2 ∧ O = off + 2 ∧ C = cap - 2 ∧ D = b.length - 2)) ∧ Hid (∀ (W : World), Below w.heap.size w W → Calls Tryz.prog 13 #[.slice (some ⟨bb, O, none⟩) D C, .int .i64 M] W (zcW s W)) := by
   by_cases h : cap = 2
   · refine ⟨off, 0, 0, .inl ⟨h, rfl, rfl, rfl⟩, Lib.hid fun W hb => ?_⟩
     have := hI W hb
     rw [if_pos h, h, show b.length - 2 = 0 from by omega] at this
     exact this
   · refine ⟨off + 2, cap - 2, b.length - 2, .inr ⟨h, rfl, rfl, rfl⟩, Lib.hid fun W hb => ?_⟩
     have := hI W hb
     rw [if_neg h] at this
     exact this
 obtain ⟨L, hL⟩ : ∃ L, L = b.length := ⟨_, rfl⟩
 rw [← hL] at HR HCK hOC hl2 hcapn hbl hat HU ⊢
 have HL := Lib.hid hL
 have HS := Lib.hid hs
 clear hI hr hend hL hs
 have hni : (L : Int) ≤ 9223372036854775807 := by omega
 by_cases he : s.e = 0
 case neg =>
   rw [if_pos he] at HU
   have hb : (s.e != 0) = true := by simpa using he
   clear hat hole
   rcases hOC with ⟨rfl, rfl, rfl, rfl⟩ | ⟨hc2, rfl, rfl, rfl⟩ <;> (
     go_enter Tryz.func20, Tryz.ntmps20
     go_wp2_with fail
     refine HCK.out.mono ?_
     rintro e w1 ⟨rfl, q, rfl⟩
     have HB1 := Lib.hid (zak (Below.refl w.heap.size w) q)
     go_wp2_with fail
     refine (HI.out _ HB1.out).mono ?_
     rintro e w2 ⟨v1, B1, rfl, hO1, hb2⟩
     have HB2 := Lib.hid (HB1.out.trans (hb2.mono HB1.out.size))
     clear hO1 hb2
     go_wp2_with fail
     go_ret3
     rw [HU.out]
     exact zbB.bad HB2.out)
 rw [if_neg (fun h => h he)] at HU
 have hNv : resN s = (s.at_ + 7) / 8 := if_pos he
 have hNl : resN s ≤ L - 2 := by omega
 have HE := Lib.hid he
 have hb : (s.e != 0) = false := by simpa using he
 clear hNv hat he
 obtain ⟨N, hN⟩ : ∃ N, N = resN s := ⟨_, rfl⟩
 rw [← hN] at hNl HU
 have HN := Lib.hid hN.symm
 clear hN
 by_cases hlen : L < N + 6
 case pos =>
   rw [if_pos hlen] at HU
   have hlt : decide ((L : Int) < (N : Int) + 6) = true := decide_eq_true (by omega)
   clear hole
   rcases hOC with ⟨rfl, rfl, rfl, rfl⟩ | ⟨hc2, rfl, rfl, rfl⟩ <;> (
     go_enter Tryz.func20, Tryz.ntmps20
     go_wp2_with fail
     refine HCK.out.mono ?_
     rintro e w1 ⟨rfl, q, rfl⟩
     have HB1 := Lib.hid (zak (Below.refl w.heap.size w) q)
     go_wp2_with fail
     refine (HI.out _ HB1.out).mono ?_
     rintro e w2 ⟨v1, B1, rfl, hO1, hb2⟩
     rw [HN.out, HE.out]
     have HB2 := Lib.hid (HB1.out.trans (hb2.mono HB1.out.size))
     clear hO1 hb2
     go_wp2_with fail
     go_ret3
     rw [HU.out]
     exact zbB.bad HB2.out)
 rw [if_neg hlen] at HU
 have hlt : decide ((L : Int) < (N : Int) + 6) = false := decide_eq_false (by omega)
 obtain ⟨hc2, rfl, rfl, rfl⟩ := hOC.resolve_left (fun h => by omega)
 obtain ⟨o, ho⟩ : ∃ o, o = resO s := ⟨_, rfl⟩
 rw [← ho] at HU hole
 have HO := Lib.hid ho.symm
 clear hOC ho
 obtain ⟨s4, hs4⟩ : ∃ s4, s4 = (b.drop (N + 2)).take 4 := ⟨_, rfl⟩
 have hl4 : s4.length = 4 := by rw [hs4, List.length_take, List.length_drop]; have := HL.out; omega
 have HROW := Lib.hid (show ∀ W, Below w.heap.size w W → (convert 22 9 (.slice (some ⟨bb, off + (N + 2), none⟩) 4 (cap - (N + 2)))).run Tryz.prog W = .ok (.string (mkB7 s4)) W from fun W hb => by
   have h := row_four (N := N) (by rw [← HL.out]; exact HR.out.mono hb) (by have := HL.out; omega)
   rw [← hs4] at h
   have h2 := zfa (bs := s4) (by rw [hl4]; exact h)
   rw [hl4] at h2
   exact h2)
 rw [← hs4] at HU
 clear hs4
 have i1 : ¬ ((cap : Int) = (N : Int) + 2) := by omega
 have i2 : (N : Int) + 6 ≤ (cap : Int) := by omega
 have i3 : ¬ cap = N + 2 := by omega
 have i4 : IntKind.i64.wrap ((N : Int) + 2) = (N : Int) + 2 := IntWalk.i64_in _ (by omega)
 have i5 : IntKind.i64.wrap ((N : Int) + 6) = (N : Int) + 6 := IntWalk.i64_in _ (by omega)
 have i6 : ((N : Int) + 2).toNat = N + 2 := by omega
 have i7 : ((N : Int) + 6).toNat = N + 6 := by omega
 have i8 : (0 : Int) ≤ (N : Int) + 2 := by omega
 have i9 : (0 : Int) ≤ (N : Int) + 6 := by omega
 have i10 : (N : Int) + 2 ≤ (N : Int) + 6 := by omega
 have i11 : N + 6 - (N + 2) = 4 := by omega
 have i12 : N + 6 ≤ cap := by omega
 go_enter Tryz.func20, Tryz.ntmps20
 go_wp2_with fail
 refine HCK.out.mono ?_
 rintro e w1 ⟨rfl, q, rfl⟩
 have HB1 := Lib.hid (zak (Below.refl w.heap.size w) q)
 go_wp2_with fail
 refine (HI.out _ HB1.out).mono ?_
 rintro e w2 ⟨v1, B1, rfl, hO1, hb2⟩
 rw [HN.out, HE.out]
 rw [HO.out] at hO1
 have HB2 := Lib.hid (HB1.out.trans (hb2.mono HB1.out.size))
 obtain ⟨a1, c1, rfl, hR1, -⟩ := Row.of_owns hO1
 have HR1 := Lib.hid (fun W (hb : Below w2.heap.size w2 W) => rsum_any (hR1.mono hb))
 have HBY := Lib.hid (fun W => zeM (w := W) (adV_lt o))
 have HO1 := Lib.hid hO1
 have hcx : ∀ W, Below w2.heap.size w2 W → (convert 22 9 (.slice (some ⟨bb, off + (N + 2), none⟩) 4 (cap - (N + 2)))).run Tryz.prog W = .ok (.string (mkB7 s4)) W := fun W h => HROW.out W (HB2.out.trans (h.mono HB2.out.size))
 have e1 : Below w2.heap.size w2 w2.drew := (Below.refl _ _).drew
 have HEQ := eq_mkB7 s4 (by4 (adV o))
 obtain ⟨dd, hdd⟩ : ∃ dd, dd = decide (s4 = by4 (adV o)) := ⟨_, rfl⟩
 rw [← hdd] at HEQ
 have HDD := Lib.hid hdd.symm
 generalize mkB7 s4 = x4 at *
 clear hO1 hb2 hR1 hdd
 go_wp2_with fail
 go_cut [49] from 38 (fun v wc => v = .bool (!dd) ∧ Hid (Below w2.heap.size w2 wc))
 case first =>
   go_region_with (first
     | (go_at_call 50; refine (HR1.out _ ((Below.refl _ _).drew)).mono ?_; rintro e wS ⟨rfl, rfl⟩)
     | (go_at_call 49; refine (HBY.out _).mono ?_; rintro e wB ⟨vB, rfl, hOB, hbB⟩; have hcB := zaW (o := by4 (adV o)) hOB; obtain ⟨aB, cB, rfl, hrB, -⟩ := Row.of_owns hOB; have hbB2 : Below w2.heap.size w2 wB := e1.trans (hbB.mono e1.size); have HcB := Lib.hid hbB2; clear hOB hrB))
   all_goals (try go_wp2_with fail)
   all_goals go_meet
   all_goals exact ⟨rfl, HcB⟩
 case rest =>
 obtain ⟨rfl, HBC⟩ := hcut
 have HB3 := Lib.hid (HB2.out.trans (HBC.out.mono HB2.out.size))
 have HOF := Lib.hid (zab HO1.out HBC.out)
 cases dd with
 | true =>
   rw [if_neg (fun h => h (of_decide_eq_true HDD.out))] at HU
   go_wp2_with fail
   go_ret3
   rw [HU.out]
   exact ⟨_, _, by rfl, HOF.out, HB3.out⟩
 | false =>
   rw [if_pos (of_decide_eq_false HDD.out)] at HU
   go_wp2_with fail
   go_ret3
   rw [HU.out]
   exact zbB.bad HB3.out
theorem zgj (a a2 : Option Addr) (n c n2 c2 : Nat) (w : World) (hn : n ≤ 1000000000) (hn2 : n2 ≤ 1000000000) :
   Calls Tryz.prog 32 #[.slice a n c, .slice a2 n2 c2] w fun e w' => e = .returned (.int .i64 ((n : Int) - n2)) ∧ w = w' := by
 go_enter Tryz.func32, Tryz.ntmps32
 go_wp2
 go_ret
 exact ⟨rfl, rfl⟩
theorem min3_any {w : World} {g : Nat} {a0 a1 a2 : Option Addr} {n0 n1 n2 c0 c1 c2 : Nat} (z0 : w.cell? ⟨g, 0, none⟩ = some (.slice a0 n0 c0)) (z1 : w.cell? ⟨g, 1, none⟩ = some (.slice a1 n1 c1)) (z2 : w.cell? ⟨g, 2, none⟩ = some (.slice a2 n2 c2))
   (h0 : n0 ≤ 1000000000) (h1 : n1 ≤ 1000000000) (h2 : n2 ≤ 1000000000) :
   Calls Tryz.prog 31 #[.slice (some ⟨g, 0, none⟩) 3 3, .func (.func 32) #[] #[]] w fun e w' => w' = w ∧ ((e = .returned (.slice a0 n0 c0) ∧ n0 ≤ n1 ∧ n0 ≤ n2) ∨ (e = .returned (.slice a1 n1 c1) ∧ n1 ≤ n0 ∧ n1 ≤ n2) ∨ (e = .returned (.slice a2 n2 c2) ∧ n2 ≤ n0 ∧ n2 ≤ n1)) := by
 go_enter Tryz.func31, Tryz.ntmps31
 go_wp2_with fail
 go_loopw [5, 6] (fun v vi wr => wr = w ∧ ((v = .slice a0 n0 c0 ∧ vi = .int .i64 1) ∨ (v = .slice a0 n0 c0 ∧ vi = .int .i64 2 ∧ n0 ≤ n1) ∨ (v = .slice a1 n1 c1 ∧ vi = .int .i64 2 ∧ n1 < n0) ∨ (v = .slice a0 n0 c0 ∧ vi = .int .i64 3 ∧ n0 ≤ n1 ∧ n0 ≤ n2) ∨ (v = .slice a1 n1 c1 ∧ vi = .int .i64 3 ∧ n1 ≤ n0 ∧ n1 ≤ n2) ∨ (v = .slice a2 n2 c2 ∧ vi = .int .i64 3 ∧ n2 ≤ n0 ∧ n2 ≤ n1))) (fun _ vi _ => 3 - (intOf vi).toNat)
 case atStart => exact ⟨rfl, .inl ⟨rfl, rfl⟩⟩
 case round =>
   obtain ⟨rfl, ⟨rfl, rfl⟩ | ⟨rfl, rfl, q1⟩ | ⟨rfl, rfl, q1⟩ | ⟨rfl, rfl, q1, q2⟩ | ⟨rfl, rfl, q1, q2⟩ | ⟨rfl, rfl, q1, q2⟩⟩ := hrel
   · go_wp2_with fail
     refine (zgj _ _ _ _ _ _ _ h1 h0).mono ?_
     rintro e W ⟨rfl, rfl⟩
     by_cases hc : n1 < n0
     · have hd : decide ((n1 : Int) - (n0 : Int) < 0) = true := decide_eq_true (by omega)
       go_wp2_with fail
       go_roundw
       case rel => exact ⟨by trivial, .inr (.inr (.inl ⟨rfl, rfl, hc⟩))⟩
       case measure => simp [intOf]
     · have hd : decide ((n1 : Int) - (n0 : Int) < 0) = false := decide_eq_false (by omega)
       go_wp2_with fail
       go_roundw
       case rel => exact ⟨by trivial, .inr (.inl ⟨rfl, rfl, by omega⟩)⟩
       case measure => simp [intOf]
   · go_wp2_with fail
     refine (zgj _ _ _ _ _ _ _ h2 h0).mono ?_
     rintro e W ⟨rfl, rfl⟩
     by_cases hc : n2 < n0
     · have hd : decide ((n2 : Int) - (n0 : Int) < 0) = true := decide_eq_true (by omega)
       go_wp2_with fail
       go_roundw
       case rel => exact ⟨by trivial, .inr (.inr (.inr (.inr (.inr ⟨rfl, rfl, by omega, by omega⟩))))⟩
       case measure => simp [intOf]
     · have hd : decide ((n2 : Int) - (n0 : Int) < 0) = false := decide_eq_false (by omega)
       go_wp2_with fail
       go_roundw
       case rel => exact ⟨by trivial, .inr (.inr (.inr (.inl ⟨rfl, rfl, by omega, by omega⟩)))⟩
       case measure => simp [intOf]
   · go_wp2_with fail
     refine (zgj _ _ _ _ _ _ _ h2 h1).mono ?_
     rintro e W ⟨rfl, rfl⟩
     by_cases hc : n2 < n1
     · have hd : decide ((n2 : Int) - (n1 : Int) < 0) = true := decide_eq_true (by omega)
       go_wp2_with fail
       go_roundw
       case rel => exact ⟨by trivial, .inr (.inr (.inr (.inr (.inr ⟨rfl, rfl, by omega, by omega⟩))))⟩
       case measure => simp [intOf]
     · have hd : decide ((n2 : Int) - (n1 : Int) < 0) = false := decide_eq_false (by omega)
       go_wp2_with fail
       go_roundw
       case rel => exact ⟨by trivial, .inr (.inr (.inr (.inr (.inl ⟨rfl, rfl, by omega, by omega⟩))))⟩
       case measure => simp [intOf]
   · go_wp2_with fail
     go_ret
     exact ⟨rfl, .inl ⟨rfl, q1, q2⟩⟩
   · go_wp2_with fail
     go_ret
     exact ⟨rfl, .inr (.inl ⟨rfl, q1, q2⟩)⟩
   · go_wp2_with fail
     go_ret
     exact ⟨rfl, .inr (.inr ⟨rfl, q1, q2⟩)⟩
end Go.Proofs.YtkikhmdpcanidaaGreat
namespace Go.Proofs.YtkikhmdpcanidaaGreat
def incN (L : List Nat) (k : Nat) : List Nat := L.set k (L.getD k 0 + 1)
theorem zdE (L : List Nat) (k v j : Nat) : (L.set k v).getD j 0 = if k = j ∧ k < L.length then v else L.getD j 0 := by
 rw [List.getD_eq_getElem?_getD, List.getElem?_set]
 by_cases e : k = j
 · subst e
   by_cases h : k < L.length
   · rw [if_pos rfl, if_pos h, if_pos ⟨rfl, h⟩]; rfl
   · rw [if_pos rfl, if_neg h, if_neg (fun q => h q.2), List.getD_eq_getElem?_getD, List.getElem?_eq_none (by omega)]
 · rw [if_neg e, if_neg (fun q => e q.1), List.getD_eq_getElem?_getD]
theorem zdS (L : List Nat) (k : Nat) : (incN L k).length = L.length := by simp [incN]
theorem incN_at (L : List Nat) (k j : Nat) : (incN L k).getD j 0 = if k = j ∧ k < L.length then L.getD k 0 + 1 else L.getD j 0 := zdE _ _ _ _
theorem zeD (L : List Nat) (k j : Nat) : L.getD j 0 ≤ (incN L k).getD j 0 := by
 rw [incN_at]
 split
 · rename_i h; rw [← h.1]; omega
 · omega
theorem zfQ {L : List Nat} {m : Nat} (h : ∀ j, L.getD j 0 ≤ m) (k j : Nat) : (incN L k).getD j 0 ≤ m + 1 := by
 have h1 := h j
 have h2 := h k
 rw [incN_at]
 split <;> omega
theorem zdV {L : List Nat} {k : Nat} (h : k < L.length) : 0 < (incN L k).getD k 0 := by
 rw [incN_at, if_pos ⟨rfl, h⟩]; omega
def cntS (p : List Nat × List Nat) (t : LT) : List Nat × List Nat := if t.len = 0 then (incN p.1 t.b.toNat, p.2) else (incN p.1 (symN t.len), incN p.2 (farN t.far))
def cntV (ts : List LT) : List Nat × List Nat := ts.foldl cntS ((List.replicate 286 0).set 256 1, List.replicate 30 0)
theorem cntV_snoc (ts : List LT) (t : LT) : cntV (ts ++ [t]) = cntS (cntV ts) t := by unfold cntV; rw [List.foldl_append]; rfl
structure CntI (n : Nat) (p : List Nat × List Nat) : Prop where
 la : p.1.length = 286
 lb : p.2.length = 30
 ma : ∀ k, p.1.getD k 0 ≤ n + 1
 mb : ∀ k, p.2.getD k 0 ≤ n
 e : 0 < p.1.getD 256 0
def CntN (p : List Nat × List Nat) (t : LT) : Prop := if t.len = 0 then 0 < p.1.getD t.b.toNat 0 else 0 < p.1.getD (symN t.len) 0 ∧ 0 < p.2.getD (farN t.far) 0
theorem rep_at (n k : Nat) : (List.replicate n 0).getD k 0 = 0 := by
 rw [List.getD_eq_getElem?_getD, List.getElem?_replicate]; split <;> rfl
theorem cnt_zero : CntI 0 (cntV []) := by
 refine ⟨?_, ?_, fun k => ?_, fun k => ?_, ?_⟩
 · show ((List.replicate 286 0).set 256 1).length = 286
   rw [List.length_set, List.length_replicate]
 · show (List.replicate 30 0).length = 30
   rw [List.length_replicate]
 · show ((List.replicate 286 0).set 256 1).getD k 0 ≤ 1
   rw [zdE, rep_at]; split <;> omega
 · show (List.replicate 30 0).getD k 0 ≤ 0
   rw [rep_at]; omega
 · show 0 < ((List.replicate 286 0).set 256 1).getD 256 0
   rw [zdE, if_pos ⟨rfl, by rw [List.length_replicate]; decide⟩]; decide
theorem may_idx {t : LT} (h : t.may) : (t.len = 0 → t.b.toNat < 286) ∧ (t.len ≠ 0 → 3 ≤ t.len ∧ t.len ≤ 258 ∧ 1 ≤ t.far ∧ t.far ≤ 32768 ∧ symN t.len < 286 ∧ farN t.far < 30) := by
 unfold LT.may at h
 by_cases h0 : t.len = 0
 · exact ⟨fun _ => by have := t.b.toNat_lt; omega, fun h => absurd h0 h⟩
 · rw [if_neg h0] at h
   obtain ⟨-, m3, m8, f1, f2⟩ := h
   have y := zdj m3 m8
   have z := zdu f1 f2
   refine ⟨fun h => absurd h h0, fun _ => ⟨m3, m8, f1, f2, ?_, ?_⟩⟩
   · obtain ⟨y1, y2, -⟩ := y; omega
   · obtain ⟨z1, -⟩ := z; omega
theorem CntI.step {n : Nat} {p : List Nat × List Nat} (h : CntI n p) (t : LT) : CntI (n + 1) (cntS p t) := by
 unfold cntS
 split
 · exact ⟨by rw [zdS]; exact h.la, h.lb, fun k => zfQ h.ma _ k, fun k => Nat.le_succ_of_le (h.mb k), Nat.lt_of_lt_of_le h.e (zeD _ _ _)⟩
 · exact ⟨by rw [zdS]; exact h.la, by rw [zdS]; exact h.lb, fun k => zfQ h.ma _ k, fun k => zfQ h.mb _ k, Nat.lt_of_lt_of_le h.e (zeD _ _ _)⟩
theorem CntN.step {p : List Nat × List Nat} {t : LT} (h : CntN p t) (u : LT) : CntN (cntS p u) t := by
 have e1 : ∀ k, p.1.getD k 0 ≤ (cntS p u).1.getD k 0 := fun k => by unfold cntS; split <;> exact zeD _ _ _
 have e2 : ∀ k, p.2.getD k 0 ≤ (cntS p u).2.getD k 0 := fun k => by
   unfold cntS; split
   · exact Nat.le_refl _
   · exact zeD _ _ _
 unfold CntN at h ⊢
 split
 · rename_i h0; rw [if_pos h0] at h; exact Nat.lt_of_lt_of_le h (e1 _)
 · rename_i h0; rw [if_neg h0] at h; exact ⟨Nat.lt_of_lt_of_le h.1 (e1 _), Nat.lt_of_lt_of_le h.2 (e2 _)⟩
theorem CntN.new {n : Nat} {p : List Nat × List Nat} (h : CntI n p) {t : LT} (ht : t.may) : CntN (cntS p t) t := by
 obtain ⟨h1, h2⟩ := may_idx ht
 unfold CntN cntS
 by_cases h0 : t.len = 0
 · rw [if_pos h0, if_pos h0]
   exact zdV (by rw [h.la]; exact h1 h0)
 · rw [if_neg h0, if_neg h0]
   obtain ⟨-, -, -, -, q1, q2⟩ := h2 h0
   exact ⟨zdV (by rw [h.la]; exact q1), zdV (by rw [h.lb]; exact q2)⟩
theorem cnt_all (ts : List LT) (hts : ∀ t ∈ ts, t.may) : ∀ k, k ≤ ts.length → CntI k (cntV (ts.take k)) ∧ ∀ t ∈ ts.take k, CntN (cntV (ts.take k)) t
 | 0, _ => ⟨cnt_zero, fun t h => by simp at h⟩
 | k + 1, hk => by
   obtain ⟨h1, h2⟩ := cnt_all ts hts k (by omega)
   have e : ts.take (k + 1) = ts.take k ++ [ts[k]'hk] := by rw [List.take_add_one, List.getElem?_eq_getElem hk]; rfl
   rw [e, cntV_snoc]
   refine ⟨h1.step _, fun t ht => ?_⟩
   rcases List.mem_append.1 ht with h | h
   · exact (h2 t h).step _
   · rw [List.mem_singleton.1 h]
     exact CntN.new h1 (hts _ (List.getElem_mem _))
def zce (L : List Nat) : List Nat := (L.set 0 (max (L.getD 0 0) 1)).set 1 (max (L.getD 1 0) 1)
theorem zbP (L : List Nat) : (zce L).length = L.length := by simp [zce]
theorem bumpN_at (L : List Nat) (h : 2 ≤ L.length) (k : Nat) : (zce L).getD k 0 = if k < 2 then max (L.getD k 0) 1 else L.getD k 0 := by
 unfold zce
 rw [zdE, zdE, List.length_set]
 by_cases h1 : 1 = k
 · subst h1; rw [if_pos ⟨rfl, by omega⟩, if_pos (by omega)]
 · rw [if_neg (fun q => h1 q.1)]
   by_cases h0 : 0 = k
   · subst h0; rw [if_pos ⟨rfl, by omega⟩, if_pos (by omega)]
   · rw [if_neg (fun q => h0 q.1), if_neg (by omega)]
theorem zdi (L : List Nat) (h : 2 ≤ L.length) (k : Nat) : L.getD k 0 ≤ (zce L).getD k 0 := by
 rw [bumpN_at L h]; split <;> omega
theorem bumpN_le {L : List Nat} (h : 2 ≤ L.length) {m : Nat} (hm : ∀ k, L.getD k 0 ≤ m) (k : Nat) : (zce L).getD k 0 ≤ m + 1 := by
 have := hm k
 rw [bumpN_at L h]; split <;> omega
def cntR (R : List (Nat × Nat)) : List Nat := R.foldl (fun L x => incN L x.1) (List.replicate 19 0)
theorem cntR_snoc (R : List (Nat × Nat)) (x : Nat × Nat) : cntR (R ++ [x]) = incN (cntR R) x.1 := by unfold cntR; rw [List.foldl_append]; rfl
theorem cntR_all (R : List (Nat × Nat)) (hR : ∀ x ∈ R, x.1 < 19) : ∀ k, k ≤ R.length → (cntR (R.take k)).length = 19 ∧ (∀ j, (cntR (R.take k)).getD j 0 ≤ k) ∧ ∀ x ∈ R.take k, 0 < (cntR (R.take k)).getD x.1 0
 | 0, _ => ⟨rfl, fun j => by show (List.replicate 19 0).getD j 0 ≤ 0; rw [rep_at]; omega, fun t h => by simp at h⟩
 | k + 1, hk => by
   obtain ⟨h1, h2, h3⟩ := cntR_all R hR k (by omega)
   have e : R.take (k + 1) = R.take k ++ [R[k]'hk] := by rw [List.take_add_one, List.getElem?_eq_getElem hk]; rfl
   rw [e, cntR_snoc]
   refine ⟨by rw [zdS]; exact h1, fun j => zfQ h2 _ j, fun x hx => ?_⟩
   rcases List.mem_append.1 hx with h | h
   · exact Nat.lt_of_lt_of_le (h3 x h) (zeD _ _ _)
   · rw [List.mem_singleton.1 h]
     exact zdV (by rw [h1]; exact hR _ (List.getElem_mem _))
theorem CntN.bump {p : List Nat × List Nat} {t : LT} (h : CntN p t) (h1 : 2 ≤ p.1.length) (h2 : 2 ≤ p.2.length) : CntT (iL (zce p.1)) (iL (zce p.2)) t := by
 unfold CntN at h
 unfold CntT
 split
 · rename_i h0; rw [if_pos h0] at h; rw [za2]; have := zdi p.1 h1 t.b.toNat; omega
 · rename_i h0; rw [if_neg h0] at h; rw [za2, za2]
   have q1 := zdi p.1 h1 (symN t.len)
   have q2 := zdi p.2 h2 (farN t.far)
   exact ⟨by omega, by omega⟩
end Go.Proofs.YtkikhmdpcanidaaGreat
namespace Go.Proofs.YtkikhmdpcanidaaGreat
inductive HT where
 | leaf (s : Nat)
 | node (a b : HT)
namespace HT
def leaves : HT → List Nat
 | leaf s => [s]
 | node a b => a.leaves ++ b.leaves
def lay : HT → Nat → List Nat → List Nat
 | leaf s, d, l => l.set s (max 1 d)
 | node a b, d, l => b.lay (d + 1) (a.lay (d + 1) l)
theorem leaves_pos : ∀ t : HT, 1 ≤ t.leaves.length
 | leaf _ => Nat.le_refl _
 | node a b => by have := leaves_pos a; simp only [leaves, List.length_append]; omega
theorem lay_len : ∀ (t : HT) (d : Nat) (l : List Nat), (t.lay d l).length = l.length
 | leaf s, d, l => by simp [lay]
 | node a b, d, l => by rw [lay, lay_len b, lay_len a]
theorem lay_out : ∀ (t : HT) (d : Nat) (l : List Nat) (k : Nat), k ∉ t.leaves → (t.lay d l).getD k 0 = l.getD k 0
 | leaf s, d, l, k, h => by
   simp only [leaves, List.mem_singleton] at h
   simp only [lay, List.getD_eq_getElem?_getD]
   rw [List.getElem?_set_ne (fun e => h e.symm)]
 | node a b, d, l, k, h => by
   simp only [leaves, List.mem_append, not_or] at h
   rw [lay, lay_out b _ _ _ h.2, lay_out a _ _ _ h.1]
theorem lay_in : ∀ (t : HT) (d : Nat) (l : List Nat) (k : Nat), (∀ s ∈ t.leaves, s < l.length) → k ∈ t.leaves → 1 ≤ (t.lay d l).getD k 0 ∧ (t.lay d l).getD k 0 ≤ d + t.leaves.length
 | leaf s, d, l, k, hl, h => by
   simp only [leaves, List.mem_singleton] at h
   subst h
   have := hl k (by simp [leaves])
   simp only [lay, List.getD_eq_getElem?_getD]
   rw [List.getElem?_set_self this]
   simp only [Option.getD_some, leaves, List.length_singleton]
   omega
 | node a b, d, l, k, hl, h => by
   have ha : ∀ s ∈ a.leaves, s < l.length := fun s hs => hl s (by simp [leaves, hs])
   have hb : ∀ s ∈ b.leaves, s < (a.lay (d + 1) l).length := fun s hs => by rw [lay_len]; exact hl s (by simp [leaves, hs])
   have hpa := leaves_pos a
   have hpb := leaves_pos b
   simp only [leaves, List.length_append]
   by_cases hkb : k ∈ b.leaves
   · have := lay_in b (d + 1) (a.lay (d + 1) l) k hb hkb
     rw [lay]; omega
   · have hka : k ∈ a.leaves := by
       simp only [leaves, List.mem_append] at h
       exact h.resolve_right hkb
     have := lay_in a (d + 1) l k ha hka
     rw [lay, lay_out b _ _ _ hkb]; omega
end HT
end Go.Proofs.YtkikhmdpcanidaaGreat
namespace Go.Proofs.YtkikhmdpcanidaaGreat
def rowR (n : Nat) (R D : List Nat) : List Nat := zdr R D (List.replicate n 0)
theorem zcm (n : Nat) (R D : List Nat) : (rowR n R D).length = n := by unfold rowR; rw [zd5]; simp
theorem zfG {n : Nat} {R D : List Nat} (hn : R.Nodup) (hD : D.length = R.length) (hr : ∀ r ∈ R, r < n) {i : Nat} (hi : i < R.length) : (rowR n R D).getD (R.getD i 0) 0 = D.getD i 0 := by
 have := zfH R D (List.replicate n 0) i hn hD (fun r h => by simpa using hr r h) hi
 unfold rowR
 rw [← this, List.getD_eq_getElem?_getD (l := R), List.getElem?_eq_getElem hi]; rfl
theorem zfY {n : Nat} {R D : List Nat} {k : Nat} (h : k ∉ R) : (rowR n R D).getD k 0 = 0 := by
 unfold rowR
 rw [zdq R D _ k h]
 simp only [List.getD_eq_getElem?_getD, List.getElem?_replicate]
 split <;> rfl
theorem zga {n : Nat} {R D L : List Nat} (hn : R.Nodup) (hr : ∀ r ∈ R, r < n) (hD : D.length = R.length) (hl : L.length = n)
   (h1 : ∀ i, i < R.length → L.getD (R.getD i 0) 0 = D.getD i 0) (h2 : ∀ k, k ∉ R → L.getD k 0 = 0) : L = rowR n R D :=
 give_ext hn hr hD hl (fun i hi => by
   have := h1 i hi
   rwa [List.getD_eq_getElem?_getD (l := R), List.getElem?_eq_getElem hi, Option.getD_some] at this) h2
theorem zfB (l : List Nat) (i k v : Nat) (h : i < l.length) : (l.set i v).getD k 0 = if k = i then v else l.getD k 0 := by
 simp only [List.getD_eq_getElem?_getD, List.getElem?_set]
 by_cases e : i = k
 · subst e; rw [if_pos rfl, if_pos h, if_pos rfl]; rfl
 · rw [if_neg e, if_neg (fun h => e h.symm)]
theorem nodup_getD {R : List Nat} (hn : R.Nodup) {i j : Nat} (hi : i < R.length) (hj : j < R.length) (h : R.getD i 0 = R.getD j 0) : i = j := by
 rw [List.getD_eq_getElem?_getD, List.getElem?_eq_getElem hi, List.getD_eq_getElem?_getD, List.getElem?_eq_getElem hj] at h
 have hp := List.pairwise_iff_getElem.1 hn
 rcases Nat.lt_trichotomy i j with e | e | e
 · exact absurd h (hp i j hi hj e)
 · exact e
 · exact absurd h.symm (hp j i hj hi e)
theorem rowR_set {n : Nat} {R D : List Nat} (hn : R.Nodup) (hr : ∀ r ∈ R, r < n) (hD : D.length = R.length) {i v : Nat} (hi : i < R.length) : (rowR n R D).set (R.getD i 0) v = rowR n R (D.set i v) := by
 have hm : R.getD i 0 ∈ R := by rw [List.getD_eq_getElem?_getD, List.getElem?_eq_getElem hi]; exact List.getElem_mem hi
 have hlt : R.getD i 0 < (rowR n R D).length := by rw [zcm]; exact hr _ hm
 refine zga hn hr (by rw [List.length_set, hD]) (by rw [List.length_set, zcm]) (fun j hj => ?_) (fun k hk => ?_)
 · rw [zfB _ _ _ _ hlt, zfB _ _ _ _ (by omega)]
   by_cases e : j = i
   · rw [if_pos (by rw [e]), if_pos e]
   · rw [if_neg (fun h => e (nodup_getD hn hj hi h)), if_neg e, zfG hn hD hr hj]
 · rw [zfB _ _ _ _ hlt, if_neg (fun (h : k = R.getD i 0) => hk (h ▸ hm)), zfY hk]
theorem lay_row {n : Nat} {R : List Nat} {t : HT} (hn : R.Nodup) (hr : ∀ r ∈ R, r < n) (hp : t.leaves.Perm R) :
   ∃ D, D.length = R.length ∧ t.lay 0 (List.replicate n 0) = rowR n R D ∧ ∀ x ∈ D, 1 ≤ x ∧ x ≤ R.length := by
 have hl : t.leaves.length = R.length := hp.length_eq
 have hlt : ∀ s ∈ t.leaves, s < (List.replicate n 0).length := fun s hs => by simpa using hr s (hp.mem_iff.1 hs)
 refine ⟨R.map fun r => (t.lay 0 (List.replicate n 0)).getD r 0, by simp, ?_, fun x hx => ?_⟩
 · refine zga hn hr (by simp) (by rw [HT.lay_len]; simp) (fun i hi => ?_) (fun k hk => ?_)
   · rw [List.getD_eq_getElem?_getD (l := R.map _), List.getElem?_map, List.getD_eq_getElem?_getD (l := R), List.getElem?_eq_getElem hi]; rfl
   · rw [HT.lay_out _ _ _ _ (fun h => hk (hp.mem_iff.1 h))]
     simp only [List.getD_eq_getElem?_getD, List.getElem?_replicate]
     split <;> rfl
 · obtain ⟨r, hr2, rfl⟩ := List.mem_map.1 hx
   have := HT.lay_in t 0 (List.replicate n 0) r hlt (hp.mem_iff.2 hr2)
   rw [hl, Nat.zero_add] at this
   exact this
theorem rowR_perm {n : Nat} {R R2 D : List Nat} (hn : R.Nodup) (hr : ∀ r ∈ R, r < n) (hD : D.length = R.length) (hp : R2.Perm R) (h1 : ∀ x ∈ D, 1 ≤ x ∧ x ≤ R.length) :
   ∃ D2, D2.length = R2.length ∧ rowR n R D = rowR n R2 D2 ∧ ∀ x ∈ D2, 1 ≤ x ∧ x ≤ R2.length := by
 have hn2 : R2.Nodup := hp.nodup_iff.2 hn
 refine ⟨R2.map fun r => (rowR n R D).getD r 0, by simp, ?_, fun x hx => ?_⟩
 · refine zga hn2 (fun r h => hr r (hp.mem_iff.1 h)) (by simp) (zcm ..) (fun i hi => ?_) (fun k hk => zfY (fun h => hk (hp.mem_iff.2 h)))
   rw [List.getD_eq_getElem?_getD (l := R2.map _), List.getElem?_map, List.getD_eq_getElem?_getD (l := R2), List.getElem?_eq_getElem hi]; rfl
 · obtain ⟨r, hr2, rfl⟩ := List.mem_map.1 hx
   obtain ⟨i, hi, rfl⟩ := List.mem_iff_getElem.1 (hp.mem_iff.1 hr2)
   have e := zfG (n := n) hn hD hr hi
   rw [List.getD_eq_getElem?_getD (l := R), List.getElem?_eq_getElem hi, Option.getD_some] at e
   rw [e, List.getD_eq_getElem?_getD, List.getElem?_eq_getElem (by omega), Option.getD_some, hp.length_eq]
   exact h1 _ (List.getElem_mem _)
def cutV (limit g : Nat) (D : List Nat) : Option (List Nat) := (zbn limit g (D.map fun x => min x limit)).map fun M => (zat M.reverse (32768 - sumW M)).1.reverse
theorem slack_le (limit : Nat) : ∀ L : List Nat, zeS limit L ≤ limit * L.length
 | [] => Nat.zero_le _
 | x :: l => by
   have := slack_le limit l
   simp only [zeS, List.length_cons, Nat.mul_add]; omega
theorem cutV_good {limit g : Nat} {D : List Nat} (h1 : 1 ≤ limit) (h15 : limit ≤ 15) (hD : ∀ x ∈ D, 1 ≤ x) (h2 : 2 ≤ D.length) (hn : D.length ≤ 2 ^ limit) (hg : limit * D.length < g) :
   ∃ E, cutV limit g D = some E ∧ E.length = D.length ∧ (∀ x ∈ E, 1 ≤ x ∧ x ≤ limit) ∧ sumW E = 32768 := by
 have hin : InL limit (D.map fun x => min x limit) := fun x hx => by
   obtain ⟨y, hy, rfl⟩ := List.mem_map.1 hx
   have := hD y hy
   omega
 have hsl := slack_le limit (D.map fun x => min x limit)
 rw [List.length_map] at hsl
 obtain ⟨M, m1, m2, m3, m4⟩ := zdL h1 h15 g _ hin (by rw [List.length_map]; exact hn) (by omega)
 rw [List.length_map] at m3
 have hrev : InL limit M.reverse := fun x hx => m2 x (List.mem_reverse.1 hx)
 have hsr : sumW M.reverse = sumW M := zeG M.reverse_perm
 obtain ⟨-, q2, q3, -, -⟩ := all_is h15 M.reverse (32768 - sumW M) hrev
 have hc := complete_all h15 (L := M.reverse) hrev (by rw [List.length_reverse]; omega) (by rw [hsr]; exact m4)
 rw [hsr] at hc
 refine ⟨_, by unfold cutV; rw [m1]; rfl, by rw [List.length_reverse, q3, List.length_reverse, m3], fun x hx => q2 x (List.mem_reverse.1 hx), ?_⟩
 rw [zeG (List.reverse_perm _)]; exact hc
theorem zeo {counts : List Int} {most : Nat} {R D : List Nat} (hn : R.Nodup) (hR : ∀ k, k ∈ R ↔ k < counts.length ∧ 0 < counts.getD k 0)
   (hS : ∀ i j, (hi : i < R.length) → (hj : j < R.length) → i < j → counts.getD R[i] 0 ≤ counts.getD R[j] 0)
   (hD : D.length = R.length) (hP : ∀ d ∈ D, 1 ≤ d ∧ d ≤ most) (hT : ∀ i j, i ≤ j → j < D.length → D.getD j 0 ≤ D.getD i 0)
   (hs : sumW D ≤ 32768) (hf : 2 ≤ R.length → sumW D = 32768) (ho : R.length = 1 → ∀ d ∈ D, d ≤ 1) : zb8 counts most R.length (rowR counts.length R D) :=
 good_give hn hR hS hD hP hT (zcm ..) (fun i hi => by
   have := zfG (n := counts.length) hn hD (fun r h => ((hR r).1 h).1) hi
   rwa [List.getD_eq_getElem?_getD (l := R), List.getElem?_eq_getElem hi, Option.getD_some] at this) (fun k hk => zfY hk) hs hf ho
end Go.Proofs.YtkikhmdpcanidaaGreat
namespace Go.Proofs.YtkikhmdpcanidaaGreat
open Go.RowKit
def IsHT (w : World) (S : Nat → Prop) : HT → Nat → Nat → Prop
 | .leaf s, p, c => S p ∧ w.heap[p]? = some (.cells #[.int .i64 c, .int .i64 s, .pointer none, .pointer none] 180 (0, 0))
 | .node a b, p, c => S p ∧ ∃ pa pb ca cb, w.heap[p]? = some (.cells #[.int .i64 c, .int .i64 0, .pointer (some ⟨pa, 0, none⟩), .pointer (some ⟨pb, 0, none⟩)] 180 (0, 0)) ∧ IsHT w S a pa ca ∧ IsHT w S b pb cb
theorem IsHT.keep {w w' : World} {S T : Nat → Prop} (hk : zaa T w w') (hT : ∀ b, S b → ¬ T b) : ∀ {t : HT} {p c : Nat}, IsHT w S t p c → IsHT w' S t p c
 | .leaf _, p, _, h => ⟨h.1, hk.obj h.2 (hT p h.1)⟩
 | .node _ _, p, _, ⟨h, pa, pb, ca, cb, h1, h2, h3⟩ => ⟨h, pa, pb, ca, cb, hk.obj h1 (hT p h), IsHT.keep hk hT h2, IsHT.keep hk hT h3⟩
theorem IsHT.weaken {w : World} {S S' : Nat → Prop} (hS : ∀ b, S b → S' b) : ∀ {t : HT} {p c : Nat}, IsHT w S t p c → IsHT w S' t p c
 | .leaf _, p, _, h => ⟨hS p h.1, h.2⟩
 | .node _ _, p, _, ⟨h, pa, pb, ca, cb, h1, h2, h3⟩ => ⟨hS p h, pa, pb, ca, cb, h1, IsHT.weaken hS h2, IsHT.weaken hS h3⟩
theorem IsHT.top {w : World} {S : Nat → Prop} : ∀ {t : HT} {p c : Nat}, IsHT w S t p c → S p ∧ p < w.heap.size ∧ w.cell? ⟨p, 0, none⟩ = some (.int .i64 c)
 | .leaf _, p, _, h => ⟨h.1, (Array.getElem?_eq_some_iff.1 h.2).1, by rw [cell_of_row w p 0 _ _ _ h.2]; rfl⟩
 | .node _ _, p, _, ⟨h, _, _, _, _, h1, _, _⟩ => ⟨h, (Array.getElem?_eq_some_iff.1 h1).1, by rw [cell_of_row w p 0 _ _ _ h1]; rfl⟩
def natV (L : List Nat) : List Value := L.map fun n : Nat => Value.int .i64 n
def OutR (w : World) (bo : Nat) (L : List Nat) : Prop := w.heap[bo]? = some (.cells (natV L).toArray 3 (0, 0))
theorem zbG (L : List Nat) : (natV L).length = L.length := by simp [natV]
theorem zc0 {L : List Nat} {k : Nat} (h : k < L.length) : (natV L)[k]? = some (.int .i64 (L.getD k 0 : Nat)) := by
 unfold natV
 rw [List.getElem?_map, List.getElem?_eq_getElem h, List.getD_eq_getElem?_getD, List.getElem?_eq_getElem h]; rfl
theorem OutR.cell {w : World} {bo : Nat} {L : List Nat} (h : OutR w bo L) {k : Nat} (hk : k < L.length) : w.cell? ⟨bo, k, none⟩ = some (.int .i64 (L.getD k 0 : Nat)) := by
 rw [cell_of_row w bo k _ _ _ h, List.getElem?_toArray, zc0 hk]
theorem OutR.free {w : World} {bo : Nat} {L : List Nat} (h : OutR w bo L) (k : Nat) : w.frozen? ⟨bo, k, none⟩ = false := frozen_of_row w bo k _ _ h
theorem OutR.lt {w : World} {bo : Nat} {L : List Nat} (h : OutR w bo L) : bo < w.heap.size := (Array.getElem?_eq_some_iff.1 h).1
theorem OutR.set {w : World} {bo : Nat} {L : List Nat} (h : OutR w bo L) (k v : Nat) : OutR (w.setCell ⟨bo, k, none⟩ (.int .i64 v)) bo (L.set k v) := by
 unfold OutR
 rw [heap_setCell_same w bo k _ _ _ h, List.setIfInBounds_toArray]
 unfold natV
 rw [List.map_set]
theorem OutR.keep {w w' : World} {bo : Nat} {L : List Nat} {T : Nat → Prop} (h : OutR w bo L) (hk : zaa T w w') (hT : ¬ T bo) : OutR w' bo L := hk.obj h hT
theorem OutR.drewN {w : World} {bo : Nat} {L : List Nat} (h : OutR w bo L) (q : Nat) : OutR (w.drewN q) bo L := h
theorem OutR.row {w : World} {bo : Nat} {L : List Nat} (h : OutR w bo L) (hl : L.length ≤ maxLen) : Row w 1 (some ⟨bo, 0, none⟩) L.length L.length (natV L) :=
 ⟨by rw [zbG, Nat.mul_one], Nat.le_refl _, hl, fun e => (by cases e), fun _ => ⟨bo, 0, rfl, h.lt, fun j u hj => by
   rw [Nat.zero_add, cell_of_row w bo j _ _ _ h, List.getElem?_toArray]; exact hj⟩⟩
end Go.Proofs.YtkikhmdpcanidaaGreat
namespace Go.Proofs.YtkikhmdpcanidaaGreat
open Go.RowKit Go.Sort
theorem zdD (l : List Nat) (least k : Nat) : zcT l least (k + 1) = if least < k + 1 ∧ l.getD k 0 = 0 then zcT l least k else k + 1 := rfl
theorem trimV_k (l : List Nat) (least : Nat) (h : least ≤ l.length) : (zaV l least).length = zcT l least l.length := by
 unfold zaV
 rw [List.length_take]
 have := (zda l least l.length h).2.1
 omega
theorem natV_take (l : List Nat) (k : Nat) : natV (l.take k) = (natV l).take k := by unfold natV; rw [List.map_take]
theorem Row.takeZ {w : World} {a : Option Addr} {n cap : Nat} {xs : List Value} (h : Row w 1 a n cap xs) (q : Nat) (hq : q ≤ n) : Row w 1 a q cap (xs.take q) := by
 obtain ⟨h1, h2, h3, h4, h5⟩ := h
 refine ⟨by rw [List.length_take]; omega, by omega, h3, h4, fun hn => ?_⟩
 obtain ⟨b, off, rfl, hb, hc⟩ := h5 (by omega)
 refine ⟨b, off, rfl, hb, fun j u hj => hc j u ?_⟩
 rw [List.getElem?_take] at hj
 split at hj
 · exact hj
 · cases hj
theorem zdf {w : World} {a : Option Addr} {n cap least : Nat} {l : List Nat} (hr : Row w 1 a n cap (natV l)) (h : least ≤ n) : Row w 1 a (zaV l least).length cap (natV (zaV l least)) := by
 have hl : l.length = n := hr.len1
 rw [trimV_k l least (by omega)]
 unfold zaV
 rw [natV_take]
 exact hr.takeZ _ (by rw [hl]; exact (zda l least n h).2.1)
theorem zgf {w : World} {a : Option Addr} {n cap least : Nat} {l : List Nat} (hr : Row w 1 a n cap (natV l)) (h : least ≤ n) :
   Calls Tryz.prog 88 #[.slice a n cap, .int .i64 least] w fun e w' => e = .returned (.slice a (zaV l least).length cap) ∧ w = w' := by
 have hl : l.length = n := hr.len1
 have HR := Lib.hid hr
 have hcapn := hr.2.1
 have hcapm := hr.2.2.1
 unfold maxLen at hcapm
 have HK := Lib.hid (trimV_k l least (by omega))
 have HL := Lib.hid hl
 clear hr hl
 go_enter Tryz.func88, Tryz.ntmps88
 go_wp2
 go_loop [0] (fun v => ∃ m : Nat, v = .slice a m cap ∧ least ≤ m ∧ m ≤ n ∧ Hid (zcT l least m = zcT l least n)) (fun v => match v with | .slice _ m _ => m | _ => 0)
 case atStart => exact ⟨n, rfl, h, Nat.le_refl _, Lib.hid rfl⟩
 case round =>
   obtain ⟨m, rfl, hm1, hm2, HT⟩ := hrel
   by_cases hml : least < m
   · have hd : decide ((m : Int) > (least : Int)) = true := decide_eq_true (by omega)
     obtain ⟨k, hk⟩ : ∃ k, m = k + 1 := ⟨m - 1, by omega⟩
     have hki : (m : Int) - 1 = (k : Int) := by omega
     obtain ⟨b, off, rfl, hb, hc⟩ := HR.out.at 0 0 (by omega)
     have z0 := hc k (by omega)
     have hkm : (k : Int) < (m : Int) := by omega
     have hkc : (k : Int) ≤ (cap : Int) := by omega
     have HKK := Lib.hid hk
     have HU := Lib.hid (show zcT l least m = if l.getD k 0 = 0 then zcT l least k else m from by
       rw [hk]
       by_cases h0 : l.getD k 0 = 0
       · rw [if_pos h0, zdD, if_pos ⟨by omega, h0⟩]
       · rw [if_neg h0, zdD, if_neg (fun q => h0 q.2)])
     clear hc hk
     generalize l.getD k 0 = x at z0 HU
     by_cases hx : x = 0
     · subst hx
       go_wp2
       go_round
       case rel => exact ⟨k, rfl, by have := HKK.out; omega, by omega, Lib.hid (by rw [← HT.out, HU.out, if_pos rfl])⟩
       case measure => simp; have := HKK.out; omega
     · have hxd : ((x : Int) == 0) = false := by simp; omega
       have hxd2 : decide ((x : Int) = 0) = false := decide_eq_false (by omega)
       have HF := Lib.hid (show m = zcT l least n from by rw [← HT.out, HU.out, if_neg hx])
       go_wp2
       go_ret
       exact ⟨by rw [HK.out, HL.out, ← HF.out]; rfl, rfl⟩
   · have hme : m = least := by omega
     subst hme
     have HF := Lib.hid (show m = zcT l m n from by
       rw [← HT.out]
       cases m with
       | zero => rfl
       | succ k => rw [zdD, if_neg (fun q => by omega)])
     have hd : decide ((m : Int) > (m : Int)) = false := decide_eq_false (by omega)
     clear HT
     go_wp2
     go_ret
     exact ⟨by rw [HK.out, HL.out, ← HF.out]; rfl, rfl⟩
theorem extra_any (s : Nat) (w : World) : Calls Tryz.prog 94 #[.int .i64 s] w fun e w' => e = .returned (.int .i64 (exB s : Nat)) ∧ w = w' := by
 by_cases h1 : s = 16
 · subst h1
   go_enter Tryz.func94, Tryz.ntmps94
   go_wp2
   go_ret
   exact ⟨rfl, rfl⟩
 by_cases h2 : s = 17
 · subst h2
   go_enter Tryz.func94, Tryz.ntmps94
   go_wp2
   go_ret
   exact ⟨rfl, rfl⟩
 by_cases h3 : s = 18
 · subst h3
   go_enter Tryz.func94, Tryz.ntmps94
   go_wp2
   go_ret
   exact ⟨rfl, rfl⟩
 have HV := Lib.hid (show exB s = 0 from by unfold exB; rw [if_neg h1, if_neg h2, if_neg h3])
 have i1 : ((s : Int) == 16) = false := by simp; omega
 have i2 : ((s : Int) == 17) = false := by simp; omega
 have i3 : ((s : Int) == 18) = false := by simp; omega
 go_enter Tryz.func94, Tryz.ntmps94
 go_wp2
 go_ret
 exact ⟨by rw [HV.out]; rfl, rfl⟩
theorem mk286 (w : World) : (Instr.makeSlice 34 (.int .i64 286) (.int .i64 286)).run Tryz.prog w = .ok (.slice (some ⟨w.heap.size, 0, none⟩) 286 286) (w.alloc (.cells (fl 286 fun _ => .int .i64 0).toArray 3)) := by
 rw [← zdX]
 exact run_make_row' (P := Tryz.prog) 34 3 (.int .i64 0) 8 Tryz.underlying34 zfz rfl .i64 .i64 286 (by omega) (by omega) w
theorem zcC (n : Nat) : natV (List.replicate n 0) = fl n fun _ => .int .i64 0 := by
 unfold natV
 rw [List.map_replicate]
 unfold fl
 apply List.ext_getElem (by simp)
 intro i h1 h2
 simp
structure CntM (w wr : World) (g1 g2 : Nat) (p : List Nat × List Nat) : Prop where
 below : Below w.heap.size w wr
 r1 : OutR wr g1 p.1
 r2 : OutR wr g2 p.2
 l1 : w.heap.size ≤ g1
 l2 : w.heap.size ≤ g2
 ne : g1 ≠ g2
theorem CntM.alloc {w wr : World} {g1 g2 : Nat} {p : List Nat × List Nat} (h : CntM w wr g1 g2 p) (o : Obj) : CntM w (wr.alloc o) g1 g2 p :=
 ⟨h.below.alloc h.below.size o, zaL o h.r1, zaL o h.r2, h.l1, h.l2, h.ne⟩
theorem CntM.inc1 {w wr : World} {g1 g2 : Nat} {p : List Nat × List Nat} (h : CntM w wr g1 g2 p) (k : Nat) : CntM w (wr.setCell ⟨g1, k, none⟩ (.int .i64 (p.1.getD k 0 + 1 : Nat))) g1 g2 (incN p.1 k, p.2) :=
 ⟨h.below.setCell h.l1 _, h.r1.set k _, zaE h.r2 (a := ⟨g1, k, none⟩) h.ne _, h.l1, h.l2, h.ne⟩
theorem CntM.inc2 {w wr : World} {g1 g2 : Nat} {p : List Nat × List Nat} (h : CntM w wr g1 g2 p) (k : Nat) : CntM w (wr.setCell ⟨g2, k, none⟩ (.int .i64 (p.2.getD k 0 + 1 : Nat))) g1 g2 (p.1, incN p.2 k) :=
 ⟨h.below.setCell h.l2 _, zaE h.r1 (a := ⟨g2, k, none⟩) h.ne.symm _, h.r2.set k _, h.l1, h.l2, h.ne⟩
theorem CntM.first {w wr : World} {g1 g2 : Nat} (h : CntM w wr g1 g2 (List.replicate 286 0, List.replicate 30 0)) : CntM w (wr.setCell ⟨g1, 256, none⟩ (.int .i64 1)) g1 g2 (cntV []) :=
 ⟨h.below.setCell h.l1 _, h.r1.set 256 1, zaE h.r2 (a := ⟨g1, 256, none⟩) h.ne _, h.l1, h.l2, h.ne⟩
def CntEnd (w : World) (ts : List LT) (e : Ending) (w' : World) : Prop := ∃ g1 g2, e = .returned (.tuple #[.slice (some ⟨g1, 0, none⟩) 286 286, .slice (some ⟨g2, 0, none⟩) 30 30]) ∧ CntM w w' g1 g2 (cntV ts)
theorem count_any {w : World} {cap : Nat} {a : Option Addr} {ts : List LT} (hr : Row w 3 a ts.length cap (tokV ts)) (hts : ∀ t ∈ ts, t.may) (hlen : ts.length ≤ 100000) :
   Calls Tryz.prog 87 #[.slice a ts.length cap] w (CntEnd w ts) := by
 have hm1 := mk286
 have hm2 := mk30
 have HR := Lib.hid hr
 have HTS := Lib.hid hts
 have HALL := Lib.hid (cnt_all ts hts)
 have hcapm := hr.2.2.1
 have hcapn := hr.2.1
 unfold maxLen at hcapm
 obtain ⟨n, hn⟩ : ∃ n, n = ts.length := ⟨_, rfl⟩
 rw [← hn] at HR hlen hcapn HALL ⊢
 have HLN := Lib.hid hn
 clear hr hts hn
 go_enter Tryz.func87, Tryz.ntmps87
 go_wp2_with fail
 go_cut [4, 5] from 11 (fun v4 v5 wc => ∃ g1 g2, v4 = .slice (some ⟨g1, 0, none⟩) 286 286 ∧ v5 = .slice (some ⟨g2, 0, none⟩) 30 30 ∧ Hid (CntM w wc g1 g2 (List.replicate 286 0, List.replicate 30 0)))
 case first =>
   go_region
   all_goals (try go_wp2_with fail)
   all_goals go_meet
   · exact ⟨_, _, rfl, rfl, Lib.hid ⟨(zeF w _ _).drew, (zaL _ (zah _ rfl)).trans (by rw [zcC]), (zah _ (by rw [zad])).trans (by rw [zcC]), Nat.le_refl _, Nat.le_succ _, by omega⟩⟩
   · exact ⟨_, _, rfl, rfl, Lib.hid ⟨(zeF w _ _).drew, (zah _ (by rw [zad])).trans (by rw [zcC]), (zaL _ (zah _ rfl)).trans (by rw [zcC]), Nat.le_succ _, Nat.le_refl _, by omega⟩⟩
 case rest =>
   obtain ⟨g1, g2, rfl, rfl, HX⟩ := hcut
   have z256 := HX.out.r1.cell (k := 256) (by rw [List.length_replicate]; omega)
   have f256 := HX.out.r1.free 256
   rw [rep_at] at z256
   have HX1 := Lib.hid HX.out.first
   clear hm1 hm2 HX
   go_wp2
   go_loopw [17] (fun v wr => ∃ i : Nat, v = .int .i64 i ∧ i ≤ n ∧ Hid (CntM w wr g1 g2 (cntV (ts.take i)))) (fun v _ => n - (intOf v).toNat)
   case atStart => exact ⟨0, rfl, Nat.zero_le _, HX1⟩
   case round =>
     obtain ⟨i, rfl, hi, HM⟩ := hrel
     by_cases hlt2 : i < n
     case neg =>
       have hie : i = n := by omega
       subst hie
       have hcd : decide ((i : Int) < (i : Int)) = false := decide_eq_false (by omega)
       have HE := Lib.hid (show CntM w wr g1 g2 (cntV ts) from by
         have h := HM.out
         rwa [List.take_of_length_le (by rw [← HLN.out]; exact Nat.le_refl _)] at h)
       clear HM
       go_wp2
       go_ret2
       exact ⟨g1, g2, rfl, HE.out⟩
     have hcd : decide ((i : Int) < (n : Int)) = true := decide_eq_true (by omega)
     have hin : (i : Int) < (n : Int) := by omega
     obtain ⟨t, ht⟩ : ∃ t, ts[i]? = some t := ⟨_, List.getElem?_eq_getElem (by rw [← HLN.out]; exact hlt2)⟩
     have hmay := HTS.out t (List.mem_of_getElem? ht)
     have hrow : Row wr 3 a n cap (tokV ts) := HR.out.mono HM.out.below
     obtain ⟨bb, off, rfl, hbb, hcc⟩ := hrow.2.2.2.2 (by omega)
     obtain ⟨t0, t1, t2⟩ := tokV_at ts i t ht
     have z0 := hcc _ _ t0
     have z1 := hcc _ _ t1
     have z2 := hcc _ _ t2
     rw [← Nat.add_assoc] at z1 z2
     have HSN := Lib.hid (show cntV (ts.take (i + 1)) = cntS (cntV (ts.take i)) t from by
       rw [List.take_add_one, ht]; exact cntV_snoc _ _)
     have hci := (HALL.out i (by omega)).1
     have hla := hci.la
     have hlb := hci.lb
     have hma := hci.ma
     have hmb := hci.mb
     generalize cntV (ts.take i) = p at HM HSN hci hla hlb hma hmb
     have HM2 := Lib.hid (HM.out.alloc (.cells #[.int .u8 t.b.toNat, .int .i64 t.len, .int .i64 t.far] 123))
     obtain ⟨hx0, hx1⟩ := may_idx hmay
     have hszr : g1 < wr.heap.size ∧ g2 < wr.heap.size := ⟨HM.out.r1.lt, HM.out.r2.lt⟩
     have hgn1 : ¬ g1 = wr.heap.size := by omega
     have hgn2 : ¬ g2 = wr.heap.size := by omega
     clear hcc hrow t0 t1 t2 hmay hci
     unfold cntS at HSN
     by_cases h0 : t.len = 0
     · rw [if_pos h0] at HSN
       have hbt := hx0 h0
       have he : decide ((t.len : Int) = 0) = true := decide_eq_true (by omega)
       have heb : ((t.len : Int) == 0) = true := he
       have c0 := HM2.out.r1.cell (k := t.b.toNat) (by rw [hla]; exact hbt)
       have f0 := HM2.out.r1.free t.b.toNat
       have hx := hma t.b.toNat
       have HN := Lib.hid ((HM.out.inc1 t.b.toNat).alloc (.cells #[.int .u8 t.b.toNat, .int .i64 t.len, .int .i64 t.far] 123))
       rw [← HSN.out] at HN
       clear hx0 hx1 hma hmb hla hlb h0 HM2 HSN HM
       generalize p.1.getD t.b.toNat 0 = x at *
       obtain ⟨y, hy⟩ : ∃ y, y = x + 1 := ⟨_, rfl⟩
       rw [← hy] at HN
       have hyi : (x : Int) + 1 = (y : Int) := by omega
       clear hy
       generalize t.len = ln at *
       generalize t.far = fa at *
       generalize t.b.toNat = bt at *
       have hbi : (bt : Int) < 286 := by omega
       go_wp2
       go_roundw
       case rel => exact ⟨i + 1, by go_num, by omega, HN⟩
       case measure => simp [intOf]; omega
     · rw [if_neg h0] at HSN
       obtain ⟨m3, m8, q1, q2, hs1, hs2⟩ := hx1 h0
       have he : decide ((t.len : Int) = 0) = false := decide_eq_false (by omega)
       have heb : ((t.len : Int) == 0) = false := he
       have HSY := Lib.hid (fun W : World => by have h := dsym_any (t.len : Int) W (by omega); rw [symV7_is m3 m8] at h; exact h)
       have HFY := Lib.hid (fun W : World => by have h := dfar_any (t.far : Int) W (by omega); rw [farV7_is q1 q2] at h; exact h)
       have c0 := HM2.out.r1.cell (k := symN t.len) (by rw [hla]; exact hs1)
       have f0 := HM2.out.r1.free (symN t.len)
       have hx := hma (symN t.len)
       have HN1 := (HM.out.inc1 (symN t.len)).alloc (.cells #[.int .u8 t.b.toNat, .int .i64 t.len, .int .i64 t.far] 123)
       have c1 := HN1.r2.cell (k := farN t.far) (by dsimp only; rw [hlb]; exact hs2)
       have f1 := HN1.r2.free (farN t.far)
       have hx2 := hmb (farN t.far)
       have HN := Lib.hid (((HM.out.inc1 (symN t.len)).inc2 (farN t.far)).alloc (.cells #[.int .u8 t.b.toNat, .int .i64 t.len, .int .i64 t.far] 123))
       dsimp only at HN c1
       rw [← HSN.out] at HN
       clear hx0 hx1 hma hmb hla hlb h0 HM2 HSN HN1 HM
       generalize p.1.getD (symN t.len) 0 = x at *
       generalize p.2.getD (farN t.far) 0 = x2 at *
       obtain ⟨y, hy⟩ : ∃ y, y = x + 1 := ⟨_, rfl⟩
       obtain ⟨y2, hy2⟩ : ∃ y, y = x2 + 1 := ⟨_, rfl⟩
       rw [← hy, ← hy2] at HN
       rw [← hy] at c1 f1
       have hyi : (x : Int) + 1 = (y : Int) := by omega
       have hyi2 : (x2 : Int) + 1 = (y2 : Int) := by omega
       clear hy hy2 m3 m8 q1 q2
       unfold Tri at HSY HFY
       dsimp only at HSY HFY
       generalize symN t.len = sN at *
       generalize symR t.len = sR at *
       generalize symB t.len = sB at *
       generalize farN t.far = fN at *
       generalize farR t.far = fR at *
       generalize farB t.far = fB at *
       generalize t.len = ln at *
       generalize t.far = fa at *
       generalize t.b.toNat = bt at *
       have hbi : (sN : Int) < 286 := by omega
       have hbi2 : (fN : Int) < 30 := by omega
       go_wp2_with fail
       refine (HSY.out _).mono ?_
       rintro e W ⟨rfl, rfl⟩
       go_wp2_with fail
       refine (HFY.out _).mono ?_
       rintro e W ⟨rfl, rfl⟩
       go_wp2_with fail
       go_roundw
       case rel => exact ⟨i + 1, by go_num, by omega, HN⟩
       case measure => simp [intOf]; omega
end Go.Proofs.YtkikhmdpcanidaaGreat
namespace Go.Proofs.YtkikhmdpcanidaaGreat
open Go.RowKit
set_option maxRecDepth 20000 in
theorem depths_any {S : Nat → Prop} {bo : Nat} (hbo : ¬ S bo) : ∀ (t : HT) (p c d : Nat) (L : List Nat) (w : World), IsHT w S t p c → OutR w bo L → (∀ s ∈ t.leaves, s < L.length) → d + t.leaves.length ≤ 1000000 → L.length ≤ 1000000 →
   Calls Tryz.prog 132 #[.pointer (some ⟨p, 0, none⟩), .int .i64 d, .slice (some ⟨bo, 0, none⟩) L.length L.length] w fun e w' => e = .returned (.tuple #[]) ∧ OutR w' bo (t.lay d L) ∧ zaa (fun b => b = bo) w w' := by
 intro t
 induction t with
 | leaf s =>
   intro p c d L w h hO hs hd hL
   have c1 : w.cell? ⟨p, 1, none⟩ = some (.int .i64 s) := by rw [cell_of_row w p 1 _ _ _ h.2]; rfl
   have c2 : w.cell? ⟨p, 2, none⟩ = some (.pointer none) := by rw [cell_of_row w p 2 _ _ _ h.2]; rfl
   have hsl : s < L.length := hs s (by simp [HT.leaves])
   have o1 := hO.cell hsl
   have o2 := hO.free s
   have HO := Lib.hid hO
   have hm : max (1 : Int) (d : Int) = ((max 1 d : Nat) : Int) := by omega
   have hsi : (s : Int) < (L.length : Int) := by omega
   clear h hO hs
   go_enter Tryz.func132, Tryz.ntmps132
   go_wp2
   all_goals refine bodyPost_ret (results_none rfl _ _ _) rfl ?_
   · have e : (d : Int) = ((max 1 d : Nat) : Int) := by omega
     rw [e]
     exact ⟨rfl, HO.out.set s (max 1 d), (zaa.refl (fun b => b = bo) w).setCell (a := ⟨bo, s, none⟩) (.inl rfl) _⟩
   · have e : (1 : Int) = ((max 1 d : Nat) : Int) := by omega
     rw [e]
     exact ⟨rfl, HO.out.set s (max 1 d), (zaa.refl (fun b => b = bo) w).setCell (a := ⟨bo, s, none⟩) (.inl rfl) _⟩
 | node a b iha ihb =>
   intro p c d L w h hO hs hd hL
   obtain ⟨hp, pa, pb, ca, cb, h1, ha, hb⟩ := h
   have c2 : w.cell? ⟨p, 2, none⟩ = some (.pointer (some ⟨pa, 0, none⟩)) := by rw [cell_of_row w p 2 _ _ _ h1]; rfl
   have c3 : w.cell? ⟨p, 3, none⟩ = some (.pointer (some ⟨pb, 0, none⟩)) := by rw [cell_of_row w p 3 _ _ _ h1]; rfl
   have hpa := HT.leaves_pos a
   have hpb := HT.leaves_pos b
   simp only [HT.leaves, List.length_append] at hd
   have HA := Lib.hid (iha pa ca (d + 1) L w ha hO (fun s h => hs s (by simp [HT.leaves, h])) (by omega) hL)
   have hl2 := HT.lay_len a (d + 1) L
   have HB := Lib.hid (fun (W : World) (hk : zaa (fun b => b = bo) w W) (hO : OutR W bo (a.lay (d + 1) L)) => ihb pb cb (d + 1) (a.lay (d + 1) L) W (hb.keep hk (fun x hx e => hbo (e ▸ hx))) hO (fun s h => by rw [hl2]; exact hs s (by simp [HT.leaves, h])) (by omega) (by rw [hl2]; exact hL))
   rw [hl2] at HB
   have hpbo : ¬ p = bo := fun e => hbo (e ▸ hp)
   obtain ⟨d1, hd1⟩ : ∃ d1, d1 = d + 1 := ⟨_, rfl⟩
   rw [← hd1] at HA HB
   have i1 : IntKind.i64.wrap ((d : Int) + 1) = (d1 : Int) := by rw [IntWalk.i64_in _ (by omega)]; omega
   have HD1 := Lib.hid hd1
   have HP := Lib.hid h1
   clear h1 ha hb hO hs hl2 hd1 iha ihb
   go_enter Tryz.func132, Tryz.ntmps132
   go_wp2_with fail
   refine HA.out.mono ?_
   rintro e w2 ⟨rfl, hO2, hk2⟩
   have c3b := hk2.cell c3 hpbo
   have HB2 := Lib.hid (HB.out w2 hk2 hO2)
   clear HA HB c2 c3
   go_wp2_with fail
   refine HB2.out.mono ?_
   rintro e w3 ⟨rfl, hO3, hk3⟩
   go_wp2_with fail
   go_end0
   rw [HD1.out] at hO3
   exact ⟨rfl, hO3, hk2.trans hk3 (fun _ h => .inl h)⟩
def OwnO (w : World) (base : Nat) (e : TypeId) (v : Value) (xs : List Value) : Prop :=
 ∃ g o cap cur, v = .slice (some ⟨g, o, none⟩) xs.length cap ∧ base ≤ g ∧ w.heap[g]? = some (.cells cur e (0, 0)) ∧ xs.length ≤ cap ∧ o + cap ≤ maxLen ∧ o + cap ≤ cur.size ∧ (cur.toList.drop o).take xs.length = xs
theorem OwnO.of {w : World} {base e : Nat} {v : Value} {n : Nat} {xs : List Value} (h : w.ownsRow base e 1 v n xs) (hn : 0 < n) : OwnO w base e v xs := by
 obtain ⟨h1, h2⟩ := h
 rw [Nat.mul_one] at h1
 rcases h2 with ⟨-, h0⟩ | ⟨g, cap, cur, hv, hb, hg, hc, hm, hs, ht⟩
 · omega
 · rw [Nat.mul_one] at hs ht
   subst h1
   exact ⟨g, 0, cap, cur, hv, hb, hg, hc, by omega, by omega, by rw [List.drop_zero]; exact ht⟩
theorem OwnO.keep {w w' : World} {base e : Nat} {v : Value} {xs : List Value} {S : Nat → Prop} (h : OwnO w base e v xs) (hk : zaa S w w') (hS : ∀ b, v.ownBlock = some b → ¬ S b) : OwnO w' base e v xs := by
 obtain ⟨g, o, cap, cur, rfl, hb, hg, r⟩ := h
 exact ⟨g, o, cap, cur, rfl, hb, hk.obj hg (hS g rfl), r⟩
theorem OwnO.lt {w : World} {base e : Nat} {v : Value} {xs : List Value} (h : OwnO w base e v xs) : ∀ b, v.ownBlock = some b → base ≤ b ∧ b < w.heap.size := by
 obtain ⟨g, o, cap, cur, rfl, hb, hg, -⟩ := h
 intro b h
 simp [Value.ownBlock] at h
 subst h
 exact ⟨hb, (Array.getElem?_eq_some_iff.1 hg).1⟩
theorem OwnO.row {w : World} {base e : Nat} {v : Value} {xs : List Value} (h : OwnO w base e v xs) : ∃ g o cap, v = .slice (some ⟨g, o, none⟩) xs.length cap ∧ Row w 1 (some ⟨g, o, none⟩) xs.length cap xs ∧ base ≤ g ∧ g < w.heap.size := by
 obtain ⟨g, o, cap, cur, rfl, hb, hg, hc, hm, hs, ht⟩ := h
 refine ⟨g, o, cap, rfl, ⟨by rw [Nat.mul_one], hc, by omega, fun e => (by cases e), fun _ => ⟨g, o, rfl, (Array.getElem?_eq_some_iff.1 hg).1, fun j u hj => ?_⟩⟩, hb, (Array.getElem?_eq_some_iff.1 hg).1⟩
 rw [cell_of_row w g _ _ e (0, 0) hg]
 rw [← ht, List.getElem?_take] at hj
 split at hj
 · rw [List.getElem?_drop] at hj
   rw [← Array.getElem?_toList]; exact hj
 · cases hj
theorem zeQ {P : Program} (w : World) (t ty e : TypeId) (i : TypeInfo) (ht : P.underlying t = some (.slice e)) (hi : P.info? e = some i) (h1i : i.size = 1)
   (g o sLen sCap : Nat) (cur : Array Value) (hg : w.heap[g]? = some (.cells cur e (0, 0)))
   (a : Addr) (c : Nat) (u : Value) (hu : w.cell? a = some u) (h1 : u.oneCell' = true) (hroom : sLen + 1 ≤ sCap) (hfit : o + sLen + 1 ≤ cur.size) :
   (Builtin.append_ #[t, t] ty #[.slice (some ⟨g, o, none⟩) sLen sCap, .slice (some a) 1 c]).run P w =
     .ok (.slice (some ⟨g, o, none⟩) (sLen + 1) sCap) (w.setRow g (cur.toList.take (o + sLen) ++ [u] ++ cur.toList.drop (o + sLen + 1)).toArray) := by
 have hadd : a.add 0 = a := by cases a; unfold Addr.add; split <;> simp_all
 have hf := run_firstCells_some (P := P) w i.size 1 a 1 c [u] (by rw [h1i]; rfl) (fun j v hj => by
   obtain ⟨rfl, rfl⟩ : j = 0 ∧ v = u := by
     cases j with
     | zero => simp at hj; exact ⟨rfl, hj.symm⟩
     | succ j => simp at hj
   rw [hadd]; exact hu)
 have hst := run_storeCells_at P g (o + sLen) e [u] 0 cur w hg (by simpa using hfit) (fun v hv => by rw [List.mem_singleton.1 hv]; exact h1)
 simp only [Nat.add_zero, List.length_singleton] at hst
 rw [h1i] at hf
 simp only [List.append_assoc, List.singleton_append] at hst ⊢
 simp [Builtin.append_, run_underlying ht, sizeOf, typeInfo, hi, Builtin.lenOf, hroom, hf, Addr.add_lit, hst, h1i]
theorem zf2 {P : Program} {w : World} {o : Oper} {a : Act} {K : Act → World → Prop} {Q : Exit → Act → World → Prop} {t e : TypeId} {z : Value} {bytes : Nat} (T : zcZ P t e z 1 bytes)
   (s x : Operand) (ho : o.op = .call { callee := .builtin .append, args := #[s, x], argTypes := #[t, t] })
   (base : Nat) (v : Value) (xs : List Value) (hs : a.eval s = v) (hown : OwnO w base e v xs)
   (ad : Addr) (c : Nat) (u : Value) (hx : a.eval x = .slice (some ad) 1 c) (hu : w.cell? ad = some u) (h1 : u.oneCell' = true)
   (h63 : xs.length + 1 ≤ maxLen) (hbytes : (xs.length + 1) * bytes ≤ 140737488355328) (hbase : base ≤ w.heap.size)
   (h : ∀ g off cap w', OwnO w' base e (.slice (some ⟨g, off, none⟩) (xs.length + 1) cap) (xs ++ [u]) → w.grownBy w' v.ownBlock → v.ownBlock = some g ∨ w.heap.size ≤ g → (∀ b k y, w.cell? ⟨b, k, none⟩ = some y → (∀ g o n c, v = .slice (some ⟨g, o, none⟩) n c → b ≠ g ∨ k < o + n ∨ c ≤ n) → w'.cell? ⟨b, k, none⟩ = some y) → K (a.put o.dst (.slice (some ⟨g, off, none⟩) (xs.length + 1) cap)) w') : o.wp P a w K Q := by
 obtain ⟨i, hi, hz, hs', hb⟩ := info_parts T.info
 subst hb
 have hrow := hown.row
 obtain ⟨g, off, cap, cur, rfl, hbg, hg, hnc, hcm, hcs, htk⟩ := hown
 have hadd : ad.add 0 = ad := by cases ad; unfold Addr.add; split <;> simp_all
 by_cases hroom : xs.length + 1 ≤ cap
 · have hrun := zeQ (P := P) w t o.type e i T.und hi hs' g off xs.length cap cur hg ad c u hu h1 hroom (by omega)
   unfold Oper.wp
   simp [execOp, ho, resolve, invoke, builtin, hs, hx, hrun, Result.andThen]
   refine h g off cap _ ⟨g, off, cap, (cur.toList.take (off + xs.length) ++ u :: cur.toList.drop (off + xs.length + 1)).toArray, by simp, hbg, ?_, by simpa using hroom, hcm, ?_, ?_⟩ ?_ (.inl rfl) (fun b k y hy hc => ?_)
   · exact setRow_heap w g _ _ e (0, 0) hg
   · simp; omega
   · rw [List.toList_toArray, List.drop_append_of_le_length (by simp; omega), List.length_append, List.length_singleton]
     rw [List.drop_take, show off + xs.length - off = xs.length from by omega, htk]
     rw [show xs ++ u :: cur.toList.drop (off + xs.length + 1) = (xs ++ [u]) ++ cur.toList.drop (off + xs.length + 1) from by simp, List.take_left' (by simp)]
   · exact ⟨rfl, rfl, rfl, by simp [World.setRow], fun k hk hne => setRow_other w g k _ (fun e => hne (by rw [e]; rfl))⟩
   · by_cases hbg : b = g
     · subst hbg
       have hk : k < off + xs.length := by
         rcases hc b off xs.length cap rfl with h1 | h1 | h1
         · exact (h1 rfl).elim
         · exact h1
         · omega
       rw [cell_of_row w b k _ e (0, 0) hg] at hy
       rw [cell_of_row _ b k _ e (0, 0) (setRow_heap w b _ _ e (0, 0) hg)]
       have hkc : k < cur.size := by omega
       rw [List.getElem?_toArray, List.getElem?_append_left (by simp; omega), List.getElem?_take_of_lt hk, Array.getElem?_toList]
       exact hy
     · rw [World.cell?_of_block (w := w) (a := ⟨b, k, none⟩) (setRow_other w g b _ hbg)]
       exact hy
 · have hgrow := run_append_grow (P := P) w t o.type e i z T.und hi hz ⟨g, off, none⟩ xs.length cap xs (by rw [hs', Nat.mul_one]) (fun j v hj => by
     obtain ⟨g2, o2, cap2, e2, hr, -, -⟩ := hrow
     simp only [Value.slice.injEq, Option.some.injEq, Addr.mk.injEq] at e2
     obtain ⟨⟨rfl, rfl, -⟩, -, rfl⟩ := e2
     have hlt : 0 < xs.length := by have := (List.getElem?_eq_some_iff.1 hj).1; omega
     obtain ⟨b, off2, hab, -, hcc⟩ := hr.2.2.2.2 hlt
     simp only [Option.some.injEq, Addr.mk.injEq, and_true] at hab
     obtain ⟨rfl, rfl⟩ := hab
     rw [Addr.add_lit]; exact hcc j v hj) ad 1 c [u] (by rw [hs']; rfl) (fun j v hj => by
     obtain ⟨rfl, rfl⟩ : j = 0 ∧ v = u := by
       cases j with
       | zero => simp at hj; exact ⟨rfl, hj.symm⟩
       | succ j => simp at hj
     rw [hadd]; exact hu) (by omega) (by simp only [maxLen] at h63; omega) (growslice_fits (by omega) hbytes)
   unfold Oper.wp
   simp [execOp, ho, resolve, invoke, builtin, hs, hx, hgrow, Result.andThen]
   have hge := grownCap_ge w (xs.length + 1) cap e
   have hle := grownCap_le_maxLen w (xs.length + 1) cap e h63
   refine h w.heap.size 0 (grownCap w (xs.length + 1) cap e) _ ⟨w.heap.size, 0, grownCap w (xs.length + 1) cap e, _, by simp, hbase, heap_alloc_new w.drew _, by simpa using hge, by omega, ?_, ?_⟩ ?_ (.inr (Nat.le_refl _)) (fun b k y hy _ => ?_)
   · simp [size_zeroCells, T.cells]; omega
   · rw [List.drop_zero]
     simp only [Array.toList_append, List.append_assoc]
     rw [← List.append_assoc, List.take_left' (by simp)]
   · exact ⟨rfl, rfl, rfl, by rw [zad]; exact Nat.le_succ _, fun k hk _ => Below.heap_alloc w.drew _ k (show k < w.drew.heap.size from hk)⟩
   · have hlt := World.block_lt_of_cell? w _ hy
     rw [World.cell?_of_block (w := w) (a := ⟨b, k, none⟩) (Below.heap_alloc w.drew _ b (show b < w.drew.heap.size from hlt))]
     exact hy
theorem zeg {P : Program} {w : World} {ops : Array Oper} {o : Oper} {a : Act} {K : Act → World → Prop} {Q : Exit → Act → World → Prop} {E : Prop} {t e : TypeId} {z : Value} {bytes : Nat} (T : zcZ P t e z 1 bytes)
   (hgd : o.guard = none) (s x : Operand) (ho : o.op = .call { callee := .builtin .append, args := #[s, x], argTypes := #[t, t] })
   (base : Nat) (v : Value) (xs : List Value) (hs : a.eval s = v) (hown : OwnO w base e v xs)
   (ad : Addr) (c : Nat) (u : Value) (hx : a.eval x = .slice (some ad) 1 c) (hu : w.cell? ad = some u) (h1 : u.oneCell' = true)
   (h63 : xs.length + 1 ≤ maxLen) (hbytes : (xs.length + 1) * bytes ≤ 140737488355328) (hbase : base ≤ w.heap.size)
   (h : ∀ g off cap w', OwnO w' base e (.slice (some ⟨g, off, none⟩) (xs.length + 1) cap) (xs ++ [u]) → w.grownBy w' v.ownBlock → v.ownBlock = some g ∨ w.heap.size ≤ g → (∀ b k y, w.cell? ⟨b, k, none⟩ = some y → (∀ g o n c, v = .slice (some ⟨g, o, none⟩) n c → b ≠ g ∨ k < o + n ∨ c ≤ n) → w'.cell? ⟨b, k, none⟩ = some y) → K (a.put o.dst (.slice (some ⟨g, off, none⟩) (xs.length + 1) cap)) w') :
   if Region.wanted o (yielded ops a.tmps) = true then Oper.wp P o a w K Q else E := by
 have hw : Region.wanted o (yielded ops a.tmps) = true := by simp [Region.wanted, hgd]
 rw [if_pos hw]
 exact zf2 T s x ho base v xs hs hown ad c u hx hu h1 h63 hbytes hbase h
theorem OwnO.drop2i {w : World} {base e g o n cap : Nat} {x y : Value} {xs : List Value} (h : OwnO w base e (.slice (some ⟨g, o, none⟩) n cap) (x :: y :: xs)) : OwnO w base e (.slice (if cap = 2 then some ⟨g, o, none⟩ else some ⟨g, o + 2, none⟩) (n - 2) (cap - 2)) xs := by
 obtain ⟨g', o', cap', cur, hv, hb, hg, hc, hm, hs, ht⟩ := h
 simp only [Value.slice.injEq, Option.some.injEq, Addr.mk.injEq, and_true] at hv
 obtain ⟨⟨rfl, rfl⟩, rfl, rfl⟩ := hv
 simp only [List.length_cons] at hc ht ⊢
 by_cases h2 : cap = 2
 · subst h2
   have : xs = [] := List.eq_nil_of_length_eq_zero (by omega)
   subst this
   rw [if_pos rfl]
   exact ⟨g, o, 0, cur, by simp, hb, hg, by simp, by omega, by omega, by simp⟩
 · rw [if_neg h2]
   refine ⟨g, o + 2, cap - 2, cur, by simp, hb, hg, by omega, by omega, by omega, ?_⟩
   have := congrArg (List.drop 2) ht
   rw [List.drop_take, List.drop_drop] at this
   simpa using this
end Go.Proofs.YtkikhmdpcanidaaGreat
namespace Go.Proofs.YtkikhmdpcanidaaGreat
open Go.RowKit Go.Sort
structure SBo {α : Type} (enc : α → Value) (w0 : World) (g : Nat) (t : TypeId) (rest pre : List Value) (o : Nat) (d : Array α) (w : World) : Prop where
 grown : w0.grownBy w (some g)
 blk : w.heap[g]? = some (.cells (pre ++ (d.toList.map enc ++ rest)).toArray t (0, 0))
 len : pre.length = o
section
variable {α : Type} {enc : α → Value} {w0 w : World} {g : Nat} {t : TypeId} {rest pre : List Value} {o : Nat} {d : Array α}
theorem SBo.cell [Inhabited α] (h : SBo enc w0 g t rest pre o d w) (i : Nat) (hi : i < d.size) : w.cell? ⟨g, o + i, none⟩ = some (enc d[i]!) := by
 rw [cell_of_row w g _ _ t (0, 0) h.blk]
 have hl := h.len
 rw [List.getElem?_toArray, List.getElem?_append_right (by omega), show o + i - pre.length = i by omega]
 simp [List.getElem?_append, hi]
theorem SBo.free (h : SBo enc w0 g t rest pre o d w) (i : Nat) : w.frozen? ⟨g, o + i, none⟩ = false := frozen_of_row w g _ _ t h.blk
theorem SBo.drewN (h : SBo enc w0 g t rest pre o d w) (n : Nat) : SBo enc w0 g t rest pre o d (w.drewN n) := ⟨⟨h.grown.os, h.grown.tape, h.grown.output, h.grown.size, h.grown.block⟩, h.blk, h.len⟩
theorem SBo.set (h : SBo enc w0 g t rest pre o d w) (i : Nat) (hi : i < d.size) (x : α) : SBo enc w0 g t rest pre o (d.setIfInBounds i x) (w.setCell ⟨g, o + i, none⟩ (enc x)) := by
 refine ⟨za1 h.grown _, ?_, h.len⟩
 have hl := h.len
 rw [heap_setCell_same w g _ _ t _ h.blk, List.setIfInBounds_toArray, List.set_append_right _ _ (by omega), show o + i - pre.length = i by omega, List.set_append]
 simp [hi, List.map_set]
theorem SBo.swp [Inhabited α] (h : SBo enc w0 g t rest pre o d w) (i j : Nat) (hi : i < d.size) (hj : j < d.size) (q : Nat) :
   SBo enc w0 g t rest pre o (swp d i j) (((w.drewN q).setCell ⟨g, o + i, none⟩ (enc d[j]!)).setCell ⟨g, o + j, none⟩ (enc d[i]!)) :=
 ((h.drewN q).set i hi _).set j (by simpa using hj) _
end
end Go.Proofs.YtkikhmdpcanidaaGreat
