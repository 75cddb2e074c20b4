/-
  Our texts Lz6 to NSym5, in one.
-/
import Derived.Test.YtngjbhejfojpbaaGreatPkK6
import Derived.Maps.OwnOps
import Derived.Test.YtngjbhejfojpbaaGreatProg
import Derived.Deep.AppendLies
import Derived.BigQuiet
import Derived.Deep.QuietTactic
set_option maxRecDepth 8000
set_option maxHeartbeats 8000000
namespace Go.Proofs.YtngjbhejfojpbaaGreat
open Go.RowKit Go.Maps Go.ChangeMaps
theorem heap_made {w : World} {base bo n : Nat} (h : w.ownsRow base 3 1 (.slice (some ⟨bo, 0, none⟩) n n) n (madeCells #[.int .i64 0] (n * 1)).toList) : w.heap[bo]? = some (.cells (fl n fun _ => .int .i64 0).toArray 3 (0, 0)) := by
 rcases h.2 with ⟨h1, -⟩ | ⟨g, cap, cur, hv, -, hg, -, -, hcs, htk⟩
 · cases h1
 · simp only [Value.slice.injEq, Option.some.injEq, Addr.mk.injEq] at hv
   obtain ⟨⟨rfl, -, -⟩, -, rfl⟩ := hv
   rw [hg, ← zcb]
   rw [Nat.mul_one] at hcs htk
   rw [List.take_of_length_le (by rw [Array.length_toList, hcs]; exact Nat.le_refl _)] at htk
   rw [toList_madeCells_one] at htk
   rw [← htk]
theorem ETokL : zcJ Tryz.prog 55 79 (.agg #[.int .u8 0, .int .i64 0, .int .i64 0]) 3 24 := ⟨Tryz.underlying55, by kernel_rfl, rfl, by omega⟩
theorem ETInt : zcJ Tryz.prog 59 3 (.int .i64 0) 1 8 := ⟨Tryz.underlying59, by kernel_rfl, rfl, by omega⟩
theorem row_newT (w : World) (x y z : Value) (e : TypeId) : Row (w.alloc (.cells #[x, y, z] e)) 3 (some ⟨w.heap.size, 0, none⟩) 1 1 [x, y, z] :=
 ⟨rfl, Nat.le_refl _, by simp [maxLen], fun h => (by cases h), fun _ => ⟨w.heap.size, 0, rfl, by rw [zae]; omega, fun j u hj => by
   rw [Nat.zero_add, cell_of_row _ _ _ _ _ _ (zah _ rfl)]; simpa using hj⟩⟩
theorem one3 {x y z : Value} (hx : x.oneCell' = true) (hy : y.oneCell' = true) (hz : z.oneCell' = true) : ∀ u ∈ [x, y, z], u.oneCell' = true := by
 intro u hu
 simp at hu
 rcases hu with rfl | rfl | rfl
 · exact hx
 · exact hy
 · exact hz
theorem cells3 {w : World} {g : Nat} {x y z : Value} {e : TypeId} (h : w.heap[g]? = some (.cells #[x, y, z] e (0, 0))) : (w.cell? ⟨g, 0, none⟩ = some x ∧ w.cell? ⟨g, 1, none⟩ = some y ∧ w.cell? ⟨g, 2, none⟩ = some z) ∧ ∀ j, w.frozen? ⟨g, j, none⟩ = false :=
 ⟨⟨by rw [cell_of_row w g 0 _ _ _ h]; rfl, by rw [cell_of_row w g 1 _ _ _ h]; rfl, by rw [cell_of_row w g 2 _ _ _ h]; rfl⟩, fun j => frozen_of_row w g j _ _ h⟩
def TokEnd (b : List UInt8) (w : World) (e : Ending) (w' : World) : Prop :=
 Below w.heap.size w w' ∧ ∃ (ts : List LT) (a : Option Addr) (cap : Nat), e = .returned (.slice a ts.length cap) ∧ Row w' 3 a ts.length cap (tokV ts) ∧ (∀ x, a = some x → w.heap.size ≤ x.block ∧ x.block < w'.heap.size) ∧ (expT ts [] = some b ∧ ts = zfd b) ∧ ts.length ≤ b.length
def TokI (w wr : World) (B1 fb pb mb : Nat) (a : Option Addr) (n cap i : Nat) (b : List UInt8) (v : Value) : Prop :=
 ∃ ts : List LT, (zb3 b i ts ∧ TokU b i ts) ∧ FinQ wr fb pb mb a n cap i i b ∧ Below w.heap.size w wr ∧ wr.ownsRow B1 79 3 v ts.length (tokV ts) ∧ B1 ≤ wr.heap.size
theorem zdO {w : World} {a : Option Addr} {n cap : Nat} {b : List UInt8} (hr : Row w 1 a n cap (b.map fun x => .int .u8 x.toNat)) (ha : ∀ x, a = some x → x.block < w.heap.size) (hn : n ≤ 100000) :
   Calls Tryz.prog 20 #[.slice a n cap] w (TokEnd b w) := by
 have hl : b.length = n := by have := hr.1; simpa using this
 have hcapm := hr.2.2.1
 have hcapn := hr.2.1
 unfold maxLen at hcapm
 have hmm := @run_makeMap Tryz.prog
 have hd0 : decide ((n : Int) > 16777216) = false := decide_eq_false (by omega)
 have HR := Lib.hid hr
 have HA := Lib.hid ha
 have HL := Lib.hid hl
 clear hr ha hl
 go_enter Tryz.func20, Tryz.ntmps20
 go_upto_region 4 with (at_make; refine zcQ ETInt rfl (.tmp 15) (.tmp 15) rfl .i64 .i64 _ _ n rfl rfl rfl rfl (by omega) (by unfold maxLen; omega) ?_; intro w1 hown hb1; have HM := Lib.hid (heap_made hown); have HB1 := Lib.hid hb1; clear hown hb1)
 obtain ⟨fb, hfb⟩ : ∃ fb, fb = w1.heap.size := ⟨_, rfl⟩
 obtain ⟨mb, hmb⟩ : ∃ mb, mb = w.heap.size := ⟨_, rfl⟩
 have hb1 := HB1.out
 have hs1 := (Array.getElem?_eq_some_iff.1 HM.out).1
 rw [zae] at hs1
 have hbw : Below w.heap.size w w1 := (zam w _).trans (hb1.mono (by rw [zae]; omega))
 have hMb : MapT w1 mb b 0 0 := by
   have h := MapT.made w b
   rw [← hmb] at h
   exact h.keep (hb1.block mb (by rw [zae]; omega))
 have hbn : ∀ W : World, Below w.heap.size w W → Row W 1 a n cap (b.map fun x => .int .u8 x.toNat) := fun W hW => HR.out.mono hW
 have hQ : FinQ (w1.alloc (.cells #[.slice a n cap, .map (some mb), .slice (some ⟨mb + 1, 0, none⟩) n n] 77)) fb (mb + 1) mb a n cap 0 0 b := {
   c0 := by rw [hfb, cell_of_row _ _ 0 _ _ _ (heap_alloc_new w1 _)]; rfl
   c1 := by rw [hfb, cell_of_row _ _ 1 _ _ _ (heap_alloc_new w1 _)]; rfl
   c2 := by rw [hfb, cell_of_row _ _ 2 _ _ _ (heap_alloc_new w1 _)]; rfl
   row := hbn _ (hbw.alloc hbw.size _)
   m := hMb.keep ((zam w1 _).block mb (by omega))
   p := ⟨fun _ => 0, zaL _ (by have h := HM.out; rw [zae, ← hmb] at h; exact h), fun j hj => absurd hj (Nat.not_lt_zero j)⟩
   pm := by omega
   fp := by omega
   fm := by omega
   ap := fun x hx => by have := HA.out x hx; omega }
 have HI0 := Lib.hid (show TokI w (w1.alloc (.cells #[.slice a n cap, .map (some mb), .slice (some ⟨mb + 1, 0, none⟩) n n] 77)) (fb + 1) fb (mb + 1) mb a n cap 0 b (.slice none 0 0) from
   ⟨[], ⟨zb3.zero b, TokU.zero b⟩, hQ, hbw.alloc hbw.size _, World.ownsRow_nil _ _ _ _, by rw [zae]; omega⟩)
 have hlay : mb < fb ∧ mb + 1 < fb ∧ w.heap.size ≤ mb ∧ w.heap.size ≤ mb + 1 := by omega
 clear hb1 hs1 hbw hMb hbn hQ HM HB1 hmm
 rw [← hfb, ← hmb]
 generalize w1.alloc (.cells #[.slice a n cap, .map (some mb), .slice (some ⟨mb + 1, 0, none⟩) n n] 77) = w2 at HI0 ⊢
 clear hfb
 have HMB := Lib.hid hmb
 clear hmb
 generalize mb + 1 = pb at HI0 hlay ⊢
 go_wp2_with fail
 go_loopw [4, 5] (fun v vi wr => ∃ i : Nat, vi = .int .i64 i ∧ i ≤ n ∧ Hid (TokI w wr (fb + 1) fb pb mb a n cap i b v)) (fun _ vi _ => n - (intOf vi).toNat)
 case atStart => exact ⟨0, rfl, Nat.zero_le _, HI0⟩
 case round =>
   obtain ⟨i, rfl, hi, HI⟩ := hrel
   by_cases hlt : i < n
   case neg =>
     have hd1 : decide ((i : Int) < (n : Int)) = false := decide_eq_false (by omega)
     go_wp2_with fail
     have hin : i = n := by omega
     subst hin
     obtain ⟨ts, h1, h2, h3, h4, -⟩ := HI.out
     obtain ⟨aS, cS, rfl, hrow, haS⟩ := Row.of_owns h4
     have HEND := Lib.hid (show TokEnd b w (.returned (.slice aS ts.length cS)) wr from by
       have hts := h1.1.len (Nat.le_of_eq HL.out.symm)
       refine ⟨h3, ts, aS, cS, rfl, hrow, fun x hx => ⟨by have := haS x hx; omega, ?_⟩, ⟨?_, by have h := h1.2; rw [← HL.out] at h; exact h.fin⟩, by rw [HL.out]; exact hts⟩
       · have := h4.lt x.block (by rw [hx]; rfl)
         exact this.2
       · have h := h1.1
         unfold zb3 at h
         rw [List.take_of_length_le (Nat.le_of_eq HL.out)] at h
         exact h)
     clear h1 h2 h3 h4 hrow haS HI
     go_wp2_with fail
     go_ret
     exact HEND.out
   have hd1 : decide ((i : Int) < (n : Int)) = true := decide_eq_true (by omega)
   have hin : (i : Int) < (n : Int) := by omega
   obtain ⟨ts, h1, h2, h3, h4, h5⟩ := HI.out
   obtain ⟨bb, off, rfl, -, hcc⟩ := h2.row.at 0 0 (by omega)
   have z0 := hcc i hlt
   have HTT := Lib.hid h1
   have HX := Lib.hid (show ∃ u : UInt8, u = b.getD i 0 from ⟨_, rfl⟩)
   have hx256 := (b.getD i 0).toNat_lt
   obtain ⟨x, hx⟩ : ∃ x, x = (b.getD i 0).toNat := ⟨_, rfl⟩
   have HXX := Lib.hid hx
   rw [← hx] at z0 hx256
   clear hx hcc HX
   have hbA := zam wr (.cells #[.int .u8 x, .int .i64 0, .int .i64 0] 79)
   have HS3 := Lib.hid (show FinQ (wr.alloc (.cells #[.int .u8 x, .int .i64 0, .int .i64 0] 79)) fb pb mb (some ⟨bb, off, none⟩) n cap i i b ∧ Below w.heap.size w (wr.alloc (.cells #[.int .u8 x, .int .i64 0, .int .i64 0] 79)) ∧ (wr.alloc (.cells #[.int .u8 x, .int .i64 0, .int .i64 0] 79)).ownsRow (fb + 1) 79 3 u4 ts.length (tokV ts) from
     ⟨h2.below hbA, h3.alloc h3.size _, zaf h4 hbA⟩)
   have HBK := Lib.hid (heap_alloc_new wr (.cells #[.int .u8 x, .int .i64 0, .int .i64 0] 79))
   have HOB := Lib.hid (show ∀ q, u4.ownBlock = some q → fb + 1 ≤ q ∧ q < wr.heap.size from h4.lt)
   have hs3 := zae wr (.cells #[.int .u8 x, .int .i64 0, .int .i64 0] 79)
   have HBEST := Lib.hid (best_any HS3.out.1 hlt (by omega))
   clear h1 h2 h3 h4 HI hbA
   go_upto_region 8 with fail
   obtain ⟨tb, htb⟩ : ∃ tb, tb = wr.heap.size := ⟨_, rfl⟩
   rw [← htb] at hs3 HBK HOB h5 ⊢
   have HTB := Lib.hid htb
   clear htb z0
   generalize wr.alloc (.cells #[.int .u8 x, .int .i64 0, .int .i64 0] 79) = w3 at HS3 HBK hs3 HBEST ⊢
   go_upto_region 9 with fail
   refine HBEST.out.mono ?_
   rintro e w4 ⟨hb4, kk, far, rfl, hrep, h3k, hbx⟩
   have HBX := Lib.hid hbx
   clear hbx
   have hq4 := HS3.out.1.below hb4
   have hbw4 : Below w.heap.size w w4 := HS3.out.2.1.trans (hb4.mono HS3.out.2.1.size)
   have ho4 := zaf HS3.out.2.2 hb4
   have hblk4 := zbm hb4 HBK.out
   have hs4 := hb4.size
   clear hb4 HBEST HS3 HBK
   by_cases hk0 : kk = 0
   · subst hk0
     obtain ⟨⟨T0, T1, T2⟩, -⟩ := cells3 hblk4
     have dk0 : decide ((0 : Int) > 0) = false := by decide
     have HQ6 := Lib.hid hq4
     have HB6 := Lib.hid hbw4
     have HO6 := Lib.hid ho4
     have hs6 : tb + 1 ≤ w4.heap.size := by omega
     have hiM : i + max 1 0 ≤ n := by omega
     have HNEW := Lib.hid (show ∃ t : LT, x = t.b.toNat ∧ 0 = t.len ∧ (0 : Int) = t.far ∧ (zb3 b (i + max 1 0) (ts ++ [t]) ∧ TokU b (i + max 1 0) (ts ++ [t])) from ⟨⟨b.getD i 0, 0, 0⟩, HXX.out, rfl, rfl, ⟨HTT.out.1.lit (by rw [HL.out]; exact hlt), HTT.out.2.lit (by rw [HL.out]; exact hlt) HBX.out⟩⟩)
     have hLk : (0 : Nat) ≤ 258 := by omega
     obtain ⟨X, hX⟩ : ∃ X, X = x := ⟨_, rfl⟩
     obtain ⟨Lk, hLk0⟩ : ∃ Lk : Nat, Lk = 0 := ⟨_, rfl⟩
     obtain ⟨F, hF⟩ : ∃ F : Int, F = 0 := ⟨_, rfl⟩
     rw [← hX] at T0 HNEW
     have T1b : w4.cell? ⟨tb, 1, none⟩ = some (.int .i64 (Lk : Nat)) := by rw [hLk0]; exact T1
     rw [← hF] at T2
     rw [← hLk0] at HNEW hiM hLk
     rw [← hF] at HNEW
     clear T1 hX hF hLk0 hq4 hbw4 ho4 hblk4 hrep h3k
     have T1 := T1b
     clear T1b
     go_upto_region 11 with fail
     generalize w4 = w6 at HQ6 HB6 HO6 T0 T1 T2 hs6 hs4 ⊢
     have hM1 : 1 ≤ max 1 Lk := by omega
     have HSZ := Lib.hid (tsize_any (w := w6) X Lk F (by omega))
     obtain ⟨M, hM⟩ : ∃ M, M = max 1 Lk := ⟨_, rfl⟩
     rw [← hM] at hiM hM1 HNEW HSZ
     have HMM := Lib.hid hM
     clear hM
     go_wp2_with fail
     refine HSZ.out.mono ?_
     rintro e w7 ⟨rfl, hb7⟩
     have HQ7 := Lib.hid (HQ6.out.below hb7)
     have HB7 := Lib.hid (show Below w.heap.size w w7 from HB6.out.trans (hb7.mono HB6.out.size))
     have HO7 := Lib.hid (zaf HO6.out hb7)
     have T07 := cell?_keep hb7 T0
     have T17 := cell?_keep hb7 T1
     have T27 := cell?_keep hb7 T2
     have hS7 := hb7.size
     have hmn : 0 ≤ (M : Int) := by omega
     clear hb7 HQ6 HB6 HO6 T0 T1 T2 HSZ
     go_wp2_with fail
     go_loopw [5, 41] (fun vi vk wk => ∃ k : Nat, vk = .int .i64 k ∧ vi = .int .i64 (i + k : Nat) ∧ k ≤ M ∧ Hid (FinQ wk fb pb mb (some ⟨bb, off, none⟩) n cap (i + k) (i + k) b) ∧ Hid (zaa (fun b => b = pb ∨ b = mb) w7 wk)) (fun _ vk _ => M - (intOf vk).toNat)
     case atStart => exact ⟨0, rfl, rfl, Nat.zero_le _, HQ7, Lib.hid (zaa.refl _ _)⟩
     case round =>
       obtain ⟨k, rfl, rfl, hk, HQk, HKk⟩ := hrel
       by_cases hkM : k < M
       case neg =>
         have hkM2 : k = M := by omega
         have dk : decide ((k : Int) < (M : Int)) = false := decide_eq_false (by omega)
         obtain ⟨i2, hi2⟩ : ∃ i2, i2 = i + M := ⟨_, rfl⟩
         subst hkM2
         rw [← hi2] at HQk hiM HNEW ⊢
         have hk7 := HKk.out
         have hs8 := hk7.size
         have HO8 := Lib.hid (zas HO7.out hk7 (fun q hq hc => by have := (HO7.out.lt q hq).1; omega))
         have HB8 := Lib.hid (show Below w.heap.size w wr from HB7.out.trans (hk7.below (B := w.heap.size) (by omega) (fun q hq => by omega)))
         have T08 := hk7.cell T07 (by omega)
         have T18 := hk7.cell T17 (by omega)
         have T28 := hk7.cell T27 (by omega)
         have htl : ts.length ≤ 100000 := by have := HTT.out.1.len (i := i) (by rw [HL.out]; omega); omega
         have HVR := Lib.hid HO8.out.lt
         have HS8 := Lib.hid hs8
         have HS7 := Lib.hid hS7
         clear hk7 hs8 T07 T17 T27 HQ7 HB7 HO7 HKk
         go_wp2_with (at_builtin; refine zan ETokL rfl (.tmp 49) (.tmp 51) rfl (fb + 1) _ ts.length _ rfl (HO8.out.alloc _) _ 1 1 _ rfl (row_newT _ _ _ _ _) (one3 rfl rfl rfl) (by unfold maxLen; omega) (by omega) (by rw [zae]; have := HS8.out; have := HS7.out; omega) ?_; intro v' w9 hO9 hg9 hnil9; have HO9 := Lib.hid hO9; have HG9 := Lib.hid hg9; clear hO9 hg9 hnil9)
         have hg9 := HG9.out
         have hs9 := hg9.size
         rw [zae] at hs9
         have hk9 : zaa (fun q => fb + 1 ≤ q) wr w9 := ((zaa.refl _ wr).alloc _).grown hg9 (fun q hq => .inl (HVR.out q hq).1)
         have HFIN := Lib.hid (show TokI w w9 (fb + 1) fb pb mb (some ⟨bb, off, none⟩) n cap i2 b v' from by
           obtain ⟨t, ht1, ht2, ht3, ht4⟩ := HNEW.out
           refine ⟨ts ++ [t], ht4, HQk.out.keeps hk9 (by omega) (by omega) (by omega) (fun q hq => by have := HA.out q hq; have := HMB.out; omega), HB8.out.trans ((hk9.below (B := fb + 1) (by have := HS8.out; have := HS7.out; omega) (fun q hq => hq)).mono (by have := HMB.out; omega)), ?_, by have := HS8.out; have := HS7.out; omega⟩
           have h := HO9.out
           rw [zfv, List.length_append]
           rw [ht1, ht2, ht3] at h
           exact h)
         clear hg9 hs9 hk9 HO9 HG9 HO8 HB8 HVR HNEW
         go_wp2_with fail
         go_roundw
         case rel => exact ⟨i2, by rw [hi2, Int.natCast_add], hiM, HFIN⟩
         case measure => simp [intOf]; omega
       have dk : decide ((k : Int) < (M : Int)) = true := decide_eq_true (by omega)
       have HNT := Lib.hid (note_any (i := i + k) HQk.out (by omega) (by omega))
       go_wp2_with fail
       refine HNT.out.mono ?_
       rintro e w8 ⟨rfl, hq8, hk8⟩
       have HQ8 := Lib.hid hq8
       have HK8 := Lib.hid (HKk.out.trans hk8 fun q hq => .inl hq)
       clear hq8 hk8 HNT HKk HQk
       go_wp2_with fail
       go_roundw
       case rel => exact ⟨k + 1, by go_num, by go_num, by omega, HQ8, HK8⟩
       case measure => simp [intOf]; omega
   · obtain ⟨⟨T0, T1, T2⟩, hfz⟩ := cells3 hblk4
     have f0 := hfz 0
     have f1 := hfz 1
     have f2 := hfz 2
     have dk0 : decide ((kk : Int) > 0) = true := decide_eq_true (by omega)
     rcases hrep with ⟨h0, -⟩ | ⟨hpos, hmo, hf32⟩
     · exact absurd h0 hk0
     obtain ⟨hk258, hmm2⟩ := hmo
     obtain ⟨hf1, hfi, hkn, hmt⟩ := hmm2 hpos
     obtain ⟨F, rfl⟩ : ∃ F : Nat, far = F := ⟨far.toNat, by omega⟩
     have hiM : i + max 1 kk ≤ n := by have := HL.out; omega
     have HNEW := Lib.hid (show ∃ t : LT, 0 = t.b.toNat ∧ kk = t.len ∧ (F : Int) = t.far ∧ (zb3 b (i + max 1 kk) (ts ++ [t]) ∧ TokU b (i + max 1 kk) (ts ++ [t])) from ⟨⟨0, kk, F⟩, rfl, rfl, rfl, ⟨by
       rw [show max 1 kk = kk from by omega]
       exact HTT.out.1.rep (h3k hpos) hk258 (by omega) (by omega) (by omega) hkn (fun j hj => by have h := hmt j hj; simpa using h), HTT.out.2.rep (by rw [HL.out]; exact hlt) hpos HBX.out⟩⟩)
     have hdk : (0 : Int) < (kk : Int) := by omega
     clear hmm2 hmt hf1 hfi hf32 h3k hkn hfz
     have HQ4 := Lib.hid hq4
     have HB4 := Lib.hid hbw4
     have HO4 := Lib.hid ho4
     have HBL4 := Lib.hid hblk4
     clear hq4 hbw4 ho4 hblk4
     go_upto_region 11 with fail
     have hk6 : zaa (fun q => q = tb) w4 (((w4.setCell ⟨tb, 0, none⟩ (.int .u8 0)).setCell ⟨tb, 1, none⟩ (.int .i64 (kk : Nat))).setCell ⟨tb, 2, none⟩ (.int .i64 (F : Nat))) := (((zaa.refl (fun q => q = tb) w4).setCell (a := ⟨tb, 0, none⟩) (.inl rfl) _).setCell (a := ⟨tb, 1, none⟩) (.inl rfl) _).setCell (a := ⟨tb, 2, none⟩) (.inl rfl) _
     have e0 : (((w4.setCell ⟨tb, 0, none⟩ (.int .u8 0)).setCell ⟨tb, 1, none⟩ (.int .i64 (kk : Nat))).setCell ⟨tb, 2, none⟩ (.int .i64 (F : Nat))).cell? ⟨tb, 0, none⟩ = some (.int .u8 0) := by
       rw [World.cell?_setCell_other _ _ _ _ (by simp), World.cell?_setCell_other _ _ _ _ (by simp)]
       exact World.cell?_setCell_same _ _ _ T0
     have e1 : (((w4.setCell ⟨tb, 0, none⟩ (.int .u8 0)).setCell ⟨tb, 1, none⟩ (.int .i64 (kk : Nat))).setCell ⟨tb, 2, none⟩ (.int .i64 (F : Nat))).cell? ⟨tb, 1, none⟩ = some (.int .i64 (kk : Nat)) := by
       rw [World.cell?_setCell_other _ _ _ _ (by simp)]
       exact World.cell?_setCell_same _ _ _ (u := .int .i64 0) (by rw [World.cell?_setCell_other _ _ _ _ (by simp)]; exact T1)
     have e2 : (((w4.setCell ⟨tb, 0, none⟩ (.int .u8 0)).setCell ⟨tb, 1, none⟩ (.int .i64 (kk : Nat))).setCell ⟨tb, 2, none⟩ (.int .i64 (F : Nat))).cell? ⟨tb, 2, none⟩ = some (.int .i64 (F : Nat)) :=
       World.cell?_setCell_same _ _ _ (u := .int .i64 0) (by rw [World.cell?_setCell_other _ _ _ _ (by simp), World.cell?_setCell_other _ _ _ _ (by simp)]; exact T2)
     generalize (((w4.setCell ⟨tb, 0, none⟩ (.int .u8 0)).setCell ⟨tb, 1, none⟩ (.int .i64 (kk : Nat))).setCell ⟨tb, 2, none⟩ (.int .i64 (F : Nat))) = w6 at hk6 e0 e1 e2 ⊢
     have hs6 := hk6.size
     have HQ6 := Lib.hid (HQ4.out.keeps hk6 (by omega) (by omega) (by omega) (fun q hq => by have := HA.out q hq; have := HMB.out; omega))
     have HB6 := Lib.hid (show Below w.heap.size w w6 from HB4.out.trans ((hk6.below (B := tb) (by omega) (fun q hq => by omega)).mono (by have := HMB.out; omega)))
     have HO6 := Lib.hid (zas HO4.out hk6 (fun q hq hc => by have := (HOB.out q hq).2; omega))
     clear hk6 T0 T1 T2 f0 f1 f2 HQ4 HB4 HO4 HBL4 hk0 hpos dk0 hdk
     have hLk := hk258
     have T0 := e0
     have T1 := e1
     have T2 := e2
     clear e0 e1 e2 hk258
     obtain ⟨X, hX⟩ : ∃ X : Nat, X = 0 := ⟨_, rfl⟩
     have T0b : w6.cell? ⟨tb, 0, none⟩ = some (.int .u8 (X : Nat)) := by rw [hX]; exact T0
     have HNEW2 := Lib.hid (show ∃ t : LT, X = t.b.toNat ∧ kk = t.len ∧ (F : Int) = t.far ∧ (zb3 b (i + max 1 kk) (ts ++ [t]) ∧ TokU b (i + max 1 kk) (ts ++ [t])) from by rw [hX]; exact HNEW.out)
     clear T0 HNEW hX
     have T0 := T0b
     have HNEW := HNEW2
     clear T0b HNEW2
     generalize (F : Int) = F2 at T2 HNEW ⊢
     have hM1 : 1 ≤ max 1 kk := by omega
     have HSZ := Lib.hid (tsize_any (w := w6) X kk F2 (by omega))
     obtain ⟨M, hM⟩ : ∃ M, M = max 1 kk := ⟨_, rfl⟩
     rw [← hM] at hiM hM1 HNEW HSZ
     have HMM := Lib.hid hM
     clear hM
     go_wp2_with fail
     refine HSZ.out.mono ?_
     rintro e w7 ⟨rfl, hb7⟩
     have HQ7 := Lib.hid (HQ6.out.below hb7)
     have HB7 := Lib.hid (show Below w.heap.size w w7 from HB6.out.trans (hb7.mono HB6.out.size))
     have HO7 := Lib.hid (zaf HO6.out hb7)
     have T07 := cell?_keep hb7 T0
     have T17 := cell?_keep hb7 T1
     have T27 := cell?_keep hb7 T2
     have hS7 := hb7.size
     have hmn : 0 ≤ (M : Int) := by omega
     clear hb7 HQ6 HB6 HO6 T0 T1 T2 HSZ
     go_wp2_with fail
     go_loopw [5, 41] (fun vi vk wk => ∃ k : Nat, vk = .int .i64 k ∧ vi = .int .i64 (i + k : Nat) ∧ k ≤ M ∧ Hid (FinQ wk fb pb mb (some ⟨bb, off, none⟩) n cap (i + k) (i + k) b) ∧ Hid (zaa (fun b => b = pb ∨ b = mb) w7 wk)) (fun _ vk _ => M - (intOf vk).toNat)
     case atStart => exact ⟨0, rfl, rfl, Nat.zero_le _, HQ7, Lib.hid (zaa.refl _ _)⟩
     case round =>
       obtain ⟨k, rfl, rfl, hk, HQk, HKk⟩ := hrel
       by_cases hkM : k < M
       case neg =>
         have hkM2 : k = M := by omega
         have dk : decide ((k : Int) < (M : Int)) = false := decide_eq_false (by omega)
         obtain ⟨i2, hi2⟩ : ∃ i2, i2 = i + M := ⟨_, rfl⟩
         subst hkM2
         rw [← hi2] at HQk hiM HNEW ⊢
         have hk7 := HKk.out
         have hs8 := hk7.size
         have HO8 := Lib.hid (zas HO7.out hk7 (fun q hq hc => by have := (HO7.out.lt q hq).1; omega))
         have HB8 := Lib.hid (show Below w.heap.size w wr from HB7.out.trans (hk7.below (B := w.heap.size) (by omega) (fun q hq => by omega)))
         have T08 := hk7.cell T07 (by omega)
         have T18 := hk7.cell T17 (by omega)
         have T28 := hk7.cell T27 (by omega)
         have htl : ts.length ≤ 100000 := by have := HTT.out.1.len (i := i) (by rw [HL.out]; omega); omega
         have HVR := Lib.hid HO8.out.lt
         have HS8 := Lib.hid hs8
         have HS7 := Lib.hid hS7
         clear hk7 hs8 T07 T17 T27 HQ7 HB7 HO7 HKk
         go_wp2_with (at_builtin; refine zan ETokL rfl (.tmp 49) (.tmp 51) rfl (fb + 1) _ ts.length _ rfl (HO8.out.alloc _) _ 1 1 _ rfl (row_newT _ _ _ _ _) (one3 rfl rfl rfl) (by unfold maxLen; omega) (by omega) (by rw [zae]; have := HS8.out; have := HS7.out; omega) ?_; intro v' w9 hO9 hg9 hnil9; have HO9 := Lib.hid hO9; have HG9 := Lib.hid hg9; clear hO9 hg9 hnil9)
         have hg9 := HG9.out
         have hs9 := hg9.size
         rw [zae] at hs9
         have hk9 : zaa (fun q => fb + 1 ≤ q) wr w9 := ((zaa.refl _ wr).alloc _).grown hg9 (fun q hq => .inl (HVR.out q hq).1)
         have HFIN := Lib.hid (show TokI w w9 (fb + 1) fb pb mb (some ⟨bb, off, none⟩) n cap i2 b v' from by
           obtain ⟨t, ht1, ht2, ht3, ht4⟩ := HNEW.out
           refine ⟨ts ++ [t], ht4, HQk.out.keeps hk9 (by omega) (by omega) (by omega) (fun q hq => by have := HA.out q hq; have := HMB.out; omega), HB8.out.trans ((hk9.below (B := fb + 1) (by have := HS8.out; have := HS7.out; omega) (fun q hq => hq)).mono (by have := HMB.out; omega)), ?_, by have := HS8.out; have := HS7.out; omega⟩
           have h := HO9.out
           rw [zfv, List.length_append]
           rw [ht1, ht2, ht3] at h
           exact h)
         clear hg9 hs9 hk9 HO9 HG9 HO8 HB8 HVR HNEW
         go_wp2_with fail
         go_roundw
         case rel => exact ⟨i2, by rw [hi2, Int.natCast_add], hiM, HFIN⟩
         case measure => simp [intOf]; omega
       have dk : decide ((k : Int) < (M : Int)) = true := decide_eq_true (by omega)
       have HNT := Lib.hid (note_any (i := i + k) HQk.out (by omega) (by omega))
       go_wp2_with fail
       refine HNT.out.mono ?_
       rintro e w8 ⟨rfl, hq8, hk8⟩
       have HQ8 := Lib.hid hq8
       have HK8 := Lib.hid (HKk.out.trans hk8 fun q hq => .inl hq)
       clear hq8 hk8 HNT HKk HQk
       go_wp2_with fail
       go_roundw
       case rel => exact ⟨k + 1, by go_num, by go_num, by omega, HQ8, HK8⟩
       case measure => simp [intOf]; omega
end Go.Proofs.YtngjbhejfojpbaaGreat
namespace Go.Proofs.YtngjbhejfojpbaaGreat
inductive HT where
 | leaf (s : Nat)
 | node (a b : HT)
namespace HT
def leaves : HT → List Nat
 | leaf s => [s]
 | node a b => a.leaves ++ b.leaves
def lay : HT → Nat → List Nat → List Nat
 | leaf s, d, l => l.set s (max 1 d)
 | node a b, d, l => b.lay (d + 1) (a.lay (d + 1) l)
theorem leaves_pos : ∀ t : HT, 1 ≤ t.leaves.length
 | leaf _ => Nat.le_refl _
 | node a b => by have := leaves_pos a; simp only [leaves, List.length_append]; omega
theorem lay_len : ∀ (t : HT) (d : Nat) (l : List Nat), (t.lay d l).length = l.length
 | leaf s, d, l => by simp [lay]
 | node a b, d, l => by rw [lay, lay_len b, lay_len a]
theorem lay_out : ∀ (t : HT) (d : Nat) (l : List Nat) (k : Nat), k ∉ t.leaves → (t.lay d l).getD k 0 = l.getD k 0
 | leaf s, d, l, k, h => by
   simp only [leaves, List.mem_singleton] at h
   simp only [lay, List.getD_eq_getElem?_getD]
   rw [List.getElem?_set_ne (fun e => h e.symm)]
 | node a b, d, l, k, h => by
   simp only [leaves, List.mem_append, not_or] at h
   rw [lay, lay_out b _ _ _ h.2, lay_out a _ _ _ h.1]
theorem lay_in : ∀ (t : HT) (d : Nat) (l : List Nat) (k : Nat), (∀ s ∈ t.leaves, s < l.length) → k ∈ t.leaves → 1 ≤ (t.lay d l).getD k 0 ∧ (t.lay d l).getD k 0 ≤ d + t.leaves.length
 | leaf s, d, l, k, hl, h => by
   simp only [leaves, List.mem_singleton] at h
   subst h
   have := hl k (by simp [leaves])
   simp only [lay, List.getD_eq_getElem?_getD]
   rw [List.getElem?_set_self this]
   simp only [Option.getD_some, leaves, List.length_singleton]
   omega
 | node a b, d, l, k, hl, h => by
   have ha : ∀ s ∈ a.leaves, s < l.length := fun s hs => hl s (by simp [leaves, hs])
   have hb : ∀ s ∈ b.leaves, s < (a.lay (d + 1) l).length := fun s hs => by rw [lay_len]; exact hl s (by simp [leaves, hs])
   have hpa := leaves_pos a
   have hpb := leaves_pos b
   simp only [leaves, List.length_append]
   by_cases hkb : k ∈ b.leaves
   · have := lay_in b (d + 1) (a.lay (d + 1) l) k hb hkb
     rw [lay]; omega
   · have hka : k ∈ a.leaves := by
       simp only [leaves, List.mem_append] at h
       exact h.resolve_right hkb
     have := lay_in a (d + 1) l k ha hka
     rw [lay, lay_out b _ _ _ hkb]; omega
end HT
end Go.Proofs.YtngjbhejfojpbaaGreat
namespace Go.Proofs.YtngjbhejfojpbaaGreat
def rowR (n : Nat) (R D : List Nat) : List Nat := zcY R D (List.replicate n 0)
theorem zbU (n : Nat) (R D : List Nat) : (rowR n R D).length = n := by unfold rowR; rw [zdX]; simp
theorem zee {n : Nat} {R D : List Nat} (hn : R.Nodup) (hD : D.length = R.length) (hr : ∀ r ∈ R, r < n) {i : Nat} (hi : i < R.length) : (rowR n R D).getD (R.getD i 0) 0 = D.getD i 0 := by
 have := zfg R D (List.replicate n 0) i hn hD (fun r h => by simpa using hr r h) hi
 unfold rowR
 rw [← this, List.getD_eq_getElem?_getD (l := R), List.getElem?_eq_getElem hi]; rfl
theorem ze0 {n : Nat} {R D : List Nat} {k : Nat} (h : k ∉ R) : (rowR n R D).getD k 0 = 0 := by
 unfold rowR
 rw [zc3 R D _ k h]
 simp only [List.getD_eq_getElem?_getD, List.getElem?_replicate]
 split <;> rfl
theorem ze4 {n : Nat} {R D L : List Nat} (hn : R.Nodup) (hr : ∀ r ∈ R, r < n) (hD : D.length = R.length) (hl : L.length = n)
   (h1 : ∀ i, i < R.length → L.getD (R.getD i 0) 0 = D.getD i 0) (h2 : ∀ k, k ∉ R → L.getD k 0 = 0) : L = rowR n R D :=
 give_ext hn hr hD hl (fun i hi => by
   have := h1 i hi
   rwa [List.getD_eq_getElem?_getD (l := R), List.getElem?_eq_getElem hi, Option.getD_some] at this) h2
theorem zfh (l : List Nat) (i k v : Nat) (h : i < l.length) : (l.set i v).getD k 0 = if k = i then v else l.getD k 0 := by
 simp only [List.getD_eq_getElem?_getD, List.getElem?_set]
 by_cases e : i = k
 · subst e; rw [if_pos rfl, if_pos h, if_pos rfl]; rfl
 · rw [if_neg e, if_neg (fun h => e h.symm)]
theorem nodup_getD {R : List Nat} (hn : R.Nodup) {i j : Nat} (hi : i < R.length) (hj : j < R.length) (h : R.getD i 0 = R.getD j 0) : i = j := by
 rw [List.getD_eq_getElem?_getD, List.getElem?_eq_getElem hi, List.getD_eq_getElem?_getD, List.getElem?_eq_getElem hj] at h
 have hp := List.pairwise_iff_getElem.1 hn
 rcases Nat.lt_trichotomy i j with e | e | e
 · exact absurd h (hp i j hi hj e)
 · exact e
 · exact absurd h.symm (hp j i hj hi e)
theorem rowR_set {n : Nat} {R D : List Nat} (hn : R.Nodup) (hr : ∀ r ∈ R, r < n) (hD : D.length = R.length) {i v : Nat} (hi : i < R.length) : (rowR n R D).set (R.getD i 0) v = rowR n R (D.set i v) := by
 have hm : R.getD i 0 ∈ R := by rw [List.getD_eq_getElem?_getD, List.getElem?_eq_getElem hi]; exact List.getElem_mem hi
 have hlt : R.getD i 0 < (rowR n R D).length := by rw [zbU]; exact hr _ hm
 refine ze4 hn hr (by rw [List.length_set, hD]) (by rw [List.length_set, zbU]) (fun j hj => ?_) (fun k hk => ?_)
 · rw [zfh _ _ _ _ hlt, zfh _ _ _ _ (by omega)]
   by_cases e : j = i
   · rw [if_pos (by rw [e]), if_pos e]
   · rw [if_neg (fun h => e (nodup_getD hn hj hi h)), if_neg e, zee hn hD hr hj]
 · rw [zfh _ _ _ _ hlt, if_neg (fun (h : k = R.getD i 0) => hk (h ▸ hm)), ze0 hk]
theorem lay_row {n : Nat} {R : List Nat} {t : HT} (hn : R.Nodup) (hr : ∀ r ∈ R, r < n) (hp : t.leaves.Perm R) :
   ∃ D, D.length = R.length ∧ t.lay 0 (List.replicate n 0) = rowR n R D ∧ ∀ x ∈ D, 1 ≤ x ∧ x ≤ R.length := by
 have hl : t.leaves.length = R.length := hp.length_eq
 have hlt : ∀ s ∈ t.leaves, s < (List.replicate n 0).length := fun s hs => by simpa using hr s (hp.mem_iff.1 hs)
 refine ⟨R.map fun r => (t.lay 0 (List.replicate n 0)).getD r 0, by simp, ?_, fun x hx => ?_⟩
 · refine ze4 hn hr (by simp) (by rw [HT.lay_len]; simp) (fun i hi => ?_) (fun k hk => ?_)
   · rw [List.getD_eq_getElem?_getD (l := R.map _), List.getElem?_map, List.getD_eq_getElem?_getD (l := R), List.getElem?_eq_getElem hi]; rfl
   · rw [HT.lay_out _ _ _ _ (fun h => hk (hp.mem_iff.1 h))]
     simp only [List.getD_eq_getElem?_getD, List.getElem?_replicate]
     split <;> rfl
 · obtain ⟨r, hr2, rfl⟩ := List.mem_map.1 hx
   have := HT.lay_in t 0 (List.replicate n 0) r hlt (hp.mem_iff.2 hr2)
   rw [hl, Nat.zero_add] at this
   exact this
theorem rowR_perm {n : Nat} {R R2 D : List Nat} (hn : R.Nodup) (hr : ∀ r ∈ R, r < n) (hD : D.length = R.length) (hp : R2.Perm R) (h1 : ∀ x ∈ D, 1 ≤ x ∧ x ≤ R.length) :
   ∃ D2, D2.length = R2.length ∧ rowR n R D = rowR n R2 D2 ∧ ∀ x ∈ D2, 1 ≤ x ∧ x ≤ R2.length := by
 have hn2 : R2.Nodup := hp.nodup_iff.2 hn
 refine ⟨R2.map fun r => (rowR n R D).getD r 0, by simp, ?_, fun x hx => ?_⟩
 · refine ze4 hn2 (fun r h => hr r (hp.mem_iff.1 h)) (by simp) (zbU ..) (fun i hi => ?_) (fun k hk => ze0 (fun h => hk (hp.mem_iff.2 h)))
   rw [List.getD_eq_getElem?_getD (l := R2.map _), List.getElem?_map, List.getD_eq_getElem?_getD (l := R2), List.getElem?_eq_getElem hi]; rfl
 · obtain ⟨r, hr2, rfl⟩ := List.mem_map.1 hx
   obtain ⟨i, hi, rfl⟩ := List.mem_iff_getElem.1 (hp.mem_iff.1 hr2)
   have e := zee (n := n) hn hD hr hi
   rw [List.getD_eq_getElem?_getD (l := R), List.getElem?_eq_getElem hi, Option.getD_some] at e
   rw [e, List.getD_eq_getElem?_getD, List.getElem?_eq_getElem (by omega), Option.getD_some, hp.length_eq]
   exact h1 _ (List.getElem_mem _)
def cutV (limit g : Nat) (D : List Nat) : Option (List Nat) := (zaZ limit g (D.map fun x => min x limit)).map fun M => (zak M.reverse (32768 - sumW M)).1.reverse
theorem slack_le (limit : Nat) : ∀ L : List Nat, zeq limit L ≤ limit * L.length
 | [] => Nat.zero_le _
 | x :: l => by
   have := slack_le limit l
   simp only [zeq, List.length_cons, Nat.mul_add]; omega
theorem cutV_good {limit g : Nat} {D : List Nat} (h1 : 1 ≤ limit) (h15 : limit ≤ 15) (hD : ∀ x ∈ D, 1 ≤ x) (h2 : 2 ≤ D.length) (hn : D.length ≤ 2 ^ limit) (hg : limit * D.length < g) :
   ∃ E, cutV limit g D = some E ∧ E.length = D.length ∧ (∀ x ∈ E, 1 ≤ x ∧ x ≤ limit) ∧ sumW E = 32768 := by
 have hin : InL limit (D.map fun x => min x limit) := fun x hx => by
   obtain ⟨y, hy, rfl⟩ := List.mem_map.1 hx
   have := hD y hy
   omega
 have hsl := slack_le limit (D.map fun x => min x limit)
 rw [List.length_map] at hsl
 obtain ⟨M, m1, m2, m3, m4⟩ := zdo h1 h15 g _ hin (by rw [List.length_map]; exact hn) (by omega)
 rw [List.length_map] at m3
 have hrev : InL limit M.reverse := fun x hx => m2 x (List.mem_reverse.1 hx)
 have hsr : sumW M.reverse = sumW M := zd6 M.reverse_perm
 obtain ⟨-, q2, q3, -, -⟩ := all_is h15 M.reverse (32768 - sumW M) hrev
 have hc := complete_all h15 (L := M.reverse) hrev (by rw [List.length_reverse]; omega) (by rw [hsr]; exact m4)
 rw [hsr] at hc
 refine ⟨_, by unfold cutV; rw [m1]; rfl, by rw [List.length_reverse, q3, List.length_reverse, m3], fun x hx => q2 x (List.mem_reverse.1 hx), ?_⟩
 rw [zd6 (List.reverse_perm _)]; exact hc
theorem zea {counts : List Int} {most : Nat} {R D : List Nat} (hn : R.Nodup) (hR : ∀ k, k ∈ R ↔ k < counts.length ∧ 0 < counts.getD k 0)
   (hS : ∀ i j, (hi : i < R.length) → (hj : j < R.length) → i < j → counts.getD R[i] 0 ≤ counts.getD R[j] 0)
   (hD : D.length = R.length) (hP : ∀ d ∈ D, 1 ≤ d ∧ d ≤ most) (hT : ∀ i j, i ≤ j → j < D.length → D.getD j 0 ≤ D.getD i 0)
   (hs : sumW D ≤ 32768) (hf : 2 ≤ R.length → sumW D = 32768) (ho : R.length = 1 → ∀ d ∈ D, d ≤ 1) : zbK counts most R.length (rowR counts.length R D) :=
 good_give hn hR hS hD hP hT (zbU ..) (fun i hi => by
   have := zee (n := counts.length) hn hD (fun r h => ((hR r).1 h).1) hi
   rwa [List.getD_eq_getElem?_getD (l := R), List.getElem?_eq_getElem hi, Option.getD_some] at this) (fun k hk => ze0 hk) hs hf ho
end Go.Proofs.YtngjbhejfojpbaaGreat
namespace Go.Proofs.YtngjbhejfojpbaaGreat
open Go.RowKit
def IsHT (w : World) (S : Nat → Prop) : HT → Nat → Nat → Prop
 | .leaf s, p, c => S p ∧ w.heap[p]? = some (.cells #[.int .i64 c, .int .i64 s, .pointer none, .pointer none] 139 (0, 0))
 | .node a b, p, c => S p ∧ ∃ pa pb ca cb, w.heap[p]? = some (.cells #[.int .i64 c, .int .i64 0, .pointer (some ⟨pa, 0, none⟩), .pointer (some ⟨pb, 0, none⟩)] 139 (0, 0)) ∧ IsHT w S a pa ca ∧ IsHT w S b pb cb
theorem IsHT.keep {w w' : World} {S T : Nat → Prop} (hk : zaa T w w') (hT : ∀ b, S b → ¬ T b) : ∀ {t : HT} {p c : Nat}, IsHT w S t p c → IsHT w' S t p c
 | .leaf _, p, _, h => ⟨h.1, hk.obj h.2 (hT p h.1)⟩
 | .node _ _, p, _, ⟨h, pa, pb, ca, cb, h1, h2, h3⟩ => ⟨h, pa, pb, ca, cb, hk.obj h1 (hT p h), IsHT.keep hk hT h2, IsHT.keep hk hT h3⟩
theorem IsHT.weaken {w : World} {S S' : Nat → Prop} (hS : ∀ b, S b → S' b) : ∀ {t : HT} {p c : Nat}, IsHT w S t p c → IsHT w S' t p c
 | .leaf _, p, _, h => ⟨hS p h.1, h.2⟩
 | .node _ _, p, _, ⟨h, pa, pb, ca, cb, h1, h2, h3⟩ => ⟨hS p h, pa, pb, ca, cb, h1, IsHT.weaken hS h2, IsHT.weaken hS h3⟩
theorem IsHT.top {w : World} {S : Nat → Prop} : ∀ {t : HT} {p c : Nat}, IsHT w S t p c → S p ∧ p < w.heap.size ∧ w.cell? ⟨p, 0, none⟩ = some (.int .i64 c)
 | .leaf _, p, _, h => ⟨h.1, (Array.getElem?_eq_some_iff.1 h.2).1, by rw [cell_of_row w p 0 _ _ _ h.2]; rfl⟩
 | .node _ _, p, _, ⟨h, _, _, _, _, h1, _, _⟩ => ⟨h, (Array.getElem?_eq_some_iff.1 h1).1, by rw [cell_of_row w p 0 _ _ _ h1]; rfl⟩
def natV (L : List Nat) : List Value := L.map fun n : Nat => Value.int .i64 n
def OutR (w : World) (bo : Nat) (L : List Nat) : Prop := w.heap[bo]? = some (.cells (natV L).toArray 3 (0, 0))
theorem zbj (L : List Nat) : (natV L).length = L.length := by simp [natV]
theorem zcB {L : List Nat} {k : Nat} (h : k < L.length) : (natV L)[k]? = some (.int .i64 (L.getD k 0 : Nat)) := by
 unfold natV
 rw [List.getElem?_map, List.getElem?_eq_getElem h, List.getD_eq_getElem?_getD, List.getElem?_eq_getElem h]; rfl
theorem OutR.cell {w : World} {bo : Nat} {L : List Nat} (h : OutR w bo L) {k : Nat} (hk : k < L.length) : w.cell? ⟨bo, k, none⟩ = some (.int .i64 (L.getD k 0 : Nat)) := by
 rw [cell_of_row w bo k _ _ _ h, List.getElem?_toArray, zcB hk]
theorem OutR.free {w : World} {bo : Nat} {L : List Nat} (h : OutR w bo L) (k : Nat) : w.frozen? ⟨bo, k, none⟩ = false := frozen_of_row w bo k _ _ h
theorem OutR.lt {w : World} {bo : Nat} {L : List Nat} (h : OutR w bo L) : bo < w.heap.size := (Array.getElem?_eq_some_iff.1 h).1
theorem OutR.set {w : World} {bo : Nat} {L : List Nat} (h : OutR w bo L) (k v : Nat) : OutR (w.setCell ⟨bo, k, none⟩ (.int .i64 v)) bo (L.set k v) := by
 unfold OutR
 rw [heap_setCell_same w bo k _ _ _ h, List.setIfInBounds_toArray]
 unfold natV
 rw [List.map_set]
theorem OutR.keep {w w' : World} {bo : Nat} {L : List Nat} {T : Nat → Prop} (h : OutR w bo L) (hk : zaa T w w') (hT : ¬ T bo) : OutR w' bo L := hk.obj h hT
theorem OutR.drewN {w : World} {bo : Nat} {L : List Nat} (h : OutR w bo L) (q : Nat) : OutR (w.drewN q) bo L := h
theorem OutR.row {w : World} {bo : Nat} {L : List Nat} (h : OutR w bo L) (hl : L.length ≤ maxLen) : Row w 1 (some ⟨bo, 0, none⟩) L.length L.length (natV L) :=
 ⟨by rw [zbj, Nat.mul_one], Nat.le_refl _, hl, fun e => (by cases e), fun _ => ⟨bo, 0, rfl, h.lt, fun j u hj => by
   rw [Nat.zero_add, cell_of_row w bo j _ _ _ h, List.getElem?_toArray]; exact hj⟩⟩
set_option maxRecDepth 20000 in
theorem depths_any {S : Nat → Prop} {bo : Nat} (hbo : ¬ S bo) : ∀ (t : HT) (p c d : Nat) (L : List Nat) (w : World), IsHT w S t p c → OutR w bo L → (∀ s ∈ t.leaves, s < L.length) → d + t.leaves.length ≤ 1000000 → L.length ≤ 1000000 →
   Calls Tryz.prog 82 #[.pointer (some ⟨p, 0, none⟩), .int .i64 d, .slice (some ⟨bo, 0, none⟩) L.length L.length] w fun e w' => e = .returned (.tuple #[]) ∧ OutR w' bo (t.lay d L) ∧ zaa (fun b => b = bo) w w' := by
 intro t
 induction t with
 | leaf s =>
   intro p c d L w h hO hs hd hL
   have c1 : w.cell? ⟨p, 1, none⟩ = some (.int .i64 s) := by rw [cell_of_row w p 1 _ _ _ h.2]; rfl
   have c2 : w.cell? ⟨p, 2, none⟩ = some (.pointer none) := by rw [cell_of_row w p 2 _ _ _ h.2]; rfl
   have hsl : s < L.length := hs s (by simp [HT.leaves])
   have o1 := hO.cell hsl
   have o2 := hO.free s
   have HO := Lib.hid hO
   have hm : max (1 : Int) (d : Int) = ((max 1 d : Nat) : Int) := by omega
   have hsi : (s : Int) < (L.length : Int) := by omega
   clear h hO hs
   go_enter Tryz.func82, Tryz.ntmps82
   go_wp2
   all_goals refine bodyPost_ret (results_none rfl _ _ _) rfl ?_
   · have e : (d : Int) = ((max 1 d : Nat) : Int) := by omega
     rw [e]
     exact ⟨rfl, HO.out.set s (max 1 d), (zaa.refl (fun b => b = bo) w).setCell (a := ⟨bo, s, none⟩) (.inl rfl) _⟩
   · have e : (1 : Int) = ((max 1 d : Nat) : Int) := by omega
     rw [e]
     exact ⟨rfl, HO.out.set s (max 1 d), (zaa.refl (fun b => b = bo) w).setCell (a := ⟨bo, s, none⟩) (.inl rfl) _⟩
 | node a b iha ihb =>
   intro p c d L w h hO hs hd hL
   obtain ⟨hp, pa, pb, ca, cb, h1, ha, hb⟩ := h
   have c2 : w.cell? ⟨p, 2, none⟩ = some (.pointer (some ⟨pa, 0, none⟩)) := by rw [cell_of_row w p 2 _ _ _ h1]; rfl
   have c3 : w.cell? ⟨p, 3, none⟩ = some (.pointer (some ⟨pb, 0, none⟩)) := by rw [cell_of_row w p 3 _ _ _ h1]; rfl
   have hpa := HT.leaves_pos a
   have hpb := HT.leaves_pos b
   simp only [HT.leaves, List.length_append] at hd
   have HA := Lib.hid (iha pa ca (d + 1) L w ha hO (fun s h => hs s (by simp [HT.leaves, h])) (by omega) hL)
   have hl2 := HT.lay_len a (d + 1) L
   have HB := Lib.hid (fun (W : World) (hk : zaa (fun b => b = bo) w W) (hO : OutR W bo (a.lay (d + 1) L)) => ihb pb cb (d + 1) (a.lay (d + 1) L) W (hb.keep hk (fun x hx e => hbo (e ▸ hx))) hO (fun s h => by rw [hl2]; exact hs s (by simp [HT.leaves, h])) (by omega) (by rw [hl2]; exact hL))
   rw [hl2] at HB
   have hpbo : ¬ p = bo := fun e => hbo (e ▸ hp)
   obtain ⟨d1, hd1⟩ : ∃ d1, d1 = d + 1 := ⟨_, rfl⟩
   rw [← hd1] at HA HB
   have i1 : IntKind.i64.wrap ((d : Int) + 1) = (d1 : Int) := by rw [IntWalk.i64_in _ (by omega)]; omega
   have HD1 := Lib.hid hd1
   have HP := Lib.hid h1
   clear h1 ha hb hO hs hl2 hd1 iha ihb
   go_enter Tryz.func82, Tryz.ntmps82
   go_wp2_with fail
   refine HA.out.mono ?_
   rintro e w2 ⟨rfl, hO2, hk2⟩
   have c3b := hk2.cell c3 hpbo
   have HB2 := Lib.hid (HB.out w2 hk2 hO2)
   clear HA HB c2 c3
   go_wp2_with fail
   refine HB2.out.mono ?_
   rintro e w3 ⟨rfl, hO3, hk3⟩
   go_wp2_with fail
   go_end0
   rw [HD1.out] at hO3
   exact ⟨rfl, hO3, hk2.trans hk3 (fun _ h => .inl h)⟩
def OwnO (w : World) (base : Nat) (e : TypeId) (v : Value) (xs : List Value) : Prop :=
 ∃ g o cap cur, v = .slice (some ⟨g, o, none⟩) xs.length cap ∧ base ≤ g ∧ w.heap[g]? = some (.cells cur e (0, 0)) ∧ xs.length ≤ cap ∧ o + cap ≤ maxLen ∧ o + cap ≤ cur.size ∧ (cur.toList.drop o).take xs.length = xs
theorem OwnO.of {w : World} {base e : Nat} {v : Value} {n : Nat} {xs : List Value} (h : w.ownsRow base e 1 v n xs) (hn : 0 < n) : OwnO w base e v xs := by
 obtain ⟨h1, h2⟩ := h
 rw [Nat.mul_one] at h1
 rcases h2 with ⟨-, h0⟩ | ⟨g, cap, cur, hv, hb, hg, hc, hm, hs, ht⟩
 · omega
 · rw [Nat.mul_one] at hs ht
   subst h1
   exact ⟨g, 0, cap, cur, hv, hb, hg, hc, by omega, by omega, by rw [List.drop_zero]; exact ht⟩
theorem OwnO.keep {w w' : World} {base e : Nat} {v : Value} {xs : List Value} {S : Nat → Prop} (h : OwnO w base e v xs) (hk : zaa S w w') (hS : ∀ b, v.ownBlock = some b → ¬ S b) : OwnO w' base e v xs := by
 obtain ⟨g, o, cap, cur, rfl, hb, hg, r⟩ := h
 exact ⟨g, o, cap, cur, rfl, hb, hk.obj hg (hS g rfl), r⟩
theorem OwnO.lt {w : World} {base e : Nat} {v : Value} {xs : List Value} (h : OwnO w base e v xs) : ∀ b, v.ownBlock = some b → base ≤ b ∧ b < w.heap.size := by
 obtain ⟨g, o, cap, cur, rfl, hb, hg, -⟩ := h
 intro b h
 simp [Value.ownBlock] at h
 subst h
 exact ⟨hb, (Array.getElem?_eq_some_iff.1 hg).1⟩
theorem OwnO.row {w : World} {base e : Nat} {v : Value} {xs : List Value} (h : OwnO w base e v xs) : ∃ g o cap, v = .slice (some ⟨g, o, none⟩) xs.length cap ∧ Row w 1 (some ⟨g, o, none⟩) xs.length cap xs ∧ base ≤ g ∧ g < w.heap.size := by
 obtain ⟨g, o, cap, cur, rfl, hb, hg, hc, hm, hs, ht⟩ := h
 refine ⟨g, o, cap, rfl, ⟨by rw [Nat.mul_one], hc, by omega, fun e => (by cases e), fun _ => ⟨g, o, rfl, (Array.getElem?_eq_some_iff.1 hg).1, fun j u hj => ?_⟩⟩, hb, (Array.getElem?_eq_some_iff.1 hg).1⟩
 rw [cell_of_row w g _ _ e (0, 0) hg]
 rw [← ht, List.getElem?_take] at hj
 split at hj
 · rw [List.getElem?_drop] at hj
   rw [← Array.getElem?_toList]; exact hj
 · cases hj
theorem zer {P : Program} (w : World) (t ty e : TypeId) (i : TypeInfo) (ht : P.underlying t = some (.slice e)) (hi : P.info? e = some i) (h1i : i.size = 1)
   (g o sLen sCap : Nat) (cur : Array Value) (hg : w.heap[g]? = some (.cells cur e (0, 0)))
   (a : Addr) (c : Nat) (u : Value) (hu : w.cell? a = some u) (h1 : u.oneCell' = true) (hroom : sLen + 1 ≤ sCap) (hfit : o + sLen + 1 ≤ cur.size) :
   (Builtin.append_ #[t, t] ty #[.slice (some ⟨g, o, none⟩) sLen sCap, .slice (some a) 1 c]).run P w =
     .ok (.slice (some ⟨g, o, none⟩) (sLen + 1) sCap) (w.setRow g (cur.toList.take (o + sLen) ++ [u] ++ cur.toList.drop (o + sLen + 1)).toArray) := by
 have hadd : a.add 0 = a := by cases a; unfold Addr.add; split <;> simp_all
 have hf := run_firstCells_some (P := P) w i.size 1 a 1 c [u] (by rw [h1i]; rfl) (fun j v hj => by
   obtain ⟨rfl, rfl⟩ : j = 0 ∧ v = u := by
     cases j with
     | zero => simp at hj; exact ⟨rfl, hj.symm⟩
     | succ j => simp at hj
   rw [hadd]; exact hu)
 have hst := run_storeCells_at P g (o + sLen) e [u] 0 cur w hg (by simpa using hfit) (fun v hv => by rw [List.mem_singleton.1 hv]; exact h1)
 simp only [Nat.add_zero, List.length_singleton] at hst
 rw [h1i] at hf
 simp only [List.append_assoc, List.singleton_append] at hst ⊢
 simp [Builtin.append_, run_underlying ht, sizeOf, typeInfo, hi, Builtin.lenOf, hroom, hf, Addr.add_lit, hst, h1i]
theorem ze6 {P : Program} {w : World} {o : Oper} {a : Act} {K : Act → World → Prop} {Q : Exit → Act → World → Prop} {t e : TypeId} {z : Value} {bytes : Nat} (T : zcJ P t e z 1 bytes)
   (s x : Operand) (ho : o.op = .call { callee := .builtin .append, args := #[s, x], argTypes := #[t, t] })
   (base : Nat) (v : Value) (xs : List Value) (hs : a.eval s = v) (hown : OwnO w base e v xs)
   (ad : Addr) (c : Nat) (u : Value) (hx : a.eval x = .slice (some ad) 1 c) (hu : w.cell? ad = some u) (h1 : u.oneCell' = true)
   (h63 : xs.length + 1 ≤ maxLen) (hbytes : (xs.length + 1) * bytes ≤ 140737488355328) (hbase : base ≤ w.heap.size)
   (h : ∀ g off cap w', OwnO w' base e (.slice (some ⟨g, off, none⟩) (xs.length + 1) cap) (xs ++ [u]) → w.grownBy w' v.ownBlock → v.ownBlock = some g ∨ w.heap.size ≤ g → (∀ b k y, w.cell? ⟨b, k, none⟩ = some y → (∀ g o n c, v = .slice (some ⟨g, o, none⟩) n c → b ≠ g ∨ k < o + n ∨ c ≤ n) → w'.cell? ⟨b, k, none⟩ = some y) → K (a.put o.dst (.slice (some ⟨g, off, none⟩) (xs.length + 1) cap)) w') : o.wp P a w K Q := by
 obtain ⟨i, hi, hz, hs', hb⟩ := info_parts T.info
 subst hb
 have hrow := hown.row
 obtain ⟨g, off, cap, cur, rfl, hbg, hg, hnc, hcm, hcs, htk⟩ := hown
 have hadd : ad.add 0 = ad := by cases ad; unfold Addr.add; split <;> simp_all
 by_cases hroom : xs.length + 1 ≤ cap
 · have hrun := zer (P := P) w t o.type e i T.und hi hs' g off xs.length cap cur hg ad c u hu h1 hroom (by omega)
   unfold Oper.wp
   simp [execOp, ho, resolve, invoke, builtin, hs, hx, hrun, Result.andThen]
   refine h g off cap _ ⟨g, off, cap, (cur.toList.take (off + xs.length) ++ u :: cur.toList.drop (off + xs.length + 1)).toArray, by simp, hbg, ?_, by simpa using hroom, hcm, ?_, ?_⟩ ?_ (.inl rfl) (fun b k y hy hc => ?_)
   · exact setRow_heap w g _ _ e (0, 0) hg
   · simp; omega
   · rw [List.toList_toArray, List.drop_append_of_le_length (by simp; omega), List.length_append, List.length_singleton]
     rw [List.drop_take, show off + xs.length - off = xs.length from by omega, htk]
     rw [show xs ++ u :: cur.toList.drop (off + xs.length + 1) = (xs ++ [u]) ++ cur.toList.drop (off + xs.length + 1) from by simp, List.take_left' (by simp)]
   · exact ⟨rfl, rfl, rfl, by simp [World.setRow], fun k hk hne => setRow_other w g k _ (fun e => hne (by rw [e]; rfl))⟩
   · by_cases hbg : b = g
     · subst hbg
       have hk : k < off + xs.length := by
         rcases hc b off xs.length cap rfl with h1 | h1 | h1
         · exact (h1 rfl).elim
         · exact h1
         · omega
       rw [cell_of_row w b k _ e (0, 0) hg] at hy
       rw [cell_of_row _ b k _ e (0, 0) (setRow_heap w b _ _ e (0, 0) hg)]
       have hkc : k < cur.size := by omega
       rw [List.getElem?_toArray, List.getElem?_append_left (by simp; omega), List.getElem?_take_of_lt hk, Array.getElem?_toList]
       exact hy
     · rw [World.cell?_of_block (w := w) (a := ⟨b, k, none⟩) (setRow_other w g b _ hbg)]
       exact hy
 · have hgrow := run_append_grow (P := P) w t o.type e i z T.und hi hz ⟨g, off, none⟩ xs.length cap xs (by rw [hs', Nat.mul_one]) (fun j v hj => by
     obtain ⟨g2, o2, cap2, e2, hr, -, -⟩ := hrow
     simp only [Value.slice.injEq, Option.some.injEq, Addr.mk.injEq] at e2
     obtain ⟨⟨rfl, rfl, -⟩, -, rfl⟩ := e2
     have hlt : 0 < xs.length := by have := (List.getElem?_eq_some_iff.1 hj).1; omega
     obtain ⟨b, off2, hab, -, hcc⟩ := hr.2.2.2.2 hlt
     simp only [Option.some.injEq, Addr.mk.injEq, and_true] at hab
     obtain ⟨rfl, rfl⟩ := hab
     rw [Addr.add_lit]; exact hcc j v hj) ad 1 c [u] (by rw [hs']; rfl) (fun j v hj => by
     obtain ⟨rfl, rfl⟩ : j = 0 ∧ v = u := by
       cases j with
       | zero => simp at hj; exact ⟨rfl, hj.symm⟩
       | succ j => simp at hj
     rw [hadd]; exact hu) (by omega) (by simp only [maxLen] at h63; omega) (growslice_fits (by omega) hbytes)
   unfold Oper.wp
   simp [execOp, ho, resolve, invoke, builtin, hs, hx, hgrow, Result.andThen]
   have hge := grownCap_ge w (xs.length + 1) cap e
   have hle := grownCap_le_maxLen w (xs.length + 1) cap e h63
   refine h w.heap.size 0 (grownCap w (xs.length + 1) cap e) _ ⟨w.heap.size, 0, grownCap w (xs.length + 1) cap e, _, by simp, hbase, heap_alloc_new w.drew _, by simpa using hge, by omega, ?_, ?_⟩ ?_ (.inr (Nat.le_refl _)) (fun b k y hy _ => ?_)
   · simp [size_zeroCells, T.cells]; omega
   · rw [List.drop_zero]
     simp only [Array.toList_append, List.append_assoc]
     rw [← List.append_assoc, List.take_left' (by simp)]
   · exact ⟨rfl, rfl, rfl, by rw [zae]; exact Nat.le_succ _, fun k hk _ => Below.heap_alloc w.drew _ k (show k < w.drew.heap.size from hk)⟩
   · have hlt := World.block_lt_of_cell? w _ hy
     rw [World.cell?_of_block (w := w) (a := ⟨b, k, none⟩) (Below.heap_alloc w.drew _ b (show b < w.drew.heap.size from hlt))]
     exact hy
theorem zef {P : Program} {w : World} {ops : Array Oper} {o : Oper} {a : Act} {K : Act → World → Prop} {Q : Exit → Act → World → Prop} {E : Prop} {t e : TypeId} {z : Value} {bytes : Nat} (T : zcJ P t e z 1 bytes)
   (hgd : o.guard = none) (s x : Operand) (ho : o.op = .call { callee := .builtin .append, args := #[s, x], argTypes := #[t, t] })
   (base : Nat) (v : Value) (xs : List Value) (hs : a.eval s = v) (hown : OwnO w base e v xs)
   (ad : Addr) (c : Nat) (u : Value) (hx : a.eval x = .slice (some ad) 1 c) (hu : w.cell? ad = some u) (h1 : u.oneCell' = true)
   (h63 : xs.length + 1 ≤ maxLen) (hbytes : (xs.length + 1) * bytes ≤ 140737488355328) (hbase : base ≤ w.heap.size)
   (h : ∀ g off cap w', OwnO w' base e (.slice (some ⟨g, off, none⟩) (xs.length + 1) cap) (xs ++ [u]) → w.grownBy w' v.ownBlock → v.ownBlock = some g ∨ w.heap.size ≤ g → (∀ b k y, w.cell? ⟨b, k, none⟩ = some y → (∀ g o n c, v = .slice (some ⟨g, o, none⟩) n c → b ≠ g ∨ k < o + n ∨ c ≤ n) → w'.cell? ⟨b, k, none⟩ = some y) → K (a.put o.dst (.slice (some ⟨g, off, none⟩) (xs.length + 1) cap)) w') :
   if Region.wanted o (yielded ops a.tmps) = true then Oper.wp P o a w K Q else E := by
 have hw : Region.wanted o (yielded ops a.tmps) = true := by simp [Region.wanted, hgd]
 rw [if_pos hw]
 exact ze6 T s x ho base v xs hs hown ad c u hx hu h1 h63 hbytes hbase h
theorem OwnO.drop2i {w : World} {base e g o n cap : Nat} {x y : Value} {xs : List Value} (h : OwnO w base e (.slice (some ⟨g, o, none⟩) n cap) (x :: y :: xs)) : OwnO w base e (.slice (if cap = 2 then some ⟨g, o, none⟩ else some ⟨g, o + 2, none⟩) (n - 2) (cap - 2)) xs := by
 obtain ⟨g', o', cap', cur, hv, hb, hg, hc, hm, hs, ht⟩ := h
 simp only [Value.slice.injEq, Option.some.injEq, Addr.mk.injEq, and_true] at hv
 obtain ⟨⟨rfl, rfl⟩, rfl, rfl⟩ := hv
 simp only [List.length_cons] at hc ht ⊢
 by_cases h2 : cap = 2
 · subst h2
   have : xs = [] := List.eq_nil_of_length_eq_zero (by omega)
   subst this
   rw [if_pos rfl]
   exact ⟨g, o, 0, cur, by simp, hb, hg, by simp, by omega, by omega, by simp⟩
 · rw [if_neg h2]
   refine ⟨g, o + 2, cap - 2, cur, by simp, hb, hg, by omega, by omega, by omega, ?_⟩
   have := congrArg (List.drop 2) ht
   rw [List.drop_take, List.drop_drop] at this
   simpa using this
end Go.Proofs.YtngjbhejfojpbaaGreat
namespace Go.Proofs.YtngjbhejfojpbaaGreat
open Go.RowKit Go.Sort
structure SBo {α : Type} (enc : α → Value) (w0 : World) (g : Nat) (t : TypeId) (rest pre : List Value) (o : Nat) (d : Array α) (w : World) : Prop where
 grown : w0.grownBy w (some g)
 blk : w.heap[g]? = some (.cells (pre ++ (d.toList.map enc ++ rest)).toArray t (0, 0))
 len : pre.length = o
section
variable {α : Type} {enc : α → Value} {w0 w : World} {g : Nat} {t : TypeId} {rest pre : List Value} {o : Nat} {d : Array α}
theorem SBo.cell [Inhabited α] (h : SBo enc w0 g t rest pre o d w) (i : Nat) (hi : i < d.size) : w.cell? ⟨g, o + i, none⟩ = some (enc d[i]!) := by
 rw [cell_of_row w g _ _ t (0, 0) h.blk]
 have hl := h.len
 rw [List.getElem?_toArray, List.getElem?_append_right (by omega), show o + i - pre.length = i by omega]
 simp [List.getElem?_append, hi]
theorem SBo.free (h : SBo enc w0 g t rest pre o d w) (i : Nat) : w.frozen? ⟨g, o + i, none⟩ = false := frozen_of_row w g _ _ t h.blk
theorem SBo.drewN (h : SBo enc w0 g t rest pre o d w) (n : Nat) : SBo enc w0 g t rest pre o d (w.drewN n) := ⟨⟨h.grown.os, h.grown.tape, h.grown.output, h.grown.size, h.grown.block⟩, h.blk, h.len⟩
theorem SBo.set (h : SBo enc w0 g t rest pre o d w) (i : Nat) (hi : i < d.size) (x : α) : SBo enc w0 g t rest pre o (d.setIfInBounds i x) (w.setCell ⟨g, o + i, none⟩ (enc x)) := by
 refine ⟨zaO h.grown _, ?_, h.len⟩
 have hl := h.len
 rw [heap_setCell_same w g _ _ t _ h.blk, List.setIfInBounds_toArray, List.set_append_right _ _ (by omega), show o + i - pre.length = i by omega, List.set_append]
 simp [hi, List.map_set]
theorem SBo.swp [Inhabited α] (h : SBo enc w0 g t rest pre o d w) (i j : Nat) (hi : i < d.size) (hj : j < d.size) (q : Nat) :
   SBo enc w0 g t rest pre o (swp d i j) (((w.drewN q).setCell ⟨g, o + i, none⟩ (enc d[j]!)).setCell ⟨g, o + j, none⟩ (enc d[i]!)) :=
 ((h.drewN q).set i hi _).set j (by simpa using hj) _
end
end Go.Proofs.YtngjbhejfojpbaaGreat
namespace Go.Proofs.YtngjbhejfojpbaaGreat
open Go.RowKit Go.Sort
theorem zdi {α : Type} [Inhabited α] (enc : α → Value) (hE : ∀ x, ∃ n, enc x = .pointer n) (F : Value) (g cap a b n : Nat) (rest pre : List Value) (o : Nat) (d : Array α) (w0 w : World)
   (hS : SBo enc w0 g 137 rest pre o d w) (hab : a + n ≤ b) (hb : b + n ≤ d.size) (hsz : d.size < 4611686018427387904) :
   Calls Tryz.prog 118 #[.slice (some ⟨g, o, none⟩) d.size cap, .int .i64 a, .int .i64 b, .int .i64 n, F] w fun e w' => e = .returned (.tuple #[]) ∧ ∃ R : Array α, R.size = d.size ∧ SBo enc w0 g 137 rest pre o R w' ∧ (∀ k, R[k]! = swR d a b n k) ∧ PermIn a (b + n) d R := by
 have HS := Lib.hid hS
 clear hS
 go_enter Tryz.func118, Tryz.ntmps118
 go_wp2
 go_loopw [10] (fun vi wr => ∃ (i : Nat) (dk : Array α), vi = .int .i64 i ∧ i ≤ n ∧ dk.size = d.size ∧ Hid (SBo enc w0 g 137 rest pre o dk wr) ∧ Hid (∀ k, dk[k]! = swR d a b i k) ∧ Hid (PermIn a (b + n) d dk)) (fun vi _ => n - (intOf vi).toNat)
 case atStart => exact ⟨0, d, rfl, by omega, rfl, HS, Lib.hid (fun k => (swR_zero d a b k).symm), Lib.hid (permIn_refl _ _ _)⟩
 case round =>
   obtain ⟨i, dk, rfl, hin, hsk, HSk, HR, HP⟩ := hrel
   clear HS
   by_cases hlt : i < n
   · have hc1 := HSk.out.cell (a + i) (by omega)
     have hc2 := HSk.out.cell (b + i) (by omega)
     have hf1 := HSk.out.free (a + i)
     have hf2 := HSk.out.free (b + i)
     obtain ⟨X, hX⟩ : ∃ X, X = dk[a + i]! := ⟨_, rfl⟩
     obtain ⟨Y, hY⟩ : ∃ Y, Y = dk[b + i]! := ⟨_, rfl⟩
     rw [← hX] at hc1
     rw [← hY] at hc2
     have HX := Lib.hid hX
     have HY := Lib.hid hY
     obtain ⟨x, hx⟩ := hE X
     obtain ⟨y, hy⟩ := hE Y
     rw [hx] at hc1
     rw [hy] at hc2
     have HEx := Lib.hid hx
     have HEy := Lib.hid hy
     clear hx hy hX hY
     have hj1 : ((a : Int) + (i : Int)).toNat = a + i := by omega
     have hj2 : ((b : Int) + (i : Int)).toNat = b + i := by omega
     have hb1 : (a : Int) + (i : Int) < (d.size : Int) := by omega
     have hb2 : (b : Int) + (i : Int) < (d.size : Int) := by omega
     go_wp2
     go_region
     all_goals go_wp2
     go_roundw
     case rel =>
       refine ⟨i + 1, swp dk (a + i) (b + i), by go_num, by omega, by rw [size_swp]; exact hsk, ?_, Lib.hid (swR_step d dk a b n i hlt hab (by omega) HR.out), Lib.hid (permIn_trans _ _ _ _ _ HP.out (swp_permIn dk a (b + n) (a + i) (b + i) (by omega) (by omega) (by omega) (by omega) (by omega)))⟩
       have hw := HSk.out.swp (a + i) (b + i) (by omega) (by omega) 1
       rw [← HX.out, ← HY.out, HEx.out, HEy.out] at hw
       exact Lib.hid hw
     case measure => simp [intOf]; omega
   · obtain rfl : n = i := by omega
     go_wp2
     go_end0
     exact ⟨rfl, dk, hsk, HSk.out, HR.out, HP.out⟩
theorem rot_anyN {α : Type} [Inhabited α] (enc : α → Value) (hE : ∀ x, ∃ n, enc x = .pointer n) (F : Value) (g cap a m b : Nat) (rest pre : List Value) (o : Nat) (d : Array α) (w0 w : World)
   (hS : SBo enc w0 g 137 rest pre o d w) (ham : a < m) (hmb : m < b) (hb : b ≤ d.size) (hsz : d.size < 4611686018427387904) :
   Calls Tryz.prog 112 #[.slice (some ⟨g, o, none⟩) d.size cap, .int .i64 a, .int .i64 m, .int .i64 b, F] w fun e w' => e = .returned (.tuple #[]) ∧ ∃ R : Array α, R.size = d.size ∧ SBo enc w0 g 137 rest pre o R w' ∧ (∀ k, R[k]! = rotF d a m b k) ∧ PermIn a b d R := by
 have HS := Lib.hid hS
 clear hS
 go_enter Tryz.func112, Tryz.ntmps112
 go_wp2
 go_loopw [10, 11] (fun vi vj wr => ∃ (i j : Nat) (dk : Array α), vi = .int .i64 i ∧ vj = .int .i64 j ∧ 0 < i ∧ 0 < j ∧ i ≤ m - a ∧ j ≤ b - m ∧ dk.size = d.size ∧ Hid (SBo enc w0 g 137 rest pre o dk wr) ∧ Hid (∀ k, rotF dk (m - i) m (m + j) k = rotF d a m b k) ∧ Hid (PermIn a b d dk)) (fun vi vj _ => (intOf vi).toNat + (intOf vj).toNat)
 case atStart => exact ⟨m - a, b - m, d, by go_num, by go_num, by omega, by omega, by omega, by omega, rfl, HS, Lib.hid (fun k => by rw [show m - (m - a) = a from by omega, show m + (b - m) = b from by omega]), Lib.hid (permIn_refl _ _ _)⟩
 case round =>
   obtain ⟨i, j, dk, rfl, rfl, hi, hj, him, hjm, hsk, HSk, HR, HP⟩ := hrel
   clear HS
   have hmi : ((m - i : Nat) : Int) = (m : Int) - i := by omega
   by_cases hgt : j < i
   · have hsw := zdi enc hE F g cap (m - i) m j rest pre o dk w0 wr HSk.out (by omega) (by omega) (by omega)
     rw [hmi, hsk] at hsw
     have HSW := Lib.hid hsw
     have hne : ((i : Int) == (j : Int)) = false := by rw [beq_eq_false_iff_ne]; omega
     clear hsw
     go_wp2_with (go_at_call 118; refine HSW.out.mono ?_; rintro e w2 ⟨rfl, R, hRs, hRB, hRk, hRP⟩; have HB2 := Lib.hid hRB; have HK2 := Lib.hid hRk; have HP2 := Lib.hid hRP; clear hRB hRk hRP)
     go_roundw
     case rel => exact ⟨i - j, j, R, by go_num, rfl, by omega, by omega, by omega, by omega, hRs, HB2, Lib.hid (fun k => by rw [rot_gt dk R m i j hgt (by omega) HK2.out k]; exact HR.out k), Lib.hid (permIn_trans _ _ _ _ _ HP.out (permIn_mono dk R (m - i) (m + j) a b (by omega) (by omega) (by omega) HP2.out))⟩
     case measure => simp [intOf]; omega
   · by_cases hlt : i < j
     · have hsw := zdi enc hE F g cap (m - i) (m + j - i) i rest pre o dk w0 wr HSk.out (by omega) (by omega) (by omega)
       rw [hmi, hsk, show ((m + j - i : Nat) : Int) = (m : Int) + j - i from by omega] at hsw
       have HSW := Lib.hid hsw
       have hne : ((i : Int) == (j : Int)) = false := by rw [beq_eq_false_iff_ne]; omega
       clear hsw
       go_wp2_with (go_at_call 118; refine HSW.out.mono ?_; rintro e w2 ⟨rfl, R, hRs, hRB, hRk, hRP⟩; have HB2 := Lib.hid hRB; have HK2 := Lib.hid hRk; have HP2 := Lib.hid hRP; clear hRB hRk hRP)
       go_roundw
       case rel => exact ⟨i, j - i, R, rfl, by go_num, by omega, by omega, by omega, by omega, hRs, HB2, Lib.hid (fun k => by rw [rot_lt dk R m i j hlt (by omega) HK2.out k]; exact HR.out k), Lib.hid (permIn_trans _ _ _ _ _ HP.out (permIn_mono dk R (m - i) (m + j - i + i) a b (by omega) (by omega) (by omega) HP2.out))⟩
       case measure => simp [intOf]; omega
     · obtain rfl : i = j := by omega
       have hsw := zdi enc hE F g cap (m - i) m i rest pre o dk w0 wr HSk.out (by omega) (by omega) (by omega)
       rw [hmi, hsk] at hsw
       have HSW := Lib.hid hsw
       clear hsw
       go_wp2_with (go_at_call 118; refine HSW.out.mono ?_; rintro e w2 ⟨rfl, R, hRs, hRB, hRk, hRP⟩; have HB2 := Lib.hid hRB; have HK2 := Lib.hid hRk; have HP2 := Lib.hid hRP; clear hRB hRk hRP)
       go_end0
       exact ⟨rfl, R, hRs, HB2.out, fun k => by rw [rot_eq dk R m i (by omega) HK2.out k]; exact HR.out k, permIn_trans _ _ _ _ _ HP.out (permIn_mono dk R (m - i) (m + i) a b (by omega) (by omega) (by omega) HP2.out)⟩
def zcC {α : Type} [Inhabited α] (enc : α → Value) (lt : α → α → Bool) (g a b : Nat) (rest pre : List Value) (o : Nat) (d : Array α) (w0 : World) (e : Ending) (w' : World) : Prop :=
 e = .returned (.tuple #[]) ∧ ∃ R : Array α, R.size = d.size ∧ SBo enc w0 g 137 rest pre o R w' ∧ PermIn a b d R ∧ SortedIn lt a b R
theorem sym_leftN {α : Type} [Inhabited α] (enc : α → Value) (hE : ∀ x, ∃ n, enc x = .pointer n) (cf : α → α → Int) (lt : α → α → Bool) (hL : SWO lt) (D : α → Prop) (f : FuncId) (cb : Array Value) (g cap a m b : Nat) (rest pre : List Value) (o : Nat) (d : Array α) (w0 w : World)
   (hC : CmpQ Tryz.prog f cb enc cf D w0 g) (hS : SBo enc w0 g 137 rest pre o d w) (hD : ∀ i, i < d.size → D d[i]!) (hm : m = a + 1) (hmb : m < b) (hb : b ≤ d.size) (hsz : d.size < 4611686018427387904)
   (h2 : SortedIn lt m b d) (hA : zbP (ltOf cf) lt d a m b) :
   Calls Tryz.prog 102 #[.slice (some ⟨g, o, none⟩) d.size cap, .int .i64 a, .int .i64 m, .int .i64 b, .func (.func f) #[] cb] w fun e w' => zcC enc lt g a b rest pre o d w0 e w' := by
 have eg := hC.enters
 have HC := Lib.hid hC
 have HS := Lib.hid hS
 have HD := Lib.hid hD
 have H2 := Lib.hid h2
 have HA := Lib.hid hA
 clear hC hS hD h2 hA
 have heq : ((m : Int) - (a : Int) == 1) = true := by rw [beq_iff_eq]; omega
 go_enter Tryz.func102, Tryz.ntmps102
 go_wp2
 go_loopw [10, 11] (fun vi vj wr => ∃ (i j : Nat), vi = .int .i64 i ∧ vj = .int .i64 j ∧ m ≤ i ∧ i ≤ j ∧ j ≤ b ∧ Hid (SBo enc w0 g 137 rest pre o d wr) ∧ Hid (∀ q, m ≤ q → q < i → lt d[q]! d[a]! = true) ∧ Hid (∀ q, j ≤ q → q < b → lt d[q]! d[a]! = false)) (fun vi vj _ => (intOf vj).toNat - (intOf vi).toNat)
 case atStart => exact ⟨m, b, rfl, rfl, Nat.le_refl _, by omega, Nat.le_refl _, HS, Lib.hid (fun q h1 h2 => by omega), Lib.hid (fun q h1 h2 => by omega)⟩
 case round =>
   obtain ⟨i, j, rfl, rfl, hai, hij, hjb, HSk, HLo, HHi⟩ := hrel
   clear HS
   by_cases hlt : i < j
   · obtain ⟨h, hh⟩ : ∃ h, h = (i + j) / 2 := ⟨_, rfl⟩
     have hc1 := HSk.out.cell h (by omega)
     have hc2 := HSk.out.cell a (by omega)
     have hcall := fun q => HC.out.calls (wr.drewN q) (HSk.out.drewN q).grown d[h]! d[a]! (HD.out h (by omega)) (HD.out a (by omega))
     have hag := HA.out a h (Nat.le_refl _) (by omega) (by omega) (by omega)
     obtain ⟨X, hX⟩ : ∃ X, X = d[h]! := ⟨_, rfl⟩
     obtain ⟨Y, hY⟩ : ∃ Y, Y = d[a]! := ⟨_, rfl⟩
     rw [← hX] at hc1 hcall hag
     rw [← hY] at hc2 hcall hag
     have HX := Lib.hid hX
     have HY := Lib.hid hY
     obtain ⟨x, hx⟩ := hE X
     obtain ⟨y, hy⟩ := hE Y
     rw [hx] at hc1 hcall
     rw [hy] at hc2 hcall
     have HCALL := Lib.hid hcall
     have HAG := Lib.hid hag
     clear hcall hx hy hX hY hag
     have hh1 : ((i : Int) + (j : Int)) / 2 = (h : Int) := by omega
     have hhb : (h : Int) < (d.size : Int) := by omega
     have hab : (a : Int) < (d.size : Int) := by omega
     have hhi : i ≤ h := by omega
     have hhj : h < j := by omega
     clear hh
     by_cases hcf : cf X Y < 0
     · have hl : lt X Y = true := by rw [← HAG.out]; simpa [ltOf] using hcf
       have HL := Lib.hid hl
       have hcf2 : cf X Y < 0 := hcf
       clear hl hcf
       go_wp2_with fail
       go_quiet ((refine Calls.quiet_of (HCALL.out _)))
       go_wp2
       go_roundw
       case rel => exact ⟨h + 1, j, by go_num, rfl, by omega, by omega, hjb, Lib.hid (HSk.out.drewN _), Lib.hid (fun q h3 h4 => low_all hL H2.out (by omega : h < b) (by rw [← HX.out, ← HY.out]; exact HL.out) q h3 (by omega)), HHi⟩
       case measure => simp [intOf]; omega
     · have hl : lt X Y = false := by rw [← HAG.out]; simpa [ltOf] using hcf
       have HL := Lib.hid hl
       have hcf2 : 0 ≤ cf X Y := by omega
       clear hl hcf
       go_wp2_with fail
       go_quiet ((refine Calls.quiet_of (HCALL.out _)))
       go_wp2
       go_roundw
       case rel => exact ⟨i, h, rfl, rfl, hai, hhi, by omega, Lib.hid (HSk.out.drewN _), HLo, Lib.hid (fun q h3 h4 => high_all hL H2.out (by omega) (by rw [← HX.out, ← HY.out]; exact HL.out) q h3 h4)⟩
       case measure => simp [intOf]; omega
   · obtain rfl : i = j := by omega
     go_wp2
     go_loopw [13] (fun vk wr2 => ∃ (k : Nat) (dk : Array α), vk = .int .i64 k ∧ a ≤ k ∧ k ≤ i - 1 ∧ dk.size = d.size ∧ Hid (SBo enc w0 g 137 rest pre o dk wr2) ∧ Hid (∀ q, dk[q]! = shlF d a k q) ∧ Hid (PermIn a b d dk)) (fun vk _ => i - (intOf vk).toNat)
     case atStart => exact ⟨a, d, rfl, Nat.le_refl _, by omega, rfl, HSk, Lib.hid (fun q => (shlF_zero d a q).symm), Lib.hid (permIn_refl _ _ _)⟩
     case round =>
       obtain ⟨k, dk, rfl, hak, hki, hsk, HSk2, HR, HP⟩ := hrel
       clear HSk
       by_cases hk : k < i - 1
       · have hc1 := HSk2.out.cell k (by omega)
         have hc2 := HSk2.out.cell (k + 1) (by omega)
         have hf1 := HSk2.out.free k
         have hf2 := HSk2.out.free (k + 1)
         obtain ⟨X, hX⟩ : ∃ X, X = dk[k]! := ⟨_, rfl⟩
         obtain ⟨Y, hY⟩ : ∃ Y, Y = dk[k + 1]! := ⟨_, rfl⟩
         rw [← hX] at hc1
         rw [← hY] at hc2
         have HX := Lib.hid hX
         have HY := Lib.hid hY
         obtain ⟨x, hx⟩ := hE X
         obtain ⟨y, hy⟩ := hE Y
         rw [hx] at hc1
         rw [hy] at hc2
         have HEx := Lib.hid hx
         have HEy := Lib.hid hy
         clear hx hy hX hY
         have hj1 : ((k : Int) + 1).toNat = k + 1 := by omega
         have hb1 : (k : Int) < (d.size : Int) := by omega
         have hb2 : (k : Int) + 1 < (d.size : Int) := by omega
         go_wp2
         go_region
         all_goals go_wp2
         go_roundw
         case rel =>
           refine ⟨k + 1, swp dk k (k + 1), by go_num, by omega, by omega, by rw [size_swp]; exact hsk, ?_, Lib.hid (shlF_step d dk a k hak (by omega) HR.out), Lib.hid (permIn_trans _ _ _ _ _ HP.out (swp_permIn dk a b k (k + 1) (by omega) (by omega) (by omega) (by omega) (by omega)))⟩
           have hw := HSk2.out.swp k (k + 1) (by omega) (by omega) 1
           rw [← HX.out, ← HY.out, HEx.out, HEy.out] at hw
           exact Lib.hid hw
         case measure => simp [intOf]; omega
       · obtain rfl : k = i - 1 := by omega
         go_wp2
         go_end0
         exact ⟨rfl, dk, hsk, HSk2.out, HP.out, left_done hL d dk a b i (by omega) hjb (by rw [← hm]; exact H2.out) (by rw [← hm]; exact HLo.out) HHi.out HR.out⟩
theorem sym_rightN {α : Type} [Inhabited α] (enc : α → Value) (hE : ∀ x, ∃ n, enc x = .pointer n) (cf : α → α → Int) (lt : α → α → Bool) (hL : SWO lt) (D : α → Prop) (f : FuncId) (cb : Array Value) (g cap a m b : Nat) (rest pre : List Value) (o : Nat) (d : Array α) (w0 w : World)
   (hC : CmpQ Tryz.prog f cb enc cf D w0 g) (hS : SBo enc w0 g 137 rest pre o d w) (hD : ∀ i, i < d.size → D d[i]!) (ham : a + 1 < m) (hbm : b = m + 1) (hb : b ≤ d.size) (hsz : d.size < 4611686018427387904)
   (h1 : SortedIn lt a m d) (hA : zbP (ltOf cf) lt d a m b) :
   Calls Tryz.prog 102 #[.slice (some ⟨g, o, none⟩) d.size cap, .int .i64 a, .int .i64 m, .int .i64 b, .func (.func f) #[] cb] w fun e w' => zcC enc lt g a b rest pre o d w0 e w' := by
 have eg := hC.enters
 have HC := Lib.hid hC
 have HS := Lib.hid hS
 have HD := Lib.hid hD
 have H1 := Lib.hid h1
 have HA := Lib.hid hA
 clear hC hS hD h1 hA
 have hne : ((m : Int) - (a : Int) == 1) = false := by rw [beq_eq_false_iff_ne]; omega
 have heq : ((b : Int) - (m : Int) == 1) = true := by rw [beq_iff_eq]; omega
 go_enter Tryz.func102, Tryz.ntmps102
 go_wp2
 go_loopw [14, 15] (fun vi vj wr => ∃ (i j : Nat), vi = .int .i64 i ∧ vj = .int .i64 j ∧ a ≤ i ∧ i ≤ j ∧ j ≤ m ∧ Hid (SBo enc w0 g 137 rest pre o d wr) ∧ Hid (∀ q, a ≤ q → q < i → lt d[m]! d[q]! = false) ∧ Hid (∀ q, j ≤ q → q < m → lt d[m]! d[q]! = true)) (fun vi vj _ => (intOf vj).toNat - (intOf vi).toNat)
 case atStart => exact ⟨a, m, rfl, rfl, Nat.le_refl _, by omega, Nat.le_refl _, HS, Lib.hid (fun q h1 h2 => by omega), Lib.hid (fun q h1 h2 => by omega)⟩
 case round =>
   obtain ⟨i, j, rfl, rfl, hai, hij, hjb, HSk, HLo, HHi⟩ := hrel
   clear HS
   by_cases hlt : i < j
   · obtain ⟨h, hh⟩ : ∃ h, h = (i + j) / 2 := ⟨_, rfl⟩
     have hc1 := HSk.out.cell m (by omega)
     have hc2 := HSk.out.cell h (by omega)
     have hcall := fun q => HC.out.calls (wr.drewN q) (HSk.out.drewN q).grown d[m]! d[h]! (HD.out m (by omega)) (HD.out h (by omega))
     have hag := HA.out h m (by omega) (by omega) (by omega) (by omega)
     obtain ⟨X, hX⟩ : ∃ X, X = d[m]! := ⟨_, rfl⟩
     obtain ⟨Y, hY⟩ : ∃ Y, Y = d[h]! := ⟨_, rfl⟩
     rw [← hX] at hc1 hcall hag
     rw [← hY] at hc2 hcall hag
     have HX := Lib.hid hX
     have HY := Lib.hid hY
     obtain ⟨x, hx⟩ := hE X
     obtain ⟨y, hy⟩ := hE Y
     rw [hx] at hc1 hcall
     rw [hy] at hc2 hcall
     have HCALL := Lib.hid hcall
     have HAG := Lib.hid hag
     clear hcall hx hy hX hY hag
     have hh1 : ((i : Int) + (j : Int)) / 2 = (h : Int) := by omega
     have hhb : (h : Int) < (d.size : Int) := by omega
     have hmd : (m : Int) < (d.size : Int) := by omega
     have hhi : i ≤ h := by omega
     have hhj : h < j := by omega
     clear hh
     by_cases hcf : cf X Y < 0
     · have hl : lt X Y = true := by rw [← HAG.out]; simpa [ltOf] using hcf
       have HL := Lib.hid hl
       have hcf2 : cf X Y < 0 := hcf
       have hcfB : decide (cf X Y < 0) = true := by rw [decide_eq_true_iff]; exact hcf
       clear hl hcf
       go_wp2_with fail
       go_quiet ((refine Calls.quiet_of (HCALL.out _)))
       go_wp2
       go_roundw
       case rel => exact ⟨i, h, rfl, rfl, hai, hhi, by omega, Lib.hid (HSk.out.drewN _), HLo, Lib.hid (fun q h3 h4 => high_all' hL H1.out (by omega) (by rw [← HX.out, ← HY.out]; exact HL.out) q h3 h4)⟩
       case measure => simp [intOf]; omega
     · have hl : lt X Y = false := by rw [← HAG.out]; simpa [ltOf] using hcf
       have HL := Lib.hid hl
       have hcf2 : 0 ≤ cf X Y := by omega
       have hcfB : decide (cf X Y < 0) = false := by rw [decide_eq_false_iff_not]; omega
       clear hl hcf
       go_wp2_with fail
       go_quiet ((refine Calls.quiet_of (HCALL.out _)))
       go_wp2
       go_roundw
       case rel => exact ⟨h + 1, j, by go_num, rfl, by omega, by omega, hjb, Lib.hid (HSk.out.drewN _), Lib.hid (fun q h3 h4 => low_all' hL H1.out (by omega : h < m) (by rw [← HX.out, ← HY.out]; exact HL.out) q h3 (by omega)), HHi⟩
       case measure => simp [intOf]; omega
   · obtain rfl : i = j := by omega
     go_wp2
     go_loopw [17] (fun vk wr2 => ∃ (k : Nat) (dk : Array α), vk = .int .i64 k ∧ i ≤ k ∧ k ≤ m ∧ dk.size = d.size ∧ Hid (SBo enc w0 g 137 rest pre o dk wr2) ∧ Hid (∀ q, dk[q]! = shrF d m k q) ∧ Hid (PermIn a b d dk)) (fun vk _ => (intOf vk).toNat)
     case atStart => exact ⟨m, d, rfl, hjb, Nat.le_refl _, rfl, HSk, Lib.hid (fun q => (shrF_zero d m q).symm), Lib.hid (permIn_refl _ _ _)⟩
     case round =>
       obtain ⟨k, dk, rfl, hik, hkm, hsk, HSk2, HR, HP⟩ := hrel
       clear HSk
       by_cases hk : i < k
       · obtain ⟨u, rfl⟩ : ∃ u, k = u + 1 := ⟨k - 1, by omega⟩
         have hc1 := HSk2.out.cell (u + 1) (by omega)
         have hc2 := HSk2.out.cell u (by omega)
         have hf1 := HSk2.out.free (u + 1)
         have hf2 := HSk2.out.free u
         obtain ⟨X, hX⟩ : ∃ X, X = dk[u + 1]! := ⟨_, rfl⟩
         obtain ⟨Y, hY⟩ : ∃ Y, Y = dk[u]! := ⟨_, rfl⟩
         rw [← hX] at hc1
         rw [← hY] at hc2
         have HX := Lib.hid hX
         have HY := Lib.hid hY
         obtain ⟨x, hx⟩ := hE X
         obtain ⟨y, hy⟩ := hE Y
         rw [hx] at hc1
         rw [hy] at hc2
         have HEx := Lib.hid hx
         have HEy := Lib.hid hy
         clear hx hy hX hY
         have hj1 : ((u : Int) + 1).toNat = u + 1 := by omega
         have hj2 : ((u : Int) + 1 - 1) = u := by omega
         have hb1 : (u : Int) < (d.size : Int) := by omega
         have hb2 : (u : Int) + 1 < (d.size : Int) := by omega
         go_wp2
         go_region
         all_goals go_wp2
         go_roundw
         case rel =>
           refine ⟨u, swp dk (u + 1) u, by go_num, by omega, by omega, by rw [size_swp]; exact hsk, ?_, Lib.hid (shrF_step d dk m u (by omega) (by omega) HR.out), Lib.hid (permIn_trans _ _ _ _ _ HP.out (swp_permIn dk a b (u + 1) u (by omega) (by omega) (by omega) (by omega) (by omega)))⟩
           have hw := HSk2.out.swp (u + 1) u (by omega) (by omega) 1
           rw [← HX.out, ← HY.out, HEx.out, HEy.out] at hw
           exact Lib.hid hw
         case measure => simp [intOf]
       · obtain rfl : i = k := by omega
         go_wp2
         go_end0
         refine ⟨rfl, dk, hsk, HSk2.out, HP.out, ?_⟩
         rw [hbm]
         exact zey hL d dk a m i hai hjb H1.out HLo.out HHi.out HR.out
def zeW {α : Type} [Inhabited α] (enc : α → Value) (cf : α → α → Int) (lt : α → α → Bool) (D : α → Prop) (f : FuncId) (cb : Array Value) (g cap : Nat) (rest pre : List Value) (o : Nat) (n : Nat) (w0 : World) (N : Nat) : Prop :=
 ∀ (a m b : Nat) (d : Array α) (w : World), b - a ≤ N → d.size = n → SBo enc w0 g 137 rest pre o d w → (∀ i, i < d.size → D d[i]!) → a < m → m < b → b ≤ n → SortedIn lt a m d → SortedIn lt m b d → zbP (ltOf cf) lt d a m b →
   Calls Tryz.prog 102 #[.slice (some ⟨g, o, none⟩) n cap, .int .i64 a, .int .i64 m, .int .i64 b, .func (.func f) #[] cb] w fun e w' => zcC enc lt g a b rest pre o d w0 e w'
def zfp {α : Type} [Inhabited α] (enc : α → Value) (lt : α → α → Bool) (f : FuncId) (cb : Array Value) (g cap : Nat) (rest pre : List Value) (o : Nat) (n : Nat) (w0 : World) (a m b mid s0 r0 : Nat) (d : Array α) : Prop :=
 ∀ (s : Nat) (wr : World), s0 ≤ s → s ≤ r0 → SBo enc w0 g 137 rest pre o d wr → (s0 < s → lt d[mid + m - s]! d[s - 1]! = false) → (s < r0 → lt d[mid + m - s - 1]! d[s]! = true) →
     ∃ e, e = mid + m - s ∧ m ≤ e ∧ e ≤ b ∧ mid ≤ e ∧ s + (e - m) = mid ∧
     (s < m → m < e → Calls Tryz.prog 112 #[.slice (some ⟨g, o, none⟩) n cap, .int .i64 s, .int .i64 m, .int .i64 e, .func (.func f) #[] cb] wr fun e1 w' => e1 = .returned (.tuple #[]) ∧ ∃ R : Array α, R.size = n ∧ SBo enc w0 g 137 rest pre o R w' ∧ (∀ k, R[k]! = rotF d s m e k) ∧ PermIn a b d R) ∧
     (∀ (R : Array α) (W : World), R.size = n → SBo enc w0 g 137 rest pre o R W → (∀ k, R[k]! = rotF d s m e k) → PermIn a b d R → a < s → s < mid → Calls Tryz.prog 102 #[.slice (some ⟨g, o, none⟩) n cap, .int .i64 a, .int .i64 s, .int .i64 mid, .func (.func f) #[] cb] W fun e1 w' => zcC enc lt g a mid rest pre o R w0 e1 w') ∧
     (∀ (R R1 : Array α) (W : World), R.size = n → R1.size = n → SBo enc w0 g 137 rest pre o R1 W → (∀ k, R[k]! = rotF d s m e k) → PermIn a b d R → PermIn a mid R R1 → mid < e → e < b → Calls Tryz.prog 102 #[.slice (some ⟨g, o, none⟩) n cap, .int .i64 mid, .int .i64 e, .int .i64 b, .func (.func f) #[] cb] W fun e1 w' => zcC enc lt g mid b rest pre o R1 w0 e1 w') ∧
     (∀ R : Array α, (∀ k, R[k]! = rotF d s m e k) → (s = a ∨ s = mid) → SortedIn lt a mid R) ∧
     (∀ R R1 : Array α, (∀ k, R[k]! = rotF d s m e k) → PermIn a mid R R1 → (e = mid ∨ e = b) → SortedIn lt mid b R1) ∧
     (∀ R R1 R2 : Array α, R.size = n → (∀ k, R[k]! = rotF d s m e k) → PermIn a b d R → PermIn a mid R R1 → SortedIn lt a mid R1 → PermIn mid b R1 R2 → SortedIn lt mid b R2 → PermIn a b d R2 ∧ SortedIn lt a b R2)
theorem sym_finN {α : Type} [Inhabited α] (enc : α → Value) (hE : ∀ x, ∃ n, enc x = .pointer n) (cf : α → α → Int) (lt : α → α → Bool) (hL : SWO lt) (D : α → Prop) (f : FuncId) (cb : Array Value) (g cap : Nat) (rest pre : List Value) (o : Nat) (n : Nat) (w0 : World) (N : Nat)
   (hsz : n < 4611686018427387904) (ih : zeW enc cf lt D f cb g cap rest pre o n w0 N)
   (a m b mid s0 r0 : Nat) (d : Array α) (hN : b - a ≤ N + 1) (hdn : d.size = n) (hD : ∀ i, i < d.size → D d[i]!) (hb : b ≤ n) (h1 : SortedIn lt a m d) (h2 : SortedIn lt m b d) (hA : zbP (ltOf cf) lt d a m b)
   (hma : a < mid) (hmB : mid < b) (hs0a : a ≤ s0) (hr0m : r0 ≤ m) (hr0d : r0 ≤ mid) (hs0b : mid + m - s0 ≤ b) (hend0 : s0 = a ∨ mid + m - s0 = b) (hend1 : r0 = m ∨ r0 = mid) : zfp enc lt f cb g cap rest pre o n w0 a m b mid s0 r0 d := by
 have HD := Lib.hid hD
 have H1 := Lib.hid h1
 have H2 := Lib.hid h2
 have HA := Lib.hid hA
 have HI := Lib.hid ih
 clear hD h1 h2 hA ih
 intro s wr h3 h4 hSB h5 h6
 refine ⟨mid + m - s, rfl, by omega, by omega, by omega, by omega, ?_, ?_, ?_, ?_, ?_, ?_⟩
 · intro h7 h8
   have h9 := rot_anyN enc hE (.func (.func f) #[] cb) g cap s m (mid + m - s) rest pre o d w0 wr hSB h7 h8 (by omega) (by omega)
   rw [hdn] at h9
   exact h9.mono fun e1 w' ⟨q1, R, q2, q3, q4, q5⟩ => ⟨q1, R, q2, q3, q4, permIn_mono d R s (mid + m - s) a b (by omega) (by omega) (by omega) q5⟩
 · intro R W hR1 hR2 hR3 hR4 h7 h8
   refine HI.out a s mid R W (by omega) hR1 hR2 (zba D (by omega) hR4 HD.out) h7 h8 (by omega) (sp1 hR3 (by omega) (by omega) H1.out) ?_ ?_
   · have := sp2 hR3 (by omega) (by omega) (by omega) H2.out
     rwa [show s + (mid + m - s - m) = mid from by omega] at this
   · have := agree_lo hR3 (a := a) (by omega) (by omega) (by omega : mid + m - s ≤ b) HA.out
     rwa [show s + (mid + m - s - m) = mid from by omega] at this
 · intro R R1 W hR1 hR2 hR3 hR4 hR5 hR6 h7 h8
   have hc : ∀ k, mid ≤ k → R1[k]! = R[k]! := fun k hk => hR6.2.1 k (by omega)
   refine HI.out mid (mid + m - s) b R1 W (by omega) hR2 hR3 (zba D (by omega) hR6 (zba D (by omega) hR5 HD.out)) h7 h8 hb ?_ ?_ ?_
   · have := sp3 hR4 (a := a) (by omega) (by omega) (by omega) H1.out
     rw [show s + (mid + m - s - m) = mid from by omega] at this
     exact zaM this (fun k h9 _ => hc k h9)
   · exact zaM (sp4 hR4 (by omega) (by omega) (by omega) H2.out) (fun k h9 _ => hc k (by omega))
   · have := agree_hi hR4 (b := b) (by omega : a ≤ s) (by omega) (by omega) HA.out
     rw [show s + (mid + m - s - m) = mid from by omega] at this
     exact zd1 this (fun k h9 _ => hc k h9)
 · intro R hR h7
   have := skip_lo hR (by omega : a ≤ s) (by omega) (by omega) (by omega : mid + m - s ≤ b) H1.out H2.out (by omega)
   rwa [show s + (mid + m - s - m) = mid from by omega] at this
 · intro R R1 hR hP h7
   have := skip_hi hR (by omega : a ≤ s) (by omega) (by omega) (by omega : mid + m - s ≤ b) H1.out H2.out (by omega)
   rw [show s + (mid + m - s - m) = mid from by omega] at this
   exact zaM this (fun k h9 _ => hP.2.1 k (by omega))
 · intro R R1 R2 hR1 hR hP p1 s1 p2 s2
   have hm2 : s + (mid + m - s - m) = mid := by omega
   refine ⟨permIn_trans _ _ _ _ _ (permIn_trans _ _ _ _ _ hP (permIn_mono R R1 a mid a b (by omega) (by omega) (by omega) p1)) (permIn_mono R1 R2 mid b a b (by omega) (by omega) (by have := p1.1; omega) p2), ?_⟩
   refine zeP hL d R R1 R2 a m b s (mid + m - s) (by omega) (by omega) (by omega) (by omega) (by omega) (by omega) H1.out H2.out hR (fun q1 q2 => h5 (by omega)) (fun q1 q2 => ?_) (by rw [hm2]; exact p1) (by rw [hm2]; exact s1) (by rw [hm2]; exact p2) (by rw [hm2]; exact s2)
   have h8 := h6 (by omega)
   cases h9 : lt d[s]! d[mid + m - s - 1]! with
   | false => rfl
   | true => have := hL.trans _ _ _ h8 h9; rw [hL.irrefl] at this; cases this
theorem sym_hiN {α : Type} [Inhabited α] (enc : α → Value) (hE : ∀ x, ∃ n, enc x = .pointer n) (cf : α → α → Int) (lt : α → α → Bool) (D : α → Prop) (f : FuncId) (cb : Array Value) (g cap : Nat) (rest pre : List Value) (o : Nat) (n : Nat) (w0 : World)
   (hC : CmpQ Tryz.prog f cb enc cf D w0 g) (hsz : n < 4611686018427387904) (a m b mid s0 r0 : Nat) (d : Array α) (w : World) (hdn : d.size = n) (hS : SBo enc w0 g 137 rest pre o d w) (hD : ∀ i, i < d.size → D d[i]!) (ham : a + 1 < m) (hmb : m + 1 < b) (hb : b ≤ n) (hA : zbP (ltOf cf) lt d a m b)
   (hmid : mid = (a + b) / 2) (hcase : mid < m) (hs0 : s0 = mid + m - b) (hr0 : r0 = mid) (hfin : zfp enc lt f cb g cap rest pre o n w0 a m b mid s0 r0 d) :
   Calls Tryz.prog 102 #[.slice (some ⟨g, o, none⟩) n cap, .int .i64 a, .int .i64 m, .int .i64 b, .func (.func f) #[] cb] w fun e w' => zcC enc lt g a b rest pre o d w0 e w' := by
 have hne1 : ((m : Int) - (a : Int) == 1) = false := by rw [beq_eq_false_iff_ne]; omega
 have hne2 : ((b : Int) - (m : Int) == 1) = false := by rw [beq_eq_false_iff_ne]; omega
 have hmid1 : ((a : Int) + (b : Int)) / 2 = (mid : Int) := by omega
 have hma : a < mid := by omega
 have hmB : mid < b := by omega
 have hsr : s0 ≤ r0 := by omega
 have hs0a : a ≤ s0 := by omega
 have hr0m : r0 ≤ m := by omega
 have hr0d : r0 ≤ mid := by omega
 have hs0b : mid + m - s0 ≤ b := by omega
 have hend0 : s0 = a ∨ mid + m - s0 = b := by omega
 have hend1 : r0 = m ∨ r0 = mid := by omega
 have eg := hC.enters
 have HC := Lib.hid hC
 have HS := Lib.hid hS
 have HD := Lib.hid hD
 have HA := Lib.hid hA
 have HS0 := Lib.hid hs0
 have HR0 := Lib.hid hr0
 have FIN := Lib.hid hfin
 clear hC hS hD hA hs0 hr0 hmid hfin
 go_enter Tryz.func102, Tryz.ntmps102
 go_wp2
 go_loopw [20, 21] (fun vs vr wr => ∃ (s r : Nat), vs = .int .i64 s ∧ vr = .int .i64 r ∧ s0 ≤ s ∧ s ≤ r ∧ r ≤ r0 ∧ Hid (SBo enc w0 g 137 rest pre o d wr) ∧ Hid (s0 < s → lt d[mid + m - s]! d[s - 1]! = false) ∧ Hid (r < r0 → lt d[mid + m - r - 1]! d[r]! = true)) (fun vs vr _ => (intOf vr).toNat - (intOf vs).toNat)
 case atStart => exact ⟨s0, r0, by have := HS0.out; go_num, by have := HR0.out; go_num, Nat.le_refl _, hsr, Nat.le_refl _, HS, Lib.hid (fun h => absurd h (Nat.lt_irrefl _)), Lib.hid (fun h => absurd h (Nat.lt_irrefl _))⟩
 case round =>
   obtain ⟨s, r, rfl, rfl, h3, h4, h5, HSk, HLo, HHi⟩ := hrel
   clear HS
   by_cases hlt : s < r
   · obtain ⟨c, hc⟩ : ∃ c, c = (s + r) / 2 := ⟨_, rfl⟩
     have hc1 := HSk.out.cell (mid + m - 1 - c) (by omega)
     have hc2 := HSk.out.cell c (by omega)
     have hcall := fun q => HC.out.calls (wr.drewN q) (HSk.out.drewN q).grown d[mid + m - 1 - c]! d[c]! (HD.out (mid + m - 1 - c) (by omega)) (HD.out c (by omega))
     have hag := HA.out c (mid + m - 1 - c) (by omega) (by omega) (by omega) (by omega)
     obtain ⟨X, hX⟩ : ∃ X, X = d[mid + m - 1 - c]! := ⟨_, rfl⟩
     obtain ⟨Y, hY⟩ : ∃ Y, Y = d[c]! := ⟨_, rfl⟩
     rw [← hX] at hc1 hcall hag
     rw [← hY] at hc2 hcall hag
     have HX := Lib.hid hX
     have HY := Lib.hid hY
     obtain ⟨x, hx⟩ := hE X
     obtain ⟨y, hy⟩ := hE Y
     rw [hx] at hc1 hcall
     rw [hy] at hc2 hcall
     have HCALL := Lib.hid hcall
     have HAG := Lib.hid hag
     clear hcall hx hy hX hY hag
     have hh1 : ((s : Int) + (r : Int)) / 2 = (c : Int) := by omega
     have hidx : ((mid : Int) + (m : Int) - 1 - (c : Int)).toNat = mid + m - 1 - c := by omega
     have hi0 : 0 ≤ (mid : Int) + (m : Int) - 1 - (c : Int) := by omega
     have hi1 : (mid : Int) + (m : Int) - 1 - (c : Int) < (n : Int) := by omega
     have hcn : (c : Int) < (n : Int) := by omega
     have hhi : s ≤ c := by omega
     have hhj : c < r := by omega
     clear hc
     by_cases hcf : cf X Y < 0
     · have hl : lt X Y = true := by rw [← HAG.out]; simpa [ltOf] using hcf
       have HL := Lib.hid hl
       have hcf2 : cf X Y < 0 := hcf
       have hcfB : decide (cf X Y < 0) = true := by rw [decide_eq_true_iff]; exact hcf
       clear hl hcf
       go_wp2_with fail
       go_quiet ((refine Calls.quiet_of (HCALL.out _)))
       go_wp2
       go_roundw
       case rel => exact ⟨s, c, rfl, rfl, h3, hhi, by omega, Lib.hid (HSk.out.drewN _), HLo, Lib.hid (fun _ => by rw [show mid + m - c - 1 = mid + m - 1 - c from by omega, ← HX.out, ← HY.out]; exact HL.out)⟩
       case measure => simp [intOf]; omega
     · have hl : lt X Y = false := by rw [← HAG.out]; simpa [ltOf] using hcf
       have HL := Lib.hid hl
       have hcf2 : 0 ≤ cf X Y := by omega
       have hcfB : decide (cf X Y < 0) = false := by rw [decide_eq_false_iff_not]; omega
       clear hl hcf
       go_wp2_with fail
       go_quiet ((refine Calls.quiet_of (HCALL.out _)))
       go_wp2
       go_roundw
       case rel => exact ⟨c + 1, r, by go_num, rfl, by omega, by omega, h5, Lib.hid (HSk.out.drewN _), Lib.hid (fun _ => by rw [show mid + m - (c + 1) = mid + m - 1 - c from by omega, Nat.add_sub_cancel, ← HX.out, ← HY.out]; exact HL.out), HHi⟩
       case measure => simp [intOf]; omega
   · obtain rfl : s = r := by omega
     obtain ⟨e, he, hme, heb, hde, hsum, FROT, FS1, FS2, FK1, FK2, FD⟩ := FIN.out s wr h3 h5 HSk.out HLo.out HHi.out
     have he1 : (mid : Int) + (m : Int) - (s : Int) = (e : Int) := by omega
     replace FROT := Lib.hid FROT
     replace FS1 := Lib.hid FS1
     replace FS2 := Lib.hid FS2
     replace FK1 := Lib.hid FK1
     replace FK2 := Lib.hid FK2
     replace FD := Lib.hid FD
     clear he
     by_cases hA1 : s < m
     · by_cases hB1 : m < e
       · by_cases hC1 : a < s
         · by_cases hE1 : e < b
           · have hq0 : (s : Int) < (mid : Int) := by omega
             have hq1 : (mid : Int) < (e : Int) := by omega
             have HROT := Lib.hid (FROT.out (by omega) (by omega))
             go_wp2_with fail
             (with_reducible refine HROT.out.mono ?_)
             rintro e1 w2 ⟨rfl, R, hRs, hRB, hRk, hRp⟩
             have HB2 := Lib.hid hRB
             have HRK := Lib.hid hRk
             have HRP := Lib.hid hRp
             clear hRB hRk hRp
             have hs1 := FS1.out R w2 hRs HB2.out HRK.out HRP.out (by omega) (by omega)
             have HS1C := Lib.hid hs1
             clear hs1
             go_wp2_with fail
             (with_reducible refine HS1C.out.mono ?_)
             rintro e2 w3 ⟨rfl, R1, hR1s', hR1B, hR1p, hR1o⟩
             have hR1s : R1.size = n := hR1s'.trans hRs
             have HB3 := Lib.hid hR1B
             have HP1 := Lib.hid hR1p
             have HO1 := Lib.hid hR1o
             clear hR1s' hR1B hR1p hR1o
             have hs2 := FS2.out R R1 w3 hRs hR1s HB3.out HRK.out HRP.out HP1.out (by omega) (by omega)
             have HS2C := Lib.hid hs2
             clear hs2
             go_wp2_with fail
             (with_reducible refine HS2C.out.mono ?_)
             rintro e3 w4 ⟨rfl, R2, hR2s', hR2B, hR2p, hR2o⟩
             have hR2s : R2.size = n := hR2s'.trans hR1s
             have HB4 := Lib.hid hR2B
             have HP2 := Lib.hid hR2p
             have HO2 := Lib.hid hR2o
             clear hR2s' hR2B hR2p hR2o
             go_wp2
             all_goals go_end0
             all_goals exact ⟨rfl, R2, hR2s.trans hdn.symm, HB4.out, FD.out R R1 R2 hRs HRK.out HRP.out HP1.out HO1.out HP2.out HO2.out⟩
           · have hq0 : (s : Int) < (mid : Int) := by omega
             have hq1 : (mid : Int) < (e : Int) := by omega
             have hq2 : (b : Int) ≤ (e : Int) := by omega
             have HROT := Lib.hid (FROT.out (by omega) (by omega))
             go_wp2_with fail
             (with_reducible refine HROT.out.mono ?_)
             rintro e1 w2 ⟨rfl, R, hRs, hRB, hRk, hRp⟩
             have HB2 := Lib.hid hRB
             have HRK := Lib.hid hRk
             have HRP := Lib.hid hRp
             clear hRB hRk hRp
             have hs1 := FS1.out R w2 hRs HB2.out HRK.out HRP.out (by omega) (by omega)
             have HS1C := Lib.hid hs1
             clear hs1
             go_wp2_with fail
             (with_reducible refine HS1C.out.mono ?_)
             rintro e2 w3 ⟨rfl, R1, hR1s', hR1B, hR1p, hR1o⟩
             have hR1s : R1.size = n := hR1s'.trans hRs
             have HB3 := Lib.hid hR1B
             have HP1 := Lib.hid hR1p
             have HO1 := Lib.hid hR1o
             clear hR1s' hR1B hR1p hR1o
             have hR2s : R1.size = n := hR1s
             have HB4 := Lib.hid HB3.out
             have HP2 := Lib.hid (permIn_refl R1 mid b)
             have HO2 := Lib.hid (FK2.out R R1 HRK.out HP1.out (by omega))
             go_wp2
             all_goals go_end0
             all_goals exact ⟨rfl, R1, hR2s.trans hdn.symm, HB4.out, FD.out R R1 R1 hRs HRK.out HRP.out HP1.out HO1.out HP2.out HO2.out⟩
         · by_cases hE1 : e < b
           · have hq0 : (s : Int) < (mid : Int) := by omega
             have hq1 : (mid : Int) < (e : Int) := by omega
             have hq2 : (s : Int) ≤ (a : Int) := by omega
             have HROT := Lib.hid (FROT.out (by omega) (by omega))
             go_wp2_with fail
             (with_reducible refine HROT.out.mono ?_)
             rintro e1 w2 ⟨rfl, R, hRs, hRB, hRk, hRp⟩
             have HB2 := Lib.hid hRB
             have HRK := Lib.hid hRk
             have HRP := Lib.hid hRp
             clear hRB hRk hRp
             have hR1s : R.size = n := hRs
             have HB3 := Lib.hid HB2.out
             have HP1 := Lib.hid (permIn_refl R a mid)
             have HO1 := Lib.hid (FK1.out R HRK.out (by omega))
             have hs2 := FS2.out R R w2 hRs hR1s HB3.out HRK.out HRP.out HP1.out (by omega) (by omega)
             have HS2C := Lib.hid hs2
             clear hs2
             go_wp2_with fail
             (with_reducible refine HS2C.out.mono ?_)
             rintro e3 w4 ⟨rfl, R2, hR2s', hR2B, hR2p, hR2o⟩
             have hR2s : R2.size = n := hR2s'.trans hR1s
             have HB4 := Lib.hid hR2B
             have HP2 := Lib.hid hR2p
             have HO2 := Lib.hid hR2o
             clear hR2s' hR2B hR2p hR2o
             go_wp2
             all_goals go_end0
             all_goals exact ⟨rfl, R2, hR2s.trans hdn.symm, HB4.out, FD.out R R R2 hRs HRK.out HRP.out HP1.out HO1.out HP2.out HO2.out⟩
           · have hq0 : (s : Int) < (mid : Int) := by omega
             have hq1 : (mid : Int) < (e : Int) := by omega
             have hq2 : (s : Int) ≤ (a : Int) := by omega
             have hq3 : (b : Int) ≤ (e : Int) := by omega
             have HROT := Lib.hid (FROT.out (by omega) (by omega))
             go_wp2_with fail
             (with_reducible refine HROT.out.mono ?_)
             rintro e1 w2 ⟨rfl, R, hRs, hRB, hRk, hRp⟩
             have HB2 := Lib.hid hRB
             have HRK := Lib.hid hRk
             have HRP := Lib.hid hRp
             clear hRB hRk hRp
             have hR1s : R.size = n := hRs
             have HB3 := Lib.hid HB2.out
             have HP1 := Lib.hid (permIn_refl R a mid)
             have HO1 := Lib.hid (FK1.out R HRK.out (by omega))
             have hR2s : R.size = n := hR1s
             have HB4 := Lib.hid HB3.out
             have HP2 := Lib.hid (permIn_refl R mid b)
             have HO2 := Lib.hid (FK2.out R R HRK.out HP1.out (by omega))
             go_wp2
             all_goals go_end0
             all_goals exact ⟨rfl, R, hR2s.trans hdn.symm, HB4.out, FD.out R R R hRs HRK.out HRP.out HP1.out HO1.out HP2.out HO2.out⟩
       · have hq0 : (e : Int) ≤ (m : Int) := by omega
         have hq1 : (mid : Int) ≤ (s : Int) := by omega
         have hq2 : (a : Int) < (s : Int) := by omega
         have hq3 : (e : Int) < (b : Int) := by omega
         have hq4 : (mid : Int) < (e : Int) := by omega
         have hRs : d.size = n := hdn
         have HB2 := Lib.hid HSk.out
         have HRK := Lib.hid (zaW d s m e (by omega) (by omega) (by omega))
         have HRP := Lib.hid (permIn_refl d a b)
         have hR1s : d.size = n := hRs
         have HB3 := Lib.hid HB2.out
         have HP1 := Lib.hid (permIn_refl d a mid)
         have HO1 := Lib.hid (FK1.out d HRK.out (by omega))
         have hs2 := FS2.out d d wr hRs hR1s HB3.out HRK.out HRP.out HP1.out (by omega) (by omega)
         have HS2C := Lib.hid hs2
         clear hs2
         go_wp2_with fail
         all_goals
           (with_reducible refine HS2C.out.mono ?_)
           rintro e3 w4 ⟨rfl, R2, hR2s', hR2B, hR2p, hR2o⟩
           have hR2s : R2.size = n := hR2s'.trans hR1s
           have HB4 := Lib.hid hR2B
           have HP2 := Lib.hid hR2p
           have HO2 := Lib.hid hR2o
           clear hR2s' hR2B hR2p hR2o
           go_wp2
           all_goals go_end0
           all_goals exact ⟨rfl, R2, hR2s.trans hdn.symm, HB4.out, FD.out d d R2 hRs HRK.out HRP.out HP1.out HO1.out HP2.out HO2.out⟩
     · by_cases hB1 : m < e
       · have hq0 : (m : Int) ≤ (s : Int) := by omega
         have hq1 : (s : Int) < (mid : Int) := by omega
         have hq2 : (a : Int) < (s : Int) := by omega
         have hq3 : (e : Int) < (b : Int) := by omega
         have hq4 : (e : Int) ≤ (mid : Int) := by omega
         have hRs : d.size = n := hdn
         have HB2 := Lib.hid HSk.out
         have HRK := Lib.hid (zaW d s m e (by omega) (by omega) (by omega))
         have HRP := Lib.hid (permIn_refl d a b)
         have hs1 := FS1.out d wr hRs HB2.out HRK.out HRP.out (by omega) (by omega)
         have HS1C := Lib.hid hs1
         clear hs1
         go_wp2_with fail
         all_goals
           (with_reducible refine HS1C.out.mono ?_)
           rintro e2 w3 ⟨rfl, R1, hR1s', hR1B, hR1p, hR1o⟩
           have hR1s : R1.size = n := hR1s'.trans hRs
           have HB3 := Lib.hid hR1B
           have HP1 := Lib.hid hR1p
           have HO1 := Lib.hid hR1o
           clear hR1s' hR1B hR1p hR1o
           have hR2s : R1.size = n := hR1s
           have HB4 := Lib.hid HB3.out
           have HP2 := Lib.hid (permIn_refl R1 mid b)
           have HO2 := Lib.hid (FK2.out d R1 HRK.out HP1.out (by omega))
           go_wp2
           all_goals go_end0
           all_goals exact ⟨rfl, R1, hR2s.trans hdn.symm, HB4.out, FD.out d R1 R1 hRs HRK.out HRP.out HP1.out HO1.out HP2.out HO2.out⟩
       · have hq0 : (m : Int) ≤ (s : Int) := by omega
         have hq1 : (e : Int) ≤ (m : Int) := by omega
         have hq2 : (mid : Int) ≤ (s : Int) := by omega
         have hq3 : (a : Int) < (s : Int) := by omega
         have hq4 : (e : Int) < (b : Int) := by omega
         have hq5 : (e : Int) ≤ (mid : Int) := by omega
         have hRs : d.size = n := hdn
         have HB2 := Lib.hid HSk.out
         have HRK := Lib.hid (zaW d s m e (by omega) (by omega) (by omega))
         have HRP := Lib.hid (permIn_refl d a b)
         have hR1s : d.size = n := hRs
         have HB3 := Lib.hid HB2.out
         have HP1 := Lib.hid (permIn_refl d a mid)
         have HO1 := Lib.hid (FK1.out d HRK.out (by omega))
         have hR2s : d.size = n := hR1s
         have HB4 := Lib.hid HB3.out
         have HP2 := Lib.hid (permIn_refl d mid b)
         have HO2 := Lib.hid (FK2.out d d HRK.out HP1.out (by omega))
         go_wp2
         all_goals
           all_goals go_end0
           all_goals exact ⟨rfl, d, hR2s.trans hdn.symm, HB4.out, FD.out d d d hRs HRK.out HRP.out HP1.out HO1.out HP2.out HO2.out⟩
theorem sym_loN {α : Type} [Inhabited α] (enc : α → Value) (hE : ∀ x, ∃ n, enc x = .pointer n) (cf : α → α → Int) (lt : α → α → Bool) (D : α → Prop) (f : FuncId) (cb : Array Value) (g cap : Nat) (rest pre : List Value) (o : Nat) (n : Nat) (w0 : World)
   (hC : CmpQ Tryz.prog f cb enc cf D w0 g) (hsz : n < 4611686018427387904) (a m b mid s0 r0 : Nat) (d : Array α) (w : World) (hdn : d.size = n) (hS : SBo enc w0 g 137 rest pre o d w) (hD : ∀ i, i < d.size → D d[i]!) (ham : a + 1 < m) (hmb : m + 1 < b) (hb : b ≤ n) (hA : zbP (ltOf cf) lt d a m b)
   (hmid : mid = (a + b) / 2) (hcase : m ≤ mid) (hs0 : s0 = a) (hr0 : r0 = m) (hfin : zfp enc lt f cb g cap rest pre o n w0 a m b mid s0 r0 d) :
   Calls Tryz.prog 102 #[.slice (some ⟨g, o, none⟩) n cap, .int .i64 a, .int .i64 m, .int .i64 b, .func (.func f) #[] cb] w fun e w' => zcC enc lt g a b rest pre o d w0 e w' := by
 have hne1 : ((m : Int) - (a : Int) == 1) = false := by rw [beq_eq_false_iff_ne]; omega
 have hne2 : ((b : Int) - (m : Int) == 1) = false := by rw [beq_eq_false_iff_ne]; omega
 have hmid1 : ((a : Int) + (b : Int)) / 2 = (mid : Int) := by omega
 have hma : a < mid := by omega
 have hmB : mid < b := by omega
 have hsr : s0 ≤ r0 := by omega
 have hs0a : a ≤ s0 := by omega
 have hr0m : r0 ≤ m := by omega
 have hr0d : r0 ≤ mid := by omega
 have hs0b : mid + m - s0 ≤ b := by omega
 have hend0 : s0 = a ∨ mid + m - s0 = b := by omega
 have hend1 : r0 = m ∨ r0 = mid := by omega
 have eg := hC.enters
 have HC := Lib.hid hC
 have HS := Lib.hid hS
 have HD := Lib.hid hD
 have HA := Lib.hid hA
 have HS0 := Lib.hid hs0
 have HR0 := Lib.hid hr0
 have FIN := Lib.hid hfin
 clear hC hS hD hA hs0 hr0 hmid hfin
 go_enter Tryz.func102, Tryz.ntmps102
 go_wp2
 go_loopw [20, 21] (fun vs vr wr => ∃ (s r : Nat), vs = .int .i64 s ∧ vr = .int .i64 r ∧ s0 ≤ s ∧ s ≤ r ∧ r ≤ r0 ∧ Hid (SBo enc w0 g 137 rest pre o d wr) ∧ Hid (s0 < s → lt d[mid + m - s]! d[s - 1]! = false) ∧ Hid (r < r0 → lt d[mid + m - r - 1]! d[r]! = true)) (fun vs vr _ => (intOf vr).toNat - (intOf vs).toNat)
 case atStart => exact ⟨s0, r0, by have := HS0.out; go_num, by have := HR0.out; go_num, Nat.le_refl _, hsr, Nat.le_refl _, HS, Lib.hid (fun h => absurd h (Nat.lt_irrefl _)), Lib.hid (fun h => absurd h (Nat.lt_irrefl _))⟩
 case round =>
   obtain ⟨s, r, rfl, rfl, h3, h4, h5, HSk, HLo, HHi⟩ := hrel
   clear HS
   by_cases hlt : s < r
   · obtain ⟨c, hc⟩ : ∃ c, c = (s + r) / 2 := ⟨_, rfl⟩
     have hc1 := HSk.out.cell (mid + m - 1 - c) (by omega)
     have hc2 := HSk.out.cell c (by omega)
     have hcall := fun q => HC.out.calls (wr.drewN q) (HSk.out.drewN q).grown d[mid + m - 1 - c]! d[c]! (HD.out (mid + m - 1 - c) (by omega)) (HD.out c (by omega))
     have hag := HA.out c (mid + m - 1 - c) (by omega) (by omega) (by omega) (by omega)
     obtain ⟨X, hX⟩ : ∃ X, X = d[mid + m - 1 - c]! := ⟨_, rfl⟩
     obtain ⟨Y, hY⟩ : ∃ Y, Y = d[c]! := ⟨_, rfl⟩
     rw [← hX] at hc1 hcall hag
     rw [← hY] at hc2 hcall hag
     have HX := Lib.hid hX
     have HY := Lib.hid hY
     obtain ⟨x, hx⟩ := hE X
     obtain ⟨y, hy⟩ := hE Y
     rw [hx] at hc1 hcall
     rw [hy] at hc2 hcall
     have HCALL := Lib.hid hcall
     have HAG := Lib.hid hag
     clear hcall hx hy hX hY hag
     have hh1 : ((s : Int) + (r : Int)) / 2 = (c : Int) := by omega
     have hidx : ((mid : Int) + (m : Int) - 1 - (c : Int)).toNat = mid + m - 1 - c := by omega
     have hi0 : 0 ≤ (mid : Int) + (m : Int) - 1 - (c : Int) := by omega
     have hi1 : (mid : Int) + (m : Int) - 1 - (c : Int) < (n : Int) := by omega
     have hcn : (c : Int) < (n : Int) := by omega
     have hhi : s ≤ c := by omega
     have hhj : c < r := by omega
     clear hc
     by_cases hcf : cf X Y < 0
     · have hl : lt X Y = true := by rw [← HAG.out]; simpa [ltOf] using hcf
       have HL := Lib.hid hl
       have hcf2 : cf X Y < 0 := hcf
       have hcfB : decide (cf X Y < 0) = true := by rw [decide_eq_true_iff]; exact hcf
       clear hl hcf
       go_wp2_with fail
       go_quiet ((refine Calls.quiet_of (HCALL.out _)))
       go_wp2
       go_roundw
       case rel => exact ⟨s, c, rfl, rfl, h3, hhi, by omega, Lib.hid (HSk.out.drewN _), HLo, Lib.hid (fun _ => by rw [show mid + m - c - 1 = mid + m - 1 - c from by omega, ← HX.out, ← HY.out]; exact HL.out)⟩
       case measure => simp [intOf]; omega
     · have hl : lt X Y = false := by rw [← HAG.out]; simpa [ltOf] using hcf
       have HL := Lib.hid hl
       have hcf2 : 0 ≤ cf X Y := by omega
       have hcfB : decide (cf X Y < 0) = false := by rw [decide_eq_false_iff_not]; omega
       clear hl hcf
       go_wp2_with fail
       go_quiet ((refine Calls.quiet_of (HCALL.out _)))
       go_wp2
       go_roundw
       case rel => exact ⟨c + 1, r, by go_num, rfl, by omega, by omega, h5, Lib.hid (HSk.out.drewN _), Lib.hid (fun _ => by rw [show mid + m - (c + 1) = mid + m - 1 - c from by omega, Nat.add_sub_cancel, ← HX.out, ← HY.out]; exact HL.out), HHi⟩
       case measure => simp [intOf]; omega
   · obtain rfl : s = r := by omega
     obtain ⟨e, he, hme, heb, hde, hsum, FROT, FS1, FS2, FK1, FK2, FD⟩ := FIN.out s wr h3 h5 HSk.out HLo.out HHi.out
     have he1 : (mid : Int) + (m : Int) - (s : Int) = (e : Int) := by omega
     replace FROT := Lib.hid FROT
     replace FS1 := Lib.hid FS1
     replace FS2 := Lib.hid FS2
     replace FK1 := Lib.hid FK1
     replace FK2 := Lib.hid FK2
     replace FD := Lib.hid FD
     clear he
     by_cases hA1 : s < m
     · by_cases hB1 : m < e
       · by_cases hC1 : a < s
         · by_cases hE1 : e < b
           · have hq0 : (s : Int) < (mid : Int) := by omega
             have hq1 : (mid : Int) < (e : Int) := by omega
             have HROT := Lib.hid (FROT.out (by omega) (by omega))
             go_wp2_with fail
             (with_reducible refine HROT.out.mono ?_)
             rintro e1 w2 ⟨rfl, R, hRs, hRB, hRk, hRp⟩
             have HB2 := Lib.hid hRB
             have HRK := Lib.hid hRk
             have HRP := Lib.hid hRp
             clear hRB hRk hRp
             have hs1 := FS1.out R w2 hRs HB2.out HRK.out HRP.out (by omega) (by omega)
             have HS1C := Lib.hid hs1
             clear hs1
             go_wp2_with fail
             (with_reducible refine HS1C.out.mono ?_)
             rintro e2 w3 ⟨rfl, R1, hR1s', hR1B, hR1p, hR1o⟩
             have hR1s : R1.size = n := hR1s'.trans hRs
             have HB3 := Lib.hid hR1B
             have HP1 := Lib.hid hR1p
             have HO1 := Lib.hid hR1o
             clear hR1s' hR1B hR1p hR1o
             have hs2 := FS2.out R R1 w3 hRs hR1s HB3.out HRK.out HRP.out HP1.out (by omega) (by omega)
             have HS2C := Lib.hid hs2
             clear hs2
             go_wp2_with fail
             (with_reducible refine HS2C.out.mono ?_)
             rintro e3 w4 ⟨rfl, R2, hR2s', hR2B, hR2p, hR2o⟩
             have hR2s : R2.size = n := hR2s'.trans hR1s
             have HB4 := Lib.hid hR2B
             have HP2 := Lib.hid hR2p
             have HO2 := Lib.hid hR2o
             clear hR2s' hR2B hR2p hR2o
             go_wp2
             all_goals go_end0
             all_goals exact ⟨rfl, R2, hR2s.trans hdn.symm, HB4.out, FD.out R R1 R2 hRs HRK.out HRP.out HP1.out HO1.out HP2.out HO2.out⟩
           · have hq0 : (s : Int) < (mid : Int) := by omega
             have hq1 : (mid : Int) < (e : Int) := by omega
             have hq2 : (b : Int) ≤ (e : Int) := by omega
             have HROT := Lib.hid (FROT.out (by omega) (by omega))
             go_wp2_with fail
             (with_reducible refine HROT.out.mono ?_)
             rintro e1 w2 ⟨rfl, R, hRs, hRB, hRk, hRp⟩
             have HB2 := Lib.hid hRB
             have HRK := Lib.hid hRk
             have HRP := Lib.hid hRp
             clear hRB hRk hRp
             have hs1 := FS1.out R w2 hRs HB2.out HRK.out HRP.out (by omega) (by omega)
             have HS1C := Lib.hid hs1
             clear hs1
             go_wp2_with fail
             (with_reducible refine HS1C.out.mono ?_)
             rintro e2 w3 ⟨rfl, R1, hR1s', hR1B, hR1p, hR1o⟩
             have hR1s : R1.size = n := hR1s'.trans hRs
             have HB3 := Lib.hid hR1B
             have HP1 := Lib.hid hR1p
             have HO1 := Lib.hid hR1o
             clear hR1s' hR1B hR1p hR1o
             have hR2s : R1.size = n := hR1s
             have HB4 := Lib.hid HB3.out
             have HP2 := Lib.hid (permIn_refl R1 mid b)
             have HO2 := Lib.hid (FK2.out R R1 HRK.out HP1.out (by omega))
             go_wp2
             all_goals go_end0
             all_goals exact ⟨rfl, R1, hR2s.trans hdn.symm, HB4.out, FD.out R R1 R1 hRs HRK.out HRP.out HP1.out HO1.out HP2.out HO2.out⟩
         · by_cases hE1 : e < b
           · have hq0 : (s : Int) < (mid : Int) := by omega
             have hq1 : (mid : Int) < (e : Int) := by omega
             have hq2 : (s : Int) ≤ (a : Int) := by omega
             have HROT := Lib.hid (FROT.out (by omega) (by omega))
             go_wp2_with fail
             (with_reducible refine HROT.out.mono ?_)
             rintro e1 w2 ⟨rfl, R, hRs, hRB, hRk, hRp⟩
             have HB2 := Lib.hid hRB
             have HRK := Lib.hid hRk
             have HRP := Lib.hid hRp
             clear hRB hRk hRp
             have hR1s : R.size = n := hRs
             have HB3 := Lib.hid HB2.out
             have HP1 := Lib.hid (permIn_refl R a mid)
             have HO1 := Lib.hid (FK1.out R HRK.out (by omega))
             have hs2 := FS2.out R R w2 hRs hR1s HB3.out HRK.out HRP.out HP1.out (by omega) (by omega)
             have HS2C := Lib.hid hs2
             clear hs2
             go_wp2_with fail
             (with_reducible refine HS2C.out.mono ?_)
             rintro e3 w4 ⟨rfl, R2, hR2s', hR2B, hR2p, hR2o⟩
             have hR2s : R2.size = n := hR2s'.trans hR1s
             have HB4 := Lib.hid hR2B
             have HP2 := Lib.hid hR2p
             have HO2 := Lib.hid hR2o
             clear hR2s' hR2B hR2p hR2o
             go_wp2
             all_goals go_end0
             all_goals exact ⟨rfl, R2, hR2s.trans hdn.symm, HB4.out, FD.out R R R2 hRs HRK.out HRP.out HP1.out HO1.out HP2.out HO2.out⟩
           · have hq0 : (s : Int) < (mid : Int) := by omega
             have hq1 : (mid : Int) < (e : Int) := by omega
             have hq2 : (s : Int) ≤ (a : Int) := by omega
             have hq3 : (b : Int) ≤ (e : Int) := by omega
             have HROT := Lib.hid (FROT.out (by omega) (by omega))
             go_wp2_with fail
             (with_reducible refine HROT.out.mono ?_)
             rintro e1 w2 ⟨rfl, R, hRs, hRB, hRk, hRp⟩
             have HB2 := Lib.hid hRB
             have HRK := Lib.hid hRk
             have HRP := Lib.hid hRp
             clear hRB hRk hRp
             have hR1s : R.size = n := hRs
             have HB3 := Lib.hid HB2.out
             have HP1 := Lib.hid (permIn_refl R a mid)
             have HO1 := Lib.hid (FK1.out R HRK.out (by omega))
             have hR2s : R.size = n := hR1s
             have HB4 := Lib.hid HB3.out
             have HP2 := Lib.hid (permIn_refl R mid b)
             have HO2 := Lib.hid (FK2.out R R HRK.out HP1.out (by omega))
             go_wp2
             all_goals go_end0
             all_goals exact ⟨rfl, R, hR2s.trans hdn.symm, HB4.out, FD.out R R R hRs HRK.out HRP.out HP1.out HO1.out HP2.out HO2.out⟩
       · have hq0 : (e : Int) ≤ (m : Int) := by omega
         have hq1 : (mid : Int) ≤ (s : Int) := by omega
         have hq2 : (a : Int) < (s : Int) := by omega
         have hq3 : (e : Int) < (b : Int) := by omega
         have hq4 : (mid : Int) < (e : Int) := by omega
         have hRs : d.size = n := hdn
         have HB2 := Lib.hid HSk.out
         have HRK := Lib.hid (zaW d s m e (by omega) (by omega) (by omega))
         have HRP := Lib.hid (permIn_refl d a b)
         have hR1s : d.size = n := hRs
         have HB3 := Lib.hid HB2.out
         have HP1 := Lib.hid (permIn_refl d a mid)
         have HO1 := Lib.hid (FK1.out d HRK.out (by omega))
         have hs2 := FS2.out d d wr hRs hR1s HB3.out HRK.out HRP.out HP1.out (by omega) (by omega)
         have HS2C := Lib.hid hs2
         clear hs2
         go_wp2_with fail
         all_goals
           (with_reducible refine HS2C.out.mono ?_)
           rintro e3 w4 ⟨rfl, R2, hR2s', hR2B, hR2p, hR2o⟩
           have hR2s : R2.size = n := hR2s'.trans hR1s
           have HB4 := Lib.hid hR2B
           have HP2 := Lib.hid hR2p
           have HO2 := Lib.hid hR2o
           clear hR2s' hR2B hR2p hR2o
           go_wp2
           all_goals go_end0
           all_goals exact ⟨rfl, R2, hR2s.trans hdn.symm, HB4.out, FD.out d d R2 hRs HRK.out HRP.out HP1.out HO1.out HP2.out HO2.out⟩
     · by_cases hB1 : m < e
       · have hq0 : (m : Int) ≤ (s : Int) := by omega
         have hq1 : (s : Int) < (mid : Int) := by omega
         have hq2 : (a : Int) < (s : Int) := by omega
         have hq3 : (e : Int) < (b : Int) := by omega
         have hq4 : (e : Int) ≤ (mid : Int) := by omega
         have hRs : d.size = n := hdn
         have HB2 := Lib.hid HSk.out
         have HRK := Lib.hid (zaW d s m e (by omega) (by omega) (by omega))
         have HRP := Lib.hid (permIn_refl d a b)
         have hs1 := FS1.out d wr hRs HB2.out HRK.out HRP.out (by omega) (by omega)
         have HS1C := Lib.hid hs1
         clear hs1
         go_wp2_with fail
         all_goals
           (with_reducible refine HS1C.out.mono ?_)
           rintro e2 w3 ⟨rfl, R1, hR1s', hR1B, hR1p, hR1o⟩
           have hR1s : R1.size = n := hR1s'.trans hRs
           have HB3 := Lib.hid hR1B
           have HP1 := Lib.hid hR1p
           have HO1 := Lib.hid hR1o
           clear hR1s' hR1B hR1p hR1o
           have hR2s : R1.size = n := hR1s
           have HB4 := Lib.hid HB3.out
           have HP2 := Lib.hid (permIn_refl R1 mid b)
           have HO2 := Lib.hid (FK2.out d R1 HRK.out HP1.out (by omega))
           go_wp2
           all_goals go_end0
           all_goals exact ⟨rfl, R1, hR2s.trans hdn.symm, HB4.out, FD.out d R1 R1 hRs HRK.out HRP.out HP1.out HO1.out HP2.out HO2.out⟩
       · have hq0 : (m : Int) ≤ (s : Int) := by omega
         have hq1 : (e : Int) ≤ (m : Int) := by omega
         have hq2 : (mid : Int) ≤ (s : Int) := by omega
         have hq3 : (a : Int) < (s : Int) := by omega
         have hq4 : (e : Int) < (b : Int) := by omega
         have hq5 : (e : Int) ≤ (mid : Int) := by omega
         have hRs : d.size = n := hdn
         have HB2 := Lib.hid HSk.out
         have HRK := Lib.hid (zaW d s m e (by omega) (by omega) (by omega))
         have HRP := Lib.hid (permIn_refl d a b)
         have hR1s : d.size = n := hRs
         have HB3 := Lib.hid HB2.out
         have HP1 := Lib.hid (permIn_refl d a mid)
         have HO1 := Lib.hid (FK1.out d HRK.out (by omega))
         have hR2s : d.size = n := hR1s
         have HB4 := Lib.hid HB3.out
         have HP2 := Lib.hid (permIn_refl d mid b)
         have HO2 := Lib.hid (FK2.out d d HRK.out HP1.out (by omega))
         go_wp2
         all_goals
           all_goals go_end0
           all_goals exact ⟨rfl, d, hR2s.trans hdn.symm, HB4.out, FD.out d d d hRs HRK.out HRP.out HP1.out HO1.out HP2.out HO2.out⟩
end Go.Proofs.YtngjbhejfojpbaaGreat
