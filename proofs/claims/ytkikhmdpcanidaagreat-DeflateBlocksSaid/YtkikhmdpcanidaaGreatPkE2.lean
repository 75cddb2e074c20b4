/-
  Our texts New2 to Sym3, in one.
-/
import Derived.Test.YtkikhmdpcanidaaGreatPkE1
import Derived.Test.YtkikhmdpcanidaaGreatProg
import Derived.BigQuiet
import Derived.Deep.QuietTactic
set_option maxRecDepth 8000
set_option maxHeartbeats 8000000
namespace Go.Proofs.YtkikhmdpcanidaaGreat
open Go.RowKit Go.Sort
def ze6 (N : Nat) : Prop :=
 ∀ (cf : Int → Int → Int) (lt2 : Int → Int → Bool) (D : Int → Prop) (f : FuncId) (cb : Array Value) (g cap : Nat) (rest : List Value) (d : Array Int) (w0 w : World), SWO lt2 →
   CmpQ Tryz.prog f cb (Value.int .i64) cf D w0 g → SB (Value.int .i64) w0 g 3 rest d w → (∀ i, i < d.size → D d[i]!) → (∀ p q, p < q → q < d.size → ltOf cf d[q]! d[p]! = lt2 d[q]! d[p]!) → d.size ≤ N →
   Calls Tryz.prog 111 #[.slice (some ⟨g, 0, none⟩) d.size cap, .func (.func f) #[] cb] w fun e w' => e = .returned (.tuple #[]) ∧ ∃ R, SB (Value.int .i64) w0 g 3 rest R w' ∧ PermIn 0 d.size d R ∧ SortedIn lt2 0 d.size R
def tbV (L C S : Value) (l : List Int) (i : Nat) : Value := if i = 0 then L else if i = 1 then C else if i = 18 then S else cnV l (i - 2)
structure IsTb (w : World) (Bl : Nat → Prop) (p : Nat) (l : List Int) : Prop where
 ex : ∃ aL cL aC cC aS cS srt, w.heap[p]? = some (.cells (fl 19 (tbV (.slice aL l.length cL) (.slice aC l.length cC) (.slice aS srt.length cS) l)).toArray 155 (0, 0)) ∧
   Row w 1 aL l.length cL (l.map (Value.int .i64)) ∧ Row w 1 aC l.length cC (fl l.length (cdV l l.length)) ∧ Row w 1 aS srt.length cS (srt.map (Value.int .i64)) ∧ SrtOf l srt ∧
   (∀ x, aL = some x → Bl x.block) ∧ (∀ x, aC = some x → Bl x.block) ∧ (∀ x, aS = some x → Bl x.block) ∧ aL ≠ none
 room : 0 ≤ zas l
 own : Bl p
theorem zeB (l : List Int) (N : Nat) : (zaf l N).Pairwise (· < ·) := by
 unfold zaf
 refine List.Pairwise.map _ (R := fun a b : Nat => a < b) (fun a b h => by omega) ?_
 exact List.Pairwise.filter _ List.pairwise_lt_range
theorem zet {xs : List Int} {i : Nat} (h : i < xs.toArray.size) : xs.toArray[i]! = xs[i]'(by simpa using h) := by
 rw [getElem!_pos xs.toArray i h]; simp
theorem sym_agree (l : List Int) (N p q : Nat) (hpq : p < q) (hq : q < (zaf l N).toArray.size) :
   ltOf (cfL l) (zaf l N).toArray[q]! (zaf l N).toArray[p]! = zbD l (zaf l N).toArray[q]! (zaf l N).toArray[p]! := by
 have hp : p < (zaf l N).toArray.size := by omega
 have h := List.pairwise_iff_getElem.1 (zeB l N) p q (by simpa using hp) (by simpa using hq) hpq
 rw [zet hq, zet hp]
 generalize (zaf l N)[p]'(by simpa using hp) = x at *
 generalize (zaf l N)[q]'(by simpa using hq) = y at *
 unfold ltOf cfL zbD cmpI
 have hyx : decide (y < x) = false := by simp; omega
 rw [hyx, Bool.and_false, Bool.or_false]
 by_cases h1 : l.getD y.toNat 0 < l.getD x.toNat 0
 · rw [if_pos h1]; simp only [List.getD] at h1; simp [h1]
 · rw [if_neg h1]
   by_cases h2 : l.getD x.toNat 0 < l.getD y.toNat 0
   · rw [if_pos h2]; simp only [List.getD] at h1; simp [h1]
   · rw [if_neg h2]; simp only [List.getD] at h1; simp [h1]
theorem counted_lit (a : Option Addr) (n cap : Nat) (l : List Int) (w : World) (hr : Row w 1 a n cap (l.map (Value.int .i64))) (hok1 : hok l = true) :
   Calls Tryz.prog 110 #[.slice a n cap] w fun e w' => e = .returned (.agg #[.int .i64 (cn l 0), .int .i64 (cn l 1), .int .i64 (cn l 2), .int .i64 (cn l 3), .int .i64 (cn l 4), .int .i64 (cn l 5), .int .i64 (cn l 6), .int .i64 (cn l 7), .int .i64 (cn l 8), .int .i64 (cn l 9), .int .i64 (cn l 10), .int .i64 (cn l 11), .int .i64 (cn l 12), .int .i64 (cn l 13), .int .i64 (cn l 14), .int .i64 (cn l 15)]) ∧ Below w.heap.size w w' :=
 zeb a n cap l w hr hok1
theorem zfv (N : Nat) (hst : ze6 N) (a : Option Addr) (n cap : Nat) (l : List Int) (w : World) (hr : Row w 1 a n cap (l.map (Value.int .i64))) (hroom : 0 ≤ zas l) (hN : n ≤ N) (ha : a ≠ none) :
   Calls Tryz.prog 82 #[.slice a n cap] w fun e w' => ∃ p, e = .returned (.tuple #[.pointer (some ⟨p, 0, none⟩), .int .i64 0]) ∧ IsTb w' (fun b => w.heap.size ≤ b ∧ b < w'.heap.size) p l ∧ Below w.heap.size w w' := by
 have hm := hr.i64
 have hl := hr.len1
 have hok1 := (zar hroom).2.2.1
 have hlen := (zar hroom).2.1
 have hn : n ≤ 320 := by omega
 have h1c : ∀ u ∈ l.map (Value.int .i64), u.oneCell' = true := ints_oneCell _ _
 have HL := Lib.hid hl
 have HR := Lib.hid hroom
 have HOK := Lib.hid hok1
 have HRow := Lib.hid hr
 clear hl hroom hok1 hr
 go_enter Tryz.func82, Tryz.ntmps82
 go_wp2_with fail
 have hbx : (w.alloc (.cells #[.slice a n cap] 34)).heap[w.heap.size]? = some (.cells #[.slice a n cap] 34 (0, 0)) := zah _ rfl
 have hb0 := zai w (.cells #[.slice a n cap] 34)
 have hr0 := HRow.out.mono hb0
 have hs0 := zad w (.cells #[.slice a n cap] 34)
 generalize w.alloc (.cells #[.slice a n cap] 34) = w0 at *
 refine (codes_ok a n cap l w0 hr0 HR.out).mono ?_
 rintro e w1 ⟨vC, rfl, hC1, hb1⟩
 obtain ⟨aC, cC, rfl, _, _⟩ := Row.of_owns hC1
 have hbx1 := za3 hb1 hbx
 have hr1 := hr0.mono hb1
 have hbw1 := hb0.trans (hb1.mono (by omega))
 have hs1 := hb1.size
 clear hbx hr0 hb0 hb1
 have HC1 := Lib.hid (zaI hC1 (show w.heap.size ≤ w0.heap.size by omega))
 have HBX1 := Lib.hid hbx1
 have HR1 := Lib.hid hr1
 have HBW1 := Lib.hid hbw1
 have hbs : w.heap.size < w1.heap.size := by omega
 clear hC1 hbx1 hr1 hbw1 hs0 hs1
 go_wp2
 have hc1 : w1.cell? ⟨w.heap.size, 0, none⟩ = some (.slice a n cap) := by rw [cell_of_row w1 _ 0 _ _ _ HBX1.out]; rfl
 go_region_held3 (fun w' => w'.cell? ⟨w.heap.size, 0, none⟩ = some (.slice a n cap)) (first | assumption | exact hc1 | exact cell?_keep (zai _ _) (by assumption)) (first
   | (go_at_call 109; refine (cloneI a n cap _ _ (HR1.out.mono (by exact Below.drew (Below.refl _ _))) h1c (by omega)).mono ?_; rintro e w2 ⟨vL, rfl, hL2, hb2, hnn⟩; obtain ⟨aL, cL, rfl, _, _⟩ := Row.of_owns hL2; have hc2 := cell?_keep hb2 (show w1.drew.cell? ⟨w.heap.size, 0, none⟩ = some (.slice a n cap) from hc1); have hr2 := (HR1.out.mono (show Below w1.heap.size w1 w1.drew from Below.drew (Below.refl _ _))).mono hb2)
   | (go_at_call 110; refine (counted_lit a n cap l _ (by assumption) HOK.out).mono ?_; rintro e w3 ⟨rfl, hb3⟩; have hc3 := cell?_keep hb3 hc2))
 have hb23 : Below w1.heap.size w1 w3 := ((Below.refl w1.heap.size w1).drew.trans hb2).trans (hb3.mono hb2.size)
 have hs3 := hb23.size
 have hLlt : ∀ x, aL = some x → x.block < w3.heap.size := fun x hx => by have := (hL2.lt x.block (by simp [Value.ownBlock, hx])).2; have := hb3.size; omega
 have hClt : ∀ x, aC = some x → x.block < w3.heap.size := fun x hx => by have := (HC1.out.lt x.block (by simp [Value.ownBlock, hx])).2; omega
 have HLLT := Lib.hid hLlt
 have HCLT := Lib.hid hClt
 clear hLlt hClt
 have hT : (w3.alloc (.cells (fl 19 (tbV (.slice aL n cL) (.slice aC n cC) (.slice none 0 0) l)).toArray 155)).heap[w3.heap.size]? = some (.cells (fl 19 (tbV (.slice aL n cL) (.slice aC n cC) (.slice none 0 0) l)).toArray 155 (0, 0)) := zah _ rfl
 have hlit : (fl 19 (tbV (.slice aL n cL) (.slice aC n cC) (.slice none 0 0) l)).toArray = #[.slice aL n cL, .slice aC n cC, .int .i64 (cn l 0), .int .i64 (cn l 1), .int .i64 (cn l 2), .int .i64 (cn l 3), .int .i64 (cn l 4), .int .i64 (cn l 5), .int .i64 (cn l 6), .int .i64 (cn l 7), .int .i64 (cn l 8), .int .i64 (cn l 9), .int .i64 (cn l 10), .int .i64 (cn l 11), .int .i64 (cn l 12), .int .i64 (cn l 13), .int .i64 (cn l 14), .int .i64 (cn l 15), .slice none 0 0] := rfl
 rw [hlit] at hT
 have hb4 := zai w3 (.cells #[.slice aL n cL, .slice aC n cC, .int .i64 (cn l 0), .int .i64 (cn l 1), .int .i64 (cn l 2), .int .i64 (cn l 3), .int .i64 (cn l 4), .int .i64 (cn l 5), .int .i64 (cn l 6), .int .i64 (cn l 7), .int .i64 (cn l 8), .int .i64 (cn l 9), .int .i64 (cn l 10), .int .i64 (cn l 11), .int .i64 (cn l 12), .int .i64 (cn l 13), .int .i64 (cn l 14), .int .i64 (cn l 15), .slice none 0 0] 155)
 have hs4 := zad w3 (.cells #[.slice aL n cL, .slice aC n cC, .int .i64 (cn l 0), .int .i64 (cn l 1), .int .i64 (cn l 2), .int .i64 (cn l 3), .int .i64 (cn l 4), .int .i64 (cn l 5), .int .i64 (cn l 6), .int .i64 (cn l 7), .int .i64 (cn l 8), .int .i64 (cn l 9), .int .i64 (cn l 10), .int .i64 (cn l 11), .int .i64 (cn l 12), .int .i64 (cn l 13), .int .i64 (cn l 14), .int .i64 (cn l 15), .slice none 0 0] 155)
 generalize (w3.alloc (.cells #[.slice aL n cL, .slice aC n cC, .int .i64 (cn l 0), .int .i64 (cn l 1), .int .i64 (cn l 2), .int .i64 (cn l 3), .int .i64 (cn l 4), .int .i64 (cn l 5), .int .i64 (cn l 6), .int .i64 (cn l 7), .int .i64 (cn l 8), .int .i64 (cn l 9), .int .i64 (cn l 10), .int .i64 (cn l 11), .int .i64 (cn l 12), .int .i64 (cn l 13), .int .i64 (cn l 14), .int .i64 (cn l 15), .slice none 0 0] 155)) = w4 at *
 rw [← hlit] at hT
 clear hlit
 have hbox := cell?_keep hb4 hc3
 have hrow4 := (hr2.mono hb3).mono hb4
 have hL4 := zab (zab hL2 hb3) hb4
 have hC4 := zab (zab HC1.out hb23) hb4
 have hbw4 := (HBW1.out.trans (hb23.mono (by omega))).trans (hb4.mono (by omega))
 have hT1 : w1.heap.size ≤ w3.heap.size := hs3
 generalize w3.heap.size = T at *
 have HBOX := Lib.hid hbox
 have HROW := Lib.hid hrow4
 have HL4 := Lib.hid hL4
 have HC4 := Lib.hid hC4
 have HBW4 := Lib.hid hbw4
 have HT := Lib.hid hT
 have HS4 := Lib.hid hs4
 have HNN := Lib.hid hnn
 clear hb2 hL2 hnn hc2 hr2 hb3 hc3 hb23 hs3 hT hb4 hs4 hbox hrow4 hL4 hC4 hbw4 HC1 HBX1 HR1 HBW1 hc1
 have hbox2 := HBOX.out
 have haT : ∀ x, a = some x → x.block < T := fun x hx => Nat.lt_of_lt_of_le (HRow.out.lt (by have := (zar HR.out).1; have := HL.out; omega) x hx) (by omega)
 have HAT := Lib.hid haT
 clear haT
 have h0n : 0 < n := by have := (zar HR.out).1; have := HL.out; omega
 go_wp2
 go_loopw [26] (fun i wr => ∃ (k : Nat) (S : Value), k ≤ n ∧ i = .int .i64 k ∧ Hid (wr.heap[T]? = some (.cells (fl 19 (tbV (.slice aL n cL) (.slice aC n cC) S l)).toArray 155 (0, 0))) ∧
     Hid (wr.ownsRow (T + 1) 3 1 S (zaf l k).length ((zaf l k).map (Value.int .i64))) ∧ Hid (Below T w4 wr)) (fun i _ => n - (intOf i).toNat)
 case atStart => exact ⟨0, .slice none 0 0, by omega, rfl, HT, Lib.hid (World.ownsRow_nil _ _ _ _), Lib.hid (Below.refl _ _)⟩
 case round =>
   obtain ⟨k, S, hk, rfl, HTk, HSk, HBk⟩ := hrel
   by_cases hlt : k < n
   · obtain ⟨b, off, rfl, hblt, hc⟩ := (HROW.out.below HBk.out HAT.out).at 0 k hlt
     have hck := hc k hlt
     have hkl : k < l.length := by rw [HL.out]; exact hlt
     have hcT := zan HTk.out 18 (by omega)
     have hfT := zaT HTk.out 18
     have hx15 := (zbf HOK.out) (l.getD k 0) (by simp [List.getD, hkl])
     have hsy := zc6 l k
     obtain ⟨aS, cS, rfl, hSr, hSb⟩ := Row.of_owns HSk.out
     have hlenS : (zaf l k).length ≤ k := by unfold zaf; rw [List.length_map]; exact Nat.le_trans (List.length_filter_le _ _) (by simp)
     obtain ⟨x, hx⟩ : ∃ x, x = l.getD k 0 := ⟨_, rfl⟩
     rw [← hx] at hck hx15 hsy
     have HSY := Lib.hid hsy
     have hszr := HBk.out.size
     have hneS : (Value.slice aS (zaf l k).length cS).ownBlock ≠ some T := fun h => by have := (HSk.out.lt T h).1; omega
     have HNES := Lib.hid hneS
     have HSB := Lib.hid hSb
     clear hneS hSb
     clear hc hx hsy hSr
     have hTs : T < wr.heap.size := (Array.getElem?_eq_some_iff.1 HTk.out).1
     unfold tbV at hcT
     simp only [Nat.reduceEqDiff, if_false, if_true] at hcT
     by_cases hp : 0 < x
     · go_wp2_with (at_builtin; refine zae ETI rfl (.tmp 37) (.tmp 39) rfl (T + 1) (Value.slice aS (zaf l k).length cS) (zaf l k).length _ rfl (HSk.out.alloc _) _ 1 _ _ rfl (zaS _ _ _) (zbN rfl) (by unfold maxLen; omega) (by omega) (by have := HS4.out; rw [zad]; omega) ?_; intro v' w5 hO5 hg5 hnil5; obtain ⟨aS', cS', rfl, _, hSb'⟩ := Row.of_owns hO5; have HO5 := Lib.hid hO5; have HG5 := Lib.hid hg5; have hT5 : w5.heap[T]? = _ := (hg5.block T (by rw [zad]; omega) (fun e => HNES.out e.symm)).trans ((Below.heap_alloc wr _ T hTs).trans HTk.out); have hcT5 := zan hT5 18 (by omega); have hfT5 := zaT hT5 18; unfold tbV at hcT5; simp only [Nat.reduceEqDiff, if_false, if_true] at hcT5; have HT5 := Lib.hid hT5; clear hO5 hg5 hnil5 hT5)
       go_roundw
       case rel =>
         refine ⟨k + 1, Value.slice aS' ((zaf l k).length + 1) cS', by omega, by go_num, ?_, ?_, ?_⟩
         · refine Lib.hid ?_
           rw [zaM HT5.out]
           exact congrArg (fun x => some (Obj.cells (List.toArray x) _ _)) (zal fun i _ => by
             unfold tbV
             by_cases h0 : i = 0
             · subst h0; simp
             · by_cases h1 : i = 1
               · subst h1; simp
               · by_cases h18 : i = 18 <;> simp [h0, h1, h18])
         · refine Lib.hid ?_
           rw [HSY.out, if_pos hp, List.length_append, List.map_append]
           refine zba HO5.out (fun h => ?_) _
           have := (HO5.out.lt T h).1
           omega
         · exact Lib.hid (((HBk.out.alloc (by omega) _).grown HG5.out (by rw [zad]; omega) (fun q hq => by have := (HSk.out.lt q hq).1; omega)).setCell (by simp) _)
       case measure => simp [intOf]; omega
     · go_wp2
       go_roundw
       case rel =>
         refine ⟨k + 1, _, by omega, by go_num, HTk, ?_, HBk⟩
         rw [HSY.out, if_neg hp, List.append_nil]
         exact HSk
       case measure => simp [intOf]; omega
   · obtain rfl : k = n := by omega
     have hkl := HL.out
     have hcT := zan HTk.out 18 (by omega)
     unfold tbV at hcT
     simp only [Nat.reduceEqDiff, if_false, if_true] at hcT
     have hLr := (Row.of_own (zab HL4.out (Below.refl _ _))).2
     have HKL := Lib.hid hkl
     clear hkl
     have done_ : ∀ (aS : Option Addr) (cS : Nat) (R : List Int) (w6 : World), w6.heap[T]? = some (.cells (fl 19 (tbV (.slice aL k cL) (.slice aC k cC) (.slice aS R.length cS) l)).toArray 155 (0, 0)) → Below T w4 w6 → Row w6 1 aS R.length cS (R.map (Value.int .i64)) → SrtOf l R → (∀ x, aS = some x → T < x.block ∧ x.block < w6.heap.size) →
         ∃ p, (Value.pointer (some ⟨T, 0, none⟩)) = .pointer (some ⟨p, 0, none⟩) ∧ IsTb w6 (fun b => w.heap.size ≤ b ∧ b < w6.heap.size) p l ∧ Below w.heap.size w w6 := by
       intro aS cS R w6 h1 h2 h3 h4 h5
       obtain ⟨aL', cL', eL, hrL, hbL⟩ := Row.of_owns HL4.out
       obtain ⟨aC', cC', eC, hrC, hbC⟩ := Row.of_owns HC4.out
       simp only [Value.slice.injEq] at eL eC
       obtain ⟨rfl, -, rfl⟩ := eL
       obtain ⟨rfl, -, rfl⟩ := eC
       have hkl := HKL.out
       subst hkl
       have hsz6 : T + 1 ≤ w6.heap.size := by have := h2.size; have := HS4.out; omega
       refine ⟨T, rfl, ⟨⟨aL, cL, aC, cC, aS, cS, R, h1, hrL.below h2 HLLT.out, hrC.below h2 HCLT.out, h3, h4, fun x hx => ?_, fun x hx => ?_, fun x hx => ?_, fun e => ?_⟩, HR.out, ?_⟩, HBW4.out.trans (h2.mono (by omega))⟩
       · have h6 : w1.heap.size ≤ x.block := hbL x hx
         have h7 := HLLT.out x hx
         exact ⟨by omega, by omega⟩
       · have h7 := HCLT.out x hx
         exact ⟨hbC x hx, by omega⟩
       · have h6 := h5 x hx
         exact ⟨by omega, h6.2⟩
       · have := hrL.2.2.2.1 e
         have := hrL.2.1
         omega
       · show w.heap.size ≤ T ∧ T < w6.heap.size
         omega
     have DONE := Lib.hid done_
     clear done_
     have hbox3 : wr.cell? ⟨w.heap.size, 0, none⟩ = some (.slice a k cap) := zam HBk.out (by omega) HBOX.out
     have hrowk := HROW.out.below HBk.out HAT.out
     have HROWK := Lib.hid hrowk
     clear hrowk
     rcases HSk.out.2 with ⟨hnil, hzero⟩ | ⟨g, cp, cur, hSv, hgT, hgb, hle, hcpm, hcur, htk⟩
     · subst hnil
       have hsl : zaf l k = [] := List.eq_nil_of_length_eq_zero hzero
       have HSL := Lib.hid hsl
       have HZ := Lib.hid hzero
       clear hsl hzero
       go_wp2_with (go_at_call 111; refine (stable_nil _ _).mono ?_; rintro e w6 ⟨rfl, rfl⟩)
       go_ret2
       have hkl := HKL.out
       have hsrt : SrtOf l [] := srt_of HOK.out #[] (by rw [hkl, HSL.out]; exact permIn_refl _ _ _) (by intro i j _ h1 h2; rw [hkl, HSL.out] at h2; simp at h2)
       obtain ⟨p, e1, e2, e3⟩ := DONE.out none 0 [] wr HTk.out HBk.out (Row.nil _ _) hsrt (fun x hx => by cases hx)
       exact ⟨p, congrArg (fun v => Ending.returned (.tuple #[v, .int .i64 0])) e1, e2, e3⟩
     · subst hSv
       have hsb : SB (Value.int .i64) wr g 3 (cur.toList.drop (zaf l k).length) (zaf l k).toArray wr := SB.start hgb (by simpa using htk)
       have hgw : g < wr.heap.size := (Array.getElem?_eq_some_iff.1 hgb).1
       have hC : CmpQ Tryz.prog 112 #[.pointer (some ⟨w.heap.size, 0, none⟩)] (Value.int .i64) (cfL l) (fun x => ∃ q : Nat, q < k ∧ x = (q : Int)) wr g := by
         refine ⟨fun _ _ => by kernel_rfl, fun W hG x y hx hy => ?_⟩
         obtain ⟨qx, hqx, rfl⟩ := hx
         obtain ⟨qy, hqy, rfl⟩ := hy
         exact cmpNew_any w.heap.size a k cap l qx qy W (hG.cell hbox3 (by simp; omega)) (HROWK.out.kept hG (fun x hx => by have := HAT.out x hx; omega)) hqx hqy
       have hstb := hst (cfL l) (zbD l) _ 112 _ g cp _ (zaf l k).toArray wr wr (zcc l) hC hsb (fun i hi => by
         rw [zet hi]
         obtain ⟨q, h1, _, h2⟩ := zcO.1 (List.getElem_mem (by simpa using hi))
         exact ⟨q, h1, h2⟩) (fun p q h1 h2 => sym_agree l k p q h1 h2) (by
         have : (zaf l k).length ≤ k := by unfold zaf; rw [List.length_map]; exact Nat.le_trans (List.length_filter_le _ _) (by simp)
         simp; omega)
       have HSTB := Lib.hid hstb
       clear hst hC hsb hstb hgb hcur htk
       go_wp2_with (go_at_call 111; refine HSTB.out.mono ?_; rintro e w6 ⟨rfl, R, hSB, hP, hSo⟩)
       go_ret2
       have hkl := HKL.out
       have hRs : R.size = (zaf l k).length := by simpa using hP.1
       have hsrt : SrtOf l R.toList := srt_of HOK.out R (by rw [hkl]; simpa using hP) (by rw [hkl]; simpa using hSo)
       have hTw : T < wr.heap.size := (Array.getElem?_eq_some_iff.1 HTk.out).1
       have hT6 : w6.heap[T]? = _ := (hSB.grown.block T hTw (by simp; omega)).trans HTk.out
       have hlen : R.toList.length = (zaf l k).length := by simpa using hRs
       obtain ⟨p, e1, e2, e3⟩ := DONE.out (some ⟨g, 0, none⟩) cp R.toList w6 (by rw [hT6, hlen]) (HBk.out.grown hSB.grown (by omega) (fun q hq => by cases hq; omega)) (by
         have hrow := hSB.row (cap := cp) (by omega) hcpm
         simpa using hrow) hsrt (fun x hx => by cases hx; exact ⟨hgT, Nat.lt_of_lt_of_le hgw hSB.grown.size⟩)
       exact ⟨p, congrArg (fun v => Ending.returned (.tuple #[v, .int .i64 0])) e1, e2, e3⟩
theorem new_bad (a : Option Addr) (n cap : Nat) (l : List Int) (w : World) (hr : Row w 1 a n cap (l.map (Value.int .i64))) (hroom : zas l < 0) :
   Calls Tryz.prog 82 #[.slice a n cap] w fun e w' => e = .returned (.tuple #[.pointer none, .int .i64 13]) ∧ Below w.heap.size w w' := by
 have hr0 := hr.mono (zai w (.cells #[.slice a n cap] 34))
 have HR0 := Lib.hid hr0
 clear hr0
 go_enter Tryz.func82, Tryz.ntmps82
 go_wp2_with (go_at_call 108; refine (codes_bad a n cap l _ HR0.out hroom).mono ?_; rintro e w' ⟨rfl, rfl⟩)
 go_ret2
 exact ⟨rfl, zai _ _⟩
theorem tdead_any (Bl : Nat → Prop) (p : Nat) (l : List Int) (w : World) (h : IsTb w Bl p l) :
   Calls Tryz.prog 122 #[.pointer (some ⟨p, 0, none⟩)] w fun e w' => e = .returned (.bool false) ∧ w = w' := by
 obtain ⟨⟨aL, cL, aC, cC, aS, cS, srt, hT, hL, hC, hS, hso, b1, b2, b3, hnn⟩, hroom, hp⟩ := h
 have hc := zan hT 0 (by omega)
 unfold tbV at hc
 simp only [if_true] at hc
 obtain ⟨x, rfl⟩ := Option.ne_none_iff_exists'.1 hnn
 have hnil := fun W : World => Lib.run_eql_slice_nil (P := Tryz.prog) W 34 3 (some x) l.length cL 0 0 Tryz.underlying34
 clear hT hL hC hS hso b1 b2 b3 hnn
 go_enter Tryz.func122, Tryz.ntmps122
 go_wp2
 go_ret
 exact ⟨rfl, rfl⟩
theorem IsTb.kept {w w' : World} {Bl : Nat → Prop} {p r : Nat} {l : List Int} (h : IsTb w Bl p l) (hg : w.grownBy w' (some r)) (hr : ¬ Bl r) : IsTb w' Bl p l := by
 obtain ⟨⟨aL, cL, aC, cC, aS, cS, srt, hT, hL, hC, hS, hso, b1, b2, b3, hnn⟩, hroom, hp⟩ := h
 have hpr : p ≠ r := fun e => hr (e ▸ hp)
 refine ⟨⟨aL, cL, aC, cC, aS, cS, srt, ?_, hL.kept hg (fun x hx e => hr (e ▸ b1 x hx)), hC.kept hg (fun x hx e => hr (e ▸ b2 x hx)), hS.kept hg (fun x hx e => hr (e ▸ b3 x hx)), hso, b1, b2, b3, hnn⟩, hroom, hp⟩
 rw [hg.block p (Array.getElem?_eq_some_iff.1 hT).1 (by simpa using hpr)]
 exact hT
theorem IsTb.mono {w w' : World} {Bl : Nat → Prop} {p : Nat} {l : List Int} (h : IsTb w Bl p l) (hb : Below w.heap.size w w') : IsTb w' Bl p l := by
 obtain ⟨⟨aL, cL, aC, cC, aS, cS, srt, hT, hL, hC, hS, hso, b1, b2, b3, hnn⟩, hroom, hp⟩ := h
 exact ⟨⟨aL, cL, aC, cC, aS, cS, srt, za3 hb hT, hL.mono hb, hC.mono hb, hS.mono hb, hso, b1, b2, b3, hnn⟩, hroom, hp⟩
theorem IsTb.weaken {w : World} {Bl Bl' : Nat → Prop} {p : Nat} {l : List Int} (h : IsTb w Bl p l) (hB : ∀ b, Bl b → Bl' b) : IsTb w Bl' p l := by
 obtain ⟨⟨aL, cL, aC, cC, aS, cS, srt, hT, hL, hC, hS, hso, b1, b2, b3, hnn⟩, hroom, hp⟩ := h
 exact ⟨⟨aL, cL, aC, cC, aS, cS, srt, hT, hL, hC, hS, hso, fun x hx => hB _ (b1 x hx), fun x hx => hB _ (b2 x hx), fun x hx => hB _ (b3 x hx), hnn⟩, hroom, hB _ hp⟩
theorem getV_one (f : Nat → Bool) (high : Bool) : getV f high 1 1 = if f 0 then 1 else 0 := by
 cases high <;> simp [getV, zbv]
theorem get_cut (r n : Nat) (bs : List UInt8) (high : Bool) (at_ : Nat) (w : World) (h : IsRd w r bs high at_) (hn : n ≤ 32) (hgt : 8 * bs.length < at_ + n) :
   Calls Tryz.prog 95 #[.pointer (some ⟨r, 0, none⟩), .int .i64 n] w fun e w' => e = .returned (.tuple #[.int .u32 0, .int .i64 10]) ∧ ∃ q, w' = w.drewN q := by
 have hdead := zct r bs high at_ w h
 have hleft := left_any r bs high at_ w h
 have hle := h.le
 have hN : decide (8 * bs.length - at_ < n) = true := by simp; omega
 have hN1 : decide ((n : Int) < 0) = false := by simp
 have hN2 : decide (32 < (n : Int)) = false := by simp; omega
 have HD := Lib.hid hdead
 have HL := Lib.hid hleft
 clear hdead hleft h
 go_enter Tryz.func95, Tryz.ntmps95
 go_wp2_with (first
   | (go_at_call 65; refine HD.out.mono ?_; rintro e w' ⟨rfl, rfl⟩)
   | (go_at_call 123; refine HL.out.mono ?_; rintro e w' ⟨rfl, q1, rfl⟩))
 go_ret2
 exact ⟨rfl, _, rfl⟩
theorem zev (a : Nat) (ha : a < 4611686018427387904) : (BitVec.ofInt 64 (a : Int)).toNat = a := by
 rw [BitVec.ofInt_natCast, BitVec.toNat_ofNat]; exact Nat.mod_eq_of_lt (by omega)
theorem zff (a b : Nat) (ha : a < 4611686018427387904) (hb : b < 4611686018427387904) : bits .or .i64 (a : Int) (b : Int) = ((a ||| b : Nat) : Int) := by
 have hx : a ||| b < 2 ^ 62 := Nat.or_lt_two_pow (by omega) (by omega)
 show IntKind.i64.wrap ((BitVec.ofInt 64 (a : Int) ||| BitVec.ofInt 64 (b : Int)).toNat : Int) = _
 rw [BitVec.toNat_or, zev a ha, zev b hb, IntKind.wrap_i64]
 omega
theorem or_shl (v x : Nat) (hv : v < 65536) (hx : x < 2) : bits .or .i64 ((v : Int) * 2) (x : Int) = (v : Int) * 2 + x := by
 have e : ((v : Int) * 2) = ((v * 2 : Nat) : Int) := by omega
 rw [e, zff _ _ (by omega) (by omega), nat_join 1 (v * 2) x (by omega) (by omega)]
 omega
theorem get_one (r : Nat) (bs : List UInt8) (high : Bool) (at_ : Nat) (w : World) (h : IsRd w r bs high at_) (b : Bool) (hb : zaG bs high at_ = b) (hle2 : at_ + 1 ≤ 8 * bs.length) :
   Calls Tryz.prog 95 #[.pointer (some ⟨r, 0, none⟩), .int .i64 1] w fun e w' => e = .returned (.tuple #[.int .u32 (if b then 1 else 0), .int .i64 0]) ∧ IsRd w' r bs high (at_ + 1) ∧ w.grownBy w' (some r) :=
 (get_ok r 1 bs high at_ w h (by omega) hle2).mono fun e w' ⟨he, h1, h2⟩ => ⟨by rw [he, getV_one]; simp only [Nat.add_zero, hb]; cases b <;> rfl, h1, h2⟩
theorem tget_any (Bl : Nat → Prop) (p r : Nat) (l : List Int) (bs : List UInt8) (high : Bool) (at_ : Nat) (w : World) (hT : IsTb w Bl p l) (hR : IsRd w r bs high at_) (hrp : ¬ Bl r) :
   Calls Tryz.prog 125 #[.pointer (some ⟨p, 0, none⟩), .pointer (some ⟨r, 0, none⟩)] w fun e w' =>
     e = .returned (.tuple #[.int .i64 ((zbF l (fun k => zaG bs high (at_ + k)) (8 * bs.length - at_)).1 : Nat), .int .i64 (zbF l (fun k => zaG bs high (at_ + k)) (8 * bs.length - at_)).2.2]) ∧
     IsRd w' r bs high (at_ + (zbF l (fun k => zaG bs high (at_ + k)) (8 * bs.length - at_)).2.1) ∧ w.grownBy w' (some r) := by
 obtain ⟨V, hV⟩ : ∃ V, V = zbF l (fun k => zaG bs high (at_ + k)) (8 * bs.length - at_) := ⟨_, rfl⟩
 rw [← hV]
 have HV := Lib.hid hV
 have hdead := tdead_any Bl p l w hT
 have HD := Lib.hid hdead
 have HRd := Lib.hid hR
 have hroom := Lib.hid hT.room
 have hlen := (zar hT.room).2.1
 have hok1 := Lib.hid (zar hT.room).2.2.1
 obtain ⟨⟨aL, cL, aC, cC, aS, cS, srt, hTb, hL, hC, hS, hso, b1, b2, b3, hnn⟩, -, hpB⟩ := hT
 have hpr : p ≠ r := fun e => hrp (e ▸ hpB)
 have hSr : ∀ x, aS = some x → x.block ≠ r := fun x hx e => hrp (e ▸ b3 x hx)
 have hcn : ∀ W, w.grownBy W (some r) → ∀ m, 1 ≤ m → m ≤ 15 → W.cell? ⟨p, 2 + m, none⟩ = some (.int .i64 (cn l m)) := fun W hW m h1 h2 => by
   have hc := zan hTb (2 + m) (by omega)
   unfold tbV at hc
   rw [if_neg (by omega), if_neg (by omega), if_neg (by omega), Nat.add_sub_cancel_left] at hc
   exact hW.cell hc (by simpa using hpr)
 have hsl : ∀ W, w.grownBy W (some r) → W.cell? ⟨p, 18, none⟩ = some (.slice aS srt.length cS) := fun W hW => by
   have hc := zan hTb 18 (by omega)
   unfold tbV at hc
   simp only [Nat.reduceEqDiff, if_false, if_true] at hc
   exact hW.cell hc (by simpa using hpr)
 have hsle := Lib.hid hso.len
 have HCN := Lib.hid hcn
 have HSL := Lib.hid hsl
 have HSO := Lib.hid hso
 have HS := Lib.hid hS
 have HSR := Lib.hid hSr
 have hsrtl : srt.length ≤ 320 := by
   have h1 := hso.len
   have h2 := zcg hok1.out l.length (Nat.le_refl _)
   rw [List.take_length] at h2
   have h3 : (zaf l l.length).length ≤ l.length := by unfold zaf; rw [List.length_map]; exact Nat.le_trans (List.length_filter_le _ _) (by simp)
   omega
 clear hcn hsl hso hTb hL hC hS b1 b2 b3 hnn hpB hR hdead hrp hV hSr
 have hle := HRd.out.le
 go_enter Tryz.func125, Tryz.ntmps125
 go_wp2
 go_step3
 go_wp2_with (go_at_call 122; refine HD.out.mono ?_; rintro e w' ⟨rfl, rfl⟩)
 go_step3
 go_wp2
 go_loopw [6, 7, 8, 9] (fun cd fs at2 i wr => ∃ j : Nat, j ≤ 15 ∧ j ≤ 8 * bs.length - at_ ∧ i = .int .i64 (j + 1 : Nat) ∧ cd = .int .i64 (valN (fun k => zaG bs high (at_ + k)) j : Nat) ∧ fs = .int .i64 (zaz (cn l) j + cn l j) ∧ at2 = .int .i64 (ats l (j + 1)) ∧
     Hid (zaz (cn l) j + cn l j ≤ (valN (fun k => zaG bs high (at_ + k)) j : Nat)) ∧ Hid (V = za7 l (fun k => zaG bs high (at_ + k)) (8 * bs.length - at_) (15 - j) (j + 1)) ∧ Hid (IsRd wr r bs high (at_ + j)) ∧ Hid (w.grownBy wr (some r))) (fun _ _ _ i _ => 17 - (intOf i).toNat)
 case atStart => exact ⟨0, by omega, by omega, rfl, rfl, by simp [zaz, cn], by simp [ats, cn], Lib.hid (by simp [zaz, cn, valN]), HV, HRd, ⟨rfl, rfl, rfl, Nat.le_refl _, fun _ _ _ => rfl⟩⟩
 case round =>
   obtain ⟨j, hj, hjl, rfl, rfl, rfl, rfl, HF, HVj, HRj, HG⟩ := hrel
   by_cases hlt : j < 15
   · have hfuel : 15 - j = (15 - (j + 1)) + 1 := by omega
     have hgo := HVj.out
     rw [hfuel, za7] at hgo
     have hslr := HSL.out wr HG.out
     have hcnr := HCN.out wr HG.out (j + 1) (by omega) (by omega)
     have hal := ats_long hok1.out (n := j + 1) (by omega) (by omega)
     have hamono := zcI l (j + 1) 16 (by omega)
     have hann := ats_nonneg l (j + 1)
     have hft := zbt hroom.out (j + 1) (by omega)
     have hpw := zca (n := j + 1) (by omega)
     have hv1 := zge (fun k => zaG bs high (at_ + k)) j
     have hpj : 2 ^ j ≤ 16384 := Nat.pow_le_pow_right (n := 2) (by omega) (by omega : j ≤ 14)
     have hfj := zbt hroom.out j (by omega)
     have hcb := zcX l (j + 1)
     have hcbj := zcX l j
     have hso1 := hsle.out
     clear hfuel
     by_cases hlong : zbp l (j + 1) = false
     · rw [if_pos hlong] at hgo
       have heq : (ats l (j + 1) == (srt.length : Int)) = true := by rw [beq_iff_eq]; have := hal.2 hlong; omega
       have HGO := Lib.hid hgo
       clear hgo hal
       go_wp2
       try rw [Exit.noGoto_ret]
       go_ret2
       rw [HGO.out]
       exact ⟨rfl, HRj.out, HG.out⟩
     · rw [if_neg hlong] at hgo
       have hne : ¬ ats l (j + 1) = ats l 16 := fun e => hlong (hal.1 e)
       have heq : (ats l (j + 1) == (srt.length : Int)) = false := by rw [beq_eq_false_iff_ne]; omega
       clear hal
       by_cases hcut : 8 * bs.length - at_ < j + 1
       · rw [if_pos hcut] at hgo
         have HGO := Lib.hid hgo
         have hcc := get_cut r 1 bs high (at_ + j) wr HRj.out (by omega) (by omega)
         have HCC := Lib.hid hcc
         clear hgo hcc
         go_wp2_with (go_at_call 95; refine HCC.out.mono ?_; rintro e w2 ⟨rfl, q, rfl⟩)
         try rw [Exit.noGoto_ret]
         go_ret2
         rw [HGO.out]
         exact ⟨rfl, ⟨by obtain ⟨a, c, h1, h2, h3⟩ := HRj.out.ex; exact ⟨a, c, h1, h2, h3⟩, HRj.out.le, HRj.out.small⟩, zcl HG.out q⟩
       · rw [if_neg hcut] at hgo
         have hval : valN (fun k => zaG bs high (at_ + k)) (j + 1) = 2 * valN (fun k => zaG bs high (at_ + k)) j + if zaG bs high (at_ + j) then 1 else 0 := rfl
         have hf0 := HF.out
         obtain ⟨b, hb⟩ : ∃ b, b = zaG bs high (at_ + j) := ⟨_, rfl⟩
         rw [← hb] at hval
         have hget := get_one r bs high (at_ + j) wr HRj.out b hb.symm (by omega)
         obtain ⟨v, hv⟩ : ∃ v, v = valN (fun k => zaG bs high (at_ + k)) j := ⟨_, rfl⟩
         rw [← hv] at hval hv1 hf0
         obtain ⟨v', hv'⟩ : ∃ v', v' = valN (fun k => zaG bs high (at_ + k)) (j + 1) := ⟨_, rfl⟩
         rw [← hv'] at hval hgo
         rw [show valN (fun k => zaG bs high (at_ + k)) j = v from hv.symm] at *
         obtain ⟨c, hc0, hc1, hget', hor, hv'b⟩ : ∃ c : Int, 0 ≤ c ∧ c ≤ 1 ∧ (Calls Tryz.prog 95 #[.pointer (some ⟨r, 0, none⟩), .int .i64 1] wr fun e w' => e = .returned (.tuple #[.int .u32 c, .int .i64 0]) ∧ IsRd w' r bs high (at_ + j + 1) ∧ wr.grownBy w' (some r)) ∧
             bits .or .i64 ((v : Int) * 2) c = (v : Int) * 2 + c ∧ (v' : Int) = (v : Int) * 2 + c := by
           cases b
           · exact ⟨0, by omega, by omega, hget, or_shl v 0 (by omega) (by omega), by rw [hval]; simp; omega⟩
           · exact ⟨1, by omega, by omega, hget, or_shl v 1 (by omega) (by omega), by rw [hval]; simp; omega⟩
         have HGET := Lib.hid hget'
         have HV' := Lib.hid hv'
         clear hget hget' hb hval hv' hv b
         have hfs : zaz (cn l) (j + 1) = (zaz (cn l) j + cn l j) * 2 := rfl
         have hfl : zaz (cn l) (j + 1) ≤ (v' : Int) := by rw [hv'b, hfs]; omega
         by_cases hin : (v' : Int) - zaz (cn l) (j + 1) < cn l (j + 1)
         · obtain ⟨k, hfk, hkl, hk1, hk2⟩ := findSym_some (by omega) hfl hin
           rw [hfk] at hgo
           simp only at hgo
           have hsat := HSO.out.at_ k hkl (by omega)
           rw [hk1, Int.toNat_natCast, hk2] at hsat
           have hbnd := zcI l (j + 2) 16 (by omega)
           rw [show ats l (j + 2) = ats l (j + 1) + cn l (j + 1) from rfl] at hbnd
           have hidx : (ats l (j + 1) + ((v' : Int) - zaz (cn l) (j + 1))).toNat < srt.length := by omega
           have hidx2 : (ats l (j + 1) + ((v : Int) * 2 + c) - (zaz (cn l) j + cn l j) * 2).toNat = (ats l (j + 1) + ((v' : Int) - zaz (cn l) (j + 1))).toNat := by
             rw [hv'b, hfs]; congr 1; omega
           have hin2 : (v : Int) * 2 + c - (zaz (cn l) j + cn l j) * 2 < cn l (j + 1) := by omega
           have hlow : 0 ≤ ats l (j + 1) + ((v : Int) * 2 + c) - (zaz (cn l) j + cn l j) * 2 := by omega
           have hupp : ats l (j + 1) + ((v : Int) * 2 + c) - (zaz (cn l) j + cn l j) * 2 < (srt.length : Int) := by omega
           obtain ⟨sb, so, hsa, hsb, hscc⟩ := HS.out.at 0 _ hidx
           have hscell := hscc _ hidx
           rw [hsat, ← hidx2] at hscell
           have hsbr : sb ≠ r := HSR.out _ hsa
           have HGO := Lib.hid hgo
           have HSCELL := Lib.hid hscell
           subst hsa
           clear hgo hfk hk2 hsat hscc hscell hfs hfl hin hidx hidx2 hv'b hbnd
           go_wp2_with (go_at_call 95; refine HGET.out.mono ?_; rintro e w2 ⟨rfl, hR2, hG2⟩; have hGG := zdc HG.out hG2; have hcn2 := HCN.out w2 hGG (j + 1) (by omega) (by omega); have hsl2 := HSL.out w2 hGG; have hsc2 := hGG.cell HSCELL.out (by simpa using hsbr); have HR2 := Lib.hid hR2; have HGG := Lib.hid hGG; clear hR2 hG2 hGG)
           try rw [Exit.noGoto_ret]
           go_ret2
           rw [HGO.out]
           exact ⟨rfl, by simpa [Nat.add_assoc] using HR2.out, HGG.out⟩
         · rw [findSym_none (by omega) (fun h => hin h.2)] at hgo
           simp only at hgo
           have hin2 : cn l (j + 1) ≤ (v : Int) * 2 + c - (zaz (cn l) j + cn l j) * 2 := by omega
           have hhead : zaz (cn l) (j + 1) + cn l (j + 1) ≤ (v' : Int) := by omega
           have HGO := Lib.hid hgo
           have HFS := Lib.hid hfs
           have HVB := Lib.hid hv'b
           have HHEAD := Lib.hid hhead
           clear hgo hfs hfl hin hv'b hhead
           go_wp2_with (go_at_call 95; refine HGET.out.mono ?_; rintro e w2 ⟨rfl, hR2, hG2⟩; have hGG := zdc HG.out hG2; have hcn2 := HCN.out w2 hGG (j + 1) (by omega) (by omega); have hsl2 := HSL.out w2 hGG; have HR2 := Lib.hid hR2; have HGG := Lib.hid hGG; clear hR2 hG2 hGG)
           go_roundw
           case rel =>
             refine ⟨j + 1, by omega, by omega, by go_num, ?_, ?_, ?_, ?_, ?_, by simpa [Nat.add_assoc] using HR2, HGG⟩
             · rw [← HV'.out, HVB.out]
             · rw [HFS.out]
             · rfl
             · rw [← HV'.out]; exact HHEAD
             · exact Lib.hid HGO.out
           case measure => simp [intOf]; omega
   · obtain rfl : j = 15 := by omega
     have hgo := HVj.out
     simp only [Nat.sub_self, za7] at hgo
     have HGO := Lib.hid hgo
     clear hgo
     go_wp2
     try rw [Exit.noGoto_ret]
     go_ret2
     rw [HGO.out]
     exact ⟨rfl, HRj.out, HG.out⟩
theorem read_any (a : Option Addr) (cap : Nat) (bs : List UInt8) (high : Bool) (w : World) (hr : Row w 1 a bs.length cap (bs.map fun b => Value.int .u8 b.toNat)) (hby : bs.length ≤ 140737488355328) :
   Calls Tryz.prog 33 #[.slice a bs.length cap, .bool high] w fun e w' => ∃ r, e = .returned (.pointer (some ⟨r, 0, none⟩)) ∧ IsRd w' r bs high 0 ∧ w.heap.size ≤ r ∧ Below w.heap.size w w' := by
 have hcl := cloneB a bs.length cap _ w hr (by intro u hu; simp at hu; obtain ⟨x, _, rfl⟩ := hu; rfl) (by omega)
 have HCL := Lib.hid hcl
 clear hcl hr
 generalize hn : bs.length = n at *
 have HN := Lib.hid hn
 clear hn
 go_enter Tryz.func33, Tryz.ntmps33
 go_wp2_with (go_at_call 57; refine HCL.out.mono ?_; rintro e w1 ⟨v, rfl, hO, hb, hnn⟩; obtain ⟨a1, c1, rfl, hr1, hb1⟩ := Row.of_owns hO; have HO := Lib.hid hO; have HB := Lib.hid hb; have HR1 := Lib.hid hr1; have HB1 := Lib.hid hb1; clear hO hb hnn hr1 hb1)
 go_ret
 have hn := HN.out
 subst hn
 refine ⟨w1.heap.size, rfl, ⟨⟨a1, c1, zah _ rfl, HR1.out.mono (zai _ _), fun x hx => ?_⟩, by omega, by omega⟩, HB.out.size, HB.out.alloc (by exact HB.out.size) _⟩
 have := (HO.out.lt x.block (by simp [Value.ownBlock, hx])).2
 omega
end Go.Proofs.YtkikhmdpcanidaaGreat
namespace Go.Proofs.YtkikhmdpcanidaaGreat
open Go.RowKit
def zf5 (w : World) (v v' : Value) : Prop := ∀ b, v'.ownBlock = some b → v.ownBlock = some b ∨ w.heap.size ≤ b
theorem zfA {P : Program} (w : World) (base : Nat) (t ty e : TypeId) (i : TypeInfo) (z : Value) (size bytes : Nat) (ht : P.underlying t = some (.slice e)) (hi : P.info? e = some i) (hz : i.zero = some z)
   (hsize : i.size = size) (hby : i.bytes = bytes) (hzs : z.cells.size = size) (hsz : 0 < size)
   (v : Value) (n : Nat) (xs : List Value) (hown : w.ownsRow base e size v n xs)
   (a : Addr) (m c : Nat) (news : List Value) (hl : news.length = m * size) (hnews : ∀ j u, news[j]? = some u → w.cell? (a.add j) = some u) (h1 : ∀ u ∈ news, u.oneCell' = true)
   (h63 : n + m ≤ maxLen) (hbytes : (n + m) * bytes ≤ 140737488355328) (hbase : base ≤ w.heap.size) :
   ∃ v' w', (Builtin.append_ #[t, t] ty #[v, .slice (some a) m c]).run P w = .ok v' w' ∧ w'.ownsRow base e size v' (n + m) (xs ++ news) ∧ w.grownBy w' v.ownBlock ∧
     (v' = .slice none 0 0 ↔ v = .slice none 0 0 ∧ m = 0) ∧ zf5 w v v' := by
 obtain ⟨v', w', hr, h2, h3, h4⟩ := run_append_own (P := P) w base t ty e i z size bytes ht hi hz hsize hby hzs hsz v n xs hown a m c news hl hnews h1 h63 hbytes hbase
 refine ⟨v', w', hr, h2, h3, h4, ?_⟩
 have hsmall : n + m ≤ 9223372036854775807 := by simp only [maxLen] at h63; omega
 rcases hown.2 with ⟨rfl, hx⟩ | ⟨g, cap, cur, rfl, hbg, hg, hnc, hcm, hcs, htake⟩
 · obtain ⟨v2, w2, hr2, g2, _, _⟩ := run_append_own (P := P) w w.heap.size t ty e i z size bytes ht hi hz hsize hby hzs hsz _ n xs ⟨hown.1, .inl ⟨rfl, hx⟩⟩ a m c news hl hnews h1 h63 hbytes (Nat.le_refl _)
   rw [hr] at hr2
   simp only [Result.ok.injEq] at hr2
   obtain ⟨rfl, rfl⟩ := hr2
   exact fun b hb => .inr (g2.lt b hb).1
 · subst hsize hby
   by_cases hroom : n + m ≤ cap
   · have hfit : n * i.size + news.length ≤ cur.size := by rw [hl, hcs, ← Nat.add_mul]; exact Nat.mul_le_mul_right _ hroom
     have hr2 := run_append_room (P := P) w t ty e i ht hi g n cap cur hg a m c news hl hnews h1 hroom hfit
     rw [hr] at hr2
     simp only [Result.ok.injEq] at hr2
     obtain ⟨rfl, rfl⟩ := hr2
     exact fun b hb => .inl hb
   · have hr2 := run_append_grow (P := P) w t ty e i z ht hi hz ⟨g, 0, none⟩ n cap xs hown.1 (hown.cells (g := g) rfl) a m c news hl hnews (by omega) (by omega) (growslice_fits (by omega) hbytes)
     rw [hr] at hr2
     simp only [Result.ok.injEq] at hr2
     obtain ⟨rfl, rfl⟩ := hr2
     intro b hb
     simp [Value.ownBlock] at hb
     right; omega
theorem zb9 {P : Program} {w : World} {ops : Array Oper} {rest : List Oper} {o : Oper} {a : Act} {Q : Exit → Act → World → Prop} {t e : TypeId} {z : Value} {size bytes : Nat} (T : zcZ P t e z size bytes)
   (hgd : o.guard = none) (s x : Operand) (ho : o.op = .call { callee := .builtin .append, args := #[s, x], argTypes := #[t, t] })
   (base : Nat) (v : Value) (n : Nat) (xs : List Value) (hs : a.eval s = v) (hown : w.ownsRow base e size v n xs)
   (ao : Option Addr) (m c : Nat) (news : List Value) (hx : a.eval x = .slice ao m c) (hr : Row w size ao m c news) (h1 : ∀ u ∈ news, u.oneCell' = true)
   (h63 : n + m ≤ maxLen) (hbytes : (n + m) * bytes ≤ 140737488355328) (hbase : base ≤ w.heap.size)
   (h : ∀ v' w', w'.ownsRow base e size v' (n + m) (xs ++ news) → w.grownBy w' v.ownBlock → zf5 w v v' → wpList P ops Q rest (a.put o.dst v') w') : wpList P ops Q (o :: rest) a w := by
 obtain ⟨i, hi, hz, hs', hb⟩ := info_parts T.info
 subst hb
 obtain ⟨r1, r2, r3, r4, r5⟩ := hr
 cases ao with
 | some ad =>
   refine wpList_plain hgd fun K hK => ?_
   obtain ⟨v', w', hrun, g2, g3, _, g5⟩ := zfA (P := P) w base t o.type e i z size i.bytes T.und hi hz hs' rfl T.cells T.pos v n xs hown ad m c news r1 (fun j u hj => by
     by_cases hm : 0 < m
     · obtain ⟨b, off, hab, _, hc⟩ := r5 hm
       obtain rfl := Option.some.inj hab
       rw [Addr.add_lit]; exact hc j u hj
     · obtain rfl : m = 0 := by omega
       have : news = [] := List.eq_nil_of_length_eq_zero (by simpa using r1)
       subst this; simp at hj) h1 h63 hbytes hbase
   unfold Oper.wp
   simp [execOp, ho, resolve, invoke, builtin, hs, hx, hrun, Result.andThen]
   exact hK _ _ (h v' w' g2 g3 g5)
 | none =>
   obtain rfl := r4 rfl
   obtain rfl : m = 0 := by omega
   have : news = [] := List.eq_nil_of_length_eq_zero (by simpa using r1)
   subst this
   refine wpList_plain hgd fun K hK => ?_
   have hrun := run_append_owned_none (P := P) w base t o.type e i size T.und hi v n xs hown
   unfold Oper.wp
   simp [execOp, ho, resolve, invoke, builtin, hs, hx, hrun, Result.andThen]
   exact hK _ _ (h v w (by simpa using hown) ⟨rfl, rfl, rfl, Nat.le_refl _, fun _ _ _ => rfl⟩ (fun b hb => .inl hb))
structure zaa (S : Nat → Prop) (w w' : World) : Prop where
 os : w'.os = w.os
 tape : w'.tape = w.tape
 output : w'.output = w.output
 size : w.heap.size ≤ w'.heap.size
 block : ∀ b, b < w.heap.size → ¬ S b → w'.heap[b]? = w.heap[b]?
theorem zaa.refl (S : Nat → Prop) (w : World) : zaa S w w := ⟨rfl, rfl, rfl, Nat.le_refl _, fun _ _ _ => rfl⟩
theorem zaa.trans {S S' : Nat → Prop} {a b c : World} (h : zaa S a b) (k : zaa S' b c) (hS : ∀ x, S' x → S x ∨ a.heap.size ≤ x) : zaa S a c :=
 ⟨k.os.trans h.os, k.tape.trans h.tape, k.output.trans h.output, Nat.le_trans h.size k.size, fun x hx hn => (k.block x (Nat.lt_of_lt_of_le hx h.size) (fun e => (hS x e).elim hn (fun h => by omega))).trans (h.block x hx hn)⟩
theorem zaa.of_grown {S : Nat → Prop} {w w' : World} {row : Option Nat} (h : w.grownBy w' row) (hr : ∀ k, row = some k → S k) : zaa S w w' :=
 ⟨h.os, h.tape, h.output, h.size, fun b hb hn => h.block b hb (fun e => hn (hr b e.symm))⟩
theorem zaa.of_below {S : Nat → Prop} {w w' : World} {B : Nat} (h : Below B w w') (hS : ∀ b, B ≤ b → S b) : zaa S w w' :=
 ⟨h.os, h.tape, h.output, h.size, fun b _ hn => h.block b (Nat.lt_of_not_le fun e => hn (hS b e))⟩
theorem zaa.below {S : Nat → Prop} {w w' : World} {B : Nat} (h : zaa S w w') (hB : B ≤ w.heap.size) (hS : ∀ b, S b → B ≤ b) : Below B w w' :=
 ⟨h.os, h.tape, h.output, h.size, fun b hb => h.block b (by omega) (fun e => by have := hS b e; omega)⟩
theorem zaa.cell {S : Nat → Prop} {w w' : World} (h : zaa S w w') {b o : Nat} {v : Value} (hc : w.cell? ⟨b, o, none⟩ = some v) (hn : ¬ S b) : w'.cell? ⟨b, o, none⟩ = some v := by
 have hlt : b < w.heap.size := World.block_lt_of_cell? w _ hc
 rw [World.cell?_of_block (w := w) (a := ⟨b, o, none⟩) (h.block b hlt hn)]; exact hc
theorem zaa.obj {S : Nat → Prop} {w w' : World} (h : zaa S w w') {b : Nat} {o : Obj} (hc : w.heap[b]? = some o) (hn : ¬ S b) : w'.heap[b]? = some o := by
 rw [h.block b (Array.getElem?_eq_some_iff.1 hc).1 hn]; exact hc
theorem Row.keeps {S : Nat → Prop} {w w' : World} {sz : Nat} {a : Option Addr} {n cap : Nat} {xs : List Value} (h : Row w sz a n cap xs) (hk : zaa S w w') (hne : ∀ x, a = some x → ¬ S x.block) : Row w' sz a n cap xs := by
 obtain ⟨h1, h2, h3, h4, h5⟩ := h
 refine ⟨h1, h2, h3, h4, fun hn => ?_⟩
 obtain ⟨b, off, ha, hlt, hc⟩ := h5 hn
 exact ⟨b, off, ha, Nat.lt_of_lt_of_le hlt hk.size, fun j u hj => hk.cell (hc j u hj) (hne _ ha)⟩
theorem zao {S : Nat → Prop} {w w' : World} {base e sz : Nat} {v : Value} {n : Nat} {xs : List Value} (h : w.ownsRow base e sz v n xs) (hk : zaa S w w') (hne : ∀ b, v.ownBlock = some b → ¬ S b) : w'.ownsRow base e sz v n xs := by
 obtain ⟨h1, h2⟩ := h
 refine ⟨h1, ?_⟩
 rcases h2 with h2 | ⟨g, cap, cur, hv, hg, hh, r⟩
 · exact .inl h2
 · exact .inr ⟨g, cap, cur, hv, hg, hk.obj hh (hne g (by rw [hv]; rfl)), r⟩
theorem zaa.weaken {S S' : Nat → Prop} {w w' : World} (h : zaa S w w') (hS : ∀ b, S b → S' b) : zaa S' w w' := ⟨h.os, h.tape, h.output, h.size, fun b hb hn => h.block b hb (fun e => hn (hS b e))⟩
theorem zaa.drewN {S : Nat → Prop} {w w' : World} (h : zaa S w w') (q : Nat) : zaa S w (w'.drewN q) := ⟨h.os, h.tape, h.output, h.size, h.block⟩
theorem zaa.alloc {S : Nat → Prop} {w w' : World} (h : zaa S w w') (o : Obj) : zaa S w (w'.alloc o) :=
 ⟨h.os, h.tape, h.output, by rw [zad]; have := h.size; omega, fun b hb hn => (Below.heap_alloc w' o b (Nat.lt_of_lt_of_le hb h.size)).trans (h.block b hb hn)⟩
theorem zaa.setCell {S : Nat → Prop} {w w' : World} (h : zaa S w w') {a : Addr} (ha : S a.block ∨ w.heap.size ≤ a.block) (v : Value) : zaa S w (w'.setCell a v) :=
 ⟨h.os, h.tape, h.output, by simpa [World.setCell] using h.size, fun b hb hn => (heap_setCell_other w' a b v (fun e => by rcases ha with h1 | h1; exact hn (e ▸ h1); omega)).trans (h.block b hb hn)⟩
theorem zaa.grown {S : Nat → Prop} {w w' w2 : World} {row : Option Nat} (h : zaa S w w') (hg : w'.grownBy w2 row) (hr : ∀ k, row = some k → S k ∨ w.heap.size ≤ k) : zaa S w w2 :=
 h.trans (zaa.of_grown (S := fun k => row = some k) hg fun _ hk => hk) hr
def u8C (b : UInt8) : Value := .int .u8 b.toNat
structure IS where
 at_ : Nat
 e : Int
 out : List UInt8
def bitF (bs : List UInt8) (at_ : Nat) : Nat → Bool := fun k => zaG bs false (at_ + k)
def zaj (e : Int) (s : IS) : IS := if s.e = 0 then { s with e := e } else s
def numV (bs : List UInt8) (n : Nat) (s : IS) : Nat × IS :=
 if s.e ≠ 0 then (0, s) else if 8 * bs.length < s.at_ + n then (0, { s with e := 10 }) else (getV (bitF bs s.at_) false n n, { s with at_ := s.at_ + n })
def zaq (bs : List UInt8) (l : List Int) (s : IS) : Nat × IS :=
 if s.e ≠ 0 then (0, s) else ((zbF l (bitF bs s.at_) (8 * bs.length - s.at_)).1, { s with at_ := s.at_ + (zbF l (bitF bs s.at_) (8 * bs.length - s.at_)).2.1, e := (zbF l (bitF bs s.at_) (8 * bs.length - s.at_)).2.2 })
def zbL (most : Nat) (c : UInt8) (s : IS) : IS := if most ≤ s.out.length then zaj 3 s else { s with out := s.out ++ [c] }
def repL (far : Nat) : Nat → List UInt8 → List UInt8
 | 0, o => o
 | n + 1, o => repL far n (o ++ [o.getD (o.length - far) 0])
def repV (most len far : Nat) (s : IS) : IS :=
 if s.e ≠ 0 then s else if s.out.length < far then zaj 14 s else if (most : Int) - s.out.length < len then zaj 3 s else { s with out := repL far len s.out }
def zaA (x : Int) : Int × Int × Bool := if x < 257 ∨ 285 < x then (0, 0, false) else if x = 285 then (258, 0, true) else if x < 265 then (x - 254, 0, true) else (3 + (4 + (x - 261) % 4) * 2 ^ ((x - 261) / 4).toNat, (x - 261) / 4, true)
def disV (x : Int) : Int × Int × Bool := if x < 0 ∨ 29 < x then (0, 0, false) else if x < 4 then (x + 1, 0, true) else (1 + (2 + x % 2) * 2 ^ ((x - 2) / 2).toNat, (x - 2) / 2, true)
def zbh (bs : List UInt8) (most : Nat) (l d : List Int) (s : IS) : Bool × IS :=
 let q := zaq bs l s
 if q.2.e ≠ 0 ∨ q.1 = 256 then (false, q.2) else
 if q.1 < 256 then (true, zbL most (UInt8.ofNat q.1) q.2) else
 let a := zaA q.1
 let s1 := if a.2.2 then q.2 else zaj 11 q.2
 let n1 := numV bs a.2.1.toNat s1
 let q2 := zaq bs d n1.2
 let b := disV q2.1
 let s2 := if b.2.2 then q2.2 else zaj 11 q2.2
 let n2 := numV bs b.2.1.toNat s2
 (true, repV most (a.1.toNat + n1.1) (b.1.toNat + n2.1) n2.2)
def fixL : List Int := (List.range 288).map fun k => if k < 144 ∨ 279 < k then 8 else if k < 256 then 9 else 7
def fixD : List Int := (List.range 30).map fun _ => 5
end Go.Proofs.YtkikhmdpcanidaaGreat
namespace Go.Proofs.YtkikhmdpcanidaaGreat
open Go.RowKit Go.Sort
def stC (r : Nat) (e : Int) (v : Value) (most : Nat) : Array Value := #[.pointer (some ⟨r, 0, none⟩), .int .i64 e, v, .int .i64 most]
structure IsSt (w : World) (U : Nat → Prop) (sb r : Nat) (bs : List UInt8) (most : Nat) (s : IS) : Prop where
 ex : ∃ v, w.heap[sb]? = some (.cells (stC r s.e v most) 60 (0, 0)) ∧ w.ownsRow (sb + 1) 5 1 v s.out.length (s.out.map u8C) ∧ ∀ b, v.ownBlock = some b → U b
 rd : IsRd w r bs false s.at_
 lt : r < sb
 own : U sb ∧ U r
 ult : ∀ b, U b → r ≤ b ∧ b < w.heap.size
def zaQ (w : World) (U : Nat → Prop) (sb r : Nat) (bs : List UInt8) (most : Nat) (s : IS) (w' : World) : Prop := ∃ U', IsSt w' U' sb r bs most s ∧ zaa U w w' ∧ ∀ b, U' b → U b ∨ w.heap.size ≤ b
theorem IsRd.keeps {w w' : World} {V : Nat → Prop} {r : Nat} {bs : List UInt8} {high : Bool} {at_ : Nat} (h : IsRd w r bs high at_) (hk : zaa V w w') (hV : ∀ b, b ≤ r → ¬ V b) : IsRd w' r bs high at_ := by
 obtain ⟨⟨a, cap, h1, h2, h3⟩, h4, h5⟩ := h
 exact ⟨⟨a, cap, hk.obj h1 (hV r (Nat.le_refl _)), h2.keeps hk (fun x hx => hV _ (Nat.le_of_lt (h3 x hx))), h3⟩, h4, h5⟩
theorem IsSt.keeps {w w' : World} {U V : Nat → Prop} {sb r : Nat} {bs : List UInt8} {most : Nat} {s : IS} (h : IsSt w U sb r bs most s) (hk : zaa V w w') (hV : ∀ b, b ≤ r ∨ U b → ¬ V b) : IsSt w' U sb r bs most s := by
 obtain ⟨⟨v, h1, h2, h3⟩, h4, h5, h6, h7⟩ := h
 exact ⟨⟨v, hk.obj h1 (hV sb (.inr h6.1)), zao h2 hk (fun b hb => hV b (.inr (h3 b hb))), h3⟩, h4.keeps hk (fun b hb => hV b (.inl hb)), h5, h6, fun b hb => ⟨(h7 b hb).1, Nat.lt_of_lt_of_le (h7 b hb).2 hk.size⟩⟩
theorem IsSt.mono {w w' : World} {U : Nat → Prop} {sb r : Nat} {bs : List UInt8} {most : Nat} {s : IS} (h : IsSt w U sb r bs most s) (hb : Below w.heap.size w w') : IsSt w' U sb r bs most s :=
 h.keeps (zaa.of_below (S := fun b => w.heap.size ≤ b) hb (fun _ h => h)) (fun b hb2 hn => by
   have := (h.ult r h.own.2).2
   rcases hb2 with h1 | h1
   · omega
   · have := (h.ult b h1).2; omega)
theorem IsSt.got {w w' : World} {U : Nat → Prop} {sb r : Nat} {bs : List UInt8} {most : Nat} {s : IS} {at2 : Nat} (h : IsSt w U sb r bs most s) (hR : IsRd w' r bs false at2) (hg : w.grownBy w' (some r)) : IsSt w' U sb r bs most { s with at_ := at2 } ∧ zaa U w w' := by
 have hk : zaa (fun b => b = r) w w' := zaa.of_grown (S := fun b => b = r) hg (fun k hk => by simpa using hk.symm)
 obtain ⟨⟨v, h1, h2, h3⟩, h4, h5, h6, h7⟩ := h
 have hne : sb ≠ r := by omega
 exact ⟨⟨⟨v, hk.obj h1 hne, zao h2 hk (fun b hb e => by have := (h2.lt b hb).1; omega), h3⟩, hR, h5, h6, fun b hb => ⟨(h7 b hb).1, Nat.lt_of_lt_of_le (h7 b hb).2 hk.size⟩⟩, hk.weaken (fun b hb => hb ▸ h6.2)⟩
theorem IsSt.cells {w : World} {U : Nat → Prop} {sb r : Nat} {bs : List UInt8} {most : Nat} {s : IS} (h : IsSt w U sb r bs most s) :
   w.cell? ⟨sb, 0, none⟩ = some (.pointer (some ⟨r, 0, none⟩)) ∧ w.cell? ⟨sb, 1, none⟩ = some (.int .i64 s.e) ∧ w.cell? ⟨sb, 3, none⟩ = some (.int .i64 most) ∧ w.frozen? ⟨sb, 1, none⟩ = false ∧ w.frozen? ⟨sb, 2, none⟩ = false := by
 obtain ⟨⟨v, h1, -⟩, -⟩ := h
 refine ⟨?_, ?_, ?_, frozen_of_row w sb 1 _ _ h1, frozen_of_row w sb 2 _ _ h1⟩ <;> (rw [cell_of_row w sb _ _ _ _ h1]; rfl)
theorem IsSt.setE {w : World} {U : Nat → Prop} {sb r : Nat} {bs : List UInt8} {most : Nat} {s : IS} (h : IsSt w U sb r bs most s) (e : Int) : IsSt (w.setCell ⟨sb, 1, none⟩ (.int .i64 e)) U sb r bs most { s with e := e } ∧ zaa U w (w.setCell ⟨sb, 1, none⟩ (.int .i64 e)) := by
 have hk : zaa (fun b => b = sb) w (w.setCell ⟨sb, 1, none⟩ (.int .i64 e)) := zaa.setCell (S := fun b => b = sb) (zaa.refl _ w) (a := ⟨sb, 1, none⟩) (.inl rfl) _
 obtain ⟨⟨v, h1, h2, h3⟩, h4, h5, h6, h7⟩ := h
 refine ⟨⟨⟨v, ?_, zao h2 hk (fun b hb e => by have := (h2.lt b hb).1; omega), h3⟩, h4.keeps hk (fun b hb e => by omega), h5, h6, fun b hb => ⟨(h7 b hb).1, Nat.lt_of_lt_of_le (h7 b hb).2 hk.size⟩⟩, hk.weaken (fun b hb => hb ▸ h6.1)⟩
 have := zaM (w := w) (b := sb) (n := 4) (enc := fun i => if i = 0 then .pointer (some ⟨r, 0, none⟩) else if i = 1 then .int .i64 s.e else if i = 2 then v else .int .i64 most) (t := 60) h1 1 (.int .i64 e)
 exact this
theorem IsSt.next {w w' : World} {U : Nat → Prop} {sb r : Nat} {bs : List UInt8} {most : Nat} {s : IS} (h : IsSt w' U sb r bs most s ∧ zaa U w w') : zaQ w U sb r bs most s w' := ⟨U, h.1, h.2, fun _ h => .inl h⟩
theorem zaQ.trans {w w1 w2 : World} {U U1 : Nat → Prop} {sb r : Nat} {bs : List UInt8} {most : Nat} {s : IS} (hk : zaa U w w1) (hs : ∀ b, U1 b → U b ∨ w.heap.size ≤ b) (h2 : zaQ w1 U1 sb r bs most s w2) : zaQ w U sb r bs most s w2 := by
 obtain ⟨U2, h3, h4, h5⟩ := h2
 have := hk.size
 exact ⟨U2, h3, hk.trans h4 hs, fun b hb => (h5 b hb).elim (hs b) (fun h => .inr (by omega))⟩
theorem IsSt.drewN {w : World} {U : Nat → Prop} {sb r : Nat} {bs : List UInt8} {most : Nat} {s : IS} (h : IsSt w U sb r bs most s) (q : Nat) : IsSt (w.drewN q) U sb r bs most s ∧ zaa U w (w.drewN q) :=
 ⟨h.keeps ((zaa.refl (fun _ => False) w).drewN q) (fun _ _ h => h), (zaa.refl U w).drewN q⟩
theorem zaC {w : World} {U : Nat → Prop} {sb r : Nat} {bs : List UInt8} {most : Nat} {s : IS} (h : IsSt w U sb r bs most s) (e : Int) :
   Calls Tryz.prog 64 #[.pointer (some ⟨sb, 0, none⟩), .int .i64 e] w fun x w' => x = .returned (.tuple #[]) ∧ IsSt w' U sb r bs most (zaj e s) ∧ zaa U w w' := by
 obtain ⟨c0, c1, -, f1, -⟩ := h.cells
 have HS := Lib.hid h
 have HE := Lib.hid (h.setE e)
 clear h
 by_cases he : s.e = 0
 · have HF : Hid (zaj e s = { s with e := e }) := Lib.hid (by unfold zaj; rw [if_pos he])
   rw [he] at c1
   go_enter Tryz.func64, Tryz.ntmps64
   go_wp2
   go_end0
   exact ⟨rfl, by rw [HF.out]; exact HE.out⟩
 · have HF : Hid (zaj e s = s) := Lib.hid (by unfold zaj; rw [if_neg he])
   go_enter Tryz.func64, Tryz.ntmps64
   go_wp2
   go_end0
   exact ⟨rfl, by rw [HF.out]; exact ⟨HS.out, zaa.refl _ _⟩⟩
theorem zdC (s : IS) : zaj 0 s = s := by
 obtain ⟨a, e, o⟩ := s
 unfold zaj
 split
 · rename_i h; simp only at h; rw [h]
 · rfl
theorem failV_set (e : Int) (s : IS) (h : s.e = 0) : zaj e s = { s with e := e } := by unfold zaj; rw [if_pos h]
theorem ssym_any {w : World} {U Bl : Nat → Prop} {sb r p : Nat} {bs : List UInt8} {most : Nat} {s : IS} {l : List Int} (h : IsSt w U sb r bs most s) (hT : IsTb w Bl p l) (hU : ¬ Bl r) (pt : Option Addr) (hpt : s.e = 0 → pt = some ⟨p, 0, none⟩) :
   Calls Tryz.prog 98 #[.pointer (some ⟨sb, 0, none⟩), .pointer pt] w fun x w' => x = .returned (.int .i64 (zaq bs l s).1) ∧ IsSt w' U sb r bs most (zaq bs l s).2 ∧ zaa U w w' := by
 obtain ⟨c0, c1, -, f1, -⟩ := h.cells
 have HS := Lib.hid h
 by_cases he : s.e = 0
 · obtain rfl := hpt he
   rw [he] at c1
   obtain ⟨V, hV⟩ : ∃ V, V = zbF l (bitF bs s.at_) (8 * bs.length - s.at_) := ⟨_, rfl⟩
   have HV : Hid (zaq bs l s = (V.1, { s with at_ := s.at_ + V.2.1, e := V.2.2 })) := Lib.hid (by unfold zaq; rw [if_neg (by simp [he]), ← hV])
   have hg := tget_any Bl p r l bs false s.at_ w hT h.rd hU
   rw [show zbF l (fun k => zaG bs false (s.at_ + k)) (8 * bs.length - s.at_) = V from hV.symm] at hg
   have HG := Lib.hid hg
   obtain ⟨x, m, e⟩ := V
   clear h hg hV
   go_enter Tryz.func98, Tryz.ntmps98
   go_wp2_with fail
   refine HG.out.mono ?_
   rintro e2 w1 ⟨rfl, hR, hgr⟩
   have HN := Lib.hid (HS.out.got hR hgr)
   have HF := Lib.hid (zaC (HS.out.got hR hgr).1 e)
   clear c0 c1 f1 hR hgr
   dsimp only
   go_wp2_with fail
   refine HF.out.mono ?_
   rintro e2 w2 ⟨rfl, h2, k2⟩
   rw [failV_set e { s with at_ := s.at_ + m } he] at h2
   have H2 := Lib.hid h2
   have K2 := Lib.hid k2
   clear h2 k2
   go_wp2
   go_ret
   exact ⟨by rw [HV.out]; rfl, by rw [HV.out]; exact ⟨H2.out, HN.out.2.trans K2.out (fun b hb => .inl hb)⟩⟩
 · have HV : Hid (zaq bs l s = (0, s)) := Lib.hid (by unfold zaq; rw [if_pos he])
   clear h
   go_enter Tryz.func98, Tryz.ntmps98
   go_wp2
   go_ret
   exact ⟨by rw [HV.out]; rfl, by rw [HV.out]; exact ⟨HS.out, zaa.refl _ _⟩⟩
theorem zaX {w : World} {U : Nat → Prop} {sb r : Nat} {bs : List UInt8} {most : Nat} {s : IS} (h : IsSt w U sb r bs most s) (n : Nat) (hn : n ≤ 32) :
   Calls Tryz.prog 58 #[.pointer (some ⟨sb, 0, none⟩), .int .i64 n] w fun x w' => x = .returned (.int .i64 (numV bs n s).1) ∧ IsSt w' U sb r bs most (numV bs n s).2 ∧ zaa U w w' := by
 obtain ⟨c0, c1, -, f1, -⟩ := h.cells
 have HS := Lib.hid h
 by_cases he : s.e = 0
 · rw [he] at c1
   by_cases hl : 8 * bs.length < s.at_ + n
   · have HV : Hid (numV bs n s = (0, zaj 10 s)) := Lib.hid (by unfold numV zaj; rw [if_neg (by simp [he]), if_pos hl, if_pos he])
     have HG := Lib.hid (get_cut r n bs false s.at_ w h.rd hn hl)
     clear h hl
     go_enter Tryz.func58, Tryz.ntmps58
     go_wp2_with fail
     refine HG.out.mono ?_
     rintro e w1 ⟨rfl, q, rfl⟩
     have HF := Lib.hid (zaC (HS.out.drewN q).1 10)
     clear c0 c1 f1
     go_wp2_with fail
     refine HF.out.mono ?_
     rintro e w2 ⟨rfl, h2, k2⟩
     have H2 := Lib.hid h2
     have K2 := Lib.hid k2
     clear h2 k2
     go_wp2
     go_ret
     exact ⟨by rw [HV.out]; rfl, by rw [HV.out]; exact ⟨H2.out, (HS.out.drewN q).2.trans K2.out (fun b hb => .inl hb)⟩⟩
   · have HV : Hid (numV bs n s = (getV (bitF bs s.at_) false n n, { s with at_ := s.at_ + n })) := Lib.hid (by unfold numV; rw [if_neg (by simp [he]), if_neg hl])
     have HG := Lib.hid (get_ok r n bs false s.at_ w h.rd hn (by omega))
     have HE := Lib.hid he
     clear h hl
     go_enter Tryz.func58, Tryz.ntmps58
     go_wp2_with fail
     refine HG.out.mono ?_
     rintro e w1 ⟨rfl, hR, hg⟩
     have HN := Lib.hid (HS.out.got hR hg)
     have HF := Lib.hid (zaC (HS.out.got hR hg).1 0)
     have hlt := zeu (bitF bs s.at_) false n n (Nat.le_refl _)
     have h32 := pow32 hn
     obtain ⟨g, hgv⟩ : ∃ g, g = getV (bitF bs s.at_) false n n := ⟨_, rfl⟩
     rw [← hgv] at HV hlt
     rw [show getV (fun k => zaG bs false (s.at_ + k)) false n n = g from hgv.symm]
     have hg32 : g < 4294967296 := by omega
     clear c0 c1 f1 hR hg hlt h32 hgv
     go_wp2_with fail
     refine HF.out.mono ?_
     rintro e w2 ⟨rfl, h2, k2⟩
     have h3 := zdC { s with at_ := s.at_ + n }
     rw [h3] at h2
     have H2 := Lib.hid h2
     have K2 := Lib.hid k2
     clear h2 k2 h3
     go_wp2
     go_ret
     refine ⟨?_, by rw [HV.out]; exact ⟨H2.out, HN.out.2.trans K2.out (fun b hb => .inl hb)⟩⟩
     rw [HV.out]; rfl
 · have HV : Hid (numV bs n s = (0, s)) := Lib.hid (by unfold numV; rw [if_pos he])
   clear h
   go_enter Tryz.func58, Tryz.ntmps58
   go_wp2
   go_ret
   exact ⟨by rw [HV.out]; rfl, by rw [HV.out]; exact ⟨HS.out, zaa.refl _ _⟩⟩
end Go.Proofs.YtkikhmdpcanidaaGreat
namespace Go.Proofs.YtkikhmdpcanidaaGreat
open Go.RowKit Go.Sort
variable {α : Type} [Inhabited α]
def swR (d : Array α) (a b n k : Nat) : α := if a ≤ k ∧ k < a + n then d[k - a + b]! else if b ≤ k ∧ k < b + n then d[k - b + a]! else d[k]!
theorem swR_zero (d : Array α) (a b k : Nat) : swR d a b 0 k = d[k]! := by
 unfold swR
 rw [if_neg (by omega), if_neg (by omega)]
theorem swR_step (d R : Array α) (a b n i : Nat) (hi : i < n) (hab : a + n ≤ b) (hb : b + n ≤ R.size) (hR : ∀ k, R[k]! = swR d a b i k) (k : Nat) : (swp R (a + i) (b + i))[k]! = swR d a b (i + 1) k := by
 by_cases h1 : k = a + i
 · subst h1
   rw [swp_left _ _ _ (by omega) (by omega), hR]
   unfold swR
   rw [if_neg (by omega), if_neg (by omega), if_pos (by omega)]
   exact congrArg (fun i => d[i]!) (by omega)
 · by_cases h2 : k = b + i
   · subst h2
     rw [swp_right _ _ _ (by omega), hR]
     unfold swR
     rw [if_neg (by omega), if_neg (by omega), if_neg (by omega), if_pos (by omega)]
     exact congrArg (fun i => d[i]!) (by omega)
   · rw [swp_other _ _ _ _ h1 h2, hR]
     unfold swR
     repeat' split
     all_goals first
       | rfl
       | (exfalso; omega)
def rotF (d : Array α) (a m b k : Nat) : α := if a ≤ k ∧ k < a + (b - m) then d[k + (m - a)]! else if a + (b - m) ≤ k ∧ k < b then d[k - (b - m)]! else d[k]!
theorem rot_gt (d R : Array α) (m i j : Nat) (hij : j < i) (him : i ≤ m) (hR : ∀ k, R[k]! = swR d (m - i) m j k) (k : Nat) : rotF R (m - (i - j)) m (m + j) k = rotF d (m - i) m (m + j) k := by
 unfold rotF
 simp only [hR, swR]
 repeat' split
 all_goals first
   | (exfalso; omega)
   | exact congrArg (fun i => d[i]!) (by omega)
theorem rot_lt (d R : Array α) (m i j : Nat) (hij : i < j) (him : i ≤ m) (hR : ∀ k, R[k]! = swR d (m - i) (m + j - i) i k) (k : Nat) : rotF R (m - i) m (m + (j - i)) k = rotF d (m - i) m (m + j) k := by
 unfold rotF
 simp only [hR, swR]
 repeat' split
 all_goals first
   | (exfalso; omega)
   | exact congrArg (fun i => d[i]!) (by omega)
theorem rot_eq (d R : Array α) (m i : Nat) (him : i ≤ m) (hR : ∀ k, R[k]! = swR d (m - i) m i k) (k : Nat) : R[k]! = rotF d (m - i) m (m + i) k := by
 unfold rotF
 simp only [hR, swR]
 repeat' split
 all_goals first
   | (exfalso; omega)
   | exact congrArg (fun i => d[i]!) (by omega)
variable {lt : α → α → Bool}
omit [Inhabited α] in
theorem chain3 (hS : SWO lt) {y u v x : α} (h1 : lt y u = false) (h2 : lt u v = false) (h3 : lt v x = false) : lt y x = false := hS.ntrans _ _ _ (hS.ntrans _ _ _ h1 h2) h3
theorem zbb (hS : SWO lt) {a b i j : Nat} {d : Array α} (h : SortedIn lt a b d) (hai : a ≤ i) (hij : i ≤ j) (hjb : j < b) : lt d[j]! d[i]! = false := by
 rcases Nat.lt_or_eq_of_le hij with h1 | h1
 · exact h i j hai h1 hjb
 · subst h1; exact hS.irrefl _
def zcb (lt1 lt : α → α → Bool) (d : Array α) (a m b : Nat) : Prop := ∀ p q, a ≤ p → p < m → m ≤ q → q < b → lt1 d[q]! d[p]! = lt d[q]! d[p]!
theorem zfc (hS : SWO lt) (d R R1 R2 : Array α) (a m b s e : Nat) (has : a ≤ s) (hsm : s ≤ m) (hme : m ≤ e) (heb : e ≤ b) (hb : b ≤ d.size) (hsz : R.size = d.size)
   (h1 : SortedIn lt a m d) (h2 : SortedIn lt m b d) (hR : ∀ k, R[k]! = rotF d s m e k)
   (H1 : a < s → e < b → lt d[e]! d[s - 1]! = false) (H2 : s < m → m < e → lt d[s]! d[e - 1]! = false)
   (p1 : PermIn a (s + (e - m)) R R1) (s1 : SortedIn lt a (s + (e - m)) R1) (p2 : PermIn (s + (e - m)) b R1 R2) (s2 : SortedIn lt (s + (e - m)) b R2) : SortedIn lt a b R2 := by
 have hmid : s + (e - m) ≤ b := by omega
 have lowx : ∀ k, a ≤ k → k < s + (e - m) → (∃ q, a ≤ q ∧ q < s ∧ R[k]! = d[q]!) ∨ (∃ q, m ≤ q ∧ q < e ∧ R[k]! = d[q]!) := by
   intro k hk1 hk2
   rw [hR, rotF]
   by_cases hks : k < s
   · left; exact ⟨k, hk1, hks, by rw [if_neg (by omega), if_neg (by omega)]⟩
   · right; exact ⟨k + (m - s), by omega, by omega, by rw [if_pos (by omega)]⟩
 have upx : ∀ k, s + (e - m) ≤ k → k < b → (∃ q, s ≤ q ∧ q < m ∧ R[k]! = d[q]!) ∨ (∃ q, e ≤ q ∧ q < b ∧ R[k]! = d[q]!) := by
   intro k hk1 hk2
   rw [hR, rotF]
   by_cases hke : k < e
   · left; exact ⟨k - (e - m), by omega, by omega, by rw [if_neg (by omega), if_pos (by omega)]⟩
   · right; exact ⟨k, by omega, hk2, by rw [if_neg (by omega), if_neg (by omega)]⟩
 have cross : ∀ i j, a ≤ i → i < s + (e - m) → s + (e - m) ≤ j → j < b → lt R[j]! R[i]! = false := by
   intro i j hi1 hi2 hj1 hj2
   rcases lowx i hi1 hi2 with ⟨q, q1, q2, hq⟩ | ⟨q, q1, q2, hq⟩ <;> rcases upx j hj1 hj2 with ⟨r, r1, r2, hr⟩ | ⟨r, r1, r2, hr⟩ <;> rw [hq, hr]
   · exact zbb hS h1 q1 (by omega) r2
   · exact chain3 hS (zbb hS h2 (by omega) r1 r2) (H1 (by omega) (by omega)) (zbb hS h1 q1 (by omega) (by omega))
   · exact chain3 hS (zbb hS h1 (by omega) r1 r2) (H2 (by omega) (by omega)) (zbb hS h2 q1 (by omega) (by omega))
   · exact zbb hS h2 q1 (by omega) r2
 have l1 : ∀ i, a ≤ i → i < s + (e - m) → ∀ j, s + (e - m) ≤ j → j < b → lt R[j]! R1[i]! = false := fun i hi1 hi2 j hj1 hj2 =>
   permIn_all R R1 a (s + (e - m)) (fun x => lt R[j]! x = false) (by omega) p1 (fun i h1 h2 => cross i j h1 h2 hj1 hj2) i hi1 hi2
 have l2 : ∀ i, a ≤ i → i < s + (e - m) → ∀ j, s + (e - m) ≤ j → j < b → lt R1[j]! R1[i]! = false := fun i hi1 hi2 j hj1 hj2 => by
   rw [p1.2.1 j (by omega)]; exact l1 i hi1 hi2 j hj1 hj2
 have l3 : ∀ i, a ≤ i → i < s + (e - m) → ∀ j, s + (e - m) ≤ j → j < b → lt R2[j]! R1[i]! = false := fun i hi1 hi2 =>
   permIn_all R1 R2 (s + (e - m)) b (fun x => lt x R1[i]! = false) (by rw [p1.1]; omega) p2 (fun j h1 h2 => l2 i hi1 hi2 j h1 h2)
 intro i j hai hij hjb
 by_cases hj : j < s + (e - m)
 · rw [p2.2.1 i (by omega), p2.2.1 j (by omega)]; exact s1 i j hai hij hj
 · by_cases hi : i < s + (e - m)
   · rw [p2.2.1 i (by omega)]; exact l3 i hai hi j (by omega) hjb
   · exact s2 i j (by omega) hij hjb
theorem left_done (hS : SWO lt) (d R : Array α) (a b i : Nat) (hi : a + 1 ≤ i) (hib : i ≤ b) (h2 : SortedIn lt (a + 1) b d) (hlt : ∀ q, a + 1 ≤ q → q < i → lt d[q]! d[a]! = true) (hge : ∀ q, i ≤ q → q < b → lt d[q]! d[a]! = false)
   (hR : ∀ k, R[k]! = if a ≤ k ∧ k < i - 1 then d[k + 1]! else if k = i - 1 then d[a]! else d[k]!) : SortedIn lt a b R := by
 intro p q hap hpq hqb
 rw [hR p, hR q]
 have asym : ∀ x y, lt x y = true → lt y x = false := fun x y h => by
   cases h2 : lt y x with
   | false => rfl
   | true => have := hS.trans _ _ _ h h2; rw [hS.irrefl] at this; cases this
 by_cases c1 : q < i - 1
 · rw [if_pos (by omega), if_pos (by omega)]; exact h2 _ _ (by omega) (by omega) (by omega)
 · by_cases c2 : q = i - 1
   · rw [if_neg (by omega), if_pos c2, if_pos (by omega)]
     exact asym _ _ (hlt _ (by omega) (by omega))
   · rw [if_neg (by omega), if_neg c2]
     by_cases c3 : p < i - 1
     · rw [if_pos (by omega)]; exact h2 _ _ (by omega) (by omega) hqb
     · by_cases c4 : p = i - 1
       · rw [if_neg (by omega), if_pos c4]; exact hge q (by omega) hqb
       · rw [if_neg (by omega), if_neg c4]; exact h2 _ _ (by omega) hpq hqb
theorem ze3 (hS : SWO lt) (d R : Array α) (a m i : Nat) (hai : a ≤ i) (him : i ≤ m) (h1 : SortedIn lt a m d) (hge : ∀ q, a ≤ q → q < i → lt d[m]! d[q]! = false) (hlt : ∀ q, i ≤ q → q < m → lt d[m]! d[q]! = true)
   (hR : ∀ k, R[k]! = if i < k ∧ k ≤ m then d[k - 1]! else if k = i then d[m]! else d[k]!) : SortedIn lt a (m + 1) R := by
 intro p q hap hpq hqb
 rw [hR p, hR q]
 have asym : ∀ x y, lt x y = true → lt y x = false := fun x y h => by
   cases h2 : lt y x with
   | false => rfl
   | true => have := hS.trans _ _ _ h h2; rw [hS.irrefl] at this; cases this
 by_cases c1 : i < q
 · rw [if_pos (by omega)]
   by_cases c2 : i < p
   · rw [if_pos (by omega)]; exact h1 _ _ (by omega) (by omega) (by omega)
   · by_cases c3 : p = i
     · rw [if_neg (by omega), if_pos c3]; exact asym _ _ (hlt _ (by omega) (by omega))
     · rw [if_neg (by omega), if_neg c3]; exact h1 _ _ hap (by omega) (by omega)
 · by_cases c2 : q = i
   · rw [if_neg (by omega), if_pos c2, if_neg (by omega), if_neg (by omega)]; exact hge _ hap (by omega)
   · rw [if_neg (by omega), if_neg c2, if_neg (by omega), if_neg (by omega)]; exact h1 _ _ hap hpq (by omega)
theorem low_all (hS : SWO lt) {d : Array α} {m b h : Nat} {x : α} (hs : SortedIn lt m b d) (hh : h < b) (hx : lt d[h]! x = true) : ∀ q, m ≤ q → q ≤ h → lt d[q]! x = true := by
 intro q h1 h2
 cases hq : lt d[q]! x with
 | true => rfl
 | false => have := hS.ntrans _ _ _ (zbb hS hs h1 h2 hh) hq; rw [hx] at this; cases this
theorem high_all (hS : SWO lt) {d : Array α} {m b h : Nat} {x : α} (hs : SortedIn lt m b d) (hm : m ≤ h) (hx : lt d[h]! x = false) : ∀ q, h ≤ q → q < b → lt d[q]! x = false :=
 fun _ h1 h2 => hS.ntrans _ _ _ (zbb hS hs hm h1 h2) hx
theorem low_all' (hS : SWO lt) {d : Array α} {a m h : Nat} {x : α} (hs : SortedIn lt a m d) (hh : h < m) (hx : lt x d[h]! = false) : ∀ q, a ≤ q → q ≤ h → lt x d[q]! = false :=
 fun _ h1 h2 => hS.ntrans _ _ _ hx (zbb hS hs h1 h2 hh)
theorem high_all' (hS : SWO lt) {d : Array α} {a m h : Nat} {x : α} (hs : SortedIn lt a m d) (hm : a ≤ h) (hx : lt x d[h]! = true) : ∀ q, h ≤ q → q < m → lt x d[q]! = true := by
 intro q h1 h2
 cases hq : lt x d[q]! with
 | true => rfl
 | false => have := hS.ntrans _ _ _ hq (zbb hS hs hm h1 h2); rw [hx] at this; cases this
end Go.Proofs.YtkikhmdpcanidaaGreat
namespace Go.Proofs.YtkikhmdpcanidaaGreat
open Go.RowKit Go.Sort
theorem zex {α : Type} [Inhabited α] (enc : α → Value) (hE : ∀ x, ∃ n, enc x = .int .i64 n) (F : Value) (g cap a b n : Nat) (rest : List Value) (d : Array α) (w0 w : World)
   (hS : SB enc w0 g 3 rest d w) (hab : a + n ≤ b) (hb : b + n ≤ d.size) (hsz : d.size < 4611686018427387904) :
   Calls Tryz.prog 150 #[.slice (some ⟨g, 0, none⟩) d.size cap, .int .i64 a, .int .i64 b, .int .i64 n, F] w fun e w' => e = .returned (.tuple #[]) ∧ ∃ R : Array α, R.size = d.size ∧ SB enc w0 g 3 rest R w' ∧ (∀ k, R[k]! = swR d a b n k) ∧ PermIn a (b + n) d R := by
 have HS := Lib.hid hS
 clear hS
 go_enter Tryz.func150, Tryz.ntmps150
 go_wp2
 go_loopw [10] (fun vi wr => ∃ (i : Nat) (dk : Array α), vi = .int .i64 i ∧ i ≤ n ∧ dk.size = d.size ∧ Hid (SB enc w0 g 3 rest dk wr) ∧ Hid (∀ k, dk[k]! = swR d a b i k) ∧ Hid (PermIn a (b + n) d dk)) (fun vi _ => n - (intOf vi).toNat)
 case atStart => exact ⟨0, d, rfl, by omega, rfl, HS, Lib.hid (fun k => (swR_zero d a b k).symm), Lib.hid (permIn_refl _ _ _)⟩
 case round =>
   obtain ⟨i, dk, rfl, hin, hsk, HSk, HR, HP⟩ := hrel
   clear HS
   by_cases hlt : i < n
   · have hc1 := HSk.out.cell (a + i) (by omega)
     have hc2 := HSk.out.cell (b + i) (by omega)
     have hf1 := HSk.out.free (a + i)
     have hf2 := HSk.out.free (b + i)
     obtain ⟨X, hX⟩ : ∃ X, X = dk[a + i]! := ⟨_, rfl⟩
     obtain ⟨Y, hY⟩ : ∃ Y, Y = dk[b + i]! := ⟨_, rfl⟩
     rw [← hX] at hc1
     rw [← hY] at hc2
     have HX := Lib.hid hX
     have HY := Lib.hid hY
     obtain ⟨x, hx⟩ := hE X
     obtain ⟨y, hy⟩ := hE Y
     rw [hx] at hc1
     rw [hy] at hc2
     have HEx := Lib.hid hx
     have HEy := Lib.hid hy
     clear hx hy hX hY
     have hj1 : ((a : Int) + (i : Int)).toNat = a + i := by omega
     have hj2 : ((b : Int) + (i : Int)).toNat = b + i := by omega
     have hb1 : (a : Int) + (i : Int) < (d.size : Int) := by omega
     have hb2 : (b : Int) + (i : Int) < (d.size : Int) := by omega
     go_wp2
     go_region
     all_goals go_wp2
     go_roundw
     case rel =>
       refine ⟨i + 1, swp dk (a + i) (b + i), by go_num, by omega, by rw [size_swp]; exact hsk, ?_, Lib.hid (swR_step d dk a b n i hlt hab (by omega) HR.out), Lib.hid (permIn_trans _ _ _ _ _ HP.out (swp_permIn dk a (b + n) (a + i) (b + i) (by omega) (by omega) (by omega) (by omega) (by omega)))⟩
       have hw := HSk.out.swp (a + i) (b + i) (by omega) (by omega) 1
       rw [← HX.out, ← HY.out, HEx.out, HEy.out] at hw
       exact Lib.hid hw
     case measure => simp [intOf]; omega
   · obtain rfl : n = i := by omega
     go_wp2
     go_end0
     exact ⟨rfl, dk, hsk, HSk.out, HR.out, HP.out⟩
theorem rot_any {α : Type} [Inhabited α] (enc : α → Value) (hE : ∀ x, ∃ n, enc x = .int .i64 n) (F : Value) (g cap a m b : Nat) (rest : List Value) (d : Array α) (w0 w : World)
   (hS : SB enc w0 g 3 rest d w) (ham : a < m) (hmb : m < b) (hb : b ≤ d.size) (hsz : d.size < 4611686018427387904) :
   Calls Tryz.prog 145 #[.slice (some ⟨g, 0, none⟩) d.size cap, .int .i64 a, .int .i64 m, .int .i64 b, F] w fun e w' => e = .returned (.tuple #[]) ∧ ∃ R : Array α, R.size = d.size ∧ SB enc w0 g 3 rest R w' ∧ (∀ k, R[k]! = rotF d a m b k) ∧ PermIn a b d R := by
 have HS := Lib.hid hS
 clear hS
 go_enter Tryz.func145, Tryz.ntmps145
 go_wp2
 go_loopw [10, 11] (fun vi vj wr => ∃ (i j : Nat) (dk : Array α), vi = .int .i64 i ∧ vj = .int .i64 j ∧ 0 < i ∧ 0 < j ∧ i ≤ m - a ∧ j ≤ b - m ∧ dk.size = d.size ∧ Hid (SB enc w0 g 3 rest dk wr) ∧ Hid (∀ k, rotF dk (m - i) m (m + j) k = rotF d a m b k) ∧ Hid (PermIn a b d dk)) (fun vi vj _ => (intOf vi).toNat + (intOf vj).toNat)
 case atStart => exact ⟨m - a, b - m, d, by go_num, by go_num, by omega, by omega, by omega, by omega, rfl, HS, Lib.hid (fun k => by rw [show m - (m - a) = a from by omega, show m + (b - m) = b from by omega]), Lib.hid (permIn_refl _ _ _)⟩
 case round =>
   obtain ⟨i, j, dk, rfl, rfl, hi, hj, him, hjm, hsk, HSk, HR, HP⟩ := hrel
   clear HS
   have hmi : ((m - i : Nat) : Int) = (m : Int) - i := by omega
   by_cases hgt : j < i
   · have hsw := zex enc hE F g cap (m - i) m j rest dk w0 wr HSk.out (by omega) (by omega) (by omega)
     rw [hmi, hsk] at hsw
     have HSW := Lib.hid hsw
     have hne : ((i : Int) == (j : Int)) = false := by rw [beq_eq_false_iff_ne]; omega
     clear hsw
     go_wp2_with (go_at_call 150; refine HSW.out.mono ?_; rintro e w2 ⟨rfl, R, hRs, hRB, hRk, hRP⟩; have HB2 := Lib.hid hRB; have HK2 := Lib.hid hRk; have HP2 := Lib.hid hRP; clear hRB hRk hRP)
     go_roundw
     case rel => exact ⟨i - j, j, R, by go_num, rfl, by omega, by omega, by omega, by omega, hRs, HB2, Lib.hid (fun k => by rw [rot_gt dk R m i j hgt (by omega) HK2.out k]; exact HR.out k), Lib.hid (permIn_trans _ _ _ _ _ HP.out (permIn_mono dk R (m - i) (m + j) a b (by omega) (by omega) (by omega) HP2.out))⟩
     case measure => simp [intOf]; omega
   · by_cases hlt : i < j
     · have hsw := zex enc hE F g cap (m - i) (m + j - i) i rest dk w0 wr HSk.out (by omega) (by omega) (by omega)
       rw [hmi, hsk, show ((m + j - i : Nat) : Int) = (m : Int) + j - i from by omega] at hsw
       have HSW := Lib.hid hsw
       have hne : ((i : Int) == (j : Int)) = false := by rw [beq_eq_false_iff_ne]; omega
       clear hsw
       go_wp2_with (go_at_call 150; refine HSW.out.mono ?_; rintro e w2 ⟨rfl, R, hRs, hRB, hRk, hRP⟩; have HB2 := Lib.hid hRB; have HK2 := Lib.hid hRk; have HP2 := Lib.hid hRP; clear hRB hRk hRP)
       go_roundw
       case rel => exact ⟨i, j - i, R, rfl, by go_num, by omega, by omega, by omega, by omega, hRs, HB2, Lib.hid (fun k => by rw [rot_lt dk R m i j hlt (by omega) HK2.out k]; exact HR.out k), Lib.hid (permIn_trans _ _ _ _ _ HP.out (permIn_mono dk R (m - i) (m + j - i + i) a b (by omega) (by omega) (by omega) HP2.out))⟩
       case measure => simp [intOf]; omega
     · obtain rfl : i = j := by omega
       have hsw := zex enc hE F g cap (m - i) m i rest dk w0 wr HSk.out (by omega) (by omega) (by omega)
       rw [hmi, hsk] at hsw
       have HSW := Lib.hid hsw
       clear hsw
       go_wp2_with (go_at_call 150; refine HSW.out.mono ?_; rintro e w2 ⟨rfl, R, hRs, hRB, hRk, hRP⟩; have HB2 := Lib.hid hRB; have HK2 := Lib.hid hRk; have HP2 := Lib.hid hRP; clear hRB hRk hRP)
       go_end0
       exact ⟨rfl, R, hRs, HB2.out, fun k => by rw [rot_eq dk R m i (by omega) HK2.out k]; exact HR.out k, permIn_trans _ _ _ _ _ HP.out (permIn_mono dk R (m - i) (m + i) a b (by omega) (by omega) (by omega) HP2.out)⟩
end Go.Proofs.YtkikhmdpcanidaaGreat
namespace Go.Proofs.YtkikhmdpcanidaaGreat
open Go.RowKit Go.Sort
variable {α : Type} [Inhabited α]
def shlF (d : Array α) (a k q : Nat) : α := if a ≤ q ∧ q < k then d[q + 1]! else if q = k then d[a]! else d[q]!
theorem shlF_zero (d : Array α) (a q : Nat) : shlF d a a q = d[q]! := by
 unfold shlF
 rw [if_neg (by omega)]
 split
 · rename_i h; rw [h]
 · rfl
theorem shlF_step (d R : Array α) (a k : Nat) (hak : a ≤ k) (hk : k + 1 < R.size) (hR : ∀ q, R[q]! = shlF d a k q) (q : Nat) : (swp R k (k + 1))[q]! = shlF d a (k + 1) q := by
 by_cases h1 : q = k
 · subst h1
   rw [swp_left _ _ _ (by omega) (by omega), hR]
   unfold shlF
   rw [if_neg (by omega), if_neg (by omega), if_pos (by omega)]
 · by_cases h2 : q = k + 1
   · subst h2
     rw [swp_right _ _ _ (by omega), hR]
     unfold shlF
     rw [if_neg (by omega), if_pos rfl, if_neg (by omega), if_pos rfl]
   · rw [swp_other _ _ _ _ h1 h2, hR]
     unfold shlF
     repeat' split
     all_goals first
       | rfl
       | (exfalso; omega)
def shrF (d : Array α) (m k q : Nat) : α := if k < q ∧ q ≤ m then d[q - 1]! else if q = k then d[m]! else d[q]!
theorem shrF_zero (d : Array α) (m q : Nat) : shrF d m m q = d[q]! := by
 unfold shrF
 rw [if_neg (by omega)]
 split
 · rename_i h; rw [h]
 · rfl
theorem shrF_step (d R : Array α) (m k : Nat) (hkm : k + 1 ≤ m) (hk : k + 1 < R.size) (hR : ∀ q, R[q]! = shrF d m (k + 1) q) (q : Nat) : (swp R (k + 1) k)[q]! = shrF d m k q := by
 by_cases h1 : q = k + 1
 · subst h1
   rw [swp_left _ _ _ (by omega) (by omega), hR]
   unfold shrF
   rw [if_neg (by omega), if_neg (by omega), if_pos (by omega)]
   exact congrArg (fun i => d[i]!) (by omega)
 · by_cases h2 : q = k
   · subst h2
     rw [swp_right _ _ _ (by omega), hR]
     unfold shrF
     rw [if_neg (by omega), if_pos rfl, if_neg (by omega), if_pos rfl]
   · rw [swp_other _ _ _ _ h1 h2, hR]
     unfold shrF
     repeat' split
     all_goals first
       | rfl
       | (exfalso; omega)
theorem zbc (d : Array α) (s m e : Nat) (hsm : s ≤ m) (hme : m ≤ e) (h : s = m ∨ m = e) (k : Nat) : d[k]! = rotF d s m e k := by
 unfold rotF
 repeat' split
 all_goals first
   | rfl
   | (exfalso; omega)
   | exact congrArg (fun i => d[i]!) (by omega)
variable {lt lt1 : α → α → Bool}
theorem zde {d R : Array α} {a b f : Nat} (lo hi : Nat) (h : SortedIn lt a b d) (hlo : a ≤ f) (hhi : f + (hi - lo) ≤ b) (hR : ∀ k, lo ≤ k → k < hi → R[k]! = d[f + (k - lo)]!) : SortedIn lt lo hi R := fun i j h1 h2 h3 => by
 rw [hR i h1 (by omega), hR j (by omega) h3]
 exact h _ _ (by omega) (by omega) (by omega)
section
variable {d R : Array α} {a m b s e : Nat} (hR : ∀ k, R[k]! = rotF d s m e k) (has : a ≤ s) (hsm : s ≤ m) (hme : m ≤ e) (heb : e ≤ b) (h1 : SortedIn lt a m d) (h2 : SortedIn lt m b d)
include hR in
theorem part1 (k : Nat) (h : k < s) : R[k]! = d[k]! := by
 rw [hR, rotF, if_neg (by omega), if_neg (by omega)]
include hR hsm in
theorem part2 (k : Nat) (h1 : s ≤ k) (h2 : k < s + (e - m)) : R[k]! = d[m + (k - s)]! := by
 rw [hR, rotF, if_pos (by omega)]
 exact congrArg (fun i => d[i]!) (by omega)
include hR in
theorem part3 (k : Nat) (h1 : s + (e - m) ≤ k) (h2 : k < e) : R[k]! = d[s + (k - (s + (e - m)))]! := by
 rw [hR, rotF, if_neg (by omega), if_pos (by omega)]
 exact congrArg (fun i => d[i]!) (by omega)
include hR hsm hme in
theorem part4 (k : Nat) (h1 : e ≤ k) : R[k]! = d[k]! := by
 rw [hR, rotF, if_neg (by omega), if_neg (by omega)]
include hR has hsm h1 in
theorem sp1 : SortedIn lt a s R := zde (f := a) a s h1 (Nat.le_refl _) (by omega) (fun k h3 h4 => by rw [part1 hR k h4]; exact congrArg (fun i => d[i]!) (by omega))
include hR hsm hme heb h2 in
theorem sp2 : SortedIn lt s (s + (e - m)) R := zde (f := m) _ _ h2 (Nat.le_refl _) (by omega) (fun k h3 h4 => part2 hR hsm k h3 h4)
include hR has hsm hme h1 in
theorem sp3 : SortedIn lt (s + (e - m)) e R := zde (f := s) _ _ h1 has (by omega) (fun k h3 h4 => part3 hR k h3 h4)
include hR hsm hme heb h2 in
theorem sp4 : SortedIn lt e b R := zde (f := e) e b h2 hme (by omega) (fun k h3 _ => by rw [part4 hR hsm hme k h3]; exact congrArg (fun i => d[i]!) (by omega))
include hR hsm hme heb in
theorem agree_lo (hA : zcb lt1 lt d a m b) : zcb lt1 lt R a s (s + (e - m)) := fun p q h3 h4 h5 h6 => by
 rw [part1 hR p h4, part2 hR hsm q h5 h6]
 exact hA _ _ h3 (by omega) (by omega) (by omega)
include hR has hsm hme in
theorem agree_hi (hA : zcb lt1 lt d a m b) : zcb lt1 lt R (s + (e - m)) e b := fun p q h3 h4 h5 h6 => by
 rw [part3 hR p h3 h4, part4 hR hsm hme q h5]
 exact hA _ _ (by omega) (by omega) (by omega) h6
include hR has hsm hme heb h1 h2 in
theorem skip_lo (h : s = a ∨ s = s + (e - m)) : SortedIn lt a (s + (e - m)) R := by
 rcases h with h | h
 · have := sp2 hR hsm hme heb h2; rw [h] at this ⊢; exact this
 · rw [← h]; exact sp1 hR has hsm h1
include hR has hsm hme heb h1 h2 in
theorem skip_hi (h : e = s + (e - m) ∨ e = b) : SortedIn lt (s + (e - m)) b R := by
 rcases h with h | h
 · rw [← h]; exact sp4 hR hsm hme heb h2
 · have := sp3 hR has hsm hme h1; rw [h] at this ⊢; exact this
end
theorem zaZ {d R : Array α} {a b : Nat} (h : SortedIn lt a b d) (hR : ∀ k, a ≤ k → k < b → R[k]! = d[k]!) : SortedIn lt a b R := fun i j h1 h2 h3 => by
 rw [hR i h1 (by omega), hR j (by omega) h3]; exact h i j h1 h2 h3
theorem zd9 {d R : Array α} {a m b : Nat} (h : zcb lt1 lt d a m b) (hR : ∀ k, a ≤ k → k < b → R[k]! = d[k]!) : zcb lt1 lt R a m b := fun p q h1 h2 h3 h4 => by
 rw [hR p h1 (by omega), hR q (by omega) h4]; exact h p q h1 h2 h3 h4
theorem zbs {d R : Array α} {a b : Nat} (D : α → Prop) (hb : b ≤ d.size) (hP : PermIn a b d R) (hD : ∀ i, i < d.size → D d[i]!) (i : Nat) (hi : i < R.size) : D R[i]! := by
 by_cases h : a ≤ i ∧ i < b
 · exact permIn_all d R a b D hb hP (fun k _ h2 => hD k (by omega)) i h.1 h.2
 · rw [hP.2.1 i (by omega)]; exact hD i (by rw [← hP.1]; exact hi)
end Go.Proofs.YtkikhmdpcanidaaGreat
namespace Go.Proofs.YtkikhmdpcanidaaGreat
open Go.RowKit Go.Sort
def zeC {α : Type} [Inhabited α] (enc : α → Value) (lt : α → α → Bool) (g a b : Nat) (rest : List Value) (d : Array α) (w0 : World) (e : Ending) (w' : World) : Prop :=
 e = .returned (.tuple #[]) ∧ ∃ R : Array α, R.size = d.size ∧ SB enc w0 g 3 rest R w' ∧ PermIn a b d R ∧ SortedIn lt a b R
theorem sym_left {α : Type} [Inhabited α] (enc : α → Value) (hE : ∀ x, ∃ n, enc x = .int .i64 n) (cf : α → α → Int) (lt : α → α → Bool) (hL : SWO lt) (D : α → Prop) (f : FuncId) (cb : Array Value) (g cap a m b : Nat) (rest : List Value) (d : Array α) (w0 w : World)
   (hC : CmpQ Tryz.prog f cb enc cf D w0 g) (hS : SB enc w0 g 3 rest d w) (hD : ∀ i, i < d.size → D d[i]!) (hm : m = a + 1) (hmb : m < b) (hb : b ≤ d.size) (hsz : d.size < 4611686018427387904)
   (h2 : SortedIn lt m b d) (hA : zcb (ltOf cf) lt d a m b) :
   Calls Tryz.prog 138 #[.slice (some ⟨g, 0, none⟩) d.size cap, .int .i64 a, .int .i64 m, .int .i64 b, .func (.func f) #[] cb] w fun e w' => zeC enc lt g a b rest d w0 e w' := by
 have eg := hC.enters
 have HC := Lib.hid hC
 have HS := Lib.hid hS
 have HD := Lib.hid hD
 have H2 := Lib.hid h2
 have HA := Lib.hid hA
 clear hC hS hD h2 hA
 have heq : ((m : Int) - (a : Int) == 1) = true := by rw [beq_iff_eq]; omega
 go_enter Tryz.func138, Tryz.ntmps138
 go_wp2
 go_loopw [10, 11] (fun vi vj wr => ∃ (i j : Nat), vi = .int .i64 i ∧ vj = .int .i64 j ∧ m ≤ i ∧ i ≤ j ∧ j ≤ b ∧ Hid (SB enc w0 g 3 rest d wr) ∧ Hid (∀ q, m ≤ q → q < i → lt d[q]! d[a]! = true) ∧ Hid (∀ q, j ≤ q → q < b → lt d[q]! d[a]! = false)) (fun vi vj _ => (intOf vj).toNat - (intOf vi).toNat)
 case atStart => exact ⟨m, b, rfl, rfl, Nat.le_refl _, by omega, Nat.le_refl _, HS, Lib.hid (fun q h1 h2 => by omega), Lib.hid (fun q h1 h2 => by omega)⟩
 case round =>
   obtain ⟨i, j, rfl, rfl, hai, hij, hjb, HSk, HLo, HHi⟩ := hrel
   clear HS
   by_cases hlt : i < j
   · obtain ⟨h, hh⟩ : ∃ h, h = (i + j) / 2 := ⟨_, rfl⟩
     have hc1 := HSk.out.cell h (by omega)
     have hc2 := HSk.out.cell a (by omega)
     have hcall := fun q => HC.out.calls (wr.drewN q) (HSk.out.drewN q).grown d[h]! d[a]! (HD.out h (by omega)) (HD.out a (by omega))
     have hag := HA.out a h (Nat.le_refl _) (by omega) (by omega) (by omega)
     obtain ⟨X, hX⟩ : ∃ X, X = d[h]! := ⟨_, rfl⟩
     obtain ⟨Y, hY⟩ : ∃ Y, Y = d[a]! := ⟨_, rfl⟩
     rw [← hX] at hc1 hcall hag
     rw [← hY] at hc2 hcall hag
     have HX := Lib.hid hX
     have HY := Lib.hid hY
     obtain ⟨x, hx⟩ := hE X
     obtain ⟨y, hy⟩ := hE Y
     rw [hx] at hc1 hcall
     rw [hy] at hc2 hcall
     have HCALL := Lib.hid hcall
     have HAG := Lib.hid hag
     clear hcall hx hy hX hY hag
     have hh1 : ((i : Int) + (j : Int)) / 2 = (h : Int) := by omega
     have hhb : (h : Int) < (d.size : Int) := by omega
     have hab : (a : Int) < (d.size : Int) := by omega
     have hhi : i ≤ h := by omega
     have hhj : h < j := by omega
     clear hh
     by_cases hcf : cf X Y < 0
     · have hl : lt X Y = true := by rw [← HAG.out]; simpa [ltOf] using hcf
       have HL := Lib.hid hl
       have hcf2 : cf X Y < 0 := hcf
       clear hl hcf
       go_wp2_with fail
       go_quiet ((refine Calls.quiet_of (HCALL.out _)))
       go_wp2
       go_roundw
       case rel => exact ⟨h + 1, j, by go_num, rfl, by omega, by omega, hjb, Lib.hid (HSk.out.drewN _), Lib.hid (fun q h3 h4 => low_all hL H2.out (by omega : h < b) (by rw [← HX.out, ← HY.out]; exact HL.out) q h3 (by omega)), HHi⟩
       case measure => simp [intOf]; omega
     · have hl : lt X Y = false := by rw [← HAG.out]; simpa [ltOf] using hcf
       have HL := Lib.hid hl
       have hcf2 : 0 ≤ cf X Y := by omega
       clear hl hcf
       go_wp2_with fail
       go_quiet ((refine Calls.quiet_of (HCALL.out _)))
       go_wp2
       go_roundw
       case rel => exact ⟨i, h, rfl, rfl, hai, hhi, by omega, Lib.hid (HSk.out.drewN _), HLo, Lib.hid (fun q h3 h4 => high_all hL H2.out (by omega) (by rw [← HX.out, ← HY.out]; exact HL.out) q h3 h4)⟩
       case measure => simp [intOf]; omega
   · obtain rfl : i = j := by omega
     go_wp2
     go_loopw [13] (fun vk wr2 => ∃ (k : Nat) (dk : Array α), vk = .int .i64 k ∧ a ≤ k ∧ k ≤ i - 1 ∧ dk.size = d.size ∧ Hid (SB enc w0 g 3 rest dk wr2) ∧ Hid (∀ q, dk[q]! = shlF d a k q) ∧ Hid (PermIn a b d dk)) (fun vk _ => i - (intOf vk).toNat)
     case atStart => exact ⟨a, d, rfl, Nat.le_refl _, by omega, rfl, HSk, Lib.hid (fun q => (shlF_zero d a q).symm), Lib.hid (permIn_refl _ _ _)⟩
     case round =>
       obtain ⟨k, dk, rfl, hak, hki, hsk, HSk2, HR, HP⟩ := hrel
       clear HSk
       by_cases hk : k < i - 1
       · have hc1 := HSk2.out.cell k (by omega)
         have hc2 := HSk2.out.cell (k + 1) (by omega)
         have hf1 := HSk2.out.free k
         have hf2 := HSk2.out.free (k + 1)
         obtain ⟨X, hX⟩ : ∃ X, X = dk[k]! := ⟨_, rfl⟩
         obtain ⟨Y, hY⟩ : ∃ Y, Y = dk[k + 1]! := ⟨_, rfl⟩
         rw [← hX] at hc1
         rw [← hY] at hc2
         have HX := Lib.hid hX
         have HY := Lib.hid hY
         obtain ⟨x, hx⟩ := hE X
         obtain ⟨y, hy⟩ := hE Y
         rw [hx] at hc1
         rw [hy] at hc2
         have HEx := Lib.hid hx
         have HEy := Lib.hid hy
         clear hx hy hX hY
         have hj1 : ((k : Int) + 1).toNat = k + 1 := by omega
         have hb1 : (k : Int) < (d.size : Int) := by omega
         have hb2 : (k : Int) + 1 < (d.size : Int) := by omega
         go_wp2
         go_region
         all_goals go_wp2
         go_roundw
         case rel =>
           refine ⟨k + 1, swp dk k (k + 1), by go_num, by omega, by omega, by rw [size_swp]; exact hsk, ?_, Lib.hid (shlF_step d dk a k hak (by omega) HR.out), Lib.hid (permIn_trans _ _ _ _ _ HP.out (swp_permIn dk a b k (k + 1) (by omega) (by omega) (by omega) (by omega) (by omega)))⟩
           have hw := HSk2.out.swp k (k + 1) (by omega) (by omega) 1
           rw [← HX.out, ← HY.out, HEx.out, HEy.out] at hw
           exact Lib.hid hw
         case measure => simp [intOf]; omega
       · obtain rfl : k = i - 1 := by omega
         go_wp2
         go_end0
         exact ⟨rfl, dk, hsk, HSk2.out, HP.out, left_done hL d dk a b i (by omega) hjb (by rw [← hm]; exact H2.out) (by rw [← hm]; exact HLo.out) HHi.out HR.out⟩
theorem sym_right {α : Type} [Inhabited α] (enc : α → Value) (hE : ∀ x, ∃ n, enc x = .int .i64 n) (cf : α → α → Int) (lt : α → α → Bool) (hL : SWO lt) (D : α → Prop) (f : FuncId) (cb : Array Value) (g cap a m b : Nat) (rest : List Value) (d : Array α) (w0 w : World)
   (hC : CmpQ Tryz.prog f cb enc cf D w0 g) (hS : SB enc w0 g 3 rest d w) (hD : ∀ i, i < d.size → D d[i]!) (ham : a + 1 < m) (hbm : b = m + 1) (hb : b ≤ d.size) (hsz : d.size < 4611686018427387904)
   (h1 : SortedIn lt a m d) (hA : zcb (ltOf cf) lt d a m b) :
   Calls Tryz.prog 138 #[.slice (some ⟨g, 0, none⟩) d.size cap, .int .i64 a, .int .i64 m, .int .i64 b, .func (.func f) #[] cb] w fun e w' => zeC enc lt g a b rest d w0 e w' := by
 have eg := hC.enters
 have HC := Lib.hid hC
 have HS := Lib.hid hS
 have HD := Lib.hid hD
 have H1 := Lib.hid h1
 have HA := Lib.hid hA
 clear hC hS hD h1 hA
 have hne : ((m : Int) - (a : Int) == 1) = false := by rw [beq_eq_false_iff_ne]; omega
 have heq : ((b : Int) - (m : Int) == 1) = true := by rw [beq_iff_eq]; omega
 go_enter Tryz.func138, Tryz.ntmps138
 go_wp2
 go_loopw [14, 15] (fun vi vj wr => ∃ (i j : Nat), vi = .int .i64 i ∧ vj = .int .i64 j ∧ a ≤ i ∧ i ≤ j ∧ j ≤ m ∧ Hid (SB enc w0 g 3 rest d wr) ∧ Hid (∀ q, a ≤ q → q < i → lt d[m]! d[q]! = false) ∧ Hid (∀ q, j ≤ q → q < m → lt d[m]! d[q]! = true)) (fun vi vj _ => (intOf vj).toNat - (intOf vi).toNat)
 case atStart => exact ⟨a, m, rfl, rfl, Nat.le_refl _, by omega, Nat.le_refl _, HS, Lib.hid (fun q h1 h2 => by omega), Lib.hid (fun q h1 h2 => by omega)⟩
 case round =>
   obtain ⟨i, j, rfl, rfl, hai, hij, hjb, HSk, HLo, HHi⟩ := hrel
   clear HS
   by_cases hlt : i < j
   · obtain ⟨h, hh⟩ : ∃ h, h = (i + j) / 2 := ⟨_, rfl⟩
     have hc1 := HSk.out.cell m (by omega)
     have hc2 := HSk.out.cell h (by omega)
     have hcall := fun q => HC.out.calls (wr.drewN q) (HSk.out.drewN q).grown d[m]! d[h]! (HD.out m (by omega)) (HD.out h (by omega))
     have hag := HA.out h m (by omega) (by omega) (by omega) (by omega)
     obtain ⟨X, hX⟩ : ∃ X, X = d[m]! := ⟨_, rfl⟩
     obtain ⟨Y, hY⟩ : ∃ Y, Y = d[h]! := ⟨_, rfl⟩
     rw [← hX] at hc1 hcall hag
     rw [← hY] at hc2 hcall hag
     have HX := Lib.hid hX
     have HY := Lib.hid hY
     obtain ⟨x, hx⟩ := hE X
     obtain ⟨y, hy⟩ := hE Y
     rw [hx] at hc1 hcall
     rw [hy] at hc2 hcall
     have HCALL := Lib.hid hcall
     have HAG := Lib.hid hag
     clear hcall hx hy hX hY hag
     have hh1 : ((i : Int) + (j : Int)) / 2 = (h : Int) := by omega
     have hhb : (h : Int) < (d.size : Int) := by omega
     have hmd : (m : Int) < (d.size : Int) := by omega
     have hhi : i ≤ h := by omega
     have hhj : h < j := by omega
     clear hh
     by_cases hcf : cf X Y < 0
     · have hl : lt X Y = true := by rw [← HAG.out]; simpa [ltOf] using hcf
       have HL := Lib.hid hl
       have hcf2 : cf X Y < 0 := hcf
       have hcfB : decide (cf X Y < 0) = true := by rw [decide_eq_true_iff]; exact hcf
       clear hl hcf
       go_wp2_with fail
       go_quiet ((refine Calls.quiet_of (HCALL.out _)))
       go_wp2
       go_roundw
       case rel => exact ⟨i, h, rfl, rfl, hai, hhi, by omega, Lib.hid (HSk.out.drewN _), HLo, Lib.hid (fun q h3 h4 => high_all' hL H1.out (by omega) (by rw [← HX.out, ← HY.out]; exact HL.out) q h3 h4)⟩
       case measure => simp [intOf]; omega
     · have hl : lt X Y = false := by rw [← HAG.out]; simpa [ltOf] using hcf
       have HL := Lib.hid hl
       have hcf2 : 0 ≤ cf X Y := by omega
       have hcfB : decide (cf X Y < 0) = false := by rw [decide_eq_false_iff_not]; omega
       clear hl hcf
       go_wp2_with fail
       go_quiet ((refine Calls.quiet_of (HCALL.out _)))
       go_wp2
       go_roundw
       case rel => exact ⟨h + 1, j, by go_num, rfl, by omega, by omega, hjb, Lib.hid (HSk.out.drewN _), Lib.hid (fun q h3 h4 => low_all' hL H1.out (by omega : h < m) (by rw [← HX.out, ← HY.out]; exact HL.out) q h3 (by omega)), HHi⟩
       case measure => simp [intOf]; omega
   · obtain rfl : i = j := by omega
     go_wp2
     go_loopw [17] (fun vk wr2 => ∃ (k : Nat) (dk : Array α), vk = .int .i64 k ∧ i ≤ k ∧ k ≤ m ∧ dk.size = d.size ∧ Hid (SB enc w0 g 3 rest dk wr2) ∧ Hid (∀ q, dk[q]! = shrF d m k q) ∧ Hid (PermIn a b d dk)) (fun vk _ => (intOf vk).toNat)
     case atStart => exact ⟨m, d, rfl, hjb, Nat.le_refl _, rfl, HSk, Lib.hid (fun q => (shrF_zero d m q).symm), Lib.hid (permIn_refl _ _ _)⟩
     case round =>
       obtain ⟨k, dk, rfl, hik, hkm, hsk, HSk2, HR, HP⟩ := hrel
       clear HSk
       by_cases hk : i < k
       · obtain ⟨u, rfl⟩ : ∃ u, k = u + 1 := ⟨k - 1, by omega⟩
         have hc1 := HSk2.out.cell (u + 1) (by omega)
         have hc2 := HSk2.out.cell u (by omega)
         have hf1 := HSk2.out.free (u + 1)
         have hf2 := HSk2.out.free u
         obtain ⟨X, hX⟩ : ∃ X, X = dk[u + 1]! := ⟨_, rfl⟩
         obtain ⟨Y, hY⟩ : ∃ Y, Y = dk[u]! := ⟨_, rfl⟩
         rw [← hX] at hc1
         rw [← hY] at hc2
         have HX := Lib.hid hX
         have HY := Lib.hid hY
         obtain ⟨x, hx⟩ := hE X
         obtain ⟨y, hy⟩ := hE Y
         rw [hx] at hc1
         rw [hy] at hc2
         have HEx := Lib.hid hx
         have HEy := Lib.hid hy
         clear hx hy hX hY
         have hj1 : ((u : Int) + 1).toNat = u + 1 := by omega
         have hj2 : ((u : Int) + 1 - 1) = u := by omega
         have hb1 : (u : Int) < (d.size : Int) := by omega
         have hb2 : (u : Int) + 1 < (d.size : Int) := by omega
         go_wp2
         go_region
         all_goals go_wp2
         go_roundw
         case rel =>
           refine ⟨u, swp dk (u + 1) u, by go_num, by omega, by omega, by rw [size_swp]; exact hsk, ?_, Lib.hid (shrF_step d dk m u (by omega) (by omega) HR.out), Lib.hid (permIn_trans _ _ _ _ _ HP.out (swp_permIn dk a b (u + 1) u (by omega) (by omega) (by omega) (by omega) (by omega)))⟩
           have hw := HSk2.out.swp (u + 1) u (by omega) (by omega) 1
           rw [← HX.out, ← HY.out, HEx.out, HEy.out] at hw
           exact Lib.hid hw
         case measure => simp [intOf]
       · obtain rfl : i = k := by omega
         go_wp2
         go_end0
         refine ⟨rfl, dk, hsk, HSk2.out, HP.out, ?_⟩
         rw [hbm]
         exact ze3 hL d dk a m i hai hjb H1.out HLo.out HHi.out HR.out
def MergeSaid {α : Type} [Inhabited α] (enc : α → Value) (cf : α → α → Int) (lt : α → α → Bool) (D : α → Prop) (f : FuncId) (cb : Array Value) (g cap : Nat) (rest : List Value) (n : Nat) (w0 : World) (N : Nat) : Prop :=
 ∀ (a m b : Nat) (d : Array α) (w : World), b - a ≤ N → d.size = n → SB enc w0 g 3 rest d w → (∀ i, i < d.size → D d[i]!) → a < m → m < b → b ≤ n → SortedIn lt a m d → SortedIn lt m b d → zcb (ltOf cf) lt d a m b →
   Calls Tryz.prog 138 #[.slice (some ⟨g, 0, none⟩) n cap, .int .i64 a, .int .i64 m, .int .i64 b, .func (.func f) #[] cb] w fun e w' => zeC enc lt g a b rest d w0 e w'
def FinSaid {α : Type} [Inhabited α] (enc : α → Value) (lt : α → α → Bool) (f : FuncId) (cb : Array Value) (g cap : Nat) (rest : List Value) (n : Nat) (w0 : World) (a m b mid s0 r0 : Nat) (d : Array α) : Prop :=
 ∀ (s : Nat) (wr : World), s0 ≤ s → s ≤ r0 → SB enc w0 g 3 rest d wr → (s0 < s → lt d[mid + m - s]! d[s - 1]! = false) → (s < r0 → lt d[mid + m - s - 1]! d[s]! = true) →
     ∃ e, e = mid + m - s ∧ m ≤ e ∧ e ≤ b ∧ mid ≤ e ∧ s + (e - m) = mid ∧
     (s < m → m < e → Calls Tryz.prog 145 #[.slice (some ⟨g, 0, none⟩) n cap, .int .i64 s, .int .i64 m, .int .i64 e, .func (.func f) #[] cb] wr fun e1 w' => e1 = .returned (.tuple #[]) ∧ ∃ R : Array α, R.size = n ∧ SB enc w0 g 3 rest R w' ∧ (∀ k, R[k]! = rotF d s m e k) ∧ PermIn a b d R) ∧
     (∀ (R : Array α) (W : World), R.size = n → SB enc w0 g 3 rest R W → (∀ k, R[k]! = rotF d s m e k) → PermIn a b d R → a < s → s < mid → Calls Tryz.prog 138 #[.slice (some ⟨g, 0, none⟩) n cap, .int .i64 a, .int .i64 s, .int .i64 mid, .func (.func f) #[] cb] W fun e1 w' => zeC enc lt g a mid rest R w0 e1 w') ∧
     (∀ (R R1 : Array α) (W : World), R.size = n → R1.size = n → SB enc w0 g 3 rest R1 W → (∀ k, R[k]! = rotF d s m e k) → PermIn a b d R → PermIn a mid R R1 → mid < e → e < b → Calls Tryz.prog 138 #[.slice (some ⟨g, 0, none⟩) n cap, .int .i64 mid, .int .i64 e, .int .i64 b, .func (.func f) #[] cb] W fun e1 w' => zeC enc lt g mid b rest R1 w0 e1 w') ∧
     (∀ R : Array α, (∀ k, R[k]! = rotF d s m e k) → (s = a ∨ s = mid) → SortedIn lt a mid R) ∧
     (∀ R R1 : Array α, (∀ k, R[k]! = rotF d s m e k) → PermIn a mid R R1 → (e = mid ∨ e = b) → SortedIn lt mid b R1) ∧
     (∀ R R1 R2 : Array α, R.size = n → (∀ k, R[k]! = rotF d s m e k) → PermIn a b d R → PermIn a mid R R1 → SortedIn lt a mid R1 → PermIn mid b R1 R2 → SortedIn lt mid b R2 → PermIn a b d R2 ∧ SortedIn lt a b R2)
theorem sym_fin {α : Type} [Inhabited α] (enc : α → Value) (hE : ∀ x, ∃ n, enc x = .int .i64 n) (cf : α → α → Int) (lt : α → α → Bool) (hL : SWO lt) (D : α → Prop) (f : FuncId) (cb : Array Value) (g cap : Nat) (rest : List Value) (n : Nat) (w0 : World) (N : Nat)
   (hsz : n < 4611686018427387904) (ih : MergeSaid enc cf lt D f cb g cap rest n w0 N)
   (a m b mid s0 r0 : Nat) (d : Array α) (hN : b - a ≤ N + 1) (hdn : d.size = n) (hD : ∀ i, i < d.size → D d[i]!) (hb : b ≤ n) (h1 : SortedIn lt a m d) (h2 : SortedIn lt m b d) (hA : zcb (ltOf cf) lt d a m b)
   (hma : a < mid) (hmB : mid < b) (hs0a : a ≤ s0) (hr0m : r0 ≤ m) (hr0d : r0 ≤ mid) (hs0b : mid + m - s0 ≤ b) (hend0 : s0 = a ∨ mid + m - s0 = b) (hend1 : r0 = m ∨ r0 = mid) : FinSaid enc lt f cb g cap rest n w0 a m b mid s0 r0 d := by
 have HD := Lib.hid hD
 have H1 := Lib.hid h1
 have H2 := Lib.hid h2
 have HA := Lib.hid hA
 have HI := Lib.hid ih
 clear hD h1 h2 hA ih
 intro s wr h3 h4 hSB h5 h6
 refine ⟨mid + m - s, rfl, by omega, by omega, by omega, by omega, ?_, ?_, ?_, ?_, ?_, ?_⟩
 · intro h7 h8
   have h9 := rot_any enc hE (.func (.func f) #[] cb) g cap s m (mid + m - s) rest d w0 wr hSB h7 h8 (by omega) (by omega)
   rw [hdn] at h9
   exact h9.mono fun e1 w' ⟨q1, R, q2, q3, q4, q5⟩ => ⟨q1, R, q2, q3, q4, permIn_mono d R s (mid + m - s) a b (by omega) (by omega) (by omega) q5⟩
 · intro R W hR1 hR2 hR3 hR4 h7 h8
   refine HI.out a s mid R W (by omega) hR1 hR2 (zbs D (by omega) hR4 HD.out) h7 h8 (by omega) (sp1 hR3 (by omega) (by omega) H1.out) ?_ ?_
   · have := sp2 hR3 (by omega) (by omega) (by omega) H2.out
     rwa [show s + (mid + m - s - m) = mid from by omega] at this
   · have := agree_lo hR3 (a := a) (by omega) (by omega) (by omega : mid + m - s ≤ b) HA.out
     rwa [show s + (mid + m - s - m) = mid from by omega] at this
 · intro R R1 W hR1 hR2 hR3 hR4 hR5 hR6 h7 h8
   have hc : ∀ k, mid ≤ k → R1[k]! = R[k]! := fun k hk => hR6.2.1 k (by omega)
   refine HI.out mid (mid + m - s) b R1 W (by omega) hR2 hR3 (zbs D (by omega) hR6 (zbs D (by omega) hR5 HD.out)) h7 h8 hb ?_ ?_ ?_
   · have := sp3 hR4 (a := a) (by omega) (by omega) (by omega) H1.out
     rw [show s + (mid + m - s - m) = mid from by omega] at this
     exact zaZ this (fun k h9 _ => hc k h9)
   · exact zaZ (sp4 hR4 (by omega) (by omega) (by omega) H2.out) (fun k h9 _ => hc k (by omega))
   · have := agree_hi hR4 (b := b) (by omega : a ≤ s) (by omega) (by omega) HA.out
     rw [show s + (mid + m - s - m) = mid from by omega] at this
     exact zd9 this (fun k h9 _ => hc k h9)
 · intro R hR h7
   have := skip_lo hR (by omega : a ≤ s) (by omega) (by omega) (by omega : mid + m - s ≤ b) H1.out H2.out (by omega)
   rwa [show s + (mid + m - s - m) = mid from by omega] at this
 · intro R R1 hR hP h7
   have := skip_hi hR (by omega : a ≤ s) (by omega) (by omega) (by omega : mid + m - s ≤ b) H1.out H2.out (by omega)
   rw [show s + (mid + m - s - m) = mid from by omega] at this
   exact zaZ this (fun k h9 _ => hP.2.1 k (by omega))
 · intro R R1 R2 hR1 hR hP p1 s1 p2 s2
   have hm2 : s + (mid + m - s - m) = mid := by omega
   refine ⟨permIn_trans _ _ _ _ _ (permIn_trans _ _ _ _ _ hP (permIn_mono R R1 a mid a b (by omega) (by omega) (by omega) p1)) (permIn_mono R1 R2 mid b a b (by omega) (by omega) (by have := p1.1; omega) p2), ?_⟩
   refine zfc hL d R R1 R2 a m b s (mid + m - s) (by omega) (by omega) (by omega) (by omega) (by omega) (by omega) H1.out H2.out hR (fun q1 q2 => h5 (by omega)) (fun q1 q2 => ?_) (by rw [hm2]; exact p1) (by rw [hm2]; exact s1) (by rw [hm2]; exact p2) (by rw [hm2]; exact s2)
   have h8 := h6 (by omega)
   cases h9 : lt d[s]! d[mid + m - s - 1]! with
   | false => rfl
   | true => have := hL.trans _ _ _ h8 h9; rw [hL.irrefl] at this; cases this
end Go.Proofs.YtkikhmdpcanidaaGreat
