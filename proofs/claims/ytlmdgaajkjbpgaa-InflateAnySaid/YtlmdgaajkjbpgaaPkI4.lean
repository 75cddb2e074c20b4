/-
  Our texts New2 to Read, in one.
-/
import Derived.Test.YtlmdgaajkjbpgaaPkI3
/-
  Walks of layer 4: huff.New.
-/
namespace Go.Proofs.Ytlmdgaajkjbpgaa
open Go.RowKit Go.Sort

/-- What is asked of Go's stable sort, at up to N numbers. -/
def StableSaid (N : Nat) : Prop :=
  ∀ (cf : Int → Int → Int) (lt2 : Int → Int → Bool) (D : Int → Prop) (f : FuncId) (cb : Array Value) (g cap : Nat) (rest : List Value) (d : Array Int) (w0 w : World), SWO lt2 →
    CmpQ Try.prog f cb (Value.int .i64) cf D w0 g → SB (Value.int .i64) w0 g 3 rest d w → (∀ i, i < d.size → D d[i]!) → (∀ p q, p < q → q < d.size → ltOf cf d[q]! d[p]! = lt2 d[q]! d[p]!) → d.size ≤ N →
    Calls Try.prog 59 #[.slice (some ⟨g, 0, none⟩) d.size cap, .func (.func f) #[] cb] w fun e w' => e = .returned (.tuple #[]) ∧ ∃ R, SB (Value.int .i64) w0 g 3 rest R w' ∧ PermIn 0 d.size d R ∧ SortedIn lt2 0 d.size R

theorem stable19 : StableSaid 19 := fun cf lt2 D f cb g cap rest d w0 w hO hC hS hD hag hsz => stable_small (Value.int .i64) (fun x => ⟨x, rfl⟩) cf lt2 hO D f cb g cap rest d w0 w hC hS hD hag (by omega)

/-- The cells of a table. -/
def tbV (L C S : Value) (l : List Int) (i : Nat) : Value := if i = 0 then L else if i = 1 then C else if i = 18 then S else cnV l (i - 2)

/-- A table in memory; its blocks are such as Bl knows. -/
structure IsTb (w : World) (Bl : Nat → Prop) (p : Nat) (l : List Int) : Prop where
  ex : ∃ aL cL aC cC aS cS srt, w.heap[p]? = some (.cells (fl 19 (tbV (.slice aL l.length cL) (.slice aC l.length cC) (.slice aS srt.length cS) l)).toArray 99 (0, 0)) ∧
    Row w 1 aL l.length cL (l.map (Value.int .i64)) ∧ Row w 1 aC l.length cC (fl l.length (cdV l l.length)) ∧ Row w 1 aS srt.length cS (srt.map (Value.int .i64)) ∧ SrtOf l srt ∧
    (∀ x, aL = some x → Bl x.block) ∧ (∀ x, aC = some x → Bl x.block) ∧ (∀ x, aS = some x → Bl x.block) ∧ aL ≠ none
  room : 0 ≤ roomV l
  own : Bl p

theorem fl16_lit (f : Nat → Value) : (fl 16 f).toArray = #[f 0, f 1, f 2, f 3, f 4, f 5, f 6, f 7, f 8, f 9, f 10, f 11, f 12, f 13, f 14, f 15] := rfl

theorem symsTo_pairwise (l : List Int) (N : Nat) : (symsTo l N).Pairwise (· < ·) := by
  unfold symsTo
  refine List.Pairwise.map _ (R := fun a b : Nat => a < b) (fun a b h => by omega) ?_
  exact List.Pairwise.filter _ List.pairwise_lt_range

theorem arr_get {xs : List Int} {i : Nat} (h : i < xs.toArray.size) : xs.toArray[i]! = xs[i]'(by simpa using h) := by
  rw [getElem!_pos xs.toArray i h]; simp

theorem sym_agree (l : List Int) (N p q : Nat) (hpq : p < q) (hq : q < (symsTo l N).toArray.size) :
    ltOf (cfL l) (symsTo l N).toArray[q]! (symsTo l N).toArray[p]! = symLt l (symsTo l N).toArray[q]! (symsTo l N).toArray[p]! := by
  have hp : p < (symsTo l N).toArray.size := by omega
  have h := List.pairwise_iff_getElem.1 (symsTo_pairwise l N) p q (by simpa using hp) (by simpa using hq) hpq
  rw [arr_get hq, arr_get hp]
  generalize (symsTo l N)[p]'(by simpa using hp) = x at *
  generalize (symsTo l N)[q]'(by simpa using hq) = y at *
  unfold ltOf cfL symLt cmpI
  have hyx : decide (y < x) = false := by simp; omega
  rw [hyx, Bool.and_false, Bool.or_false]
  by_cases h1 : l.getD y.toNat 0 < l.getD x.toNat 0
  · rw [if_pos h1]; simp only [List.getD] at h1; simp [h1]
  · rw [if_neg h1]
    by_cases h2 : l.getD x.toNat 0 < l.getD y.toNat 0
    · rw [if_pos h2]; simp only [List.getD] at h1; simp [h1]
    · rw [if_neg h2]; simp only [List.getD] at h1; simp [h1]

theorem counted_lit (a : Option Addr) (n cap : Nat) (l : List Int) (w : World) (hr : Row w 1 a n cap (l.map (Value.int .i64))) (hok1 : hok l = true) :
    Calls Try.prog 58 #[.slice a n cap] w fun e w' => e = .returned (.agg #[.int .i64 (cn l 0), .int .i64 (cn l 1), .int .i64 (cn l 2), .int .i64 (cn l 3), .int .i64 (cn l 4), .int .i64 (cn l 5), .int .i64 (cn l 6), .int .i64 (cn l 7), .int .i64 (cn l 8), .int .i64 (cn l 9), .int .i64 (cn l 10), .int .i64 (cn l 11), .int .i64 (cn l 12), .int .i64 (cn l 13), .int .i64 (cn l 14), .int .i64 (cn l 15)]) ∧ Below w.heap.size w w' :=
  counted_any a n cap l w hr hok1

set_option maxHeartbeats 2000000 in
theorem new_ok (N : Nat) (hst : StableSaid N) (a : Option Addr) (n cap : Nat) (l : List Int) (w : World) (hr : Row w 1 a n cap (l.map (Value.int .i64))) (hroom : 0 ≤ roomV l) (hN : n ≤ N) (ha : a ≠ none) :
    Calls Try.prog 48 #[.slice a n cap] w fun e w' => ∃ p, e = .returned (.tuple #[.pointer (some ⟨p, 0, none⟩), .int .i64 0]) ∧ IsTb w' (fun b => w.heap.size ≤ b ∧ b < w'.heap.size) p l ∧ Below w.heap.size w w' := by
  have hm := hr.i64
  have hl := hr.len1
  have hok1 := (roomV_ok hroom).2.2.1
  have hlen := (roomV_ok hroom).2.1
  have hn : n ≤ 320 := by omega
  have h1c : ∀ u ∈ l.map (Value.int .i64), u.oneCell' = true := ints_oneCell _ _
  have HL := Lib.hid hl
  have HR := Lib.hid hroom
  have HOK := Lib.hid hok1
  have HRow := Lib.hid hr
  clear hl hroom hok1 hr
  go_enter Try.func48, Try.ntmps48
  go_wp2_with fail
  have hbx : (w.alloc (.cells #[.slice a n cap] 32)).heap[w.heap.size]? = some (.cells #[.slice a n cap] 32 (0, 0)) := heapA_new _ rfl
  have hb0 := belowA w (.cells #[.slice a n cap] 32)
  have hr0 := HRow.out.mono hb0
  have hs0 := sizeA w (.cells #[.slice a n cap] 32)
  generalize w.alloc (.cells #[.slice a n cap] 32) = w0 at *
  refine (codes_ok a n cap l w0 hr0 HR.out).mono ?_
  rintro e w1 ⟨vC, rfl, hC1, hb1⟩
  obtain ⟨aC, cC, rfl, _, _⟩ := Row.of_owns hC1
  have hbx1 := block_keep hb1 hbx
  have hr1 := hr0.mono hb1
  have hbw1 := hb0.trans (hb1.mono (by omega))
  have hs1 := hb1.size
  clear hbx hr0 hb0 hb1
  have HC1 := Lib.hid (ownsRow_base hC1 (show w.heap.size ≤ w0.heap.size by omega))
  have HBX1 := Lib.hid hbx1
  have HR1 := Lib.hid hr1
  have HBW1 := Lib.hid hbw1
  have hbs : w.heap.size < w1.heap.size := by omega
  clear hC1 hbx1 hr1 hbw1 hs0 hs1
  go_wp2
  have hc1 : w1.cell? ⟨w.heap.size, 0, none⟩ = some (.slice a n cap) := by rw [cell_of_row w1 _ 0 _ _ _ HBX1.out]; rfl
  go_region_held3 (fun w' => w'.cell? ⟨w.heap.size, 0, none⟩ = some (.slice a n cap)) (first | assumption | exact hc1 | exact cell?_keep (belowA _ _) (by assumption)) (first
    | (go_at_call 57; refine (cloneI a n cap _ _ (HR1.out.mono (by exact Below.drew (Below.refl _ _))) h1c (by omega)).mono ?_; rintro e w2 ⟨vL, rfl, hL2, hb2, hnn⟩; obtain ⟨aL, cL, rfl, _, _⟩ := Row.of_owns hL2; have hc2 := cell?_keep hb2 (show w1.drew.cell? ⟨w.heap.size, 0, none⟩ = some (.slice a n cap) from hc1); have hr2 := (HR1.out.mono (show Below w1.heap.size w1 w1.drew from Below.drew (Below.refl _ _))).mono hb2)
    | (go_at_call 58; refine (counted_lit a n cap l _ (by assumption) HOK.out).mono ?_; rintro e w3 ⟨rfl, hb3⟩; have hc3 := cell?_keep hb3 hc2))
  have hb23 : Below w1.heap.size w1 w3 := ((Below.refl w1.heap.size w1).drew.trans hb2).trans (hb3.mono hb2.size)
  have hs3 := hb23.size
  have hLlt : ∀ x, aL = some x → x.block < w3.heap.size := fun x hx => by have := (hL2.lt x.block (by simp [Value.ownBlock, hx])).2; have := hb3.size; omega
  have hClt : ∀ x, aC = some x → x.block < w3.heap.size := fun x hx => by have := (HC1.out.lt x.block (by simp [Value.ownBlock, hx])).2; omega
  have HLLT := Lib.hid hLlt
  have HCLT := Lib.hid hClt
  clear hLlt hClt
  have hT : (w3.alloc (.cells (fl 19 (tbV (.slice aL n cL) (.slice aC n cC) (.slice none 0 0) l)).toArray 99)).heap[w3.heap.size]? = some (.cells (fl 19 (tbV (.slice aL n cL) (.slice aC n cC) (.slice none 0 0) l)).toArray 99 (0, 0)) := heapA_new _ rfl
  have hlit : (fl 19 (tbV (.slice aL n cL) (.slice aC n cC) (.slice none 0 0) l)).toArray = #[.slice aL n cL, .slice aC n cC, .int .i64 (cn l 0), .int .i64 (cn l 1), .int .i64 (cn l 2), .int .i64 (cn l 3), .int .i64 (cn l 4), .int .i64 (cn l 5), .int .i64 (cn l 6), .int .i64 (cn l 7), .int .i64 (cn l 8), .int .i64 (cn l 9), .int .i64 (cn l 10), .int .i64 (cn l 11), .int .i64 (cn l 12), .int .i64 (cn l 13), .int .i64 (cn l 14), .int .i64 (cn l 15), .slice none 0 0] := rfl
  rw [hlit] at hT
  have hb4 := belowA w3 (.cells #[.slice aL n cL, .slice aC n cC, .int .i64 (cn l 0), .int .i64 (cn l 1), .int .i64 (cn l 2), .int .i64 (cn l 3), .int .i64 (cn l 4), .int .i64 (cn l 5), .int .i64 (cn l 6), .int .i64 (cn l 7), .int .i64 (cn l 8), .int .i64 (cn l 9), .int .i64 (cn l 10), .int .i64 (cn l 11), .int .i64 (cn l 12), .int .i64 (cn l 13), .int .i64 (cn l 14), .int .i64 (cn l 15), .slice none 0 0] 99)
  have hs4 := sizeA w3 (.cells #[.slice aL n cL, .slice aC n cC, .int .i64 (cn l 0), .int .i64 (cn l 1), .int .i64 (cn l 2), .int .i64 (cn l 3), .int .i64 (cn l 4), .int .i64 (cn l 5), .int .i64 (cn l 6), .int .i64 (cn l 7), .int .i64 (cn l 8), .int .i64 (cn l 9), .int .i64 (cn l 10), .int .i64 (cn l 11), .int .i64 (cn l 12), .int .i64 (cn l 13), .int .i64 (cn l 14), .int .i64 (cn l 15), .slice none 0 0] 99)
  generalize (w3.alloc (.cells #[.slice aL n cL, .slice aC n cC, .int .i64 (cn l 0), .int .i64 (cn l 1), .int .i64 (cn l 2), .int .i64 (cn l 3), .int .i64 (cn l 4), .int .i64 (cn l 5), .int .i64 (cn l 6), .int .i64 (cn l 7), .int .i64 (cn l 8), .int .i64 (cn l 9), .int .i64 (cn l 10), .int .i64 (cn l 11), .int .i64 (cn l 12), .int .i64 (cn l 13), .int .i64 (cn l 14), .int .i64 (cn l 15), .slice none 0 0] 99)) = w4 at *
  rw [← hlit] at hT
  clear hlit
  have hbox := cell?_keep hb4 hc3
  have hrow4 := (hr2.mono hb3).mono hb4
  have hL4 := ownsRow_keep (ownsRow_keep hL2 hb3) hb4
  have hC4 := ownsRow_keep (ownsRow_keep HC1.out hb23) hb4
  have hbw4 := (HBW1.out.trans (hb23.mono (by omega))).trans (hb4.mono (by omega))
  have hT1 : w1.heap.size ≤ w3.heap.size := hs3
  generalize w3.heap.size = T at *
  have HBOX := Lib.hid hbox
  have HROW := Lib.hid hrow4
  have HL4 := Lib.hid hL4
  have HC4 := Lib.hid hC4
  have HBW4 := Lib.hid hbw4
  have HT := Lib.hid hT
  have HS4 := Lib.hid hs4
  have HNN := Lib.hid hnn
  clear hb2 hL2 hnn hc2 hr2 hb3 hc3 hb23 hs3 hT hb4 hs4 hbox hrow4 hL4 hC4 hbw4 HC1 HBX1 HR1 HBW1 hc1
  have hbox2 := HBOX.out
  have haT : ∀ x, a = some x → x.block < T := fun x hx => Nat.lt_of_lt_of_le (HRow.out.lt (by have := (roomV_ok HR.out).1; have := HL.out; omega) x hx) (by omega)
  have HAT := Lib.hid haT
  clear haT
  have h0n : 0 < n := by have := (roomV_ok HR.out).1; have := HL.out; omega
  go_wp2
  go_loopw [26] (fun i wr => ∃ (k : Nat) (S : Value), k ≤ n ∧ i = .int .i64 k ∧ Hid (wr.heap[T]? = some (.cells (fl 19 (tbV (.slice aL n cL) (.slice aC n cC) S l)).toArray 99 (0, 0))) ∧
      Hid (wr.ownsRow (T + 1) 3 1 S (symsTo l k).length ((symsTo l k).map (Value.int .i64))) ∧ Hid (Below T w4 wr)) (fun i _ => n - (intOf i).toNat)
  case atStart => exact ⟨0, .slice none 0 0, by omega, rfl, HT, Lib.hid (World.ownsRow_nil _ _ _ _), Lib.hid (Below.refl _ _)⟩
  case round =>
    obtain ⟨k, S, hk, rfl, HTk, HSk, HBk⟩ := hrel
    by_cases hlt : k < n
    · obtain ⟨b, off, rfl, hblt, hc⟩ := (HROW.out.below HBk.out HAT.out).at 0 k hlt
      have hck := hc k hlt
      have hkl : k < l.length := by rw [HL.out]; exact hlt
      have hcT := blk_cell HTk.out 18 (by omega)
      have hfT := blk_free HTk.out 18
      have hx15 := (hok_mem HOK.out) (l.getD k 0) (by simp [List.getD, hkl])
      have hsy := symsTo_succ l k
      obtain ⟨aS, cS, rfl, hSr, hSb⟩ := Row.of_owns HSk.out
      have hlenS : (symsTo l k).length ≤ k := by unfold symsTo; rw [List.length_map]; exact Nat.le_trans (List.length_filter_le _ _) (by simp)
      obtain ⟨x, hx⟩ : ∃ x, x = l.getD k 0 := ⟨_, rfl⟩
      rw [← hx] at hck hx15 hsy
      have HSY := Lib.hid hsy
      have hszr := HBk.out.size
      have hneS : (Value.slice aS (symsTo l k).length cS).ownBlock ≠ some T := fun h => by have := (HSk.out.lt T h).1; omega
      have HNES := Lib.hid hneS
      have HSB := Lib.hid hSb
      clear hneS hSb
      clear hc hx hsy hSr
      have hTs : T < wr.heap.size := (Array.getElem?_eq_some_iff.1 HTk.out).1
      unfold tbV at hcT
      simp only [Nat.reduceEqDiff, if_false, if_true] at hcT
      by_cases hp : 0 < x
      · go_wp2_with (at_builtin; refine append_row ETI rfl (.tmp 37) (.tmp 39) rfl (T + 1) (Value.slice aS (symsTo l k).length cS) (symsTo l k).length _ rfl (HSk.out.alloc _) _ 1 _ _ rfl (row_new1 _ _ _) (one_mem rfl) (by unfold maxLen; omega) (by omega) (by have := HS4.out; rw [sizeA]; omega) ?_; intro v' w5 hO5 hg5 hnil5; obtain ⟨aS', cS', rfl, _, hSb'⟩ := Row.of_owns hO5; have HO5 := Lib.hid hO5; have HG5 := Lib.hid hg5; have hT5 : w5.heap[T]? = _ := (hg5.block T (by rw [sizeA]; omega) (fun e => HNES.out e.symm)).trans ((Below.heap_alloc wr _ T hTs).trans HTk.out); have hcT5 := blk_cell hT5 18 (by omega); have hfT5 := blk_free hT5 18; unfold tbV at hcT5; simp only [Nat.reduceEqDiff, if_false, if_true] at hcT5; have HT5 := Lib.hid hT5; clear hO5 hg5 hnil5 hT5)
        go_roundw
        case rel =>
          refine ⟨k + 1, Value.slice aS' ((symsTo l k).length + 1) cS', by omega, by go_num, ?_, ?_, ?_⟩
          · refine Lib.hid ?_
            rw [blk_set HT5.out]
            exact congrArg (fun x => some (Obj.cells (List.toArray x) _ _)) (fl_congr fun i _ => by
              unfold tbV
              by_cases h0 : i = 0
              · subst h0; simp
              · by_cases h1 : i = 1
                · subst h1; simp
                · by_cases h18 : i = 18 <;> simp [h0, h1, h18])
          · refine Lib.hid ?_
            rw [HSY.out, if_pos hp, List.length_append, List.map_append]
            refine own_other HO5.out (fun h => ?_) _
            have := (HO5.out.lt T h).1
            omega
          · exact Lib.hid (((HBk.out.alloc (by omega) _).grown HG5.out (by rw [sizeA]; omega) (fun q hq => by have := (HSk.out.lt q hq).1; omega)).setCell (by simp) _)
        case measure => simp [intOf]; omega
      · go_wp2
        go_roundw
        case rel =>
          refine ⟨k + 1, _, by omega, by go_num, HTk, ?_, HBk⟩
          rw [HSY.out, if_neg hp, List.append_nil]
          exact HSk
        case measure => simp [intOf]; omega
    · obtain rfl : k = n := by omega
      have hkl := HL.out
      have hcT := blk_cell HTk.out 18 (by omega)
      unfold tbV at hcT
      simp only [Nat.reduceEqDiff, if_false, if_true] at hcT
      have hLr := (Row.of_own (ownsRow_keep HL4.out (Below.refl _ _))).2
      have HKL := Lib.hid hkl
      clear hkl
      have done_ : ∀ (aS : Option Addr) (cS : Nat) (R : List Int) (w6 : World), w6.heap[T]? = some (.cells (fl 19 (tbV (.slice aL k cL) (.slice aC k cC) (.slice aS R.length cS) l)).toArray 99 (0, 0)) → Below T w4 w6 → Row w6 1 aS R.length cS (R.map (Value.int .i64)) → SrtOf l R → (∀ x, aS = some x → T < x.block ∧ x.block < w6.heap.size) →
          ∃ p, (Value.pointer (some ⟨T, 0, none⟩)) = .pointer (some ⟨p, 0, none⟩) ∧ IsTb w6 (fun b => w.heap.size ≤ b ∧ b < w6.heap.size) p l ∧ Below w.heap.size w w6 := by
        intro aS cS R w6 h1 h2 h3 h4 h5
        obtain ⟨aL', cL', eL, hrL, hbL⟩ := Row.of_owns HL4.out
        obtain ⟨aC', cC', eC, hrC, hbC⟩ := Row.of_owns HC4.out
        simp only [Value.slice.injEq] at eL eC
        obtain ⟨rfl, -, rfl⟩ := eL
        obtain ⟨rfl, -, rfl⟩ := eC
        have hkl := HKL.out
        subst hkl
        have hsz6 : T + 1 ≤ w6.heap.size := by have := h2.size; have := HS4.out; omega
        refine ⟨T, rfl, ⟨⟨aL, cL, aC, cC, aS, cS, R, h1, hrL.below h2 HLLT.out, hrC.below h2 HCLT.out, h3, h4, fun x hx => ?_, fun x hx => ?_, fun x hx => ?_, fun e => ?_⟩, HR.out, ?_⟩, HBW4.out.trans (h2.mono (by omega))⟩
        · have h6 : w1.heap.size ≤ x.block := hbL x hx
          have h7 := HLLT.out x hx
          exact ⟨by omega, by omega⟩
        · have h7 := HCLT.out x hx
          exact ⟨hbC x hx, by omega⟩
        · have h6 := h5 x hx
          exact ⟨by omega, h6.2⟩
        · have := hrL.2.2.2.1 e
          have := hrL.2.1
          omega
        · show w.heap.size ≤ T ∧ T < w6.heap.size
          omega
      have DONE := Lib.hid done_
      clear done_
      have hbox3 : wr.cell? ⟨w.heap.size, 0, none⟩ = some (.slice a k cap) := below_cell HBk.out (by omega) HBOX.out
      have hrowk := HROW.out.below HBk.out HAT.out
      have HROWK := Lib.hid hrowk
      clear hrowk
      rcases HSk.out.2 with ⟨hnil, hzero⟩ | ⟨g, cp, cur, hSv, hgT, hgb, hle, hcpm, hcur, htk⟩
      · subst hnil
        have hsl : symsTo l k = [] := List.eq_nil_of_length_eq_zero hzero
        have HSL := Lib.hid hsl
        have HZ := Lib.hid hzero
        clear hsl hzero
        go_wp2_with (go_at_call 59; refine (stable_nil _ _).mono ?_; rintro e w6 ⟨rfl, rfl⟩)
        go_ret2
        have hkl := HKL.out
        have hsrt : SrtOf l [] := srt_of HOK.out #[] (by rw [hkl, HSL.out]; exact permIn_refl _ _ _) (by intro i j _ h1 h2; rw [hkl, HSL.out] at h2; simp at h2)
        obtain ⟨p, e1, e2, e3⟩ := DONE.out none 0 [] wr HTk.out HBk.out (Row.nil _ _) hsrt (fun x hx => by cases hx)
        exact ⟨p, congrArg (fun v => Ending.returned (.tuple #[v, .int .i64 0])) e1, e2, e3⟩
      · subst hSv
        have hsb : SB (Value.int .i64) wr g 3 (cur.toList.drop (symsTo l k).length) (symsTo l k).toArray wr := SB.start hgb (by simpa using htk)
        have hgw : g < wr.heap.size := (Array.getElem?_eq_some_iff.1 hgb).1
        have hC : CmpQ Try.prog 60 #[.pointer (some ⟨w.heap.size, 0, none⟩)] (Value.int .i64) (cfL l) (fun x => ∃ q : Nat, q < k ∧ x = (q : Int)) wr g := by
          refine ⟨fun _ _ => by kernel_rfl, fun W hG x y hx hy => ?_⟩
          obtain ⟨qx, hqx, rfl⟩ := hx
          obtain ⟨qy, hqy, rfl⟩ := hy
          exact cmpNew_any w.heap.size a k cap l qx qy W (hG.cell hbox3 (by simp; omega)) (HROWK.out.kept hG (fun x hx => by have := HAT.out x hx; omega)) hqx hqy
        have hstb := hst (cfL l) (symLt l) _ 60 _ g cp _ (symsTo l k).toArray wr wr (symLt_swo l) hC hsb (fun i hi => by
          rw [arr_get hi]
          obtain ⟨q, h1, _, h2⟩ := mem_symsTo.1 (List.getElem_mem (by simpa using hi))
          exact ⟨q, h1, h2⟩) (fun p q h1 h2 => sym_agree l k p q h1 h2) (by
          have : (symsTo l k).length ≤ k := by unfold symsTo; rw [List.length_map]; exact Nat.le_trans (List.length_filter_le _ _) (by simp)
          simp; omega)
        have HSTB := Lib.hid hstb
        clear hst hC hsb hstb hgb hcur htk
        go_wp2_with (go_at_call 59; refine HSTB.out.mono ?_; rintro e w6 ⟨rfl, R, hSB, hP, hSo⟩)
        go_ret2
        have hkl := HKL.out
        have hRs : R.size = (symsTo l k).length := by simpa using hP.1
        have hsrt : SrtOf l R.toList := srt_of HOK.out R (by rw [hkl]; simpa using hP) (by rw [hkl]; simpa using hSo)
        have hTw : T < wr.heap.size := (Array.getElem?_eq_some_iff.1 HTk.out).1
        have hT6 : w6.heap[T]? = _ := (hSB.grown.block T hTw (by simp; omega)).trans HTk.out
        have hlen : R.toList.length = (symsTo l k).length := by simpa using hRs
        obtain ⟨p, e1, e2, e3⟩ := DONE.out (some ⟨g, 0, none⟩) cp R.toList w6 (by rw [hT6, hlen]) (HBk.out.grown hSB.grown (by omega) (fun q hq => by cases hq; omega)) (by
          have hrow := hSB.row (cap := cp) (by omega) hcpm
          simpa using hrow) hsrt (fun x hx => by cases hx; exact ⟨hgT, Nat.lt_of_lt_of_le hgw hSB.grown.size⟩)
        exact ⟨p, congrArg (fun v => Ending.returned (.tuple #[v, .int .i64 0])) e1, e2, e3⟩

set_option maxHeartbeats 400000 in
theorem new_bad (a : Option Addr) (n cap : Nat) (l : List Int) (w : World) (hr : Row w 1 a n cap (l.map (Value.int .i64))) (hroom : roomV l < 0) :
    Calls Try.prog 48 #[.slice a n cap] w fun e w' => e = .returned (.tuple #[.pointer none, .int .i64 13]) ∧ Below w.heap.size w w' := by
  have hr0 := hr.mono (belowA w (.cells #[.slice a n cap] 32))
  have HR0 := Lib.hid hr0
  clear hr0
  go_enter Try.func48, Try.ntmps48
  go_wp2_with (go_at_call 56; refine (codes_bad a n cap l _ HR0.out hroom).mono ?_; rintro e w' ⟨rfl, rfl⟩)
  go_ret2
  exact ⟨rfl, belowA _ _⟩
end Go.Proofs.Ytlmdgaajkjbpgaa
/-
  Walks of layer 4: a table's next symbol.
-/
namespace Go.Proofs.Ytlmdgaajkjbpgaa
open Go.RowKit Go.Sort

theorem tdead_any (Bl : Nat → Prop) (p : Nat) (l : List Int) (w : World) (h : IsTb w Bl p l) :
    Calls Try.prog 63 #[.pointer (some ⟨p, 0, none⟩)] w fun e w' => e = .returned (.bool false) ∧ w = w' := by
  obtain ⟨⟨aL, cL, aC, cC, aS, cS, srt, hT, hL, hC, hS, hso, b1, b2, b3, hnn⟩, hroom, hp⟩ := h
  have hc := blk_cell hT 0 (by omega)
  unfold tbV at hc
  simp only [if_true] at hc
  obtain ⟨x, rfl⟩ := Option.ne_none_iff_exists'.1 hnn
  have hnil := fun W : World => Lib.run_eql_slice_nil (P := Try.prog) W 32 3 (some x) l.length cL 0 0 Try.underlying32
  clear hT hL hC hS hso b1 b2 b3 hnn
  go_enter Try.func63, Try.ntmps63
  go_wp2
  go_ret
  exact ⟨rfl, rfl⟩

theorem IsTb.kept {w w' : World} {Bl : Nat → Prop} {p r : Nat} {l : List Int} (h : IsTb w Bl p l) (hg : w.grownBy w' (some r)) (hr : ¬ Bl r) : IsTb w' Bl p l := by
  obtain ⟨⟨aL, cL, aC, cC, aS, cS, srt, hT, hL, hC, hS, hso, b1, b2, b3, hnn⟩, hroom, hp⟩ := h
  have hpr : p ≠ r := fun e => hr (e ▸ hp)
  refine ⟨⟨aL, cL, aC, cC, aS, cS, srt, ?_, hL.kept hg (fun x hx e => hr (e ▸ b1 x hx)), hC.kept hg (fun x hx e => hr (e ▸ b2 x hx)), hS.kept hg (fun x hx e => hr (e ▸ b3 x hx)), hso, b1, b2, b3, hnn⟩, hroom, hp⟩
  rw [hg.block p (Array.getElem?_eq_some_iff.1 hT).1 (by simpa using hpr)]
  exact hT
theorem IsTb.mono {w w' : World} {Bl : Nat → Prop} {p : Nat} {l : List Int} (h : IsTb w Bl p l) (hb : Below w.heap.size w w') : IsTb w' Bl p l := by
  obtain ⟨⟨aL, cL, aC, cC, aS, cS, srt, hT, hL, hC, hS, hso, b1, b2, b3, hnn⟩, hroom, hp⟩ := h
  exact ⟨⟨aL, cL, aC, cC, aS, cS, srt, block_keep hb hT, hL.mono hb, hC.mono hb, hS.mono hb, hso, b1, b2, b3, hnn⟩, hroom, hp⟩
theorem IsTb.weaken {w : World} {Bl Bl' : Nat → Prop} {p : Nat} {l : List Int} (h : IsTb w Bl p l) (hB : ∀ b, Bl b → Bl' b) : IsTb w Bl' p l := by
  obtain ⟨⟨aL, cL, aC, cC, aS, cS, srt, hT, hL, hC, hS, hso, b1, b2, b3, hnn⟩, hroom, hp⟩ := h
  exact ⟨⟨aL, cL, aC, cC, aS, cS, srt, hT, hL, hC, hS, hso, fun x hx => hB _ (b1 x hx), fun x hx => hB _ (b2 x hx), fun x hx => hB _ (b3 x hx), hnn⟩, hroom, hB _ hp⟩

/-- One bit, as a number. -/
theorem getV_one (f : Nat → Bool) (high : Bool) : getV f high 1 1 = if f 0 then 1 else 0 := by
  cases high <;> simp [getV, turnN]

theorem get_cut (r n : Nat) (bs : List UInt8) (high : Bool) (at_ : Nat) (w : World) (h : IsRd w r bs high at_) (hn : n ≤ 32) (hgt : 8 * bs.length < at_ + n) :
    Calls Try.prog 43 #[.pointer (some ⟨r, 0, none⟩), .int .i64 n] w fun e w' => e = .returned (.tuple #[.int .u32 0, .int .i64 10]) ∧ ∃ q, w' = w.drewN q := by
  have hdead := rdead_any r bs high at_ w h
  have hleft := left_any r bs high at_ w h
  have hle := h.le
  have hN : decide (8 * bs.length - at_ < n) = true := by simp; omega
  have hN1 : decide ((n : Int) < 0) = false := by simp
  have hN2 : decide (32 < (n : Int)) = false := by simp; omega
  have HD := Lib.hid hdead
  have HL := Lib.hid hleft
  clear hdead hleft h
  go_enter Try.func43, Try.ntmps43
  go_wp2_with (first
    | (go_at_call 36; refine HD.out.mono ?_; rintro e w' ⟨rfl, rfl⟩)
    | (go_at_call 52; refine HL.out.mono ?_; rintro e w' ⟨rfl, q1, rfl⟩))
  go_ret2
  exact ⟨rfl, _, rfl⟩

theorem ofInt_i64 (a : Nat) (ha : a < 4611686018427387904) : (BitVec.ofInt 64 (a : Int)).toNat = a := by
  rw [BitVec.ofInt_natCast, BitVec.toNat_ofNat]; exact Nat.mod_eq_of_lt (by omega)
theorem i64_or_nat (a b : Nat) (ha : a < 4611686018427387904) (hb : b < 4611686018427387904) : bits .or .i64 (a : Int) (b : Int) = ((a ||| b : Nat) : Int) := by
  have hx : a ||| b < 2 ^ 62 := Nat.or_lt_two_pow (by omega) (by omega)
  show IntKind.i64.wrap ((BitVec.ofInt 64 (a : Int) ||| BitVec.ofInt 64 (b : Int)).toNat : Int) = _
  rw [BitVec.toNat_or, ofInt_i64 a ha, ofInt_i64 b hb, IntKind.wrap_i64]
  omega
theorem or_shl (v x : Nat) (hv : v < 65536) (hx : x < 2) : bits .or .i64 ((v : Int) * 2) (x : Int) = (v : Int) * 2 + x := by
  have e : ((v : Int) * 2) = ((v * 2 : Nat) : Int) := by omega
  rw [e, i64_or_nat _ _ (by omega) (by omega), nat_join 1 (v * 2) x (by omega) (by omega)]
  omega

theorem get_one (r : Nat) (bs : List UInt8) (high : Bool) (at_ : Nat) (w : World) (h : IsRd w r bs high at_) (b : Bool) (hb : bitAt bs high at_ = b) (hle2 : at_ + 1 ≤ 8 * bs.length) :
    Calls Try.prog 43 #[.pointer (some ⟨r, 0, none⟩), .int .i64 1] w fun e w' => e = .returned (.tuple #[.int .u32 (if b then 1 else 0), .int .i64 0]) ∧ IsRd w' r bs high (at_ + 1) ∧ w.grownBy w' (some r) :=
  (get_ok r 1 bs high at_ w h (by omega) hle2).mono fun e w' ⟨he, h1, h2⟩ => ⟨by rw [he, getV_one]; simp only [Nat.add_zero, hb]; cases b <;> rfl, h1, h2⟩

set_option maxHeartbeats 2000000 in
theorem tget_any (Bl : Nat → Prop) (p r : Nat) (l : List Int) (bs : List UInt8) (high : Bool) (at_ : Nat) (w : World) (hT : IsTb w Bl p l) (hR : IsRd w r bs high at_) (hrp : ¬ Bl r) :
    Calls Try.prog 55 #[.pointer (some ⟨p, 0, none⟩), .pointer (some ⟨r, 0, none⟩)] w fun e w' =>
      e = .returned (.tuple #[.int .i64 ((takeV l (fun k => bitAt bs high (at_ + k)) (8 * bs.length - at_)).1 : Nat), .int .i64 (takeV l (fun k => bitAt bs high (at_ + k)) (8 * bs.length - at_)).2.2]) ∧
      IsRd w' r bs high (at_ + (takeV l (fun k => bitAt bs high (at_ + k)) (8 * bs.length - at_)).2.1) ∧ w.grownBy w' (some r) := by
  obtain ⟨V, hV⟩ : ∃ V, V = takeV l (fun k => bitAt bs high (at_ + k)) (8 * bs.length - at_) := ⟨_, rfl⟩
  rw [← hV]
  have HV := Lib.hid hV
  have hdead := tdead_any Bl p l w hT
  have HD := Lib.hid hdead
  have HRd := Lib.hid hR
  have hroom := Lib.hid hT.room
  have hlen := (roomV_ok hT.room).2.1
  have hok1 := Lib.hid (roomV_ok hT.room).2.2.1
  obtain ⟨⟨aL, cL, aC, cC, aS, cS, srt, hTb, hL, hC, hS, hso, b1, b2, b3, hnn⟩, -, hpB⟩ := hT
  have hpr : p ≠ r := fun e => hrp (e ▸ hpB)
  have hSr : ∀ x, aS = some x → x.block ≠ r := fun x hx e => hrp (e ▸ b3 x hx)
  have hcn : ∀ W, w.grownBy W (some r) → ∀ m, 1 ≤ m → m ≤ 15 → W.cell? ⟨p, 2 + m, none⟩ = some (.int .i64 (cn l m)) := fun W hW m h1 h2 => by
    have hc := blk_cell hTb (2 + m) (by omega)
    unfold tbV at hc
    rw [if_neg (by omega), if_neg (by omega), if_neg (by omega), Nat.add_sub_cancel_left] at hc
    exact hW.cell hc (by simpa using hpr)
  have hsl : ∀ W, w.grownBy W (some r) → W.cell? ⟨p, 18, none⟩ = some (.slice aS srt.length cS) := fun W hW => by
    have hc := blk_cell hTb 18 (by omega)
    unfold tbV at hc
    simp only [Nat.reduceEqDiff, if_false, if_true] at hc
    exact hW.cell hc (by simpa using hpr)
  have hsle := Lib.hid hso.len
  have HCN := Lib.hid hcn
  have HSL := Lib.hid hsl
  have HSO := Lib.hid hso
  have HS := Lib.hid hS
  have HSR := Lib.hid hSr
  have hsrtl : srt.length ≤ 320 := by
    have h1 := hso.len
    have h2 := length_symsTo hok1.out l.length (Nat.le_refl _)
    rw [List.take_length] at h2
    have h3 : (symsTo l l.length).length ≤ l.length := by unfold symsTo; rw [List.length_map]; exact Nat.le_trans (List.length_filter_le _ _) (by simp)
    omega
  clear hcn hsl hso hTb hL hC hS b1 b2 b3 hnn hpB hR hdead hrp hV hSr
  have hle := HRd.out.le
  go_enter Try.func55, Try.ntmps55
  go_wp2
  go_step3
  go_wp2_with (go_at_call 63; refine HD.out.mono ?_; rintro e w' ⟨rfl, rfl⟩)
  go_step3
  go_wp2
  go_loopw [6, 7, 8, 9] (fun cd fs at2 i wr => ∃ j : Nat, j ≤ 15 ∧ j ≤ 8 * bs.length - at_ ∧ i = .int .i64 (j + 1 : Nat) ∧ cd = .int .i64 (valN (fun k => bitAt bs high (at_ + k)) j : Nat) ∧ fs = .int .i64 (fcode (cn l) j + cn l j) ∧ at2 = .int .i64 (ats l (j + 1)) ∧
      Hid (fcode (cn l) j + cn l j ≤ (valN (fun k => bitAt bs high (at_ + k)) j : Nat)) ∧ Hid (V = takeGo l (fun k => bitAt bs high (at_ + k)) (8 * bs.length - at_) (15 - j) (j + 1)) ∧ Hid (IsRd wr r bs high (at_ + j)) ∧ Hid (w.grownBy wr (some r))) (fun _ _ _ i _ => 17 - (intOf i).toNat)
  case atStart => exact ⟨0, by omega, by omega, rfl, rfl, by simp [fcode, cn], by simp [ats, cn], Lib.hid (by simp [fcode, cn, valN]), HV, HRd, ⟨rfl, rfl, rfl, Nat.le_refl _, fun _ _ _ => rfl⟩⟩
  case round =>
    obtain ⟨j, hj, hjl, rfl, rfl, rfl, rfl, HF, HVj, HRj, HG⟩ := hrel
    by_cases hlt : j < 15
    · have hfuel : 15 - j = (15 - (j + 1)) + 1 := by omega
      have hgo := HVj.out
      rw [hfuel, takeGo] at hgo
      have hslr := HSL.out wr HG.out
      have hcnr := HCN.out wr HG.out (j + 1) (by omega) (by omega)
      have hal := ats_long hok1.out (n := j + 1) (by omega) (by omega)
      have hamono := ats_mono l (j + 1) 16 (by omega)
      have hann := ats_nonneg l (j + 1)
      have hft := fcode_top hroom.out (j + 1) (by omega)
      have hpw := pow_le_15 (n := j + 1) (by omega)
      have hv1 := valN_lt (fun k => bitAt bs high (at_ + k)) j
      have hpj : 2 ^ j ≤ 16384 := Nat.pow_le_pow_right (n := 2) (by omega) (by omega : j ≤ 14)
      have hfj := fcode_top hroom.out j (by omega)
      have hcb := cn_bd l (j + 1)
      have hcbj := cn_bd l j
      have hso1 := hsle.out
      clear hfuel
      by_cases hlong : hasLong l (j + 1) = false
      · rw [if_pos hlong] at hgo
        have heq : (ats l (j + 1) == (srt.length : Int)) = true := by rw [beq_iff_eq]; have := hal.2 hlong; omega
        have HGO := Lib.hid hgo
        clear hgo hal
        go_wp2
        try rw [Exit.noGoto_ret]
        go_ret2
        rw [HGO.out]
        exact ⟨rfl, HRj.out, HG.out⟩
      · rw [if_neg hlong] at hgo
        have hne : ¬ ats l (j + 1) = ats l 16 := fun e => hlong (hal.1 e)
        have heq : (ats l (j + 1) == (srt.length : Int)) = false := by rw [beq_eq_false_iff_ne]; omega
        clear hal
        by_cases hcut : 8 * bs.length - at_ < j + 1
        · rw [if_pos hcut] at hgo
          have HGO := Lib.hid hgo
          have hcc := get_cut r 1 bs high (at_ + j) wr HRj.out (by omega) (by omega)
          have HCC := Lib.hid hcc
          clear hgo hcc
          go_wp2_with (go_at_call 43; refine HCC.out.mono ?_; rintro e w2 ⟨rfl, q, rfl⟩)
          try rw [Exit.noGoto_ret]
          go_ret2
          rw [HGO.out]
          exact ⟨rfl, ⟨by obtain ⟨a, c, h1, h2, h3⟩ := HRj.out.ex; exact ⟨a, c, h1, h2, h3⟩, HRj.out.le, HRj.out.small⟩, grownBy_drewN HG.out q⟩
        · rw [if_neg hcut] at hgo
          have hval : valN (fun k => bitAt bs high (at_ + k)) (j + 1) = 2 * valN (fun k => bitAt bs high (at_ + k)) j + if bitAt bs high (at_ + j) then 1 else 0 := rfl
          have hf0 := HF.out
          obtain ⟨b, hb⟩ : ∃ b, b = bitAt bs high (at_ + j) := ⟨_, rfl⟩
          rw [← hb] at hval
          have hget := get_one r bs high (at_ + j) wr HRj.out b hb.symm (by omega)
          obtain ⟨v, hv⟩ : ∃ v, v = valN (fun k => bitAt bs high (at_ + k)) j := ⟨_, rfl⟩
          rw [← hv] at hval hv1 hf0
          obtain ⟨v', hv'⟩ : ∃ v', v' = valN (fun k => bitAt bs high (at_ + k)) (j + 1) := ⟨_, rfl⟩
          rw [← hv'] at hval hgo
          rw [show valN (fun k => bitAt bs high (at_ + k)) j = v from hv.symm] at *
          obtain ⟨c, hc0, hc1, hget', hor, hv'b⟩ : ∃ c : Int, 0 ≤ c ∧ c ≤ 1 ∧ (Calls Try.prog 43 #[.pointer (some ⟨r, 0, none⟩), .int .i64 1] wr fun e w' => e = .returned (.tuple #[.int .u32 c, .int .i64 0]) ∧ IsRd w' r bs high (at_ + j + 1) ∧ wr.grownBy w' (some r)) ∧
              bits .or .i64 ((v : Int) * 2) c = (v : Int) * 2 + c ∧ (v' : Int) = (v : Int) * 2 + c := by
            cases b
            · exact ⟨0, by omega, by omega, hget, or_shl v 0 (by omega) (by omega), by rw [hval]; simp; omega⟩
            · exact ⟨1, by omega, by omega, hget, or_shl v 1 (by omega) (by omega), by rw [hval]; simp; omega⟩
          have HGET := Lib.hid hget'
          have HV' := Lib.hid hv'
          clear hget hget' hb hval hv' hv b
          have hfs : fcode (cn l) (j + 1) = (fcode (cn l) j + cn l j) * 2 := rfl
          have hfl : fcode (cn l) (j + 1) ≤ (v' : Int) := by rw [hv'b, hfs]; omega
          by_cases hin : (v' : Int) - fcode (cn l) (j + 1) < cn l (j + 1)
          · obtain ⟨k, hfk, hkl, hk1, hk2⟩ := findSym_some (by omega) hfl hin
            rw [hfk] at hgo
            simp only at hgo
            have hsat := HSO.out.at_ k hkl (by omega)
            rw [hk1, Int.toNat_natCast, hk2] at hsat
            have hbnd := ats_mono l (j + 2) 16 (by omega)
            rw [show ats l (j + 2) = ats l (j + 1) + cn l (j + 1) from rfl] at hbnd
            have hidx : (ats l (j + 1) + ((v' : Int) - fcode (cn l) (j + 1))).toNat < srt.length := by omega
            have hidx2 : (ats l (j + 1) + ((v : Int) * 2 + c) - (fcode (cn l) j + cn l j) * 2).toNat = (ats l (j + 1) + ((v' : Int) - fcode (cn l) (j + 1))).toNat := by
              rw [hv'b, hfs]; congr 1; omega
            have hin2 : (v : Int) * 2 + c - (fcode (cn l) j + cn l j) * 2 < cn l (j + 1) := by omega
            have hlow : 0 ≤ ats l (j + 1) + ((v : Int) * 2 + c) - (fcode (cn l) j + cn l j) * 2 := by omega
            have hupp : ats l (j + 1) + ((v : Int) * 2 + c) - (fcode (cn l) j + cn l j) * 2 < (srt.length : Int) := by omega
            obtain ⟨sb, so, hsa, hsb, hscc⟩ := HS.out.at 0 _ hidx
            have hscell := hscc _ hidx
            rw [hsat, ← hidx2] at hscell
            have hsbr : sb ≠ r := HSR.out _ hsa
            have HGO := Lib.hid hgo
            have HSCELL := Lib.hid hscell
            subst hsa
            clear hgo hfk hk2 hsat hscc hscell hfs hfl hin hidx hidx2 hv'b hbnd
            go_wp2_with (go_at_call 43; refine HGET.out.mono ?_; rintro e w2 ⟨rfl, hR2, hG2⟩; have hGG := grownBy_trans HG.out hG2; have hcn2 := HCN.out w2 hGG (j + 1) (by omega) (by omega); have hsl2 := HSL.out w2 hGG; have hsc2 := hGG.cell HSCELL.out (by simpa using hsbr); have HR2 := Lib.hid hR2; have HGG := Lib.hid hGG; clear hR2 hG2 hGG)
            try rw [Exit.noGoto_ret]
            go_ret2
            rw [HGO.out]
            exact ⟨rfl, by simpa [Nat.add_assoc] using HR2.out, HGG.out⟩
          · rw [findSym_none (by omega) (fun h => hin h.2)] at hgo
            simp only at hgo
            have hin2 : cn l (j + 1) ≤ (v : Int) * 2 + c - (fcode (cn l) j + cn l j) * 2 := by omega
            have hhead : fcode (cn l) (j + 1) + cn l (j + 1) ≤ (v' : Int) := by omega
            have HGO := Lib.hid hgo
            have HFS := Lib.hid hfs
            have HVB := Lib.hid hv'b
            have HHEAD := Lib.hid hhead
            clear hgo hfs hfl hin hv'b hhead
            go_wp2_with (go_at_call 43; refine HGET.out.mono ?_; rintro e w2 ⟨rfl, hR2, hG2⟩; have hGG := grownBy_trans HG.out hG2; have hcn2 := HCN.out w2 hGG (j + 1) (by omega) (by omega); have hsl2 := HSL.out w2 hGG; have HR2 := Lib.hid hR2; have HGG := Lib.hid hGG; clear hR2 hG2 hGG)
            go_roundw
            case rel =>
              refine ⟨j + 1, by omega, by omega, by go_num, ?_, ?_, ?_, ?_, ?_, by simpa [Nat.add_assoc] using HR2, HGG⟩
              · rw [← HV'.out, HVB.out]
              · rw [HFS.out]
              · rfl
              · rw [← HV'.out]; exact HHEAD
              · exact Lib.hid HGO.out
            case measure => simp [intOf]; omega
    · obtain rfl : j = 15 := by omega
      have hgo := HVj.out
      simp only [Nat.sub_self, takeGo] at hgo
      have HGO := Lib.hid hgo
      clear hgo
      go_wp2
      try rw [Exit.noGoto_ret]
      go_ret2
      rw [HGO.out]
      exact ⟨rfl, HRj.out, HG.out⟩
end Go.Proofs.Ytlmdgaajkjbpgaa
/-
  Walks of layer 1: a reader is made.
-/
namespace Go.Proofs.Ytlmdgaajkjbpgaa
open Go.RowKit Go.Sort

set_option maxHeartbeats 400000 in
theorem read_any (a : Option Addr) (cap : Nat) (bs : List UInt8) (high : Bool) (w : World) (hr : Row w 1 a bs.length cap (bs.map fun b => Value.int .u8 b.toNat)) (hby : bs.length ≤ 140737488355328) :
    Calls Try.prog 19 #[.slice a bs.length cap, .bool high] w fun e w' => ∃ r, e = .returned (.pointer (some ⟨r, 0, none⟩)) ∧ IsRd w' r bs high 0 ∧ w.heap.size ≤ r ∧ Below w.heap.size w w' := by
  have hcl := cloneB a bs.length cap _ w hr (by intro u hu; simp at hu; obtain ⟨x, _, rfl⟩ := hu; rfl) (by omega)
  have HCL := Lib.hid hcl
  clear hcl hr
  generalize hn : bs.length = n at *
  have HN := Lib.hid hn
  clear hn
  go_enter Try.func19, Try.ntmps19
  go_wp2_with (go_at_call 29; refine HCL.out.mono ?_; rintro e w1 ⟨v, rfl, hO, hb, hnn⟩; obtain ⟨a1, c1, rfl, hr1, hb1⟩ := Row.of_owns hO; have HO := Lib.hid hO; have HB := Lib.hid hb; have HR1 := Lib.hid hr1; have HB1 := Lib.hid hb1; clear hO hb hnn hr1 hb1)
  go_ret
  have hn := HN.out
  subst hn
  refine ⟨w1.heap.size, rfl, ⟨⟨a1, c1, heapA_new _ rfl, HR1.out.mono (belowA _ _), fun x hx => ?_⟩, by omega, by omega⟩, HB.out.size, HB.out.alloc (by exact HB.out.size) _⟩
  have := (HO.out.lt x.block (by simp [Value.ownBlock, hx])).2
  omega

end Go.Proofs.Ytlmdgaajkjbpgaa
