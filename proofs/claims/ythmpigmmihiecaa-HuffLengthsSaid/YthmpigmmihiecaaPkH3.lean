/-
  Our texts Huff2 to HSo, in one.
-/
import Derived.Test.YthmpigmmihiecaaPkH2
import Derived.Test.YthmpigmmihiecaaProg
import Derived.BigQuiet
import Derived.Deep.QuietTactic
import Derived.Deep.RegionHeld3
import Derived.Deep.RegionHeldLaw
set_option maxRecDepth 8000
set_option maxHeartbeats 8000000
namespace Go.Proofs.Ythmpigmmihiecaa
open Go.RowKit
theorem room_any (a : Option Addr) (n cap : Nat) (l : List Int) (w : World) (hr : Row w 1 a n cap (l.map (Value.int .i64))) :
   Calls Try.prog 19 #[.slice a n cap] w fun e w' => e = .returned (.int .i64 (roomV l)) ∧ w = w' := by
 have hm := hr.i64
 have hl := hr.len1
 by_cases h1 : n = 0
 · have hv : roomV l = -1 := by unfold roomV; rw [if_pos (by omega)]
   have HV := Lib.hid hv; clear hv
   subst h1
   go_enter Try.func19, Try.ntmps19
   go_wp2
   go_ret
   exact ⟨ret_int HV.out.symm, rfl⟩
 have h1' : ((n : Int) == 0) = false := by simp; omega
 by_cases h2 : 320 < (n : Int)
 · have hv : roomV l = -1 := by unfold roomV; rw [if_pos (by omega)]
   have HV := Lib.hid hv; clear hv
   go_enter Try.func19, Try.ntmps19
   go_wp2
   go_ret
   exact ⟨ret_int HV.out.symm, rfl⟩
 have HL := Lib.hid hl; clear hl
 go_enter Try.func19, Try.ntmps19
 go_wp2
 go_loop [3, 4] (fun s i => ∃ k : Nat, k ≤ n ∧ i = .int .i64 k ∧ s = .int .i64 (hsum (l.take k)) ∧ Hid (hok (l.take k) = true)) (fun s i => n - (intOf i).toNat)
 case atStart => exact ⟨0, by omega, rfl, rfl, Lib.hid rfl⟩
 case round =>
   obtain ⟨k, hk, rfl, rfl, hok1⟩ := hrel
   by_cases hlt : k < n
   · obtain ⟨b, off, rfl, hb, hc⟩ := hr.at 0 k hlt
     have hck := hc k hlt
     have hs := hsum_bd (l.take k)
     have hs2 : (l.take k).length ≤ k := List.length_take_le _ _
     have ht := take_snoc 0 l k (by rw [HL.out]; exact hlt)
     obtain ⟨x, hx⟩ : ∃ x, x = l.getD k 0 := ⟨_, rfl⟩
     rw [← hx] at hck ht
     have HX := Lib.hid hx
     have HT := Lib.hid ht
     clear hc hx ht
     by_cases hneg : x < 0
     · have hv : roomV l = -1 := by unfold roomV; rw [if_pos (.inr (.inr (hok_not (k := k) (by rw [HL.out]; exact hlt) (by rw [← HX.out]; omega))))]
       have HV := Lib.hid hv; clear hv
       go_wp2
       go_ret
       exact ⟨ret_int HV.out.symm, rfl⟩
     by_cases h15 : 15 < x
     · have hv : roomV l = -1 := by unfold roomV; rw [if_pos (.inr (.inr (hok_not (k := k) (by rw [HL.out]; exact hlt) (by rw [← HX.out]; omega))))]
       have HV := Lib.hid hv; clear hv
       go_wp2
       go_ret
       exact ⟨ret_int HV.out.symm, rfl⟩
     go_wp2
     go_loop [5, 6] (fun by_ j => ∃ m : Nat, (m : Int) ≤ x ∧ j = .int .i64 m ∧ by_ = .int .i64 (32768 / 2 ^ m)) (fun _ j => x.toNat - (intOf j).toNat)
     case atStart => exact ⟨0, by omega, rfl, rfl⟩
     case round =>
       obtain ⟨m, hmx, rfl, rfl⟩ := hrel
       have hb1 := hby_bd (m : Int)
       unfold hby at hb1
       rw [Int.toNat_natCast] at hb1
       by_cases hmlt : (m : Int) < x
       · go_wp2
         go_round
         case rel => exact ⟨m + 1, by omega, by go_num, by rw [halve]⟩
         case measure => simp [intOf]; omega
       · obtain rfl : x = (m : Int) := by omega
         by_cases hp : 0 < (m : Int)
         · go_wp2
           go_round
           case rel => exact ⟨k + 1, by omega, by go_num, by rw [HT.out, hsum_snoc]; unfold hadd hby; rw [if_pos hp, Int.toNat_natCast], Lib.hid (by rw [HT.out, hok_snoc, hok1.out]; simp; omega)⟩
           case measure => simp [intOf]; omega
         · go_wp2
           go_round
           case rel => exact ⟨k + 1, by omega, by go_num, by rw [HT.out, hsum_snoc]; unfold hadd; rw [if_neg hp], Lib.hid (by rw [HT.out, hok_snoc, hok1.out]; simp; omega)⟩
           case measure => simp [intOf]; omega
   · obtain rfl : k = n := by omega
     have hv := kraft_end HL.out (by omega) (by omega) hok1.out
     by_cases hw : 32768 < hsum (l.take k)
     · rw [if_pos hw] at hv
       have HV := Lib.hid hv; clear hv
       go_wp2
       go_ret
       exact ⟨ret_int HV.out.symm, rfl⟩
     · rw [if_neg hw] at hv
       have HV := Lib.hid hv; clear hv
       go_wp2
       go_ret
       exact ⟨ret_int HV.out.symm, rfl⟩
theorem may_any (a : Option Addr) (n cap : Nat) (l : List Int) (w : World) (hr : Row w 1 a n cap (l.map (Value.int .i64))) :
   Calls Try.prog 6 #[.slice a n cap] w fun e w' => e = .returned (.bool (decide (0 ≤ roomV l))) ∧ w = w' := by
 go_enter Try.func6, Try.ntmps6
 go_wp2_with (go_at_call 19; refine (room_any _ _ _ l _ hr).mono ?_; rintro e w' ⟨rfl, rfl⟩)
 go_ret
 exact ⟨rfl, rfl⟩
theorem rcomplete_any (a : Option Addr) (n cap : Nat) (l : List Int) (w : World) (hr : Row w 1 a n cap (l.map (Value.int .i64))) :
   Calls Try.prog 7 #[.slice a n cap] w fun e w' => e = .returned (.bool (roomV l == 32768)) ∧ w = w' := by
 go_enter Try.func7, Try.ntmps7
 go_wp2_with (go_at_call 19; refine (room_any _ _ _ l _ hr).mono ?_; rintro e w' ⟨rfl, rfl⟩)
 go_ret
 exact ⟨rfl, rfl⟩
theorem infoA16 : (Try.prog.info? 54).map (·.size) = some 16 := by kernel_rfl
theorem infoA16u : (Try.prog.info? 52).map (·.size) = some 16 := by kernel_rfl
def cnV (l : List Int) (m : Nat) : Value := .int .i64 (cn l m)
theorem all_oneCell_fl {n : Nat} {f : Nat → Value} (h : ∀ i, (f i).oneCell' = true) : (fl n f).toArray.all (·.oneCell') = true := by
 rw [Array.all_eq_true_iff_forall_mem]
 intro v hv
 simp [fl] at hv
 obtain ⟨i, _, rfl⟩ := hv
 exact h i
theorem counted_any (a : Option Addr) (n cap : Nat) (l : List Int) (w : World) (hr : Row w 1 a n cap (l.map (Value.int .i64))) (hok1 : hok l = true) :
   Calls Try.prog 22 #[.slice a n cap] w fun e w' => e = .returned (.agg (fl 16 (cnV l)).toArray) ∧ Below w.heap.size w w' := by
 have hm := hr.i64
 have hl := hr.len1
 have h15 := hok_mem hok1
 have HL := Lib.hid hl; clear hl
 go_enter Try.func22, Try.ntmps22
 go_wp2
 obtain ⟨Z, hZ⟩ : ∃ Z : List Value, #[Value.int IntKind.i64 0, Value.int IntKind.i64 0, Value.int IntKind.i64 0, Value.int IntKind.i64 0,
         Value.int IntKind.i64 0, Value.int IntKind.i64 0, Value.int IntKind.i64 0, Value.int IntKind.i64 0,
         Value.int IntKind.i64 0, Value.int IntKind.i64 0, Value.int IntKind.i64 0, Value.int IntKind.i64 0,
         Value.int IntKind.i64 0, Value.int IntKind.i64 0, Value.int IntKind.i64 0, Value.int IntKind.i64 0] = Z.toArray := ⟨_, rfl⟩
 rw [hZ]
 have hZ2 : Z = fl 16 (cnV []) := by
   have := congrArg Array.toList hZ
   simpa [fl, cnV, cn, List.range_succ] using this.symm
 subst hZ2
 clear hZ
 go_loopw [8] (fun i wr => ∃ k : Nat, k ≤ n ∧ i = .int .i64 k ∧ wr.heap[w.heap.size + 1]? = some (.cells (fl 16 (cnV (l.take k))).toArray 54 (0, 0)) ∧
    wr.heap[w.heap.size]? = some (.cells (fl 16 (cnV [])).toArray 54 (0, 0)) ∧ Below w.heap.size w wr) (fun i _ => n - (intOf i).toNat)
 case atStart => exact ⟨0, by omega, rfl, heap_alloc2_new _ _ _, heap_alloc2_old _ _ _, ((Below.refl _ _).alloc (Nat.le_refl _) _).alloc (by simp) _⟩
 case round =>
   obtain ⟨k, hk, rfl, hB1, hB0, hbel⟩ := hrel
   by_cases hlt : k < n
   · obtain ⟨b, off, rfl, hb, hc⟩ := (hr.mono hbel).at 0 k hlt
     have hck := hc k hlt
     have hkl : k < l.length := by rw [HL.out]; exact hlt
     have ht := take_snoc 0 l k hkl
     have hx15 := h15 (l.getD k 0) (by simp [List.getD, hkl])
     obtain ⟨x, hx⟩ : ∃ x, x = l.getD k 0 := ⟨_, rfl⟩
     rw [← hx] at hck ht hx15
     have HT := Lib.hid ht
     have HB0 := Lib.hid hB0
     have HB1 := Lib.hid hB1
     clear hc hx ht h15 hB0 hB1
     have hcb := cn_bd (l.take k) x.toNat
     have hs2 : (l.take k).length ≤ k := List.length_take_le _ _
     by_cases hp : 0 < x
     · have hcell := blk_cell HB1.out x.toNat (by omega)
       unfold cnV at hcell
       have hfree := blk_free HB1.out x.toNat
       go_wp2
       go_roundw
       case rel =>
         refine ⟨k + 1, by omega, by go_num, ?_, blk_other HB0.out (by simp) _, hbel.setCell (by simp) _⟩
         rw [blk_set HB1.out]
         have e : fl 16 (fun j => if j = x.toNat then Value.int IntKind.i64 (cn (l.take k) x.toNat + 1) else cnV (l.take k) j) = fl 16 (cnV (l.take (k + 1))) := fl_congr fun i _ => by
           unfold cnV
           rw [HT.out, cn_snoc _ _ _ hx15.1]
           by_cases hi : i = x.toNat
           · subst hi; simp [hp]
           · simp [hi]
         rw [e]
       case measure => simp [intOf]; omega
     · go_wp2
       go_roundw
       case rel =>
         refine ⟨k + 1, by omega, by go_num, ?_, HB0.out, hbel⟩
         rw [HB1.out]
         have e : fl 16 (cnV (l.take k)) = fl 16 (cnV (l.take (k + 1))) := fl_congr fun i _ => by
           unfold cnV
           rw [HT.out, cn_snoc _ _ _ hx15.1]
           simp [hp]
         rw [e]
       case measure => simp [intOf]; omega
   · obtain rfl : k = n := by omega
     have hT : l.take k = l := by rw [← HL.out]; exact List.take_length
     rw [hT] at hB1
     have HB0 := Lib.hid hB0
     have HB1 := Lib.hid hB1
     clear hB0 hB1 hT
     go_wp2_with (first
       | (refine wpList_load_row rfl 54 (.tmp 3) rfl (w.heap.size + 1) rfl 54 _ (0, 0) _ HB1.out Try.underlying54 rfl (by rw [infoA16]; simp [fl_length]) ?_)
       | (refine wpList_store_row rfl 54 (.tmp 2) (.tmp 20) rfl w.heap.size _ rfl rfl 54 _ HB0.out (by rw [infoA16]; simp [fl_length]) (by simp [fl_length]) (all_oneCell_fl fun _ => rfl) ?_))
     refine bodyPost_ret (results_cell_row rfl _ _ w.heap.size 54 _ (0, 0) _ rfl (setRow_heap _ _ _ _ _ _ HB0.out) Try.underlying54 rfl (by rw [infoA16]; simp [fl_length])) rfl ⟨rfl, ?_⟩
     exact hbel.trans ⟨rfl, rfl, rfl, by simp, fun j hj => setRow_other _ _ _ _ (by omega)⟩
def fcV (l : List Int) (k : Nat) (m : Nat) : Value := .int .u32 (if m < k then fcode (cn l) m else 0)
theorem firsts_any (l : List Int) (w : World) (hroom : 0 ≤ roomV l) :
   Calls Try.prog 21 #[.agg (fl 16 (cnV l)).toArray] w fun e w' => e = .returned (.agg (fl 16 (fcV l 16)).toArray) ∧ Below w.heap.size w w' := by
 have hlen := (roomV_ok hroom).2.1
 have HR := Lib.hid hroom; clear hroom
 go_enter Try.func21, Try.ntmps21
 go_wp2
 obtain ⟨Z, hZ⟩ : ∃ Z : List Value, #[Value.int IntKind.u32 0, Value.int IntKind.u32 0, Value.int IntKind.u32 0, Value.int IntKind.u32 0,
         Value.int IntKind.u32 0, Value.int IntKind.u32 0, Value.int IntKind.u32 0, Value.int IntKind.u32 0,
         Value.int IntKind.u32 0, Value.int IntKind.u32 0, Value.int IntKind.u32 0, Value.int IntKind.u32 0,
         Value.int IntKind.u32 0, Value.int IntKind.u32 0, Value.int IntKind.u32 0, Value.int IntKind.u32 0] = Z.toArray := ⟨_, rfl⟩
 rw [hZ]
 have hZ2 : Z = fl 16 (fcV l 0) := by
   have := congrArg Array.toList hZ
   simpa [fl, fcV, List.range_succ] using this.symm
 subst hZ2
 clear hZ
 go_loopw [4, 6] (fun c i wr => ∃ k : Nat, k ≤ 16 ∧ i = .int .i64 k ∧ c = .int .u32 (fcode (cn l) (k - 1)) ∧ wr.heap[w.heap.size + 2]? = some (.cells (fl 16 (fcV l k)).toArray 52 (0, 0)) ∧
    wr.heap[w.heap.size + 1]? = some (.cells (fl 16 (fcV l 0)).toArray 52 (0, 0)) ∧ wr.heap[w.heap.size]? = some (.cells (fl 16 (cnV l)).toArray 54 (0, 0)) ∧ Below w.heap.size w wr) (fun _ i _ => 16 - (intOf i).toNat)
 case atStart => exact ⟨0, by omega, rfl, rfl, heapA_new _ (by simp), heapA_old _ (heapA_new _ (by simp)), heapA_old _ (heapA_old _ (heapA_new _ rfl)), belowA3 _ _ _ _⟩
 case round =>
   obtain ⟨k, hk, rfl, rfl, hB2, hB1, hB0, hbel⟩ := hrel
   have HB0 := Lib.hid hB0
   have HB1 := Lib.hid hB1
   have HB2 := Lib.hid hB2
   clear hB0 hB1 hB2
   by_cases hlt : k < 16
   · rcases k with _ | k
     · go_wp2
       go_roundw
       case rel =>
         refine ⟨1, by omega, by go_num, rfl, ?_, HB1.out, HB0.out, hbel⟩
         rw [HB2.out]
         have e : fl 16 (fcV l 0) = fl 16 (fcV l 1) := fl_congr fun i _ => by
           unfold fcV
           by_cases hi : i = 0
           · subst hi; simp [fcode]
           · simp [show ¬ i < 1 by omega]
         rw [e]
       case measure => simp [intOf]
     · have hcell := blk_cell HB0.out k (by omega)
       unfold cnV at hcell
       have hcell2 := blk_cell HB2.out (k + 1) (by omega)
       have hfree2 := blk_free HB2.out (k + 1)
       unfold fcV at hcell2
       have hcb := cn_bd l k
       have hft := fcode_top HR.out k (by omega)
       have hp := pow_le_15 (n := k) (by omega)
       go_wp2
       go_roundw
       case rel =>
         refine ⟨k + 2, by omega, by go_num, ?_, ?_, blk_other HB1.out (by simp) _, blk_other HB0.out (by simp; omega) _, hbel.setCell (by simp; omega) _⟩
         · rfl
         · rw [show w.heap.size + 1 + 1 = w.heap.size + 2 from rfl, blk_set HB2.out]
           exact congrArg (fun x => some (Obj.cells (List.toArray x) _ _)) (fl_congr fun i _ => by
             unfold fcV
             by_cases hi : i = k + 1
             · subst hi; simp; rfl
             · have : (i < k + 1) = (i < k + 2) := by simp; omega
               simp [hi, this])
       case measure => simp [intOf]; omega
   · obtain rfl : k = 16 := by omega
     go_wp2_with (first
       | (refine wpList_load_row rfl 52 (.tmp 3) rfl (w.heap.size + 2) rfl 52 _ (0, 0) _ HB2.out Try.underlying52 rfl (by rw [infoA16u]; simp [fl_length]) ?_)
       | (refine wpList_store_row rfl 52 (.tmp 2) (.tmp 23) rfl (w.heap.size + 1) _ rfl rfl 52 _ HB1.out (by rw [infoA16u]; simp [fl_length]) (by simp [fl_length]) (all_oneCell_fl fun _ => rfl) ?_))
     refine bodyPost_ret (results_cell_row rfl _ _ (w.heap.size + 1) 52 _ (0, 0) _ rfl (setRow_heap _ _ _ _ _ _ HB1.out) Try.underlying52 rfl (by rw [infoA16u]; simp [fl_length])) rfl ⟨rfl, ?_⟩
     exact below_setRow hbel (by omega) _
theorem EU32 : ElemT Try.prog 29 35 (.int .u32 0) 1 4 := ⟨Try.underlying29, by kernel_rfl, rfl, by omega⟩
theorem made_fl (z : Value) (n : Nat) : (madeCells #[z] (n * 1)).toList = fl n (fun _ => z) := by
 rw [Nat.mul_one, toList_madeCells_one, fl_replicate]
theorem own_cell {w : World} {base e g n cap : Nat} {enc : Nat → Value} (h : w.ownsRow base e 1 (.slice (some ⟨g, 0, none⟩) n cap) n (fl n enc)) (i : Nat) (hi : i < n) : w.cell? ⟨g, i, none⟩ = some (enc i) := by
 rw [h.cellAt i (by omega), fl_get enc hi]
theorem own_set {w : World} {base e g n cap : Nat} {enc : Nat → Value} (h : w.ownsRow base e 1 (.slice (some ⟨g, 0, none⟩) n cap) n (fl n enc)) (i : Nat) (v : Value) :
   (w.setCell ⟨g, i, none⟩ v).ownsRow base e 1 (.slice (some ⟨g, 0, none⟩) n cap) n (fl n (fun j => if j = i then v else enc j)) := by
 rw [← fl_set]; exact (h.stored i v).1
theorem own_other {w : World} {base e sz : Nat} {v : Value} {n : Nat} {xs : List Value} (h : w.ownsRow base e sz v n xs) {a : Addr} (ha : v.ownBlock ≠ some a.block) (u : Value) : (w.setCell a u).ownsRow base e sz v n xs := ownsRow_setCell_other h ha u
theorem own_congr {w : World} {base e sz : Nat} {v : Value} {n : Nat} {xs ys : List Value} (h : w.ownsRow base e sz v n xs) (hx : xs = ys) : w.ownsRow base e sz v n ys := hx ▸ h
def cdV (l : List Int) (k i : Nat) : Value := .int .u32 (if i < k then codeAt l i else 0)
def nxV (l : List Int) (k m : Nat) : Value := .int .u32 (fcode (cn l) m + cn (l.take k) m)
theorem codes_ok (a : Option Addr) (n cap : Nat) (l : List Int) (w : World) (hr : Row w 1 a n cap (l.map (Value.int .i64))) (hroom : 0 ≤ roomV l) :
   Calls Try.prog 8 #[.slice a n cap] w fun e w' => ∃ v, e = .returned (.tuple #[v, .int .i64 0]) ∧ w'.ownsRow w.heap.size 35 1 v n (fl n (cdV l n)) ∧ Below w.heap.size w w' := by
 have hm := hr.i64
 have hl := hr.len1
 have hok1 := (roomV_ok hroom).2.2.1
 have hlen := (roomV_ok hroom).2.1
 have h15 := hok_mem hok1
 have hn : n ≤ 320 := by omega
 have HL := Lib.hid hl
 have HR := Lib.hid hroom
 have H15 := Lib.hid h15
 have HOK := Lib.hid hok1
 clear hl hroom h15 hok1
 go_enter Try.func8, Try.ntmps8
 go_wp2_with (first
   | (go_at_call 20; refine (kraft_any _ _ _ l _ hr).mono ?_; rintro e w' ⟨rfl, rfl⟩; have hrr := HR.out))
 refine (counted_any _ _ _ l _ hr HOK.out).mono ?_
 rintro e w1 ⟨rfl, hb1⟩
 go_wp2_with fail
 refine (firsts_any l _ HR.out).mono ?_
 rintro e w2 ⟨rfl, hb2⟩
 have hn2 : (n : Int) ≤ 320 := by omega
 go_wp2_with (first
   | (with_reducible show wpList _ _ _ (Oper.mk _ (Op.store 52 (Operand.tmp 4) _) _ _ _ _ :: _) _ _; refine store_fresh rfl 52 (.tmp 4) (.tmp 13) rfl _ _ (fl 16 (fcV l 16)).toArray rfl rfl (by rw [infoA16u]; simp [fl_length]) (by simp [fl_length]) (all_oneCell_fl fun _ => rfl) ?_; intro w3 hB3 hb3 hs3; have HB3 := Lib.hid hB3; have HS3 := Lib.hid hs3; clear hB3 hs3)
   | (at_make; refine make_full EU32 rfl (.tmp 15) (.tmp 15) rfl .i64 .i64 _ _ n rfl rfl rfl rfl (by omega) (by unfold maxLen; omega) ?_; intro w4 hown hb4; have HO := Lib.hid (own_congr hown (made_fl _ n)); clear hown))
 have hbA := hb1.trans (hb2.mono hb1.size)
 have hbB := hbA.trans (hb3.mono hbA.size)
 have hbC := hbB.trans (hb4.mono hbB.size)
 have hne : ¬ w3.heap.size = w2.heap.size := by have := HS3.out; omega
 have hne2 : ¬ w2.heap.size = w3.heap.size := by have := HS3.out; omega
 have hB4 := block_keep hb4 HB3.out
 have hgeB := hbA.size
 have hgeG := hbB.size
 have HB4 := Lib.hid hB4
 clear hB4 HB3 HS3 hb1 hb2 hb3 hb4 hbA hbB
 generalize w2.heap.size = B at *
 generalize w3.heap.size = G at *
 go_loopw [19] (fun i wr => ∃ k : Nat, k ≤ n ∧ i = .int .i64 k ∧ wr.ownsRow w.heap.size 35 1 (.slice (some ⟨G, 0, none⟩) n n) n (fl n (cdV l k)) ∧
    wr.heap[B]? = some (.cells (fl 16 (nxV l k)).toArray 52 (0, 0)) ∧ Below w.heap.size w wr) (fun i _ => n - (intOf i).toNat)
 case atStart =>
   refine ⟨0, by omega, rfl, own_congr (ownsRow_base HO.out hgeG) (fl_congr fun i _ => by simp [cdV]), ?_, hbC⟩
   rw [HB4.out]
   exact congrArg (fun x => some (Obj.cells (List.toArray x) _ _)) (fl_congr fun i hi => by simp [fcV, nxV, hi]; simp [cn])
 case round =>
   obtain ⟨k, hk, rfl, hO, hBk, hbel⟩ := hrel
   clear HO HB4 hbC
   have HO := Lib.hid hO
   have HB := Lib.hid hBk
   clear hO hBk
   by_cases hlt : k < n
   · obtain ⟨b, off, rfl, hb, hc⟩ := (hr.mono hbel).at 0 k hlt
     have hck := hc k hlt
     have hkl : k < l.length := by rw [HL.out]; exact hlt
     have ht := take_snoc 0 l k hkl
     have hx15 := H15.out (l.getD k 0) (by simp [List.getD, hkl])
     have hcl := fun hp : 0 < l.getD k 0 => cn_lt (m := (l.getD k 0).toNat) hkl (by omega) (by omega)
     have hcA : codeAt l k = if 0 < l.getD k 0 then fcode (cn l) (l.getD k 0).toNat + cn (l.take k) (l.getD k 0).toNat else 0 := rfl
     obtain ⟨x, hx⟩ : ∃ x, x = l.getD k 0 := ⟨_, rfl⟩
     rw [← hx] at hck ht hx15 hcl hcA
     have HT := Lib.hid ht
     have HC := Lib.hid hcA
     clear hc ht hx hcA
     by_cases hp : 0 < x
     · have hft := fcode_top HR.out x.toNat (by omega)
       have hcl' := hcl hp
       have hpw := pow_le_15 (n := x.toNat) (by omega)
       have hcb := cn_bd (l.take k) x.toNat
       clear hcl
       have hcell := blk_cell HB.out x.toNat (by omega)
       unfold nxV at hcell
       have hfree := blk_free HB.out x.toNat
       have hcell2 := own_cell HO.out k hlt
       have hfree2 := HO.out.frozenAt k
       go_wp2
       go_roundw
       case rel =>
         refine ⟨k + 1, by omega, by go_num, own_congr (own_other (own_set HO.out k _) (by simp [Value.ownBlock]; omega) _) (fl_congr fun i _ => ?_), ?_, (hbel.setCell (by simp; omega) _).setCell (by simp; omega) _⟩
         · unfold cdV
           by_cases hi : i = k
           · subst hi; simp [HC.out, hp]
           · have : (i < k) = (i < k + 1) := by simp; omega
             simp [hi, this]
         · rw [blk_set (blk_other HB.out (by simp; omega) _)]
           exact congrArg (fun x => some (Obj.cells (List.toArray x) _ _)) (fl_congr fun i _ => by
             unfold nxV
             rw [HT.out, cn_snoc _ _ _ hx15.1]
             by_cases hi : i = x.toNat
             · subst hi; simp [hp]; omega
             · simp [hi])
       case measure => simp [intOf]; omega
     · go_wp2
       go_roundw
       case rel =>
         refine ⟨k + 1, by omega, by go_num, own_congr HO.out (fl_congr fun i _ => ?_), ?_, hbel⟩
         · unfold cdV
           by_cases hi : i = k
           · subst hi; simp [HC.out, hp]
           · have : (i < k) = (i < k + 1) := by simp; omega
             simp [this]
         · rw [HB.out]
           exact congrArg (fun x => some (Obj.cells (List.toArray x) _ _)) (fl_congr fun i _ => by
             unfold nxV
             rw [HT.out, cn_snoc _ _ _ hx15.1]
             simp [hp])
       case measure => simp [intOf]; omega
   · obtain rfl : k = n := by omega
     go_wp2
     go_ret2
     exact ⟨_, rfl, HO.out, hbel⟩
theorem ETI : ElemT Try.prog 22 3 (.int .i64 0) 1 8 := ⟨Try.underlying22, by kernel_rfl, rfl, by omega⟩
theorem cloneI (a : Option Addr) (n cap : Nat) (xs : List Value) (w : World) (hr : Row w 1 a n cap xs) (h1 : ∀ u ∈ xs, u.oneCell' = true) (hby : n * 8 ≤ 140737488355328) :
   Calls Try.prog 23 #[.slice a n cap] w fun e w' => ∃ v, e = .returned v ∧ w'.ownsRow w.heap.size 3 1 v n xs ∧ Below w.heap.size w w' ∧ NN a v := by
 rcases a with _ | ad
 · obtain ⟨r1, r2, r3, r4, r5⟩ := hr
   obtain rfl := r4 rfl
   obtain rfl : n = 0 := by omega
   obtain rfl : xs = [] := List.eq_nil_of_length_eq_zero (by simpa using r1)
   have hnil := fun W : World => Lib.run_eql_slice_nil (P := Try.prog) W 22 3 none 0 0 0 0 Try.underlying22
   go_enter Try.func23, Try.ntmps23
   go_wp2
   go_ret
   exact ⟨_, rfl, World.ownsRow_nil _ _ _ _, Below.refl _ _, fun h => absurd rfl h⟩
 · have hm : n ≤ maxLen := Nat.le_trans hr.2.1 hr.2.2.1
   have hnil := fun W : World => Lib.run_eql_slice_nil (P := Try.prog) W 22 3 (some ad) n cap 0 0 Try.underlying22
   have HR := Lib.hid (hr.mono (belowA w (.cells #[] 3)))
   have hO := World.ownsRow_lit (base := w.heap.size) (e := 3) (size := 1) w #[] 0 (Nat.le_refl _) (by simp [maxLen]) (by simp)
   have HO := Lib.hid hO
   clear hO hr
   go_enter Try.func23, Try.ntmps23
   go_wp2_with (at_builtin; refine append_row ETI rfl (.tmp 5) (.tmp 6) rfl w.heap.size (.slice (some ⟨w.heap.size, 0, none⟩) 0 0) 0 _ rfl HO.out _ n _ _ rfl HR.out h1 (by omega) (by omega) (by simp) ?_; intro v' w1 hO1 hg hnil; have HO1 := Lib.hid hO1; have HN := Lib.hid hnil; have HG := Lib.hid hg; clear hO1 hnil hg)
   go_ret
   refine ⟨_, rfl, by simpa using HO1.out, below_grown (belowA w _) HG.out (by rw [sizeA]; omega) (fun k hk => by simp [Value.ownBlock] at hk; omega), fun _ h => ?_⟩
   have := HN.out.1 h; simp at this
theorem ETB : ElemT Try.prog 40 5 (.int .u8 0) 1 1 := ⟨Try.underlying40, by kernel_rfl, rfl, by omega⟩
theorem cloneB (a : Option Addr) (n cap : Nat) (xs : List Value) (w : World) (hr : Row w 1 a n cap xs) (h1 : ∀ u ∈ xs, u.oneCell' = true) (hby : n * 1 ≤ 140737488355328) :
   Calls Try.prog 27 #[.slice a n cap] w fun e w' => ∃ v, e = .returned v ∧ w'.ownsRow w.heap.size 5 1 v n xs ∧ Below w.heap.size w w' ∧ NN a v := by
 rcases a with _ | ad
 · obtain ⟨r1, r2, r3, r4, r5⟩ := hr
   obtain rfl := r4 rfl
   obtain rfl : n = 0 := by omega
   obtain rfl : xs = [] := List.eq_nil_of_length_eq_zero (by simpa using r1)
   have hnil := fun W : World => Lib.run_eql_slice_nil (P := Try.prog) W 40 5 none 0 0 0 0 Try.underlying40
   go_enter Try.func27, Try.ntmps27
   go_wp2
   go_ret
   exact ⟨_, rfl, World.ownsRow_nil _ _ _ _, Below.refl _ _, fun h => absurd rfl h⟩
 · have hm : n ≤ maxLen := Nat.le_trans hr.2.1 hr.2.2.1
   have hnil := fun W : World => Lib.run_eql_slice_nil (P := Try.prog) W 40 5 (some ad) n cap 0 0 Try.underlying40
   have HR := Lib.hid (hr.mono (belowA w (.cells #[] 5)))
   have hO := World.ownsRow_lit (base := w.heap.size) (e := 5) (size := 1) w #[] 0 (Nat.le_refl _) (by simp [maxLen]) (by simp)
   have HO := Lib.hid hO
   clear hO hr
   go_enter Try.func27, Try.ntmps27
   go_wp2_with (at_builtin; refine append_row ETB rfl (.tmp 5) (.tmp 6) rfl w.heap.size (.slice (some ⟨w.heap.size, 0, none⟩) 0 0) 0 _ rfl HO.out _ n _ _ rfl HR.out h1 (by omega) (by omega) (by simp) ?_; intro v' w1 hO1 hg hnil; have HO1 := Lib.hid hO1; have HN := Lib.hid hnil; have HG := Lib.hid hg; clear hO1 hnil hg)
   go_ret
   refine ⟨_, rfl, by simpa using HO1.out, below_grown (belowA w _) HG.out (by rw [sizeA]; omega) (fun k hk => by simp [Value.ownBlock] at hk; omega), fun _ h => ?_⟩
   have := HN.out.1 h; simp at this
theorem i64_and7 (n : Int) : bits .and .i64 n 7 = n % 8 := by
 have h7 : (BitVec.ofInt 64 7).toNat = 2 ^ 3 - 1 := by decide
 have key : (BitVec.ofInt 64 n &&& BitVec.ofInt 64 7).toNat = (n % ((2 ^ 64 : Nat) : Int)).toNat % 2 ^ 3 := by
   rw [BitVec.toNat_and, BitVec.toNat_ofInt, h7, Nat.and_two_pow_sub_one_eq_mod]
 show IntKind.i64.wrap ((BitVec.ofInt 64 n &&& BitVec.ofInt 64 7).toNat : Nat) = n % 8
 rw [key, IntKind.wrap_i64]
 omega
theorem case8 (s : Nat) (h : s < 8) : s = 0 ∨ s = 1 ∨ s = 2 ∨ s = 3 ∨ s = 4 ∨ s = 5 ∨ s = 6 ∨ s = 7 := by omega
def maskE (at_ : Nat) (high : Bool) : Nat := if high then 7 - at_ % 8 else at_ % 8
def maskV (at_ : Nat) (high : Bool) : Int := ((2 ^ maskE at_ high : Nat) : Int)
theorem maskE_lt (at_ : Nat) (high : Bool) : maskE at_ high < 8 := by unfold maskE; split <;> omega
theorem mask_any (b off at_ : Nat) (high : Bool) (w : World) (h0 : w.cell? ⟨b, off, none⟩ = some (.int .i64 at_)) (h1 : w.cell? ⟨b, off + 1, none⟩ = some (.bool high)) :
   Calls Try.prog 39 #[.pointer (some ⟨b, off, none⟩)] w fun e w' => e = .returned (.int .u8 (maskV at_ high)) ∧ w = w' := by
 obtain ⟨s, hs⟩ : ∃ s, s = at_ % 8 := ⟨_, rfl⟩
 have hand : bits .and .i64 (at_ : Int) 7 = (s : Int) := by rw [i64_and7]; omega
 have hv : maskV at_ high = if high then ((2 ^ (7 - s) : Nat) : Int) else ((2 ^ s : Nat) : Int) := by
   unfold maskV maskE; rw [← hs]; cases high <;> rfl
 have hs8 : s < 8 := by omega
 have HV := Lib.hid hv
 clear hv hs
 rcases case8 s hs8 with rfl | rfl | rfl | rfl | rfl | rfl | rfl | rfl <;> cases high
 all_goals
   clear hs8
   go_enter Try.func39, Try.ntmps39
   go_wp2
   go_ret
   exact ⟨congrArg (fun x => Ending.returned (.int .u8 x)) HV.out.symm, rfl⟩
def turnN (k n : Nat) (high : Bool) : Nat := if high then n - 1 - k else k
theorem turn_any (b off k n : Nat) (high : Bool) (w : World) (h1 : w.cell? ⟨b, off + 1, none⟩ = some (.bool high)) (hk : k < n) (hn : n ≤ 32) :
   Calls Try.prog 40 #[.pointer (some ⟨b, off, none⟩), .int .i64 k, .int .i64 n] w fun e w' => e = .returned (.int .i64 (turnN k n high : Nat)) ∧ w = w' := by
 have hv : ((turnN k n high : Nat) : Int) = if high then (n : Int) - 1 - k else (k : Int) := by unfold turnN; cases high <;> simp <;> omega
 have HV := Lib.hid hv
 clear hv
 cases high
 all_goals
   go_enter Try.func40, Try.ntmps40
   go_wp2
   go_ret
   exact ⟨congrArg (fun x => Ending.returned (.int .i64 x)) HV.out.symm, rfl⟩
structure IsRd (w : World) (r : Nat) (bs : List UInt8) (high : Bool) (at_ : Nat) : Prop where
 ex : ∃ a cap, w.heap[r]? = some (.cells (fl 4 (fun i => if i = 0 then .int .i64 at_ else if i = 1 then .bool high else if i = 2 then .bool true else .slice a bs.length cap)).toArray 66 (0, 0)) ∧
   Row w 1 a bs.length cap (bs.map fun b => .int .u8 b.toNat) ∧ ∀ x, a = some x → x.block < r
 le : at_ ≤ 8 * bs.length
 small : 8 * bs.length < 4611686018427387904
theorem rdead_any (r : Nat) (bs : List UInt8) (high : Bool) (at_ : Nat) (w : World) (h : IsRd w r bs high at_) :
   Calls Try.prog 37 #[.pointer (some ⟨r, 0, none⟩)] w fun e w' => e = .returned (.bool false) ∧ w = w' := by
 obtain ⟨⟨a, cap, hb, hr, hne⟩, hle, hsm⟩ := h
 have h2 := blk_cell hb 2 (by omega)
 simp only [if_pos, Nat.reduceEqDiff, if_false] at h2
 go_enter Try.func37, Try.ntmps37
 go_wp2
 go_ret
 exact ⟨rfl, rfl⟩
theorem left_any (r : Nat) (bs : List UInt8) (high : Bool) (at_ : Nat) (w : World) (h : IsRd w r bs high at_) :
   Calls Try.prog 38 #[.pointer (some ⟨r, 0, none⟩)] w fun e w' => e = .returned (.int .i64 ((8 * bs.length - at_ : Nat) : Int)) ∧ ∃ q, w' = w.drewN q := by
 have hdead := rdead_any r bs high at_ w h
 have HD := Lib.hid hdead
 obtain ⟨⟨a, cap, hb, hr, hne⟩, hle, hsm⟩ := h
 have h0 := blk_cell hb 0 (by omega)
 have h3 := blk_cell hb 3 (by omega)
 simp only [if_pos, Nat.reduceEqDiff, if_false] at h0 h3
 have hv : ((8 * bs.length - at_ : Nat) : Int) = 8 * (bs.length : Int) - at_ := by omega
 have HV := Lib.hid hv
 clear hv hb hr hne hdead
 generalize bs.length = n at *
 go_enter Try.func38, Try.ntmps38
 go_wp2_with (go_at_call 37; refine HD.out.mono ?_; rintro e w' ⟨rfl, rfl⟩)
 go_quiet (fail)
 go_wp2
 go_ret
 exact ⟨congrArg (fun x => Ending.returned (.int .i64 x)) HV.out.symm, _, rfl⟩
def bitAt (bs : List UInt8) (high : Bool) (i : Nat) : Bool := (bs.getD (i / 8) 0).toNat / 2 ^ maskE i high % 2 == 1
def getV (f : Nat → Bool) (high : Bool) (n : Nat) : Nat → Nat
 | 0 => 0
 | k + 1 => getV f high n k + if f k then 2 ^ turnN k n high else 0
theorem getV_low (f : Nat → Bool) (n : Nat) : ∀ k, getV f false n k < 2 ^ k
 | 0 => by simp [getV]
 | k + 1 => by
   have := getV_low f n k
   simp only [getV, turnN, Nat.pow_succ]
   split <;> simp <;> omega
theorem getV_high (f : Nat → Bool) (n : Nat) : ∀ k, k ≤ n → getV f true n k % 2 ^ (n - k) = 0 ∧ getV f true n k + 2 ^ (n - k) ≤ 2 ^ n
 | 0, _ => by simp [getV]
 | k + 1, h => by
   obtain ⟨h1, h2⟩ := getV_high f n k (by omega)
   have e : n - k = (n - (k + 1)) + 1 := by omega
   have e2 : n - 1 - k = n - (k + 1) := by omega
   rw [e, Nat.pow_succ] at h1 h2
   have hp : 0 < 2 ^ (n - (k + 1)) := Nat.pow_pos (by omega)
   have hd : 2 ^ (n - (k + 1)) ∣ getV f true n k := Nat.dvd_trans (Nat.dvd_mul_right _ 2) (Nat.dvd_of_mod_eq_zero h1)
   simp only [getV, turnN, if_true, e2]
   generalize 2 ^ (n - (k + 1)) = p at *
   split
   · exact ⟨Nat.mod_eq_zero_of_dvd ((Nat.dvd_add_right hd).2 (Nat.dvd_refl _)), by omega⟩
   · exact ⟨Nat.mod_eq_zero_of_dvd (by simpa using hd), by omega⟩
theorem getV_lt (f : Nat → Bool) (high : Bool) (n k : Nat) (h : k ≤ n) : getV f high n k < 2 ^ n := by
 cases high
 · exact Nat.lt_of_lt_of_le (getV_low f n k) (Nat.pow_le_pow_right (by omega) h)
 · have := (getV_high f n k h).2
   have hp : 0 < 2 ^ (n - k) := Nat.pow_pos (by omega)
   omega
theorem getV_or (f : Nat → Bool) (high : Bool) (n k : Nat) (h : k < n) : getV f high n k ||| 2 ^ turnN k n high = getV f high n k + 2 ^ turnN k n high := by
 cases high
 · have hl := getV_low f n k
   simp only [turnN]
   rw [Nat.or_comm, if_neg (by simp), nat_join k _ _ (Nat.mod_self _) hl]; omega
 · obtain ⟨h1, h2⟩ := getV_high f n k (by omega)
   have e : n - k = (n - 1 - k) + 1 := by omega
   rw [e] at h1
   simp only [turnN, if_true]
   exact nat_join (n - 1 - k + 1) _ _ h1 (Nat.pow_lt_pow_right (by omega) (by omega))
theorem quiet_eq {P : Program} {f : FuncId} {args : Array Value} {w : World} {n : Nat} {v : Value}
   (h : Calls P f args (w.drewN n) fun e w' => e = .returned v ∧ w.drewN n = w') : Calls P f args (w.drewN n) fun e w'' => e = .returned v ∧ ∃ m, w'' = w.drewN m :=
 h.mono fun _ _ ⟨he, hm⟩ => ⟨he, n, hm.symm⟩
theorem Row.kept {w w' : World} {r sz : Nat} {a : Option Addr} {n cap : Nat} {xs : List Value} (h : Row w sz a n cap xs) (hg : w.grownBy w' (some r)) (hne : ∀ x, a = some x → x.block ≠ r) : Row w' sz a n cap xs := by
 obtain ⟨h1, h2, h3, h4, h5⟩ := h
 refine ⟨h1, h2, h3, h4, fun hn => ?_⟩
 obtain ⟨b, off, ha, hlt, hc⟩ := h5 hn
 exact ⟨b, off, ha, Nat.lt_of_lt_of_le hlt hg.size, fun j u hj => hg.cell (hc j u hj) (by have := hne _ ha; simpa using this)⟩
theorem pow32 {n : Nat} (h : n ≤ 32) : 2 ^ n ≤ 4294967296 := Nat.pow_le_pow_right (n := 2) (by omega) h
theorem or_pow (g t : Nat) (hg : g < 4294967296) (ht : t < 32) (h : g ||| 2 ^ t = g + 2 ^ t) : bits .or .u32 (g : Int) ((2 : Int) ^ t % 4294967296) = ((g + 2 ^ t : Nat) : Int) := by
 have hp : 2 ^ t < 4294967296 := Nat.lt_of_lt_of_le (Nat.pow_lt_pow_right (by omega) ht) (by omega)
 have e : (2 : Int) ^ t % 4294967296 = ((2 ^ t : Nat) : Int) := by
   have e2 : (2 : Int) ^ t = ((2 ^ t : Nat) : Int) := by simp
   rw [e2]
   generalize 2 ^ t = q at *
   omega
 rw [e, u32_or_nat _ _ hg hp, h]
theorem rbit_test (x s : Nat) (hx : x < 256) (hs : s < 8) : bits .and .u8 (x : Int) ((2 ^ s : Nat) : Int) = if x / 2 ^ s % 2 == 1 then ((2 ^ s : Nat) : Int) else 0 := by
 have hp : 2 ^ s < 256 := Nat.lt_of_lt_of_le (Nat.pow_lt_pow_right (by omega) hs) (by omega)
 rw [u8_and_nat x (2 ^ s) hx hp, nat_bit]
 have hm : x / 2 ^ s % 2 = 0 ∨ x / 2 ^ s % 2 = 1 := by omega
 rcases hm with h | h <;> simp [h]
theorem get_ok (r n : Nat) (bs : List UInt8) (high : Bool) (at_ : Nat) (w : World) (h : IsRd w r bs high at_) (hn : n ≤ 32) (hle2 : at_ + n ≤ 8 * bs.length) :
   Calls Try.prog 26 #[.pointer (some ⟨r, 0, none⟩), .int .i64 n] w fun e w' => e = .returned (.tuple #[.int .u32 (getV (fun k => bitAt bs high (at_ + k)) high n n : Nat), .int .i64 0]) ∧ IsRd w' r bs high (at_ + n) ∧ w.grownBy w' (some r) := by
 have hdead := rdead_any r bs high at_ w h
 have hleft := left_any r bs high at_ w h
 obtain ⟨⟨a, cap, hb, hr, hne⟩, hle, hsm⟩ := h
 have HD := Lib.hid hdead
 have HL := Lib.hid hleft
 have HB := Lib.hid hb
 have HR := Lib.hid hr
 have HNL := Lib.hid hne
 have HN := Lib.hid (show ∀ x, a = some x → x.block ≠ r from fun x hx => Nat.ne_of_lt (hne x hx))
 have hN : decide (8 * bs.length - at_ < n) = false := by simp; omega
 have hN1 : decide ((n : Int) < 0) = false := by simp
 have hN2 : decide (32 < (n : Int)) = false := by simp; omega
 clear hdead hleft hb hr hne
 go_enter Try.func26, Try.ntmps26
 go_wp2_with (first
   | (go_at_call 37; refine HD.out.mono ?_; rintro e w' ⟨rfl, rfl⟩)
   | (go_at_call 38; refine HL.out.mono ?_; rintro e w' ⟨rfl, q1, rfl⟩))
 go_loopw [6, 24] (fun x i wr => ∃ k : Nat, k ≤ n ∧ i = .int .i64 k ∧ x = .int .u32 (getV (fun k => bitAt bs high (at_ + k)) high n k : Nat) ∧
     Hid (wr.heap[r]? = some (.cells (fl 4 (fun i => if i = 0 then .int .i64 ((at_ + k : Nat) : Int) else if i = 1 then .bool high else if i = 2 then .bool true else .slice a bs.length cap)).toArray 66 (0, 0))) ∧ Hid (w.grownBy wr (some r))) (fun _ i _ => n - (intOf i).toNat)
 case atStart => exact ⟨0, by omega, rfl, rfl, HB, ⟨rfl, rfl, rfl, Nat.le_refl _, fun _ _ _ => rfl⟩⟩
 case round =>
   obtain ⟨k, hk, rfl, rfl, HBk, HG⟩ := hrel
   by_cases hlt : k < n
   · have h0 := blk_cell HBk.out 0 (by omega)
     have h1 := blk_cell HBk.out 1 (by omega)
     have h3 := blk_cell HBk.out 3 (by omega)
     have hfr := blk_free HBk.out 0
     simp only [if_pos, Nat.reduceEqDiff, if_false] at h0 h1 h3
     obtain ⟨b, off, rfl, hblt, hc⟩ := HR.out.at 0 ((at_ + k) / 8) (by omega)
     have hck := hc ((at_ + k) / 8) (by omega)
     have hbr : b ≠ r := by have := HN.out ⟨b, off, none⟩ rfl; simpa using this
     have hck2 : wr.cell? ⟨b, off + (at_ + k) / 8, none⟩ = some (.int .u8 ((bs.getD ((at_ + k) / 8) 0).toNat : Int)) := HG.out.cell hck (by simpa using hbr)
     obtain ⟨x, hx⟩ : ∃ x, x = (bs.getD ((at_ + k) / 8) 0).toNat := ⟨_, rfl⟩
     rw [← hx] at hck2
     have hx2 : x < 256 := by rw [hx]; exact (bs.getD ((at_ + k) / 8) 0).toNat_lt
     have hbt := rbit_test x (maskE (at_ + k) high) hx2 (maskE_lt _ _)
     have hbA : bitAt bs high (at_ + k) = (x / 2 ^ maskE (at_ + k) high % 2 == 1) := by unfold bitAt; rw [← hx]
     have HX := Lib.hid hx
     have HBA := Lib.hid hbA
     clear hc hck hx hbA
     have hpos : 0 < 2 ^ maskE (at_ + k) high := Nat.pow_pos (by omega)
     by_cases hbit : (x / 2 ^ maskE (at_ + k) high % 2 == 1) = true
     · rw [if_pos hbit] at hbt
       have htest : (bits BinOp.and IntKind.u8 (x : Int) (maskV (at_ + k) high) != 0) = true := by
         unfold maskV; rw [hbt]; rw [bne_iff_ne]; omega
       have HBT := Lib.hid (show bitAt bs high (at_ + k) = true by rw [HBA.out]; exact hbit)
       clear hbt hbit hpos
       have hor := Lib.hid (getV_or (fun k => bitAt bs high (at_ + k)) high n k hlt)
       have hgl := Lib.hid <| getV_lt (fun k => bitAt bs high (at_ + k)) high n k hk
       have ht32 : turnN k n high < 32 := by unfold turnN; split <;> omega
       go_wp2
       go_quiet ((go_at_call 39; refine quiet_eq (mask_any r 0 (at_ + k) high _ (by simpa using h0) (by simpa using h1))))
       go_wp2_with (go_at_call 40; refine (turn_any r 0 k n high _ (by simpa using h1) hlt hn).mono ?_; rintro e w' ⟨rfl, rfl⟩)
       go_roundw
       case rel =>
         refine ⟨k + 1, by omega, by go_num, ?_, ?_, ?_⟩
         · have e : getV (fun k => bitAt bs high (at_ + k)) high n (k + 1) = getV (fun k => bitAt bs high (at_ + k)) high n k + 2 ^ turnN k n high := by
             simp [getV, HBT.out]
           rw [e, or_pow _ _ (Nat.lt_of_lt_of_le hgl.out (pow32 hn)) ht32 hor.out]
         · refine Lib.hid ?_
           have hs := blk_set (w := wr.drewN nq) HBk.out 0 (Value.int IntKind.i64 ((at_ : Int) + k + 1))
           rw [hs]
           exact congrArg (fun x => some (Obj.cells (List.toArray x) _ _)) (fl_congr fun i _ => by
             by_cases hi : i = 0
             · subst hi; simp; omega
             · simp [hi])
         · exact Lib.hid (grownBy_setCell (grownBy_drewN HG.out nq) _)
       case measure => simp [intOf]; omega
     · rw [if_neg hbit] at hbt
       have htest : (bits BinOp.and IntKind.u8 (x : Int) (maskV (at_ + k) high) != 0) = false := by
         unfold maskV; rw [hbt]; rfl
       have HBT := Lib.hid (show bitAt bs high (at_ + k) = false by rw [HBA.out]; simpa using hbit)
       clear hbt hbit hpos
       go_wp2
       go_quiet ((go_at_call 39; refine quiet_eq (mask_any r 0 (at_ + k) high _ (by simpa using h0) (by simpa using h1))))
       go_wp2
       go_roundw
       case rel =>
         refine ⟨k + 1, by omega, by go_num, ?_, ?_, ?_⟩
         · have : getV (fun k => bitAt bs high (at_ + k)) high n (k + 1) = getV (fun k => bitAt bs high (at_ + k)) high n k := by
             simp [getV, HBT.out]
           rw [this]
         · refine Lib.hid ?_
           have hs := blk_set (w := wr.drewN nq) HBk.out 0 (Value.int IntKind.i64 ((at_ : Int) + k + 1))
           rw [hs]
           exact congrArg (fun x => some (Obj.cells (List.toArray x) _ _)) (fl_congr fun i _ => by
             by_cases hi : i = 0
             · subst hi; simp; omega
             · simp [hi])
         · exact Lib.hid (grownBy_setCell (grownBy_drewN HG.out nq) _)
       case measure => simp [intOf]; omega
   · obtain rfl : k = n := by omega
     go_wp2
     go_ret2
     exact ⟨rfl, ⟨⟨a, cap, HBk.out, HR.out.kept HG.out HN.out, HNL.out⟩, by omega, hsm⟩, HG.out⟩
def cmpI (x y : Int) : Int := if x < y then -1 else if y < x then 1 else 0
theorem isNaNi_any (x : Int) (w : World) : Calls Try.prog 31 #[.int .i64 x] w fun e w' => e = .returned (.bool false) ∧ w = w' := by
 go_enter Try.func31, Try.ntmps31
 go_wp2
 go_ret
 exact ⟨ret_bool (by simp), rfl⟩
theorem cmpI_any (x y : Int) (w : World) : Calls Try.prog 16 #[.int .i64 x, .int .i64 y] w fun e w' => e = .returned (.int .i64 (cmpI x y)) ∧ w = w' := by
 have hv : cmpI x y = if x < y then -1 else if y < x then 1 else 0 := rfl
 have HV := Lib.hid hv
 clear hv
 by_cases h1 : x < y
 · go_enter Try.func16, Try.ntmps16
   go_wp2_with (go_at_call 31; refine (isNaNi_any _ _).mono ?_; rintro e w' ⟨rfl, rfl⟩)
   go_ret
   exact ⟨ret_int (by rw [HV.out, if_pos h1]), rfl⟩
 · by_cases h2 : y < x
   · go_enter Try.func16, Try.ntmps16
     go_wp2_with (go_at_call 31; refine (isNaNi_any _ _).mono ?_; rintro e w' ⟨rfl, rfl⟩)
     go_ret
     exact ⟨ret_int (by rw [HV.out, if_neg (by omega), if_pos h2]), rfl⟩
   · go_enter Try.func16, Try.ntmps16
     go_wp2_with (go_at_call 31; refine (isNaNi_any _ _).mono ?_; rintro e w' ⟨rfl, rfl⟩)
     go_ret
     exact ⟨ret_int (by rw [HV.out, if_neg (by omega), if_neg (by omega)]), rfl⟩
end Go.Proofs.Ythmpigmmihiecaa
namespace Go.Proofs.Ythmpigmmihiecaa
open Go.RowKit Go.Sort
def cfL (l : List Int) (x y : Int) : Int := cmpI (l.getD x.toNat 0) (l.getD y.toNat 0)
theorem cmpNew_any (bx : Nat) (a : Option Addr) (n cap : Nat) (l : List Int) (x y : Nat) (w : World) (hb : w.cell? ⟨bx, 0, none⟩ = some (.slice a n cap)) (hr : Row w 1 a n cap (l.map (Value.int .i64))) (hx : x < n) (hy : y < n) :
   Calls Try.prog 24 #[.int .i64 x, .int .i64 y, .pointer (some ⟨bx, 0, none⟩)] w fun e w' => e = .returned (.int .i64 (cfL l x y)) ∧ ∃ q, w' = w.drewN q := by
 have hm := hr.i64
 have hv : cfL l x y = cmpI (l.getD x 0) (l.getD y 0) := rfl
 have HV := Lib.hid hv
 clear hv
 obtain ⟨b, off, rfl, hblt, hc⟩ := hr.at 0 x hx
 have hcx := hc x hx
 have hcy := hc y hy
 generalize l.getD x 0 = X at *
 generalize l.getD y 0 = Y at *
 clear hc hr
 go_enter Try.func24, Try.ntmps24
 go_wp2
 go_quiet ((go_at_call 16; exact quiet_eq (cmpI_any _ _ _)))
 go_wp2
 go_ret
 exact ⟨ret_int HV.out.symm, _, rfl⟩
def StableSaid (N : Nat) : Prop :=
 ∀ (cf : Int → Int → Int) (lt2 : Int → Int → Bool) (D : Int → Prop) (f : FuncId) (cb : Array Value) (g cap : Nat) (rest : List Value) (d : Array Int) (w0 w : World), SWO lt2 →
   CmpQ Try.prog f cb (Value.int .i64) cf D w0 g → SB (Value.int .i64) w0 g 3 rest d w → (∀ i, i < d.size → D d[i]!) → (∀ p q, p < q → q < d.size → ltOf cf d[q]! d[p]! = lt2 d[q]! d[p]!) → d.size ≤ N →
   Calls Try.prog 14 #[.slice (some ⟨g, 0, none⟩) d.size cap, .func (.func f) #[] cb] w fun e w' => e = .returned (.tuple #[]) ∧ ∃ R, SB (Value.int .i64) w0 g 3 rest R w' ∧ PermIn 0 d.size d R ∧ SortedIn lt2 0 d.size R
theorem stable19 : StableSaid 19 := fun cf lt2 D f cb g cap rest d w0 w hO hC hS hD hag hsz => stable_small (Value.int .i64) (fun x => ⟨x, rfl⟩) cf lt2 hO D f cb g cap rest d w0 w hC hS hD hag (by omega)
def tbV (L C S : Value) (l : List Int) (i : Nat) : Value := if i = 0 then L else if i = 1 then C else if i = 18 then S else cnV l (i - 2)
structure IsTb (w : World) (Bl : Nat → Prop) (p : Nat) (l : List Int) : Prop where
 ex : ∃ aL cL aC cC aS cS srt, w.heap[p]? = some (.cells (fl 19 (tbV (.slice aL l.length cL) (.slice aC l.length cC) (.slice aS srt.length cS) l)).toArray 58 (0, 0)) ∧
   Row w 1 aL l.length cL (l.map (Value.int .i64)) ∧ Row w 1 aC l.length cC (fl l.length (cdV l l.length)) ∧ Row w 1 aS srt.length cS (srt.map (Value.int .i64)) ∧ SrtOf l srt ∧
   (∀ x, aL = some x → Bl x.block) ∧ (∀ x, aC = some x → Bl x.block) ∧ (∀ x, aS = some x → Bl x.block) ∧ aL ≠ none
 room : 0 ≤ roomV l
 own : Bl p
theorem symsTo_pairwise (l : List Int) (N : Nat) : (symsTo l N).Pairwise (· < ·) := by
 unfold symsTo
 refine List.Pairwise.map _ (R := fun a b : Nat => a < b) (fun a b h => by omega) ?_
 exact List.Pairwise.filter _ List.pairwise_lt_range
theorem arr_get {xs : List Int} {i : Nat} (h : i < xs.toArray.size) : xs.toArray[i]! = xs[i]'(by simpa using h) := by
 rw [getElem!_pos xs.toArray i h]; simp
theorem sym_agree (l : List Int) (N p q : Nat) (hpq : p < q) (hq : q < (symsTo l N).toArray.size) :
   ltOf (cfL l) (symsTo l N).toArray[q]! (symsTo l N).toArray[p]! = symLt l (symsTo l N).toArray[q]! (symsTo l N).toArray[p]! := by
 have hp : p < (symsTo l N).toArray.size := by omega
 have h := List.pairwise_iff_getElem.1 (symsTo_pairwise l N) p q (by simpa using hp) (by simpa using hq) hpq
 rw [arr_get hq, arr_get hp]
 generalize (symsTo l N)[p]'(by simpa using hp) = x at *
 generalize (symsTo l N)[q]'(by simpa using hq) = y at *
 unfold ltOf cfL symLt cmpI
 have hyx : decide (y < x) = false := by simp; omega
 rw [hyx, Bool.and_false, Bool.or_false]
 by_cases h1 : l.getD y.toNat 0 < l.getD x.toNat 0
 · rw [if_pos h1]; simp only [List.getD] at h1; simp [h1]
 · rw [if_neg h1]
   by_cases h2 : l.getD x.toNat 0 < l.getD y.toNat 0
   · rw [if_pos h2]; simp only [List.getD] at h1; simp [h1]
   · rw [if_neg h2]; simp only [List.getD] at h1; simp [h1]
theorem counted_lit (a : Option Addr) (n cap : Nat) (l : List Int) (w : World) (hr : Row w 1 a n cap (l.map (Value.int .i64))) (hok1 : hok l = true) :
   Calls Try.prog 22 #[.slice a n cap] w fun e w' => e = .returned (.agg #[.int .i64 (cn l 0), .int .i64 (cn l 1), .int .i64 (cn l 2), .int .i64 (cn l 3), .int .i64 (cn l 4), .int .i64 (cn l 5), .int .i64 (cn l 6), .int .i64 (cn l 7), .int .i64 (cn l 8), .int .i64 (cn l 9), .int .i64 (cn l 10), .int .i64 (cn l 11), .int .i64 (cn l 12), .int .i64 (cn l 13), .int .i64 (cn l 14), .int .i64 (cn l 15)]) ∧ Below w.heap.size w w' :=
 counted_any a n cap l w hr hok1
theorem new_ok (N : Nat) (hst : StableSaid N) (a : Option Addr) (n cap : Nat) (l : List Int) (w : World) (hr : Row w 1 a n cap (l.map (Value.int .i64))) (hroom : 0 ≤ roomV l) (hN : n ≤ N) (ha : a ≠ none) :
   Calls Try.prog 9 #[.slice a n cap] w fun e w' => ∃ p, e = .returned (.tuple #[.pointer (some ⟨p, 0, none⟩), .int .i64 0]) ∧ IsTb w' (fun b => w.heap.size ≤ b ∧ b < w'.heap.size) p l ∧ Below w.heap.size w w' := by
 have hm := hr.i64
 have hl := hr.len1
 have hok1 := (roomV_ok hroom).2.2.1
 have hlen := (roomV_ok hroom).2.1
 have hn : n ≤ 320 := by omega
 have h1c : ∀ u ∈ l.map (Value.int .i64), u.oneCell' = true := ints_oneCell _ _
 have HL := Lib.hid hl
 have HR := Lib.hid hroom
 have HOK := Lib.hid hok1
 have HRow := Lib.hid hr
 clear hl hroom hok1 hr
 go_enter Try.func9, Try.ntmps9
 go_wp2_with fail
 have hbx : (w.alloc (.cells #[.slice a n cap] 22)).heap[w.heap.size]? = some (.cells #[.slice a n cap] 22 (0, 0)) := heapA_new _ rfl
 have hb0 := belowA w (.cells #[.slice a n cap] 22)
 have hr0 := HRow.out.mono hb0
 have hs0 := sizeA w (.cells #[.slice a n cap] 22)
 generalize w.alloc (.cells #[.slice a n cap] 22) = w0 at *
 refine (codes_ok a n cap l w0 hr0 HR.out).mono ?_
 rintro e w1 ⟨vC, rfl, hC1, hb1⟩
 obtain ⟨aC, cC, rfl, _, _⟩ := Row.of_owns hC1
 have hbx1 := block_keep hb1 hbx
 have hr1 := hr0.mono hb1
 have hbw1 := hb0.trans (hb1.mono (by omega))
 have hs1 := hb1.size
 clear hbx hr0 hb0 hb1
 have HC1 := Lib.hid (ownsRow_base hC1 (show w.heap.size ≤ w0.heap.size by omega))
 have HBX1 := Lib.hid hbx1
 have HR1 := Lib.hid hr1
 have HBW1 := Lib.hid hbw1
 have hbs : w.heap.size < w1.heap.size := by omega
 clear hC1 hbx1 hr1 hbw1 hs0 hs1
 go_wp2
 have hc1 : w1.cell? ⟨w.heap.size, 0, none⟩ = some (.slice a n cap) := by rw [cell_of_row w1 _ 0 _ _ _ HBX1.out]; rfl
 go_region_held3 (fun w' => w'.cell? ⟨w.heap.size, 0, none⟩ = some (.slice a n cap)) (first | assumption | exact hc1 | exact cell?_keep (belowA _ _) (by assumption)) (first
   | (go_at_call 23; refine (cloneI a n cap _ _ (HR1.out.mono (by exact Below.drew (Below.refl _ _))) h1c (by omega)).mono ?_; rintro e w2 ⟨vL, rfl, hL2, hb2, hnn⟩; obtain ⟨aL, cL, rfl, _, _⟩ := Row.of_owns hL2; have hc2 := cell?_keep hb2 (show w1.drew.cell? ⟨w.heap.size, 0, none⟩ = some (.slice a n cap) from hc1); have hr2 := (HR1.out.mono (show Below w1.heap.size w1 w1.drew from Below.drew (Below.refl _ _))).mono hb2)
   | (go_at_call 22; refine (counted_lit a n cap l _ (by assumption) HOK.out).mono ?_; rintro e w3 ⟨rfl, hb3⟩; have hc3 := cell?_keep hb3 hc2))
 have hb23 : Below w1.heap.size w1 w3 := ((Below.refl w1.heap.size w1).drew.trans hb2).trans (hb3.mono hb2.size)
 have hs3 := hb23.size
 have hLlt : ∀ x, aL = some x → x.block < w3.heap.size := fun x hx => by have := (hL2.lt x.block (by simp [Value.ownBlock, hx])).2; have := hb3.size; omega
 have hClt : ∀ x, aC = some x → x.block < w3.heap.size := fun x hx => by have := (HC1.out.lt x.block (by simp [Value.ownBlock, hx])).2; omega
 have HLLT := Lib.hid hLlt
 have HCLT := Lib.hid hClt
 clear hLlt hClt
 have hT : (w3.alloc (.cells (fl 19 (tbV (.slice aL n cL) (.slice aC n cC) (.slice none 0 0) l)).toArray 58)).heap[w3.heap.size]? = some (.cells (fl 19 (tbV (.slice aL n cL) (.slice aC n cC) (.slice none 0 0) l)).toArray 58 (0, 0)) := heapA_new _ rfl
 have hlit : (fl 19 (tbV (.slice aL n cL) (.slice aC n cC) (.slice none 0 0) l)).toArray = #[.slice aL n cL, .slice aC n cC, .int .i64 (cn l 0), .int .i64 (cn l 1), .int .i64 (cn l 2), .int .i64 (cn l 3), .int .i64 (cn l 4), .int .i64 (cn l 5), .int .i64 (cn l 6), .int .i64 (cn l 7), .int .i64 (cn l 8), .int .i64 (cn l 9), .int .i64 (cn l 10), .int .i64 (cn l 11), .int .i64 (cn l 12), .int .i64 (cn l 13), .int .i64 (cn l 14), .int .i64 (cn l 15), .slice none 0 0] := rfl
 rw [hlit] at hT
 have hb4 := belowA w3 (.cells #[.slice aL n cL, .slice aC n cC, .int .i64 (cn l 0), .int .i64 (cn l 1), .int .i64 (cn l 2), .int .i64 (cn l 3), .int .i64 (cn l 4), .int .i64 (cn l 5), .int .i64 (cn l 6), .int .i64 (cn l 7), .int .i64 (cn l 8), .int .i64 (cn l 9), .int .i64 (cn l 10), .int .i64 (cn l 11), .int .i64 (cn l 12), .int .i64 (cn l 13), .int .i64 (cn l 14), .int .i64 (cn l 15), .slice none 0 0] 58)
 have hs4 := sizeA w3 (.cells #[.slice aL n cL, .slice aC n cC, .int .i64 (cn l 0), .int .i64 (cn l 1), .int .i64 (cn l 2), .int .i64 (cn l 3), .int .i64 (cn l 4), .int .i64 (cn l 5), .int .i64 (cn l 6), .int .i64 (cn l 7), .int .i64 (cn l 8), .int .i64 (cn l 9), .int .i64 (cn l 10), .int .i64 (cn l 11), .int .i64 (cn l 12), .int .i64 (cn l 13), .int .i64 (cn l 14), .int .i64 (cn l 15), .slice none 0 0] 58)
 generalize (w3.alloc (.cells #[.slice aL n cL, .slice aC n cC, .int .i64 (cn l 0), .int .i64 (cn l 1), .int .i64 (cn l 2), .int .i64 (cn l 3), .int .i64 (cn l 4), .int .i64 (cn l 5), .int .i64 (cn l 6), .int .i64 (cn l 7), .int .i64 (cn l 8), .int .i64 (cn l 9), .int .i64 (cn l 10), .int .i64 (cn l 11), .int .i64 (cn l 12), .int .i64 (cn l 13), .int .i64 (cn l 14), .int .i64 (cn l 15), .slice none 0 0] 58)) = w4 at *
 rw [← hlit] at hT
 clear hlit
 have hbox := cell?_keep hb4 hc3
 have hrow4 := (hr2.mono hb3).mono hb4
 have hL4 := ownsRow_keep (ownsRow_keep hL2 hb3) hb4
 have hC4 := ownsRow_keep (ownsRow_keep HC1.out hb23) hb4
 have hbw4 := (HBW1.out.trans (hb23.mono (by omega))).trans (hb4.mono (by omega))
 have hT1 : w1.heap.size ≤ w3.heap.size := hs3
 generalize w3.heap.size = T at *
 have HBOX := Lib.hid hbox
 have HROW := Lib.hid hrow4
 have HL4 := Lib.hid hL4
 have HC4 := Lib.hid hC4
 have HBW4 := Lib.hid hbw4
 have HT := Lib.hid hT
 have HS4 := Lib.hid hs4
 have HNN := Lib.hid hnn
 clear hb2 hL2 hnn hc2 hr2 hb3 hc3 hb23 hs3 hT hb4 hs4 hbox hrow4 hL4 hC4 hbw4 HC1 HBX1 HR1 HBW1 hc1
 have hbox2 := HBOX.out
 have haT : ∀ x, a = some x → x.block < T := fun x hx => Nat.lt_of_lt_of_le (HRow.out.lt (by have := (roomV_ok HR.out).1; have := HL.out; omega) x hx) (by omega)
 have HAT := Lib.hid haT
 clear haT
 have h0n : 0 < n := by have := (roomV_ok HR.out).1; have := HL.out; omega
 go_wp2
 go_loopw [26] (fun i wr => ∃ (k : Nat) (S : Value), k ≤ n ∧ i = .int .i64 k ∧ Hid (wr.heap[T]? = some (.cells (fl 19 (tbV (.slice aL n cL) (.slice aC n cC) S l)).toArray 58 (0, 0))) ∧
     Hid (wr.ownsRow (T + 1) 3 1 S (symsTo l k).length ((symsTo l k).map (Value.int .i64))) ∧ Hid (Below T w4 wr)) (fun i _ => n - (intOf i).toNat)
 case atStart => exact ⟨0, .slice none 0 0, by omega, rfl, HT, Lib.hid (World.ownsRow_nil _ _ _ _), Lib.hid (Below.refl _ _)⟩
 case round =>
   obtain ⟨k, S, hk, rfl, HTk, HSk, HBk⟩ := hrel
   by_cases hlt : k < n
   · obtain ⟨b, off, rfl, hblt, hc⟩ := (HROW.out.below HBk.out HAT.out).at 0 k hlt
     have hck := hc k hlt
     have hkl : k < l.length := by rw [HL.out]; exact hlt
     have hcT := blk_cell HTk.out 18 (by omega)
     have hfT := blk_free HTk.out 18
     have hx15 := (hok_mem HOK.out) (l.getD k 0) (by simp [List.getD, hkl])
     have hsy := symsTo_succ l k
     obtain ⟨aS, cS, rfl, hSr, hSb⟩ := Row.of_owns HSk.out
     have hlenS : (symsTo l k).length ≤ k := by unfold symsTo; rw [List.length_map]; exact Nat.le_trans (List.length_filter_le _ _) (by simp)
     obtain ⟨x, hx⟩ : ∃ x, x = l.getD k 0 := ⟨_, rfl⟩
     rw [← hx] at hck hx15 hsy
     have HSY := Lib.hid hsy
     have hszr := HBk.out.size
     have hneS : (Value.slice aS (symsTo l k).length cS).ownBlock ≠ some T := fun h => by have := (HSk.out.lt T h).1; omega
     have HNES := Lib.hid hneS
     have HSB := Lib.hid hSb
     clear hneS hSb
     clear hc hx hsy hSr
     have hTs : T < wr.heap.size := (Array.getElem?_eq_some_iff.1 HTk.out).1
     unfold tbV at hcT
     simp only [Nat.reduceEqDiff, if_false, if_true] at hcT
     by_cases hp : 0 < x
     · go_wp2_with (at_builtin; refine append_row ETI rfl (.tmp 37) (.tmp 39) rfl (T + 1) (Value.slice aS (symsTo l k).length cS) (symsTo l k).length _ rfl (HSk.out.alloc _) _ 1 _ _ rfl (row_new1 _ _ _) (one_mem rfl) (by unfold maxLen; omega) (by omega) (by have := HS4.out; rw [sizeA]; omega) ?_; intro v' w5 hO5 hg5 hnil5; obtain ⟨aS', cS', rfl, _, hSb'⟩ := Row.of_owns hO5; have HO5 := Lib.hid hO5; have HG5 := Lib.hid hg5; have hT5 : w5.heap[T]? = _ := (hg5.block T (by rw [sizeA]; omega) (fun e => HNES.out e.symm)).trans ((Below.heap_alloc wr _ T hTs).trans HTk.out); have hcT5 := blk_cell hT5 18 (by omega); have hfT5 := blk_free hT5 18; unfold tbV at hcT5; simp only [Nat.reduceEqDiff, if_false, if_true] at hcT5; have HT5 := Lib.hid hT5; clear hO5 hg5 hnil5 hT5)
       go_roundw
       case rel =>
         refine ⟨k + 1, Value.slice aS' ((symsTo l k).length + 1) cS', by omega, by go_num, ?_, ?_, ?_⟩
         · refine Lib.hid ?_
           rw [blk_set HT5.out]
           exact congrArg (fun x => some (Obj.cells (List.toArray x) _ _)) (fl_congr fun i _ => by
             unfold tbV
             by_cases h0 : i = 0
             · subst h0; simp
             · by_cases h1 : i = 1
               · subst h1; simp
               · by_cases h18 : i = 18 <;> simp [h0, h1, h18])
         · refine Lib.hid ?_
           rw [HSY.out, if_pos hp, List.length_append, List.map_append]
           refine own_other HO5.out (fun h => ?_) _
           have := (HO5.out.lt T h).1
           omega
         · exact Lib.hid (((HBk.out.alloc (by omega) _).grown HG5.out (by rw [sizeA]; omega) (fun q hq => by have := (HSk.out.lt q hq).1; omega)).setCell (by simp) _)
       case measure => simp [intOf]; omega
     · go_wp2
       go_roundw
       case rel =>
         refine ⟨k + 1, _, by omega, by go_num, HTk, ?_, HBk⟩
         rw [HSY.out, if_neg hp, List.append_nil]
         exact HSk
       case measure => simp [intOf]; omega
   · obtain rfl : k = n := by omega
     have hkl := HL.out
     have hcT := blk_cell HTk.out 18 (by omega)
     unfold tbV at hcT
     simp only [Nat.reduceEqDiff, if_false, if_true] at hcT
     have hLr := (Row.of_own (ownsRow_keep HL4.out (Below.refl _ _))).2
     have HKL := Lib.hid hkl
     clear hkl
     have done_ : ∀ (aS : Option Addr) (cS : Nat) (R : List Int) (w6 : World), w6.heap[T]? = some (.cells (fl 19 (tbV (.slice aL k cL) (.slice aC k cC) (.slice aS R.length cS) l)).toArray 58 (0, 0)) → Below T w4 w6 → Row w6 1 aS R.length cS (R.map (Value.int .i64)) → SrtOf l R → (∀ x, aS = some x → T < x.block ∧ x.block < w6.heap.size) →
         ∃ p, (Value.pointer (some ⟨T, 0, none⟩)) = .pointer (some ⟨p, 0, none⟩) ∧ IsTb w6 (fun b => w.heap.size ≤ b ∧ b < w6.heap.size) p l ∧ Below w.heap.size w w6 := by
       intro aS cS R w6 h1 h2 h3 h4 h5
       obtain ⟨aL', cL', eL, hrL, hbL⟩ := Row.of_owns HL4.out
       obtain ⟨aC', cC', eC, hrC, hbC⟩ := Row.of_owns HC4.out
       simp only [Value.slice.injEq] at eL eC
       obtain ⟨rfl, -, rfl⟩ := eL
       obtain ⟨rfl, -, rfl⟩ := eC
       have hkl := HKL.out
       subst hkl
       have hsz6 : T + 1 ≤ w6.heap.size := by have := h2.size; have := HS4.out; omega
       refine ⟨T, rfl, ⟨⟨aL, cL, aC, cC, aS, cS, R, h1, hrL.below h2 HLLT.out, hrC.below h2 HCLT.out, h3, h4, fun x hx => ?_, fun x hx => ?_, fun x hx => ?_, fun e => ?_⟩, HR.out, ?_⟩, HBW4.out.trans (h2.mono (by omega))⟩
       · have h6 : w1.heap.size ≤ x.block := hbL x hx
         have h7 := HLLT.out x hx
         exact ⟨by omega, by omega⟩
       · have h7 := HCLT.out x hx
         exact ⟨hbC x hx, by omega⟩
       · have h6 := h5 x hx
         exact ⟨by omega, h6.2⟩
       · have := hrL.2.2.2.1 e
         have := hrL.2.1
         omega
       · show w.heap.size ≤ T ∧ T < w6.heap.size
         omega
     have DONE := Lib.hid done_
     clear done_
     have hbox3 : wr.cell? ⟨w.heap.size, 0, none⟩ = some (.slice a k cap) := below_cell HBk.out (by omega) HBOX.out
     have hrowk := HROW.out.below HBk.out HAT.out
     have HROWK := Lib.hid hrowk
     clear hrowk
     rcases HSk.out.2 with ⟨hnil, hzero⟩ | ⟨g, cp, cur, hSv, hgT, hgb, hle, hcpm, hcur, htk⟩
     · subst hnil
       have hsl : symsTo l k = [] := List.eq_nil_of_length_eq_zero hzero
       have HSL := Lib.hid hsl
       have HZ := Lib.hid hzero
       clear hsl hzero
       go_wp2_with (go_at_call 14; refine (stable_nil _ _).mono ?_; rintro e w6 ⟨rfl, rfl⟩)
       go_ret2
       have hkl := HKL.out
       have hsrt : SrtOf l [] := srt_of HOK.out #[] (by rw [hkl, HSL.out]; exact permIn_refl _ _ _) (by intro i j _ h1 h2; rw [hkl, HSL.out] at h2; simp at h2)
       obtain ⟨p, e1, e2, e3⟩ := DONE.out none 0 [] wr HTk.out HBk.out (Row.nil _ _) hsrt (fun x hx => by cases hx)
       exact ⟨p, congrArg (fun v => Ending.returned (.tuple #[v, .int .i64 0])) e1, e2, e3⟩
     · subst hSv
       have hsb : SB (Value.int .i64) wr g 3 (cur.toList.drop (symsTo l k).length) (symsTo l k).toArray wr := SB.start hgb (by simpa using htk)
       have hgw : g < wr.heap.size := (Array.getElem?_eq_some_iff.1 hgb).1
       have hC : CmpQ Try.prog 24 #[.pointer (some ⟨w.heap.size, 0, none⟩)] (Value.int .i64) (cfL l) (fun x => ∃ q : Nat, q < k ∧ x = (q : Int)) wr g := by
         refine ⟨fun _ _ => by kernel_rfl, fun W hG x y hx hy => ?_⟩
         obtain ⟨qx, hqx, rfl⟩ := hx
         obtain ⟨qy, hqy, rfl⟩ := hy
         exact cmpNew_any w.heap.size a k cap l qx qy W (hG.cell hbox3 (by simp; omega)) (HROWK.out.kept hG (fun x hx => by have := HAT.out x hx; omega)) hqx hqy
       have hstb := hst (cfL l) (symLt l) _ 24 _ g cp _ (symsTo l k).toArray wr wr (symLt_swo l) hC hsb (fun i hi => by
         rw [arr_get hi]
         obtain ⟨q, h1, _, h2⟩ := mem_symsTo.1 (List.getElem_mem (by simpa using hi))
         exact ⟨q, h1, h2⟩) (fun p q h1 h2 => sym_agree l k p q h1 h2) (by
         have : (symsTo l k).length ≤ k := by unfold symsTo; rw [List.length_map]; exact Nat.le_trans (List.length_filter_le _ _) (by simp)
         simp; omega)
       have HSTB := Lib.hid hstb
       clear hst hC hsb hstb hgb hcur htk
       go_wp2_with (go_at_call 14; refine HSTB.out.mono ?_; rintro e w6 ⟨rfl, R, hSB, hP, hSo⟩)
       go_ret2
       have hkl := HKL.out
       have hRs : R.size = (symsTo l k).length := by simpa using hP.1
       have hsrt : SrtOf l R.toList := srt_of HOK.out R (by rw [hkl]; simpa using hP) (by rw [hkl]; simpa using hSo)
       have hTw : T < wr.heap.size := (Array.getElem?_eq_some_iff.1 HTk.out).1
       have hT6 : w6.heap[T]? = _ := (hSB.grown.block T hTw (by simp; omega)).trans HTk.out
       have hlen : R.toList.length = (symsTo l k).length := by simpa using hRs
       obtain ⟨p, e1, e2, e3⟩ := DONE.out (some ⟨g, 0, none⟩) cp R.toList w6 (by rw [hT6, hlen]) (HBk.out.grown hSB.grown (by omega) (fun q hq => by cases hq; omega)) (by
         have hrow := hSB.row (cap := cp) (by omega) hcpm
         simpa using hrow) hsrt (fun x hx => by cases hx; exact ⟨hgT, Nat.lt_of_lt_of_le hgw hSB.grown.size⟩)
       exact ⟨p, congrArg (fun v => Ending.returned (.tuple #[v, .int .i64 0])) e1, e2, e3⟩
structure TN where
 p : Nat
 t : HT
 c : Nat
instance : Inhabited TN := ⟨⟨0, .leaf 0, 0⟩⟩
def TN.v (x : TN) : Value := .pointer (some ⟨x.p, 0, none⟩)
def ptrs (ns : List TN) : List Value := ns.map TN.v
theorem cmpT_any (p q c d : Nat) (w : World) (h1 : w.cell? ⟨p, 0, none⟩ = some (.int .i64 c)) (h2 : w.cell? ⟨q, 0, none⟩ = some (.int .i64 d)) :
   Calls Try.prog 29 #[.pointer (some ⟨p, 0, none⟩), .pointer (some ⟨q, 0, none⟩)] w fun e w' => e = .returned (.int .i64 (cmpI c d)) ∧ ∃ n, w' = w.drewN n := by
 obtain ⟨R, hR⟩ : ∃ R, R = cmpI c d := ⟨_, rfl⟩
 have HC := Lib.hid (fun W => cmpI_any (c : Int) (d : Int) W)
 rw [← hR] at HC ⊢
 go_enter Try.func29, Try.ntmps29
 go_wp2
 go_quiet ((go_at_call 16; exact quiet_eq (HC.out _)))
 go_wp2
 go_ret
 exact ⟨rfl, _, rfl⟩
theorem agree_lt (l : List Int) {x y : Int} (h : x < y) : ltOf (cfL l) y x = symLt l y x := by
 unfold ltOf cfL symLt cmpI
 have hyx : decide (y < x) = false := by simp; omega
 rw [hyx, Bool.and_false, Bool.or_false]
 by_cases h1 : l.getD y.toNat 0 < l.getD x.toNat 0
 · rw [if_pos h1]; simp only [List.getD] at h1; simp [h1]
 · rw [if_neg h1]
   by_cases h2 : l.getD x.toNat 0 < l.getD y.toNat 0
   · rw [if_pos h2]; simp only [List.getD] at h1; simp [h1]
   · rw [if_neg h2]; simp only [List.getD] at h1; simp [h1]
def idx (m : Nat) : List Int := (List.range m).map fun n : Nat => (n : Int)
theorem idx_get {m i : Nat} (h : i < m) : (idx m).toArray[i]! = (i : Int) := by
 rw [arr_get (by unfold idx; simpa using h)]
 unfold idx; simp
structure NodesQ (w : World) (base : Nat) (S : Nat → Prop) (v : Value) (ns : List TN) : Prop where
 own : OwnO w base 42 v (ptrs ns)
 tree : ∀ x ∈ ns, IsHT w S x.t x.p x.c
 apart : ∀ b, v.ownBlock = some b → ¬ S b
 lt : ∀ b, S b → base ≤ b ∧ b < w.heap.size
theorem sort_nodes {w : World} {base : Nat} {S : Nat → Prop} {v : Value} {ns : List TN} (h : NodesQ w base S v ns) (hl : ns.length ≤ 1000) :
   Calls Try.prog 28 #[v, .func (.func 29) #[] #[]] w fun e w' => e = .returned (.tuple #[]) ∧ ∃ ns', ns'.Perm ns ∧ NodesQ w' base S v ns' ∧ w.grownBy w' v.ownBlock := by
 have hown := h.own
 obtain ⟨g, o, cap, cur, rfl, hb, hg, hc, hm, hs, ht⟩ := h.own
 have hpl : (ptrs ns).length = ns.length := by simp [ptrs]
 rw [hpl] at hc ht ⊢
 let enc : Int → Value := fun i => (ns.getD i.toNat default).v
 have henc : (idx ns.length).map enc = ptrs ns := by
   apply List.ext_getElem (by simp [idx, ptrs])
   intro i h1 h2
   simp [idx, ptrs, enc, List.getD, show i < ns.length from by simpa [idx] using h1]
 have hsz : (idx ns.length).toArray.size = ns.length := by simp [idx]
 have hS : SBo enc w g 42 (cur.toList.drop (o + ns.length)) (cur.toList.take o) o (idx ns.length).toArray w := by
   refine ⟨grownBy_refl w _, ?_, by simp; omega⟩
   rw [hg]
   congr 2
   rw [List.toList_toArray, henc, ← ht, ← List.drop_drop, List.take_append_drop, List.take_append_drop]
 have hC : CmpQ Try.prog 29 #[] enc (cfL (ns.map fun x => (x.c : Int))) (fun x => ∃ q : Nat, q < ns.length ∧ x = (q : Int)) w g := by
   refine ⟨fun _ _ => by kernel_rfl, fun W hgr x y hx hy => ?_⟩
   obtain ⟨i, hi, rfl⟩ := hx
   obtain ⟨j, hj, rfl⟩ := hy
   have key : ∀ k, k < ns.length → ∃ y, ns[k]? = some y ∧ enc (k : Int) = .pointer (some ⟨y.p, 0, none⟩) ∧ W.cell? ⟨y.p, 0, none⟩ = some (.int .i64 y.c) ∧ (ns.map fun x => (x.c : Int)).getD k 0 = y.c := fun k hk => by
     have hy := List.getElem?_eq_getElem hk
     refine ⟨_, hy, by simp [enc, List.getD, hy, TN.v], ?_, by simp [List.getD, hy]⟩
     obtain ⟨q1, q2, q3⟩ := (h.tree _ (List.getElem_mem hk)).top
     rw [World.cell?_of_block (w := w) (a := ⟨ns[k].p, 0, none⟩) (hgr.block _ q2 (fun e => h.apart g rfl (by cases e; exact q1)))]
     exact q3
   obtain ⟨x, -, x1, x2, x3⟩ := key i hi
   obtain ⟨y, -, y1, y2, y3⟩ := key j hj
   rw [x1, y1]
   have hv : cfL (ns.map fun x => (x.c : Int)) i j = cmpI x.c y.c := by
     show cmpI ((ns.map fun x => (x.c : Int)).getD i 0) ((ns.map fun x => (x.c : Int)).getD j 0) = _
     rw [x3, y3]
   rw [hv]
   exact cmpT_any _ _ _ _ W x2 y2
 have hst := stable_anyN enc (fun x => ⟨_, rfl⟩) (cfL (ns.map fun x => (x.c : Int))) (symLt (ns.map fun x => (x.c : Int))) (symLt_swo _) _ 29 #[] g cap _ _ o (idx ns.length).toArray w w hC hS
   (fun i hi => by rw [hsz] at hi; rw [idx_get hi]; exact ⟨i, hi, rfl⟩) (fun p q hpq hq => by
     rw [hsz] at hq
     rw [idx_get hq, idx_get (by omega : p < ns.length)]
     exact agree_lt _ (by omega)) (by rw [hsz]; omega)
 rw [hsz] at hst
 refine hst.mono fun e w' ⟨he, R, h1, h2, _⟩ => ⟨he, (R.toList.map fun i => ns.getD i.toNat default), ?_, ?_, h1.grown⟩
 · have hp := h2.2.2
   have hRs : R.size = ns.length := by have := h2.1; rw [hsz] at this; exact this
   have ex : ∀ A : Array Int, A.size = ns.length → (A.extract 0 ns.length).toList = A.toList := fun A hA => by rw [← hA]; simp
   have e1 := ex R hRs
   have e2 := ex _ hsz
   rw [e1, e2] at hp
   have := hp.map fun i : Int => ns.getD i.toNat default
   have e3 : (idx ns.length).map (fun i : Int => ns.getD i.toNat default) = ns := by
     apply List.ext_getElem (by simp [idx])
     intro i g1 g2
     simp [idx, List.getD, g2]
   rw [e3] at this
   exact this
 · have hp := h2.2.2
   have hRs : R.size = ns.length := by have := h2.1; rw [hsz] at this; exact this
   have ex : ∀ A : Array Int, A.size = ns.length → (A.extract 0 ns.length).toList = A.toList := fun A hA => by rw [← hA]; simp
   have e1 := ex R hRs
   have e2 := ex _ hsz
   rw [e1, e2] at hp
   have hmem : ∀ i ∈ R.toList, ∃ q : Nat, q < ns.length ∧ i = (q : Int) := fun i hi => by
     have := hp.mem_iff.1 hi
     unfold idx at this
     obtain ⟨q, hq, rfl⟩ := List.mem_map.1 this
     exact ⟨q, by simpa using hq, rfl⟩
   have hk : Keeps (fun b => b = g) w w' := Keeps.of_grown h1.grown (fun k hk => by simpa using hk.symm)
   have hll : (R.toList.map fun i => ns.getD i.toNat default).length = ns.length := by rw [List.length_map]; simpa using hRs
   refine ⟨⟨g, o, cap, _, by unfold ptrs; rw [List.length_map, hll], hb, h1.blk, by unfold ptrs; rw [List.length_map, hll]; exact hc, hm, ?_, ?_⟩, fun x hx => ?_, h.apart, fun b hb2 => ⟨(h.lt b hb2).1, Nat.lt_of_lt_of_le (h.lt b hb2).2 h1.grown.size⟩⟩
   · simp [hRs]; omega
   · rw [List.toList_toArray, List.drop_left' (by simp; omega)]
     unfold ptrs
     rw [List.map_map, List.take_left' (by simp)]; rfl
   · obtain ⟨i, hi, rfl⟩ := List.mem_map.1 hx
     obtain ⟨q, hq, rfl⟩ := hmem i hi
     have hin : ns.getD (q : Int).toNat default ∈ ns := by
       simp only [Int.toNat_natCast, List.getD, List.getElem?_eq_getElem hq, Option.getD_some]
       exact List.getElem_mem hq
     exact (h.tree _ hin).keep hk (fun b hb2 e => h.apart g rfl (by rw [← e]; exact hb2))
theorem ENod : ElemT Try.prog 41 42 (.pointer none) 1 8 := ⟨Try.underlying41, by kernel_rfl, rfl, by omega⟩
def leavesN (ns : List TN) : List Nat := ns.flatMap fun x => x.t.leaves
def sumN : List TN → Nat
 | [] => 0
 | x :: l => x.c + sumN l
theorem sumN_app : ∀ a b : List TN, sumN (a ++ b) = sumN a + sumN b
 | [], b => by simp [sumN]
 | x :: a, b => by rw [List.cons_append, sumN, sumN, sumN_app a b]; omega
theorem sumN_perm {a b : List TN} (h : a.Perm b) : sumN a = sumN b := by
 induction h with
 | nil => rfl
 | cons x _ ih => simp only [sumN, ih]
 | swap x y l => simp only [sumN]; omega
 | trans _ _ i1 i2 => rw [i1, i2]
theorem leavesN_perm {a b : List TN} (h : a.Perm b) : (leavesN a).Perm (leavesN b) := h.flatMap_right _
def slN : Value → Nat
 | .slice _ n _ => n
 | _ => 0
structure TreeAt (w wr : World) (base : Nat) (S S' : Nat → Prop) (v0 v : Value) (ns0 ns : List TN) : Prop where
 q : NodesQ wr base S' v ns
 keeps : Keeps (fun b => v0.ownBlock = some b) w wr
 new : ∀ b, S' b → S b ∨ w.heap.size ≤ b
 own : ∀ b, v.ownBlock = some b → v0.ownBlock = some b ∨ w.heap.size ≤ b
 perm : (leavesN ns).Perm (leavesN ns0)
 sum : sumN ns = sumN ns0
theorem TreeAt.step {w wr w2 w7 : World} {base : Nat} {S S' : Nat → Prop} {v0 v v' : Value} {ns0 ns rest : List TN} {x y : TN} {H : Nat} (h : TreeAt w wr base S S' v0 v ns0 ns) (hp : (x :: y :: rest).Perm ns)
   (hq : NodesQ w2 base S' v (x :: y :: rest)) (hg : wr.grownBy w2 v.ownBlock) (hH : w2.heap.size = H) (hO : OwnO w7 base 42 v' (ptrs (rest ++ [⟨H, .node x.t y.t, x.c + y.c⟩])))
   {o8 : Obj} (hg2 : ((w2.alloc (.cells #[.int .i64 (x.c + y.c : Nat), .int .i64 0, .pointer (some ⟨x.p, 0, none⟩), .pointer (some ⟨y.p, 0, none⟩)] 44)).alloc o8).drew.grownBy w7 v.ownBlock)
   (hv : ∀ b, v'.ownBlock = some b → v.ownBlock = some b ∨ H < b) (hbase : base ≤ w.heap.size) (hvs : ∀ b, v.ownBlock = some b → b < wr.heap.size) :
   TreeAt w w7 base S (fun b => S' b ∨ b = H) v0 v' ns0 (rest ++ [⟨H, .node x.t y.t, x.c + y.c⟩]) := by
 subst hH
 have k1 : Keeps (fun b => v.ownBlock = some b) wr w2 := Keeps.of_grown hg fun _ h => h
 have k2 : Keeps (fun b => v.ownBlock = some b) w2 w7 := ((((Keeps.refl _ w2).alloc _).alloc _).drewN 1).grown hg2 (fun k hk => .inl hk)
 have hw := h.keeps.size
 have hs2 := k1.size
 have hs7 := k2.size
 have hap : ∀ b, S' b → ¬ v.ownBlock = some b := fun b hb e => h.q.apart b e hb
 have hnew : w7.heap[w2.heap.size]? = some (.cells #[.int .i64 (x.c + y.c : Nat), .int .i64 0, .pointer (some ⟨x.p, 0, none⟩), .pointer (some ⟨y.p, 0, none⟩)] 44 (0, 0)) := by
   rw [hg2.block _ (by show _ < ((w2.alloc _).alloc _).heap.size; rw [sizeA, sizeA]; omega) (fun e => by have := hvs _ e.symm; omega)]
   show ((w2.alloc _).alloc _).heap[w2.heap.size]? = _
   rw [Below.heap_alloc (w2.alloc _) _ _ (by rw [sizeA]; omega)]
   exact heap_alloc_new w2 _
 have hlt7 : w2.heap.size < w7.heap.size := (Array.getElem?_eq_some_iff.1 hnew).1
 refine ⟨⟨hO, fun z hz => ?_, fun b hb hc => ?_, fun b hb => ?_⟩, ?_, fun b hb => ?_, fun b hb => ?_, ?_, ?_⟩
 · rcases List.mem_append.1 hz with h1 | h1
   · exact ((hq.tree z (List.mem_cons_of_mem _ (List.mem_cons_of_mem _ h1))).keep k2 hap).weaken fun b hb => .inl hb
   · rw [List.mem_singleton] at h1
     subst h1
     exact ⟨.inr rfl, x.p, y.p, x.c, y.c, hnew, ((hq.tree x (List.mem_cons_self ..)).keep k2 hap).weaken fun b hb => .inl hb, ((hq.tree y (List.mem_cons_of_mem _ (List.mem_cons_self ..))).keep k2 hap).weaken fun b hb => .inl hb⟩
 · rcases hc with hc | hc
   · rcases hv b hb with h1 | h1
     · exact h.q.apart b h1 hc
     · have := (hq.lt b hc).2; omega
   · rcases hv b hb with h1 | h1
     · have := hvs b h1; omega
     · omega
 · rcases hb with hb | hb
   · have := hq.lt b hb; exact ⟨this.1, by omega⟩
   · subst hb; exact ⟨by omega, hlt7⟩
 · exact (h.keeps.trans k1 (fun b hb => (h.own b hb).imp id id)).trans k2 (fun b hb => (h.own b hb).imp id id)
 · rcases hb with hb | hb
   · exact h.new b hb
   · exact .inr (by omega)
 · rcases hv b hb with h1 | h1
   · exact h.own b h1
   · exact .inr (by omega)
 · refine List.Perm.trans ?_ ((leavesN_perm hp).trans h.perm)
   unfold leavesN
   rw [List.flatMap_append]
   simp only [List.flatMap_cons, List.flatMap_nil, List.append_nil, HT.leaves]
   refine List.perm_append_comm.trans ?_
   rw [List.append_assoc]
 · have := sumN_perm hp
   have hs := h.sum
   rw [sumN_app]
   simp only [sumN] at this ⊢
   omega
set_option maxRecDepth 20000 in
theorem tree_any {w : World} {base : Nat} {S : Nat → Prop} {v : Value} {ns : List TN} (h : NodesQ w base S v ns) (h0 : 0 < ns.length) (hl : ns.length ≤ 400) (hsum : sumN ns ≤ 1000000000000) (hbase : base ≤ w.heap.size) :
   Calls Try.prog 12 #[v] w fun e w' => ∃ (x : TN) (S' : Nat → Prop), e = .returned x.v ∧ IsHT w' S' x.t x.p x.c ∧ (x.t.leaves).Perm (leavesN ns) ∧ (∀ b, S' b → S b ∨ w.heap.size ≤ b) ∧ Keeps (fun b => v.ownBlock = some b) w w' := by
 obtain ⟨g0, o0, cap0, rfl, -, -, -⟩ := h.own.row
 have hpl : (ptrs ns).length = ns.length := by simp [ptrs]
 rw [hpl] at h ⊢
 have HT0 := Lib.hid (show TreeAt w w base S S (.slice (some ⟨g0, o0, none⟩) ns.length cap0) (.slice (some ⟨g0, o0, none⟩) ns.length cap0) ns ns from ⟨h, Keeps.refl _ _, fun b h => .inl h, fun b h => .inl h, List.Perm.refl _, rfl⟩)
 clear h hpl
 go_enter Try.func12, Try.ntmps12
 go_wp2_with fail
 go_loopw [0] (fun vl wr => ∃ (m g o cap : Nat) (ns' : List TN) (S' : Nat → Prop), vl = .slice (some ⟨g, o, none⟩) m cap ∧ 0 < m ∧ m ≤ ns.length ∧ Hid (ns'.length = m) ∧ Hid (TreeAt w wr base S S' (.slice (some ⟨g0, o0, none⟩) ns.length cap0) vl ns ns')) (fun vl _ => slN vl)
 case atStart => exact ⟨_, _, _, _, ns, S, rfl, h0, Nat.le_refl _, Lib.hid rfl, HT0⟩
 case round =>
   obtain ⟨m, g, o, cap, ns', S', rfl, hm0, hml, HM, HT⟩ := hrel
   by_cases hlt : 1 < m
   · have hcd : decide ((m : Int) > 1) = true := decide_eq_true (by omega)
     have hcd2 : decide ((1 : Int) < m) = true := decide_eq_true (by omega)
     have HS := Lib.hid (sort_nodes HT.out.q (by rw [HM.out]; omega))
     clear HT0
     go_wp2_with (go_at_call 28; refine HS.out.mono ?_; rintro e w2 ⟨rfl, ns2, hp2, hq2, hg2⟩)
     have hl2 : ns2.length = m := by rw [hp2.length_eq, HM.out]
     obtain ⟨x, y, rest, rfl⟩ : ∃ x y rest, ns2 = x :: y :: rest := by
       match ns2, hl2 with
       | [], h => simp at h; omega
       | [_], h => simp at h; omega
       | x :: y :: rest, _ => exact ⟨x, y, rest, rfl⟩
     have hpl2 : (ptrs (x :: y :: rest)).length = m := by rw [← hl2]; simp [ptrs]
     obtain ⟨g', o', cap', ev, hrow, -, -⟩ := hq2.own.row
     rw [hpl2] at ev hrow
     simp only [Value.slice.injEq, Option.some.injEq, Addr.mk.injEq, and_true, true_and] at ev
     obtain ⟨⟨rfl, rfl⟩, rfl⟩ := ev
     obtain ⟨b, off, eb, hblt, hcell⟩ := hrow.2.2.2.2 (by omega)
     simp only [Option.some.injEq, Addr.mk.injEq, and_true] at eb
     obtain ⟨rfl, rfl⟩ := eb
     have r0 : w2.cell? ⟨g, o, none⟩ = some (.pointer (some ⟨x.p, 0, none⟩)) := hcell 0 _ rfl
     have r1 : w2.cell? ⟨g, o + 1, none⟩ = some (.pointer (some ⟨y.p, 0, none⟩)) := hcell 1 _ rfl
     obtain ⟨-, xl, x0⟩ := (hq2.tree x (List.mem_cons_self ..)).top
     obtain ⟨-, yl, y0⟩ := (hq2.tree y (List.mem_cons_of_mem _ (List.mem_cons_self ..))).top
     have hcap : m ≤ cap := hrow.2.1
     have hmi : (1 : Int) < m := by omega
     have hm2 : (2 : Int) ≤ m := by omega
     have hrl : (ptrs rest).length + 2 = m := by rw [← hpl2]; simp [ptrs]
     have hxy : x.c + y.c ≤ 1000000000000 := by
       have e1 := sumN_perm hp2
       have e2 := HT.out.sum
       simp only [sumN] at e1; omega
     obtain ⟨C, hC⟩ : ∃ C, C = x.c + y.c := ⟨_, rfl⟩
     have hw1 : IntKind.i64.wrap ((x.c : Int) + y.c) = (C : Int) := by rw [IntWalk.i64_in _ (by omega)]; omega
     have hxg : ¬ x.p = g := fun e => hq2.apart g rfl (e ▸ (hq2.tree x (List.mem_cons_self ..)).top.1)
     have hyg : ¬ y.p = g := fun e => hq2.apart g rfl (e ▸ (hq2.tree y (List.mem_cons_of_mem _ (List.mem_cons_self ..))).top.1)
     have hOd : ∀ o1 o2, OwnO ((w2.alloc o1).alloc o2).drew base 42 (.slice (if cap = 2 then some ⟨g, o, none⟩ else some ⟨g, o + 2, none⟩) (m - 2) (cap - 2)) (ptrs rest) := fun o1 o2 =>
       (OwnO.drop2i (by exact hq2.own)).keep (S := fun _ => False) ((((Keeps.refl (fun _ => False) w2).alloc o1).alloc o2).drewN 1) (fun _ _ h => h)
     have hnc : ∀ (o1 : Obj) (u : Value), ((w2.alloc o1).alloc (.cells #[u] 42)).drew.cell? ⟨w2.heap.size + 1, 0, none⟩ = some u := fun o1 u => by
       have e := sizeA w2 o1
       have h := cell_of_row _ _ 0 _ _ _ (heap_alloc_new (w2.alloc o1) (.cells #[u] 42))
       rw [e] at h
       exact h
     have hszb : ∀ o1 o2, base ≤ ((w2.alloc o1).alloc o2).drew.heap.size := fun o1 o2 => by
       show base ≤ ((w2.alloc o1).alloc o2).heap.size
       rw [sizeA, sizeA]; have := HT.out.keeps.size; have := hg2.size; omega
     obtain ⟨o2, hif⟩ : ∃ o2, (if cap = 2 then some (⟨g, o, none⟩ : Addr) else some ⟨g, o + 2, none⟩) = some ⟨g, o2, none⟩ := by split <;> exact ⟨_, rfl⟩
     have hkc : ∀ k, k < o + 2 → ∀ g' o' n c, Value.slice (some ⟨g, o2, none⟩) (m - 2) (cap - 2) = .slice (some ⟨g', o', none⟩) n c → g ≠ g' ∨ k < o' + n ∨ c ≤ n := fun k hk g' o' n c e => by
       simp only [Value.slice.injEq, Option.some.injEq, Addr.mk.injEq, and_true] at e
       obtain ⟨⟨rfl, rfl⟩, rfl, rfl⟩ := e
       by_cases h2 : cap = 2
       · exact .inr (.inr (by omega))
       · rw [if_neg h2] at hif
         simp only [Option.some.injEq, Addr.mk.injEq, and_true, true_and] at hif
         exact .inr (.inl (by omega))
     have hkx : ∀ p, ¬ p = g → ∀ k : Nat, ∀ g' o' n c, Value.slice (some ⟨g, o2, none⟩) (m - 2) (cap - 2) = .slice (some ⟨g', o', none⟩) n c → p ≠ g' ∨ k < o' + n ∨ c ≤ n := fun p hp k g' o' n c e => by
       simp only [Value.slice.injEq, Option.some.injEq, Addr.mk.injEq, and_true] at e
       obtain ⟨⟨rfl, rfl⟩, rfl, rfl⟩ := e
       exact .inl hp
     have HKC := Lib.hid hkc
     have HKX := Lib.hid hkx
     have HXG := Lib.hid hxg
     have HYG := Lib.hid hyg
     rw [hif] at hOd
     have HOD := Lib.hid hOd
     have HSZ := Lib.hid hszb
     have HRL := Lib.hid hrl
     have hr4 : (ptrs rest).length ≤ 400 := by omega
     have HNC := Lib.hid hnc
     have HQ2 := Lib.hid hq2
     have HP2 := Lib.hid hp2
     have HG2 := Lib.hid hg2
     have HC := Lib.hid hC
     have hbw : base ≤ w2.heap.size := by have := HT.out.keeps.size; have := hg2.size; omega
     have hgl : g < wr.heap.size := (HT.out.q.own.lt g rfl).2
     clear hOd hnc hszb hq2 hp2 hg2 hC HS hcell hrow hl2 hpl2 hrl hxy hcd hcd2 xl yl hblt hkc hkx hxg hyg
     have HML := Lib.hid hml
     have HBW := Lib.hid hbw
     have HGL := Lib.hid hgl
     have HBS := Lib.hid hbase
     have HR4 := Lib.hid hr4
     clear hml hbw hgl hr4 h0 hl hsum hbase
     go_wp2_with fail
     go_region_held_law (fun w' => w'.cell? ⟨g, o, none⟩ = some (.pointer (some ⟨x.p, 0, none⟩)) ∧ w'.cell? ⟨g, o + 1, none⟩ = some (.pointer (some ⟨y.p, 0, none⟩)) ∧ w'.cell? ⟨x.p, 0, none⟩ = some (.int .i64 x.c) ∧ w'.cell? ⟨y.p, 0, none⟩ = some (.int .i64 y.c))
       (first
         | go_keep
         | (go_split_ands; exact ⟨HA7.out _ _ _ (by assumption) (HKC.out _ (by omega)), HA7.out _ _ _ (by assumption) (HKC.out _ (by omega)), HA7.out _ _ _ (by assumption) (HKX.out _ HXG.out _), HA7.out _ _ _ (by assumption) (HKX.out _ HYG.out _)⟩))
       (first
         | (refine step_append_off ENod (by rfl) _ _ (by rfl) base (.slice (some ⟨g, o2, none⟩) (m - 2) (cap - 2)) (ptrs rest) (by rfl) (HOD.out _ _) ⟨w2.heap.size + 1, 0, none⟩ 1 (.pointer (some ⟨w2.heap.size, 0, none⟩)) (by rfl) (HNC.out _ _) (by rfl) (by have := HR4.out; unfold maxLen; omega) (by have := HR4.out; omega) (HSZ.out _ _) ?_; intro g7 o7 cap7 w7 hO7 hg7 hat7 hA7; have HO7 := Lib.hid hO7; have HG7 := Lib.hid hg7; have HB7 := Lib.hid hat7; have HA7 := Lib.hid hA7; clear hO7 hg7 hat7 hA7))
     simp only [List.getElem_toArray, List.getElem_cons_succ, List.getElem_cons_zero, List.setIfInBounds_toArray, List.set_cons_zero, List.set_cons_succ]
     go_wp2_with fail
     go_roundw
     case rel =>
       have hst := TreeAt.step HT.out HP2.out HQ2.out HG2.out (H := w2.heap.size) rfl (o8 := .cells #[.pointer (some ⟨w2.heap.size, 0, none⟩)] 42) (w7 := w7) (v' := .slice (some ⟨g7, o7, none⟩) ((ptrs rest).length + 1) cap7) (by
         unfold ptrs at HO7 ⊢
         rw [List.map_append]
         exact HO7.out) (by rw [← HC.out]; exact HG7.out) (fun b hb => by
         have h7 := HB7.out
         have e : g7 = b := by simpa [Value.ownBlock] using hb
         subst e
         rcases h7 with h7 | h7
         · exact .inl h7
         · refine .inr ?_
           have h8 : ((w2.alloc (.cells #[.int .i64 C, .int .i64 0, .pointer (some ⟨x.p, 0, none⟩), .pointer (some ⟨y.p, 0, none⟩)] 44)).alloc (.cells #[.pointer (some ⟨w2.heap.size, 0, none⟩)] 42)).heap.size ≤ g7 := h7
           rw [sizeA, sizeA] at h8; omega) HBS.out (fun b hb => by
         have e : g = b := by simpa [Value.ownBlock] using hb
         subst e
         exact HGL.out)
       have hr := HRL.out
       have hm := HML.out
       exact ⟨(ptrs rest).length + 1, g7, o7, cap7, _, _, rfl, by omega, by omega, Lib.hid (by simp [ptrs]), Lib.hid hst⟩
     case measure =>
       have hr := HRL.out
       show (ptrs rest).length + 1 < m
       omega
   · have hcd : decide ((m : Int) > 1) = false := decide_eq_false (by omega)
     have hm1 : m = 1 := by omega
     subst hm1
     obtain ⟨x, rfl⟩ : ∃ x, ns' = [x] := by
       have h := HM.out
       match ns', h with
       | [x], _ => exact ⟨x, rfl⟩
     have hq := HT.out.q
     obtain ⟨g', o', cap', ev, hrow, -, -⟩ := hq.own.row
     simp only [Value.slice.injEq, Option.some.injEq, Addr.mk.injEq, and_true] at ev
     obtain ⟨⟨rfl, rfl⟩, -, rfl⟩ := ev
     obtain ⟨b, off, eb, hblt, hcell⟩ := hrow.2.2.2.2 (by simp [ptrs])
     simp only [Option.some.injEq, Addr.mk.injEq, and_true] at eb
     obtain ⟨rfl, rfl⟩ := eb
     have r0 : wr.cell? ⟨g, o, none⟩ = some (.pointer (some ⟨x.p, 0, none⟩)) := hcell 0 _ rfl
     clear hrow hcell hq
     go_wp2_with fail
     go_ret
     refine ⟨x, S', rfl, HT.out.q.tree x (List.mem_singleton_self _), ?_, HT.out.new, HT.out.keeps⟩
     have hp := HT.out.perm
     simpa [leavesN] using hp
end Go.Proofs.Ythmpigmmihiecaa
namespace Go.Proofs.Ythmpigmmihiecaa
open Go.RowKit
theorem rowR_get {n : Nat} {R D : List Nat} (hn : R.Nodup) (hr : ∀ r ∈ R, r < n) (hD : D.length = R.length) {i : Nat} (hi : i < R.length) : (rowR n R D).getD (R.getD i 0) 0 = D.getD i 0 := rowR_at hn hD hr hi
structure CutM (W : World) (bo B1 Br og n : Nat) (R D : List Nat) (room : Int) : Prop where
 out : OutR W bo (rowR n R D)
 box : W.heap[B1]? = some (.cells #[.slice (some ⟨bo, 0, none⟩) n n] 22 (0, 0))
 rm : W.heap[Br]? = some (.cells #[.int .i64 room] 3 (0, 0))
 ord : ∀ i, i < R.length → W.cell? ⟨og, i, none⟩ = some (.int .i64 (R.getD i 0 : Nat))
 len : D.length = R.length
 nd : R.Nodup
 lt : ∀ r ∈ R, r < n
 ne1 : bo ≠ B1
 ne2 : bo ≠ Br
 ne3 : B1 ≠ Br
 ne4 : og ≠ bo
 ne5 : og ≠ B1
 ne6 : og ≠ Br
section
variable {W : World} {bo B1 Br og n : Nat} {R D : List Nat} {room : Int}
theorem getD_mem {R : List Nat} {i : Nat} (hi : i < R.length) : R.getD i 0 ∈ R := by
 rw [List.getD_eq_getElem?_getD, List.getElem?_eq_getElem hi]; exact List.getElem_mem hi
theorem CutM.at (h : CutM W bo B1 Br og n R D room) {i : Nat} (hi : i < R.length) : R.getD i 0 < n ∧ W.cell? ⟨og, i, none⟩ = some (.int .i64 (R.getD i 0 : Nat)) ∧ W.cell? ⟨bo, R.getD i 0, none⟩ = some (.int .i64 (D.getD i 0 : Nat)) := by
 have hl := h.lt _ (getD_mem hi)
 refine ⟨hl, h.ord i hi, ?_⟩
 have := h.out.cell (k := R.getD i 0) (by rw [rowR_len]; exact hl)
 rw [rowR_get h.nd h.lt h.len hi] at this
 exact this
theorem CutM.cbox (h : CutM W bo B1 Br og n R D room) : W.cell? ⟨B1, 0, none⟩ = some (.slice (some ⟨bo, 0, none⟩) n n) := by rw [cell_of_row W _ 0 _ _ _ h.box]; rfl
theorem CutM.crm (h : CutM W bo B1 Br og n R D room) : W.cell? ⟨Br, 0, none⟩ = some (.int .i64 room) := by rw [cell_of_row W _ 0 _ _ _ h.rm]; rfl
theorem CutM.frm (h : CutM W bo B1 Br og n R D room) : W.frozen? ⟨Br, 0, none⟩ = false := frozen_of_row W Br 0 _ _ h.rm
theorem CutM.fout (h : CutM W bo B1 Br og n R D room) (k : Nat) : W.frozen? ⟨bo, k, none⟩ = false := h.out.free k
theorem CutM.drewN (h : CutM W bo B1 Br og n R D room) (q : Nat) : CutM (W.drewN q) bo B1 Br og n R D room := ⟨h.out, h.box, h.rm, h.ord, h.len, h.nd, h.lt, h.ne1, h.ne2, h.ne3, h.ne4, h.ne5, h.ne6⟩
theorem CutM.keep {W' : World} {T : Nat → Prop} (h : CutM W bo B1 Br og n R D room) (hk : Keeps T W W') (h1 : ¬ T bo) (h2 : ¬ T B1) (h3 : ¬ T Br) (h4 : ¬ T og) : CutM W' bo B1 Br og n R D room :=
 ⟨h.out.keep hk h1, hk.obj h.box h2, hk.obj h.rm h3, fun i hi => hk.cell (h.ord i hi) h4, h.len, h.nd, h.lt, h.ne1, h.ne2, h.ne3, h.ne4, h.ne5, h.ne6⟩
theorem CutM.alloc (h : CutM W bo B1 Br og n R D room) (o : Obj) : CutM (W.alloc o) bo B1 Br og n R D room := h.keep (T := fun _ => False) ((Keeps.refl _ W).alloc o) id id id id
theorem CutM.setR (h : CutM W bo B1 Br og n R D room) (r : Int) : CutM (W.setCell ⟨Br, 0, none⟩ (.int .i64 r)) bo B1 Br og n R D r := by
 have hk : Keeps (fun x => x = Br) W (W.setCell ⟨Br, 0, none⟩ (.int .i64 r)) := (Keeps.refl (fun x => x = Br) W).setCell (a := ⟨Br, 0, none⟩) (.inl rfl) _
 refine ⟨h.out.keep hk h.ne2, hk.obj h.box h.ne3, ?_, fun i hi => hk.cell (h.ord i hi) h.ne6, h.len, h.nd, h.lt, h.ne1, h.ne2, h.ne3, h.ne4, h.ne5, h.ne6⟩
 rw [heap_setCell_same W Br 0 _ _ _ h.rm]; rfl
theorem CutM.setO (h : CutM W bo B1 Br og n R D room) {i : Nat} (hi : i < R.length) (v : Nat) : CutM (W.setCell ⟨bo, R.getD i 0, none⟩ (.int .i64 v)) bo B1 Br og n R (D.set i v) room := by
 have hk : Keeps (fun x => x = bo) W (W.setCell ⟨bo, R.getD i 0, none⟩ (.int .i64 v)) := (Keeps.refl (fun x => x = bo) W).setCell (a := ⟨bo, R.getD i 0, none⟩) (.inl rfl) _
 refine ⟨?_, hk.obj h.box (fun e => h.ne1 e.symm), hk.obj h.rm (fun e => h.ne2 e.symm), fun i hi => hk.cell (h.ord i hi) h.ne4, by rw [List.length_set]; exact h.len, h.nd, h.lt, h.ne1, h.ne2, h.ne3, h.ne4, h.ne5, h.ne6⟩
 have := h.out.set (R.getD i 0) v
 rwa [rowR_set h.nd h.lt h.len hi] at this
end
theorem inc1_first {n : Nat} : ∀ {D : List Nat} {i : Nat}, i < D.length → D.getD i 0 = n → (∀ j, j < i → D.getD j 0 ≠ n) → inc1 n D = some (D.set i (n + 1))
 | [], i, h, _, _ => by simp at h
 | x :: l, 0, _, h, _ => by
   have h : x = n := by simpa using h
   unfold inc1; rw [if_pos h]; rfl
 | x :: l, i + 1, hi, h, hj => by
   have h0 : x ≠ n := by simpa using hj 0 (by omega)
   unfold inc1
   rw [if_neg h0, inc1_first (i := i) (by simpa using hi) (by simpa using h) (fun j hj' => by simpa using hj (j + 1) (by omega))]
   rfl
theorem inc1_off {n : Nat} : ∀ {D : List Nat}, (∀ j, j < D.length → D.getD j 0 ≠ n) → inc1 n D = none
 | [], _ => rfl
 | x :: l, h => by
   have h0 : x ≠ n := by simpa using h 0 (by simp)
   unfold inc1
   rw [if_neg h0, inc1_off (fun j hj => by simpa using h (j + 1) (by simpa using hj))]
   rfl
theorem cut1_any {W : World} {bo B1 Bn n k x m : Nat} (c1 : W.cell? ⟨B1, 0, none⟩ = some (.slice (some ⟨bo, 0, none⟩) n n)) (c2 : W.cell? ⟨bo, k, none⟩ = some (.int .i64 x)) (c3 : W.cell? ⟨Bn, 0, none⟩ = some (.int .i64 m)) (hk : k < n) :
   Calls Try.prog 33 #[.int .i64 k, .pointer (some ⟨B1, 0, none⟩), .pointer (some ⟨Bn, 0, none⟩)] W fun e w' => e = .returned (.bool (decide (x = m))) ∧ ∃ q, w' = W.drewN q := by
 have hd : ((x : Int) == (m : Int)) = decide (x = m) := by
   rw [show ((x : Int) == (m : Int)) = decide ((x : Int) = m) from rfl]; exact decide_eq_decide.2 (by omega)
 have hk0 : (k : Int) < (n : Int) := by omega
 obtain ⟨r, hr⟩ : ∃ r, r = decide (x = m) := ⟨_, rfl⟩
 rw [← hr] at hd ⊢
 have HD := Lib.hid hd
 clear hr hd
 go_enter Try.func33, Try.ntmps33
 go_wp2
 go_quiet (fail)
 go_wp2
 go_ret
 refine ⟨?_, _, rfl⟩
 rw [← HD.out]; simp
theorem idx_cut {W : World} {bo B1 Br og n Bn m cap : Nat} {R D : List Nat} {room : Int} (h : CutM W bo B1 Br og n R D room) (hb : W.cell? ⟨Bn, 0, none⟩ = some (.int .i64 m)) (hl : R.length ≤ 400) :
   Calls Try.prog 32 #[.slice (some ⟨og, 0, none⟩) R.length cap, .func (.func 33) #[] #[.pointer (some ⟨B1, 0, none⟩), .pointer (some ⟨Bn, 0, none⟩)]] W fun e w' => (∃ q, w' = W.drewN q) ∧
     ((∃ i, i < R.length ∧ e = .returned (.int .i64 i) ∧ inc1 m D = some (D.set i (m + 1)) ∧ D.getD i 0 = m) ∨ (e = .returned (.int .i64 (-1)) ∧ inc1 m D = none)) := by
 have H := Lib.hid h
 have HB := Lib.hid hb
 clear h hb
 go_enter Try.func32, Try.ntmps32
 go_wp2_with fail
 go_loopw [8] (fun v wr => ∃ j : Nat, v = .int .i64 j ∧ j ≤ R.length ∧ Hid (∃ q, wr = W.drewN q) ∧ Hid (∀ i, i < j → D.getD i 0 ≠ m)) (fun v _ => R.length - (intOf v).toNat)
 case atStart => exact ⟨0, rfl, Nat.zero_le _, Lib.hid ⟨0, rfl⟩, Lib.hid (fun i hi => by omega)⟩
 case round =>
   obtain ⟨j, rfl, hj, HW, HA⟩ := hrel
   by_cases hlt : j < R.length
   case neg =>
     have hje : j = R.length := by omega
     subst hje
     have hcd : decide ((R.length : Int) < (R.length : Int)) = false := decide_eq_false (by omega)
     have hcd2 : decide (R.length < R.length) = false := decide_eq_false (by omega)
     have HN := Lib.hid (inc1_off (D := D) (n := m) (by rw [H.out.len]; exact HA.out))
     go_wp2
     go_ret
     exact ⟨HW.out, .inr ⟨rfl, HN.out⟩⟩
   have hcd : decide ((j : Int) < (R.length : Int)) = true := decide_eq_true (by omega)
   have hcd2 : decide (j < R.length) = true := decide_eq_true hlt
   have hjl : (j : Int) < (R.length : Int) := by omega
   obtain ⟨q, hq⟩ := HW.out
   obtain ⟨z1, z2, z3⟩ := (H.out.drewN q).at hlt
   rw [← hq] at z2 z3
   have HC := Lib.hid (cut1_any (W := wr) (by rw [hq]; exact (H.out.drewN q).cbox) z3 (by rw [hq]; exact HB.out) z1)
   have HX := Lib.hid (show D.getD j 0 = m → inc1 m D = some (D.set j (m + 1)) from fun e => inc1_first (by rw [H.out.len]; exact hlt) e HA.out)
   have HY := Lib.hid (show D.getD j 0 ≠ m → ∀ i, i < j + 1 → D.getD i 0 ≠ m from fun e i hi => by
     rcases Nat.lt_or_eq_of_le (Nat.le_of_lt_succ hi) with h1 | h1
     · exact HA.out i h1
     · rw [h1]; exact e)
   have HQ := Lib.hid hq
   clear hq z3 HA
   generalize R.getD j 0 = k at *
   generalize hx : D.getD j 0 = x at HC HX HY
   have HE := Lib.hid hx
   clear hx
   by_cases he : x = m
   · have hd : decide (x = m) = true := decide_eq_true he
     rw [hd] at HC
     have HX2 := Lib.hid (HX.out he)
     have HE2 := Lib.hid (HE.out.trans he)
     clear HX HY HE hd he
     go_wp2_with (refine HC.out.mono ?_; rintro e w2 ⟨rfl, q2, hq2⟩; have HQ2 := Lib.hid hq2; clear hq2)
     go_ret
     refine ⟨?_, .inl ⟨j, hlt, rfl, HX2.out, HE2.out⟩⟩
     rw [HQ2.out, HQ.out]; exact ⟨q + q2, by simp [World.drewN, Nat.add_assoc]⟩
   · have hd : decide (x = m) = false := decide_eq_false he
     rw [hd] at HC
     have HY2 := Lib.hid (HY.out he)
     clear HX HY hd he
     go_wp2_with (refine HC.out.mono ?_; rintro e w2 ⟨rfl, q2, hq2⟩; have HQ2 := Lib.hid hq2; clear hq2)
     go_roundw
     case rel => exact ⟨j + 1, by go_num, by omega, Lib.hid (by rw [HQ2.out, HQ.out]; exact ⟨q + q2, by simp [World.drewN, Nat.add_assoc]⟩), HY2⟩
     case measure => simp [intOf]; omega
end Go.Proofs.Ythmpigmmihiecaa
namespace Go.Proofs.Ythmpigmmihiecaa
def minN (limit : Nat) (D : List Nat) (i : Nat) : List Nat := ((D.take i).map fun x => min x limit) ++ D.drop i
theorem minN_len (limit : Nat) (D : List Nat) (i : Nat) : (minN limit D i).length = D.length := by
 unfold minN
 rw [List.length_append, List.length_map, ← List.length_append, List.take_append_drop]
theorem minN_zero (limit : Nat) (D : List Nat) : minN limit D 0 = D := by simp [minN]
theorem minN_all (limit : Nat) (D : List Nat) : minN limit D D.length = D.map fun x => min x limit := by simp [minN]
theorem minN_get (limit : Nat) (D : List Nat) {i : Nat} (h : i < D.length) : (minN limit D i).getD i 0 = D.getD i 0 := by
 unfold minN
 rw [List.getD_eq_getElem?_getD, List.getD_eq_getElem?_getD, List.getElem?_append_right (by simp; omega), List.getElem?_drop]
 congr 2
 simp; omega
theorem take_one (D : List Nat) {i : Nat} (h : i < D.length) : D.take (i + 1) = D.take i ++ [D.getD i 0] := by
 rw [List.take_add_one, List.getD_eq_getElem?_getD, List.getElem?_eq_getElem h]; rfl
theorem minN_step (limit : Nat) (D : List Nat) {i : Nat} (h : i < D.length) : (minN limit D i).set i (min (D.getD i 0) limit) = minN limit D (i + 1) := by
 unfold minN
 have hl : ((D.take i).map fun x => min x limit).length = i := by simp; omega
 rw [List.set_append_right _ _ (by omega), hl, Nat.sub_self, List.drop_eq_getElem_cons h, List.set_cons_zero, take_one D h, List.map_append, List.append_assoc]
 rfl
def roomN (limit : Nat) (D : List Nat) (i : Nat) : Int := 32768 - (sumW ((D.take i).map fun x => min x limit) : Nat)
theorem sumW_app : ∀ a b : List Nat, sumW (a ++ b) = sumW a + sumW b
 | [], b => by simp [sumW]
 | x :: a, b => by rw [List.cons_append, sumW, sumW, sumW_app a b]; omega
theorem roomN_step (limit : Nat) (D : List Nat) {i : Nat} (h : i < D.length) : roomN limit D (i + 1) = roomN limit D i - (roomW (min (D.getD i 0) limit) : Nat) := by
 unfold roomN
 rw [take_one D h, List.map_append, sumW_app]
 simp only [List.map_cons, List.map_nil, sumW]
 omega
theorem roomW_le (x : Nat) : roomW x ≤ 32768 := Nat.div_le_self _ _
theorem sumW_le : ∀ L : List Nat, sumW L ≤ L.length * 32768
 | [] => by simp [sumW]
 | x :: l => by
   have := sumW_le l
   have := roomW_le x
   rw [sumW, List.length_cons, Nat.add_mul]; omega
theorem roomN_bd (limit : Nat) (D : List Nat) (i : Nat) : -((D.length : Int) * 32768) ≤ roomN limit D i ∧ roomN limit D i ≤ 32768 := by
 unfold roomN
 have h := sumW_le ((D.take i).map fun x => min x limit)
 have h2 : ((D.take i).map fun x => min x limit).length ≤ D.length := by simp; omega
 have h3 := Nat.mul_le_mul_right 32768 h2
 omega
theorem sumW_set : ∀ {D : List Nat} {i : Nat} (v : Nat), i < D.length → sumW (D.set i v) + roomW (D.getD i 0) = sumW D + roomW v
 | x :: l, 0, v, _ => by simp [sumW]; omega
 | x :: l, i + 1, v, h => by
   have := sumW_set (D := l) (i := i) v (by simpa using h)
   simp only [List.set_cons_succ, sumW, List.getD_cons_succ] at *
   omega
theorem roomW_two {x : Nat} (h0 : 1 ≤ x) (h : x + 1 ≤ 15) : roomW x = 2 * roomW (x + 1) := by
 obtain ⟨y, rfl⟩ : ∃ y, x = y + 1 := ⟨x - 1, by omega⟩
 exact roomW_half (by omega)
theorem roomW_pos {x : Nat} (h : x ≤ 15) : 1 ≤ roomW x := by
 have : ∀ y, y ≤ 15 → 1 ≤ roomW y := by decide
 exact this x h
def stpS (s : List Nat × Nat) (i : Nat) : List Nat × Nat := (s.1.set i (shrink (s.1.getD i 0) s.2).1, (shrink (s.1.getD i 0) s.2).2)
theorem stpS_fold : ∀ (A B : List Nat) (r : Nat), (List.range A.length).reverse.foldl stpS (A ++ B, r) = ((shrinkAll A.reverse r).1.reverse ++ B, (shrinkAll A.reverse r).2) := by
 intro A
 induction hA : A.length generalizing A with
 | zero =>
   intro B r
   have : A = [] := List.eq_nil_of_length_eq_zero hA
   subst this
   simp [shrinkAll]
 | succ m ih =>
   intro B r
   obtain ⟨A0, x, rfl⟩ : ∃ A0 x, A = A0 ++ [x] := by
     rcases List.eq_nil_or_concat A with h | ⟨l, a, h⟩
     · subst h; simp at hA
     · exact ⟨l, a, by rw [h, List.concat_eq_append]⟩
   have hm : A0.length = m := by simpa using hA
   rw [List.range_succ, List.reverse_append, List.reverse_singleton, List.singleton_append, List.foldl_cons]
   have e : stpS (A0 ++ [x] ++ B, r) m = (A0 ++ ((shrink x r).1 :: B), (shrink x r).2) := by
     unfold stpS
     have g : (A0 ++ [x] ++ B).getD m 0 = x := by
       rw [List.getD_eq_getElem?_getD, List.append_assoc, List.getElem?_append_right (by omega), hm, Nat.sub_self]; rfl
     simp only [g]
     rw [List.append_assoc, List.set_append_right _ _ (by omega), hm, Nat.sub_self]
     rfl
   rw [e, ih A0 hm ((shrink x r).1 :: B) (shrink x r).2, List.reverse_append]
   simp [shrinkAll]
theorem stpS_all {A : List Nat} {r c : Nat} (h : A.length = c) : (List.range c).reverse.foldl stpS (A, r) = ((shrinkAll A.reverse r).1.reverse, (shrinkAll A.reverse r).2) := by
 have := stpS_fold A [] r
 rw [List.append_nil, List.append_nil, h] at this
 exact this
theorem cutLoop_stop {limit : Nat} : ∀ {g : Nat} {D M : List Nat}, cutLoop limit g D = some M → sumW D ≤ 32768 → M = D
 | 0, _, _, h, _ => by simp [cutLoop] at h
 | g + 1, D, M, h, hs => by
   unfold cutLoop at h
   rw [if_pos hs] at h
   simpa using h.symm
theorem cutLoop_go {limit : Nat} : ∀ {g : Nat} {D M : List Nat}, cutLoop limit g D = some M → ¬ sumW D ≤ 32768 → ∃ g' n D', incTop D (limit - 1) = some (n, D') ∧ cutLoop limit g' D' = some M
 | 0, _, _, h, _ => by simp [cutLoop] at h
 | g + 1, D, M, h, hs => by
   unfold cutLoop at h
   rw [if_neg hs] at h
   cases hx : incTop D (limit - 1) with
   | none => rw [hx] at h; simp at h
   | some x => rw [hx] at h; exact ⟨g, x.1, x.2, rfl, h⟩
theorem incTop_hit {D M : List Nat} {m : Nat} (h : inc1 (m + 1) D = some M) : incTop D (m + 1) = some (m + 1, M) := by unfold incTop; rw [h]
theorem incTop_miss {D : List Nat} {m : Nat} (h : inc1 (m + 1) D = none) : incTop D (m + 1) = incTop D m := by
 rw [show incTop D (m + 1) = (match inc1 (m + 1) D with | some M => some (m + 1, M) | none => incTop D m) from rfl, h]
theorem sumW_inc {D : List Nat} {i m : Nat} (hi : i < D.length) (h : D.getD i 0 = m) (h0 : 1 ≤ m) (h1 : m + 1 ≤ 15) : sumW (D.set i (m + 1)) + roomW (m + 1) = sumW D := by
 have := sumW_set (D := D) (i := i) (m + 1) hi
 rw [h, roomW_two h0 h1] at this
 omega
theorem shrink_stop {y r : Nat} (h : y ≤ 1 ∨ r < roomW y) : shrink y r = (y, r) := by
 match y with
 | 0 => rfl
 | 1 => rfl
 | y + 2 =>
   unfold shrink
   rw [if_neg (by omega)]
theorem shrink_go {y r : Nat} (h : 2 ≤ y) (h2 : roomW y ≤ r) : shrink y r = shrink (y - 1) (r - roomW y) := by
 match y with
 | 0 => omega
 | 1 => omega
 | y + 2 =>
   rw [show shrink (y + 2) r = (if roomW (y + 2) ≤ r then shrink (y + 1) (r - roomW (y + 2)) else (y + 2, r)) from rfl, if_pos h2]; rfl
theorem stp_one {D : List Nat} {r i y r2 : Nat} (h : shrink (D.getD i 0) r = (y, r2)) : stpS (D, r) i = (D.set i y, r2) := by unfold stpS; simp only [h]
theorem set_set2 (D : List Nat) (i a b : Nat) : (D.set i a).set i b = D.set i b := by simp
theorem getD_set_self {D : List Nat} {i : Nat} (h : i < D.length) (v : Nat) : (D.set i v).getD i 0 = v := by
 rw [List.getD_eq_getElem?_getD, List.getElem?_set_self h]; rfl
theorem set_get (D : List Nat) (i : Nat) : D.set i (D.getD i 0) = D := by
 induction D generalizing i with
 | nil => rfl
 | cons x l ih =>
   cases i with
   | zero => rfl
   | succ i => simp only [List.set_cons_succ, List.getD_cons_succ]; rw [ih]
theorem le_set {D : List Nat} {i v m : Nat} (h : ∀ z ∈ D, z ≤ m) (hv : v ≤ m) : ∀ z ∈ D.set i v, z ≤ m := fun z hz => by
 rcases List.mem_or_eq_of_mem_set hz with h1 | h1
 · exact h z h1
 · omega
end Go.Proofs.Ythmpigmmihiecaa
namespace Go.Proofs.Ythmpigmmihiecaa
open Go.RowKit Go.Sort
def SortISaid : Prop :=
 ∀ (base g cap : Nat) (D : List Nat) (w : World), w.ownsRow base 3 1 (.slice (some ⟨g, 0, none⟩) D.length cap) D.length (natV D) → D.length ≤ 1000 →
   Calls Try.prog 35 #[.slice (some ⟨g, 0, none⟩) D.length cap, .func (.func 36) #[] #[]] w fun e w' => e = .returned (.tuple #[]) ∧ ∃ D' : List Nat, D'.Perm D ∧ (∀ i j, i ≤ j → j < D'.length → D'.getD j 0 ≤ D'.getD i 0) ∧
     w'.ownsRow base 3 1 (.slice (some ⟨g, 0, none⟩) D.length cap) D.length (natV D') ∧ w.grownBy w' (some g)
theorem take_natV (D : List Nat) {k : Nat} (h : k < D.length) : natV (D.take (k + 1)) = natV (D.take k) ++ [.int .i64 (D.getD k 0 : Nat)] := by
 rw [take_one D h]; simp [natV]
theorem mix_step {D D2 : List Nat} {i : Nat} (h : i < D.length) (hl : D2.length = D.length) : (D2.take i ++ D.drop i).set i (D2.getD i 0) = D2.take (i + 1) ++ D.drop (i + 1) := by
 have ht : (D2.take i).length = i := by simp; omega
 rw [List.set_append_right _ _ (by omega), ht, Nat.sub_self, List.drop_eq_getElem_cons h, List.set_cons_zero, take_one D2 (by omega), List.append_assoc]; rfl
set_option maxRecDepth 20000 in
theorem sorted_any (hsort : SortISaid) {w : World} {bo og n ocap : Nat} {R D : List Nat} (hO : OutR w bo (rowR n R D)) (hord : ∀ i, i < R.length → w.cell? ⟨og, i, none⟩ = some (.int .i64 (R.getD i 0 : Nat))) (hne : og ≠ bo) (hog : og < w.heap.size)
   (h0 : 0 < R.length) (hR : R.length ≤ 400) (hD : D.length = R.length) (hnd : R.Nodup) (hlt : ∀ r ∈ R, r < n) :
   Calls Try.prog 18 #[.slice (some ⟨bo, 0, none⟩) n n, .slice (some ⟨og, 0, none⟩) R.length ocap] w fun e w' => e = .returned (.tuple #[]) ∧ ∃ D' : List Nat, D'.Perm D ∧ (∀ i j, i ≤ j → j < D'.length → D'.getD j 0 ≤ D'.getD i 0) ∧ OutR w' bo (rowR n R D') ∧ Keeps (fun b => b = bo) w w' := by
 have hbo := hO.lt
 have HO := Lib.hid hO
 have HORD := Lib.hid hord
 have HS := Lib.hid hsort
 have HD := Lib.hid hD
 have HND := Lib.hid hnd
 have HLT := Lib.hid hlt
 clear hO hord hsort hD hnd hlt
 go_enter Try.func18, Try.ntmps18
 go_wp2_with fail
 go_loopw [4, 11] (fun S v wr => ∃ i : Nat, v = .int .i64 i ∧ i ≤ R.length ∧ Hid (wr.ownsRow w.heap.size 3 1 S i (natV (D.take i))) ∧ Hid (Below w.heap.size w wr)) (fun _ v _ => R.length - (intOf v).toNat)
 case atStart => exact ⟨0, rfl, Nat.zero_le _, Lib.hid (by rw [List.take_zero]; exact World.ownsRow_nil _ _ _ _), Lib.hid (Below.refl _ _)⟩
 case round =>
   obtain ⟨i, rfl, hi, HSk, HB⟩ := hrel
   by_cases hlt : i < R.length
   · have hcd : decide ((i : Int) < (R.length : Int)) = true := decide_eq_true (by omega)
     have hil : (i : Int) < (R.length : Int) := by omega
     have z2 := below_cell HB.out hog (HORD.out i hlt)
     have hk1 := HLT.out _ (getD_mem hlt)
     have hOb : OutR wr bo (rowR n R D) := (HB.out.block bo hbo).trans HO.out
     have z3 := hOb.cell (k := R.getD i 0) (by rw [rowR_len]; exact hk1)
     rw [rowR_get HND.out HLT.out HD.out hlt] at z3
     have HT := Lib.hid (take_natV D (k := i) (by rw [HD.out]; exact hlt))
     generalize R.getD i 0 = k at z2 z3 hk1
     generalize D.getD i 0 = x at z3 HT
     have hkn : (k : Int) < (n : Int) := by omega
     obtain ⟨aS, cS, hS, -, hSb⟩ := Row.of_owns HSk.out
     subst hS
     have hsz := HB.out.size
     clear hSb hOb
     go_wp2_with (at_builtin; refine append_row ETI rfl (.tmp 15) (.tmp 20) rfl w.heap.size (Value.slice aS i cS) i _ rfl (HSk.out.alloc _) _ 1 _ _ rfl (row_new1 _ _ _) (one_mem rfl) (by unfold maxLen; omega) (by omega) (by rw [sizeA]; omega) ?_; intro v' w5 hO5 hg5 hnil5; have HO5 := Lib.hid hO5; have HG5 := Lib.hid hg5; clear hO5 hg5 hnil5)
     go_roundw
     case rel => exact ⟨i + 1, by go_num, by omega, Lib.hid (by rw [HT.out]; exact HO5.out), Lib.hid ((HB.out.alloc hsz _).grown HG5.out (by rw [sizeA]; omega) (fun q hq => (HSk.out.lt q hq).1))⟩
     case measure => simp [intOf]; omega
   · have hie : i = R.length := by omega
     subst hie
     have hcd : decide ((R.length : Int) < (R.length : Int)) = false := decide_eq_false (by omega)
     have hcd2 : decide (R.length < R.length) = false := decide_eq_false (by omega)
     have hrow := HSk.out
     rw [List.take_of_length_le (by rw [HD.out]; exact Nat.le_refl _)] at hrow
     obtain ⟨g, cS, hS, hgb⟩ : ∃ g cS, u4 = .slice (some ⟨g, 0, none⟩) R.length cS ∧ w.heap.size ≤ g := by
       rcases hrow.2 with ⟨-, h1⟩ | ⟨g, cap, cur, hv, hb, -⟩
       · omega
       · exact ⟨g, cap, hv, hb⟩
     subst hS
     have hgl := (hrow.lt g rfl).2
     have HX := Lib.hid (by have h := HS.out w.heap.size g cS D wr (by rw [HD.out]; exact hrow) (by rw [HD.out]; omega); rw [HD.out] at h; exact h)
     clear hrow HSk HS
     go_wp2_with (go_at_call 35; refine HX.out.mono ?_; rintro e w3 ⟨rfl, D2, hp2, hs2, hr2, hg2⟩; have HP2 := Lib.hid hp2; have HS2 := Lib.hid hs2; have HR2 := Lib.hid hr2; have HG2 := Lib.hid hg2; clear hp2 hs2 hr2 hg2)
     have hD2 : D2.length = R.length := by rw [HP2.out.length_eq, HD.out]
     have HB3 := Lib.hid (HB.out.grown HG2.out HB.out.size (fun q hq => by cases hq; exact hgb))
     have HO3 := Lib.hid (show OutR w3 bo (rowR n R (D2.take 0 ++ D.drop 0)) from by rw [List.take_zero, List.nil_append, List.drop_zero]; exact (HB3.out.block bo hbo).trans HO.out)
     have HD2 := Lib.hid hD2
     have hg3 : g < w3.heap.size := Nat.lt_of_lt_of_le hgl HG2.out.size
     clear HX hD2
     go_loopw [27] (fun v wr => ∃ i : Nat, v = .int .i64 i ∧ i ≤ R.length ∧ Hid (OutR wr bo (rowR n R (D2.take i ++ D.drop i))) ∧ Hid (Keeps (fun b => b = bo) w3 wr)) (fun v _ => R.length - (intOf v).toNat)
     case atStart => exact ⟨0, rfl, Nat.zero_le _, HO3, Lib.hid (Keeps.refl _ _)⟩
     case round =>
       clear HO3
       obtain ⟨i, rfl, hi, HOi, HK⟩ := hrel
       by_cases hlt : i < R.length
       · have hcd : decide ((i : Int) < (R.length : Int)) = true := decide_eq_true (by omega)
         have hil : (i : Int) < (R.length : Int) := by omega
         have z2 := HK.out.cell (below_cell HB3.out hog (HORD.out i hlt)) hne
         have hk1 := HLT.out _ (getD_mem hlt)
         obtain ⟨b, off, eb, hbl, hcc⟩ := (Row.of_own HR2.out).2.2.2.2.2 (by omega)
         simp only [Option.some.injEq, Addr.mk.injEq, and_true] at eb
         obtain ⟨rfl, rfl⟩ := eb
         have z3 := HK.out.cell (hcc i _ (natV_at (L := D2) (k := i) (by rw [HD2.out]; exact hlt))) (by omega)
         rw [Nat.zero_add] at z3
         have f3 := HOi.out.free (R.getD i 0)
         have hlm : (D2.take i ++ D.drop i).length = R.length := by rw [List.length_append, List.length_take, List.length_drop, HD2.out, HD.out]; omega
         have HN := Lib.hid (show OutR (wr.setCell ⟨bo, R.getD i 0, none⟩ (.int .i64 (D2.getD i 0 : Nat))) bo (rowR n R (D2.take (i + 1) ++ D.drop (i + 1))) from by
           have h := HOi.out.set (R.getD i 0) (D2.getD i 0)
           rw [rowR_set HND.out HLT.out hlm hlt, mix_step (by rw [HD.out]; exact hlt) (by rw [HD2.out, HD.out])] at h
           exact h)
         have z4 := HOi.out.cell (k := R.getD i 0) (by rw [rowR_len]; exact hk1)
         generalize R.getD i 0 = k at z2 f3 hk1 HN z4
         generalize D2.getD i 0 = x at z3 HN
         generalize (rowR n R (D2.take i ++ D.drop i)).getD k 0 = y at z4
         have hkn : (k : Int) < (n : Int) := by omega
         clear hcc hlm
         go_wp2_with fail
         go_roundw
         case rel => exact ⟨i + 1, by go_num, by omega, HN, Lib.hid (HK.out.setCell (a := ⟨bo, k, none⟩) (.inl rfl) _)⟩
         case measure => simp [intOf]; omega
       · have hie : i = R.length := by omega
         subst hie
         have HF := Lib.hid HOi.out
         go_wp2_with fail
         go_end0
         have hb := HB3.out
         refine ⟨rfl, D2, HP2.out, HS2.out, ?_, (show Keeps (fun b => b = bo) w w3 from ⟨hb.os, hb.tape, hb.output, hb.size, fun b h _ => hb.block b h⟩).trans HK.out (fun b hb => .inl hb)⟩
         · have h := HF.out
           rw [List.take_of_length_le (by rw [HD2.out]; exact Nat.le_refl _), List.drop_of_length_le (by rw [HD.out]; exact Nat.le_refl _), List.append_nil] at h
           exact h
end Go.Proofs.Ythmpigmmihiecaa
