/-
  Walks of layer 4: firsts, the codes of the program and of the reference.
-/
import Derived.Test.YtlmdgaajkjbpgaaHuff2
namespace Go.Proofs.Ytlmdgaajkjbpgaa
open Go.RowKit

def fcV (l : List Int) (k : Nat) (m : Nat) : Value := .int .u32 (if m < k then fcode (cn l) m else 0)

set_option maxHeartbeats 400000 in
theorem firsts_any (l : List Int) (w : World) (hroom : 0 ≤ roomV l) :
    Calls Try.prog 65 #[.agg (fl 16 (cnV l)).toArray] w fun e w' => e = .returned (.agg (fl 16 (fcV l 16)).toArray) ∧ Below w.heap.size w w' := by
  have hlen := (roomV_ok hroom).2.1
  have HR := Lib.hid hroom; clear hroom
  go_enter Try.func65, Try.ntmps65
  go_wp2
  obtain ⟨Z, hZ⟩ : ∃ Z : List Value, #[Value.int IntKind.u32 0, Value.int IntKind.u32 0, Value.int IntKind.u32 0, Value.int IntKind.u32 0,
          Value.int IntKind.u32 0, Value.int IntKind.u32 0, Value.int IntKind.u32 0, Value.int IntKind.u32 0,
          Value.int IntKind.u32 0, Value.int IntKind.u32 0, Value.int IntKind.u32 0, Value.int IntKind.u32 0,
          Value.int IntKind.u32 0, Value.int IntKind.u32 0, Value.int IntKind.u32 0, Value.int IntKind.u32 0] = Z.toArray := ⟨_, rfl⟩
  rw [hZ]
  have hZ2 : Z = fl 16 (fcV l 0) := by
    have := congrArg Array.toList hZ
    simpa [fl, fcV, List.range_succ] using this.symm
  subst hZ2
  clear hZ
  go_loopw [4, 6] (fun c i wr => ∃ k : Nat, k ≤ 16 ∧ i = .int .i64 k ∧ c = .int .u32 (fcode (cn l) (k - 1)) ∧ wr.heap[w.heap.size + 2]? = some (.cells (fl 16 (fcV l k)).toArray 104 (0, 0)) ∧
     wr.heap[w.heap.size + 1]? = some (.cells (fl 16 (fcV l 0)).toArray 104 (0, 0)) ∧ wr.heap[w.heap.size]? = some (.cells (fl 16 (cnV l)).toArray 96 (0, 0)) ∧ Below w.heap.size w wr) (fun _ i _ => 16 - (intOf i).toNat)
  case atStart => exact ⟨0, by omega, rfl, rfl, heapA_new _ (by simp), heapA_old _ (heapA_new _ (by simp)), heapA_old _ (heapA_old _ (heapA_new _ rfl)), belowA3 _ _ _ _⟩
  case round =>
    obtain ⟨k, hk, rfl, rfl, hB2, hB1, hB0, hbel⟩ := hrel
    have HB0 := Lib.hid hB0
    have HB1 := Lib.hid hB1
    have HB2 := Lib.hid hB2
    clear hB0 hB1 hB2
    by_cases hlt : k < 16
    · rcases k with _ | k
      · go_wp2
        go_roundw
        case rel =>
          refine ⟨1, by omega, by go_num, rfl, ?_, HB1.out, HB0.out, hbel⟩
          rw [HB2.out]
          have e : fl 16 (fcV l 0) = fl 16 (fcV l 1) := fl_congr fun i _ => by
            unfold fcV
            by_cases hi : i = 0
            · subst hi; simp [fcode]
            · simp [show ¬ i < 1 by omega]
          rw [e]
        case measure => simp [intOf]
      · have hcell := blk_cell HB0.out k (by omega)
        unfold cnV at hcell
        have hcell2 := blk_cell HB2.out (k + 1) (by omega)
        have hfree2 := blk_free HB2.out (k + 1)
        unfold fcV at hcell2
        have hcb := cn_bd l k
        have hft := fcode_top HR.out k (by omega)
        have hp := pow_le_15 (n := k) (by omega)
        go_wp2
        go_roundw
        case rel =>
          refine ⟨k + 2, by omega, by go_num, ?_, ?_, blk_other HB1.out (by simp) _, blk_other HB0.out (by simp; omega) _, hbel.setCell (by simp; omega) _⟩
          · rfl
          · rw [show w.heap.size + 1 + 1 = w.heap.size + 2 from rfl, blk_set HB2.out]
            exact congrArg (fun x => some (Obj.cells (List.toArray x) _ _)) (fl_congr fun i _ => by
              unfold fcV
              by_cases hi : i = k + 1
              · subst hi; simp; rfl
              · have : (i < k + 1) = (i < k + 2) := by simp; omega
                simp [hi, this])
        case measure => simp [intOf]; omega
    · obtain rfl : k = 16 := by omega
      go_wp2_with (first
        | (refine wpList_load_row rfl 104 (.tmp 3) rfl (w.heap.size + 2) rfl 104 _ (0, 0) _ HB2.out Try.underlying104 rfl (by rw [infoA16u]; simp [fl_length]) ?_)
        | (refine wpList_store_row rfl 104 (.tmp 2) (.tmp 23) rfl (w.heap.size + 1) _ rfl rfl 104 _ HB1.out (by rw [infoA16u]; simp [fl_length]) (by simp [fl_length]) (all_oneCell_fl fun _ => rfl) ?_))
      refine bodyPost_ret (results_cell_row rfl _ _ (w.heap.size + 1) 104 _ (0, 0) _ rfl (setRow_heap _ _ _ _ _ _ HB1.out) Try.underlying104 rfl (by rw [infoA16u]; simp [fl_length])) rfl ⟨rfl, ?_⟩
      exact below_setRow hbel (by omega) _

/-- The element type uint32, as a slice's. -/
theorem EU32 : ElemT Try.prog 71 69 (.int .u32 0) 1 4 := ⟨Try.underlying71, by kernel_rfl, rfl, by omega⟩

theorem made_fl (z : Value) (n : Nat) : (madeCells #[z] (n * 1)).toList = fl n (fun _ => z) := by
  rw [Nat.mul_one, toList_madeCells_one, fl_replicate]

/-- An owned row whose cells are told by a function: one is read, one is written. -/
theorem own_cell {w : World} {base e g n cap : Nat} {enc : Nat → Value} (h : w.ownsRow base e 1 (.slice (some ⟨g, 0, none⟩) n cap) n (fl n enc)) (i : Nat) (hi : i < n) : w.cell? ⟨g, i, none⟩ = some (enc i) := by
  rw [h.cellAt i (by omega), fl_get enc hi]
theorem own_set {w : World} {base e g n cap : Nat} {enc : Nat → Value} (h : w.ownsRow base e 1 (.slice (some ⟨g, 0, none⟩) n cap) n (fl n enc)) (i : Nat) (v : Value) :
    (w.setCell ⟨g, i, none⟩ v).ownsRow base e 1 (.slice (some ⟨g, 0, none⟩) n cap) n (fl n (fun j => if j = i then v else enc j)) := by
  rw [← fl_set]; exact (h.stored i v).1
theorem own_other {w : World} {base e sz : Nat} {v : Value} {n : Nat} {xs : List Value} (h : w.ownsRow base e sz v n xs) {a : Addr} (ha : v.ownBlock ≠ some a.block) (u : Value) : (w.setCell a u).ownsRow base e sz v n xs := ownsRow_setCell_other h ha u
theorem own_congr {w : World} {base e sz : Nat} {v : Value} {n : Nat} {xs ys : List Value} (h : w.ownsRow base e sz v n xs) (hx : xs = ys) : w.ownsRow base e sz v n ys := hx ▸ h

/-- The codes so far; the next ones. -/
def cdV (l : List Int) (k i : Nat) : Value := .int .u32 (if i < k then codeAt l i else 0)
def nxV (l : List Int) (k m : Nat) : Value := .int .u32 (fcode (cn l) m + cn (l.take k) m)

set_option maxHeartbeats 800000 in
theorem codes_ok (a : Option Addr) (n cap : Nat) (l : List Int) (w : World) (hr : Row w 1 a n cap (l.map (Value.int .i64))) (hroom : 0 ≤ roomV l) :
    Calls Try.prog 56 #[.slice a n cap] w fun e w' => ∃ v, e = .returned (.tuple #[v, .int .i64 0]) ∧ w'.ownsRow w.heap.size 69 1 v n (fl n (cdV l n)) ∧ Below w.heap.size w w' := by
  have hm := hr.i64
  have hl := hr.len1
  have hok1 := (roomV_ok hroom).2.2.1
  have hlen := (roomV_ok hroom).2.1
  have h15 := hok_mem hok1
  have hn : n ≤ 320 := by omega
  have HL := Lib.hid hl
  have HR := Lib.hid hroom
  have H15 := Lib.hid h15
  have HOK := Lib.hid hok1
  clear hl hroom h15 hok1
  go_enter Try.func56, Try.ntmps56
  go_wp2_with (first
    | (go_at_call 64; refine (kraft_any _ _ _ l _ hr).mono ?_; rintro e w' ⟨rfl, rfl⟩; have hrr := HR.out))
  refine (counted_any _ _ _ l _ hr HOK.out).mono ?_
  rintro e w1 ⟨rfl, hb1⟩
  go_wp2_with fail
  refine (firsts_any l _ HR.out).mono ?_
  rintro e w2 ⟨rfl, hb2⟩
  have hn2 : (n : Int) ≤ 320 := by omega
  go_wp2_with (first
    | (with_reducible show wpList _ _ _ (Oper.mk _ (Op.store 104 (Operand.tmp 4) _) _ _ _ _ :: _) _ _; refine store_fresh rfl 104 (.tmp 4) (.tmp 13) rfl _ _ (fl 16 (fcV l 16)).toArray rfl rfl (by rw [infoA16u]; simp [fl_length]) (by simp [fl_length]) (all_oneCell_fl fun _ => rfl) ?_; intro w3 hB3 hb3 hs3; have HB3 := Lib.hid hB3; have HS3 := Lib.hid hs3; clear hB3 hs3)
    | (at_make; refine make_full EU32 rfl (.tmp 15) (.tmp 15) rfl .i64 .i64 _ _ n rfl rfl rfl rfl (by omega) (by unfold maxLen; omega) ?_; intro w4 hown hb4; have HO := Lib.hid (own_congr hown (made_fl _ n)); clear hown))
  have hbA := hb1.trans (hb2.mono hb1.size)
  have hbB := hbA.trans (hb3.mono hbA.size)
  have hbC := hbB.trans (hb4.mono hbB.size)
  have hne : ¬ w3.heap.size = w2.heap.size := by have := HS3.out; omega
  have hne2 : ¬ w2.heap.size = w3.heap.size := by have := HS3.out; omega
  have hB4 := block_keep hb4 HB3.out
  have hgeB := hbA.size
  have hgeG := hbB.size
  have HB4 := Lib.hid hB4
  clear hB4 HB3 HS3 hb1 hb2 hb3 hb4 hbA hbB
  generalize w2.heap.size = B at *
  generalize w3.heap.size = G at *
  go_loopw [19] (fun i wr => ∃ k : Nat, k ≤ n ∧ i = .int .i64 k ∧ wr.ownsRow w.heap.size 69 1 (.slice (some ⟨G, 0, none⟩) n n) n (fl n (cdV l k)) ∧
     wr.heap[B]? = some (.cells (fl 16 (nxV l k)).toArray 104 (0, 0)) ∧ Below w.heap.size w wr) (fun i _ => n - (intOf i).toNat)
  case atStart =>
    refine ⟨0, by omega, rfl, own_congr (ownsRow_base HO.out hgeG) (fl_congr fun i _ => by simp [cdV]), ?_, hbC⟩
    rw [HB4.out]
    exact congrArg (fun x => some (Obj.cells (List.toArray x) _ _)) (fl_congr fun i hi => by simp [fcV, nxV, hi]; simp [cn])
  case round =>
    obtain ⟨k, hk, rfl, hO, hBk, hbel⟩ := hrel
    clear HO HB4 hbC
    have HO := Lib.hid hO
    have HB := Lib.hid hBk
    clear hO hBk
    by_cases hlt : k < n
    · obtain ⟨b, off, rfl, hb, hc⟩ := (hr.mono hbel).at 0 k hlt
      have hck := hc k hlt
      have hkl : k < l.length := by rw [HL.out]; exact hlt
      have ht := take_snoc 0 l k hkl
      have hx15 := H15.out (l.getD k 0) (by simp [List.getD, hkl])
      have hcl := fun hp : 0 < l.getD k 0 => cn_lt (m := (l.getD k 0).toNat) hkl (by omega) (by omega)
      have hcA : codeAt l k = if 0 < l.getD k 0 then fcode (cn l) (l.getD k 0).toNat + cn (l.take k) (l.getD k 0).toNat else 0 := rfl
      obtain ⟨x, hx⟩ : ∃ x, x = l.getD k 0 := ⟨_, rfl⟩
      rw [← hx] at hck ht hx15 hcl hcA
      have HT := Lib.hid ht
      have HC := Lib.hid hcA
      clear hc ht hx hcA
      by_cases hp : 0 < x
      · have hft := fcode_top HR.out x.toNat (by omega)
        have hcl' := hcl hp
        have hpw := pow_le_15 (n := x.toNat) (by omega)
        have hcb := cn_bd (l.take k) x.toNat
        clear hcl
        have hcell := blk_cell HB.out x.toNat (by omega)
        unfold nxV at hcell
        have hfree := blk_free HB.out x.toNat
        have hcell2 := own_cell HO.out k hlt
        have hfree2 := HO.out.frozenAt k
        go_wp2
        go_roundw
        case rel =>
          refine ⟨k + 1, by omega, by go_num, own_congr (own_other (own_set HO.out k _) (by simp [Value.ownBlock]; omega) _) (fl_congr fun i _ => ?_), ?_, (hbel.setCell (by simp; omega) _).setCell (by simp; omega) _⟩
          · unfold cdV
            by_cases hi : i = k
            · subst hi; simp [HC.out, hp]
            · have : (i < k) = (i < k + 1) := by simp; omega
              simp [hi, this]
          · rw [blk_set (blk_other HB.out (by simp; omega) _)]
            exact congrArg (fun x => some (Obj.cells (List.toArray x) _ _)) (fl_congr fun i _ => by
              unfold nxV
              rw [HT.out, cn_snoc _ _ _ hx15.1]
              by_cases hi : i = x.toNat
              · subst hi; simp [hp]; omega
              · simp [hi])
        case measure => simp [intOf]; omega
      · go_wp2
        go_roundw
        case rel =>
          refine ⟨k + 1, by omega, by go_num, own_congr HO.out (fl_congr fun i _ => ?_), ?_, hbel⟩
          · unfold cdV
            by_cases hi : i = k
            · subst hi; simp [HC.out, hp]
            · have : (i < k) = (i < k + 1) := by simp; omega
              simp [this]
          · rw [HB.out]
            exact congrArg (fun x => some (Obj.cells (List.toArray x) _ _)) (fl_congr fun i _ => by
              unfold nxV
              rw [HT.out, cn_snoc _ _ _ hx15.1]
              simp [hp])
        case measure => simp [intOf]; omega
    · obtain rfl : k = n := by omega
      go_wp2
      go_ret2
      exact ⟨_, rfl, HO.out, hbel⟩

theorem codes_bad (a : Option Addr) (n cap : Nat) (l : List Int) (w : World) (hr : Row w 1 a n cap (l.map (Value.int .i64))) (hroom : roomV l < 0) :
    Calls Try.prog 56 #[.slice a n cap] w fun e w' => e = .returned (.tuple #[.slice none 0 0, .int .i64 13]) ∧ w = w' := by
  go_enter Try.func56, Try.ntmps56
  go_wp2_with (first
    | (go_at_call 64; refine (kraft_any _ _ _ l _ hr).mono ?_; rintro e w' ⟨rfl, rfl⟩))
  go_ret2
  exact ⟨rfl, rfl⟩
end Go.Proofs.Ytlmdgaajkjbpgaa
