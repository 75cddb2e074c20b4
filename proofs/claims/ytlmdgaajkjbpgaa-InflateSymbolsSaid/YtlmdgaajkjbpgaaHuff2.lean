/-
  Walks of layer 4: the reference's room, Complete, May; counted, firsts.
-/
import Derived.Test.YtlmdgaajkjbpgaaHuff1
namespace Go.Proofs.Ytlmdgaajkjbpgaa
open Go.RowKit

set_option maxHeartbeats 400000 in
theorem room_any (a : Option Addr) (n cap : Nat) (l : List Int) (w : World) (hr : Row w 1 a n cap (l.map (Value.int .i64))) :
    Calls Try.prog 68 #[.slice a n cap] w fun e w' => e = .returned (.int .i64 (roomV l)) ∧ w = w' := by
  have hm := hr.i64
  have hl := hr.len1
  by_cases h1 : n = 0
  · have hv : roomV l = -1 := by unfold roomV; rw [if_pos (by omega)]
    have HV := Lib.hid hv; clear hv
    subst h1
    go_enter Try.func68, Try.ntmps68
    go_wp2
    go_ret
    exact ⟨ret_int HV.out.symm, rfl⟩
  have h1' : ((n : Int) == 0) = false := by simp; omega
  by_cases h2 : 320 < (n : Int)
  · have hv : roomV l = -1 := by unfold roomV; rw [if_pos (by omega)]
    have HV := Lib.hid hv; clear hv
    go_enter Try.func68, Try.ntmps68
    go_wp2
    go_ret
    exact ⟨ret_int HV.out.symm, rfl⟩
  have HL := Lib.hid hl; clear hl
  go_enter Try.func68, Try.ntmps68
  go_wp2
  go_loop [3, 4] (fun s i => ∃ k : Nat, k ≤ n ∧ i = .int .i64 k ∧ s = .int .i64 (hsum (l.take k)) ∧ Hid (hok (l.take k) = true)) (fun s i => n - (intOf i).toNat)
  case atStart => exact ⟨0, by omega, rfl, rfl, Lib.hid rfl⟩
  case round =>
    obtain ⟨k, hk, rfl, rfl, hok1⟩ := hrel
    by_cases hlt : k < n
    · obtain ⟨b, off, rfl, hb, hc⟩ := hr.at 0 k hlt
      have hck := hc k hlt
      have hs := hsum_bd (l.take k)
      have hs2 : (l.take k).length ≤ k := List.length_take_le _ _
      have ht := take_snoc 0 l k (by rw [HL.out]; exact hlt)
      obtain ⟨x, hx⟩ : ∃ x, x = l.getD k 0 := ⟨_, rfl⟩
      rw [← hx] at hck ht
      have HX := Lib.hid hx
      have HT := Lib.hid ht
      clear hc hx ht
      by_cases hneg : x < 0
      · have hv : roomV l = -1 := by unfold roomV; rw [if_pos (.inr (.inr (hok_not (k := k) (by rw [HL.out]; exact hlt) (by rw [← HX.out]; omega))))]
        have HV := Lib.hid hv; clear hv
        go_wp2
        go_ret
        exact ⟨ret_int HV.out.symm, rfl⟩
      by_cases h15 : 15 < x
      · have hv : roomV l = -1 := by unfold roomV; rw [if_pos (.inr (.inr (hok_not (k := k) (by rw [HL.out]; exact hlt) (by rw [← HX.out]; omega))))]
        have HV := Lib.hid hv; clear hv
        go_wp2
        go_ret
        exact ⟨ret_int HV.out.symm, rfl⟩
      go_wp2
      go_loop [5, 6] (fun by_ j => ∃ m : Nat, (m : Int) ≤ x ∧ j = .int .i64 m ∧ by_ = .int .i64 (32768 / 2 ^ m)) (fun _ j => x.toNat - (intOf j).toNat)
      case atStart => exact ⟨0, by omega, rfl, rfl⟩
      case round =>
        obtain ⟨m, hmx, rfl, rfl⟩ := hrel
        have hb1 := hby_bd (m : Int)
        unfold hby at hb1
        rw [Int.toNat_natCast] at hb1
        by_cases hmlt : (m : Int) < x
        · go_wp2
          go_round
          case rel => exact ⟨m + 1, by omega, by go_num, by rw [halve]⟩
          case measure => simp [intOf]; omega
        · obtain rfl : x = (m : Int) := by omega
          by_cases hp : 0 < (m : Int)
          · go_wp2
            go_round
            case rel => exact ⟨k + 1, by omega, by go_num, by rw [HT.out, hsum_snoc]; unfold hadd hby; rw [if_pos hp, Int.toNat_natCast], Lib.hid (by rw [HT.out, hok_snoc, hok1.out]; simp; omega)⟩
            case measure => simp [intOf]; omega
          · go_wp2
            go_round
            case rel => exact ⟨k + 1, by omega, by go_num, by rw [HT.out, hsum_snoc]; unfold hadd; rw [if_neg hp], Lib.hid (by rw [HT.out, hok_snoc, hok1.out]; simp; omega)⟩
            case measure => simp [intOf]; omega
    · obtain rfl : k = n := by omega
      have hv := kraft_end HL.out (by omega) (by omega) hok1.out
      by_cases hw : 32768 < hsum (l.take k)
      · rw [if_pos hw] at hv
        have HV := Lib.hid hv; clear hv
        go_wp2
        go_ret
        exact ⟨ret_int HV.out.symm, rfl⟩
      · rw [if_neg hw] at hv
        have HV := Lib.hid hv; clear hv
        go_wp2
        go_ret
        exact ⟨ret_int HV.out.symm, rfl⟩

theorem may_any (a : Option Addr) (n cap : Nat) (l : List Int) (w : World) (hr : Row w 1 a n cap (l.map (Value.int .i64))) :
    Calls Try.prog 62 #[.slice a n cap] w fun e w' => e = .returned (.bool (decide (0 ≤ roomV l))) ∧ w = w' := by
  go_enter Try.func62, Try.ntmps62
  go_wp2_with (go_at_call 68; refine (room_any _ _ _ l _ hr).mono ?_; rintro e w' ⟨rfl, rfl⟩)
  go_ret
  exact ⟨rfl, rfl⟩
theorem infoA16 : (Try.prog.info? 96).map (·.size) = some 16 := by kernel_rfl
theorem infoA16u : (Try.prog.info? 104).map (·.size) = some 16 := by kernel_rfl

/-- cells of the counts -/
def cnV (l : List Int) (m : Nat) : Value := .int .i64 (cn l m)
theorem all_oneCell_fl {n : Nat} {f : Nat → Value} (h : ∀ i, (f i).oneCell' = true) : (fl n f).toArray.all (·.oneCell') = true := by
  rw [Array.all_eq_true_iff_forall_mem]
  intro v hv
  simp [fl] at hv
  obtain ⟨i, _, rfl⟩ := hv
  exact h i

set_option maxHeartbeats 400000 in
theorem counted_any (a : Option Addr) (n cap : Nat) (l : List Int) (w : World) (hr : Row w 1 a n cap (l.map (Value.int .i64))) (hok1 : hok l = true) :
    Calls Try.prog 58 #[.slice a n cap] w fun e w' => e = .returned (.agg (fl 16 (cnV l)).toArray) ∧ Below w.heap.size w w' := by
  have hm := hr.i64
  have hl := hr.len1
  have h15 := hok_mem hok1
  have HL := Lib.hid hl; clear hl
  go_enter Try.func58, Try.ntmps58
  go_wp2
  obtain ⟨Z, hZ⟩ : ∃ Z : List Value, #[Value.int IntKind.i64 0, Value.int IntKind.i64 0, Value.int IntKind.i64 0, Value.int IntKind.i64 0,
          Value.int IntKind.i64 0, Value.int IntKind.i64 0, Value.int IntKind.i64 0, Value.int IntKind.i64 0,
          Value.int IntKind.i64 0, Value.int IntKind.i64 0, Value.int IntKind.i64 0, Value.int IntKind.i64 0,
          Value.int IntKind.i64 0, Value.int IntKind.i64 0, Value.int IntKind.i64 0, Value.int IntKind.i64 0] = Z.toArray := ⟨_, rfl⟩
  rw [hZ]
  have hZ2 : Z = fl 16 (cnV []) := by
    have := congrArg Array.toList hZ
    simpa [fl, cnV, cn, List.range_succ] using this.symm
  subst hZ2
  clear hZ
  go_loopw [8] (fun i wr => ∃ k : Nat, k ≤ n ∧ i = .int .i64 k ∧ wr.heap[w.heap.size + 1]? = some (.cells (fl 16 (cnV (l.take k))).toArray 96 (0, 0)) ∧
     wr.heap[w.heap.size]? = some (.cells (fl 16 (cnV [])).toArray 96 (0, 0)) ∧ Below w.heap.size w wr) (fun i _ => n - (intOf i).toNat)
  case atStart => exact ⟨0, by omega, rfl, heap_alloc2_new _ _ _, heap_alloc2_old _ _ _, ((Below.refl _ _).alloc (Nat.le_refl _) _).alloc (by simp) _⟩
  case round =>
    obtain ⟨k, hk, rfl, hB1, hB0, hbel⟩ := hrel
    by_cases hlt : k < n
    · obtain ⟨b, off, rfl, hb, hc⟩ := (hr.mono hbel).at 0 k hlt
      have hck := hc k hlt
      have hkl : k < l.length := by rw [HL.out]; exact hlt
      have ht := take_snoc 0 l k hkl
      have hx15 := h15 (l.getD k 0) (by simp [List.getD, hkl])
      obtain ⟨x, hx⟩ : ∃ x, x = l.getD k 0 := ⟨_, rfl⟩
      rw [← hx] at hck ht hx15
      have HT := Lib.hid ht
      have HB0 := Lib.hid hB0
      have HB1 := Lib.hid hB1
      clear hc hx ht h15 hB0 hB1
      have hcb := cn_bd (l.take k) x.toNat
      have hs2 : (l.take k).length ≤ k := List.length_take_le _ _
      by_cases hp : 0 < x
      · have hcell := blk_cell HB1.out x.toNat (by omega)
        unfold cnV at hcell
        have hfree := blk_free HB1.out x.toNat
        go_wp2
        go_roundw
        case rel =>
          refine ⟨k + 1, by omega, by go_num, ?_, blk_other HB0.out (by simp) _, hbel.setCell (by simp) _⟩
          rw [blk_set HB1.out]
          have e : fl 16 (fun j => if j = x.toNat then Value.int IntKind.i64 (cn (l.take k) x.toNat + 1) else cnV (l.take k) j) = fl 16 (cnV (l.take (k + 1))) := fl_congr fun i _ => by
            unfold cnV
            rw [HT.out, cn_snoc _ _ _ hx15.1]
            by_cases hi : i = x.toNat
            · subst hi; simp [hp]
            · simp [hi]
          rw [e]
        case measure => simp [intOf]; omega
      · go_wp2
        go_roundw
        case rel =>
          refine ⟨k + 1, by omega, by go_num, ?_, HB0.out, hbel⟩
          rw [HB1.out]
          have e : fl 16 (cnV (l.take k)) = fl 16 (cnV (l.take (k + 1))) := fl_congr fun i _ => by
            unfold cnV
            rw [HT.out, cn_snoc _ _ _ hx15.1]
            simp [hp]
          rw [e]
        case measure => simp [intOf]; omega
    · obtain rfl : k = n := by omega
      have hT : l.take k = l := by rw [← HL.out]; exact List.take_length
      rw [hT] at hB1
      have HB0 := Lib.hid hB0
      have HB1 := Lib.hid hB1
      clear hB0 hB1 hT
      go_wp2_with (first
        | (refine wpList_load_row rfl 96 (.tmp 3) rfl (w.heap.size + 1) rfl 96 _ (0, 0) _ HB1.out Try.underlying96 rfl (by rw [infoA16]; simp [fl_length]) ?_)
        | (refine wpList_store_row rfl 96 (.tmp 2) (.tmp 20) rfl w.heap.size _ rfl rfl 96 _ HB0.out (by rw [infoA16]; simp [fl_length]) (by simp [fl_length]) (all_oneCell_fl fun _ => rfl) ?_))
      refine bodyPost_ret (results_cell_row rfl _ _ w.heap.size 96 _ (0, 0) _ rfl (setRow_heap _ _ _ _ _ _ HB0.out) Try.underlying96 rfl (by rw [infoA16]; simp [fl_length])) rfl ⟨rfl, ?_⟩
      exact hbel.trans ⟨rfl, rfl, rfl, by simp, fun j hj => setRow_other _ _ _ _ (by omega)⟩
end Go.Proofs.Ytlmdgaajkjbpgaa
