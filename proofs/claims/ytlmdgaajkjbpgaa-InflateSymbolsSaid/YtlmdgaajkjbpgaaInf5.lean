/-
  Walks of layer 5: the fixed lengths, the order, rows alike.
-/
import Derived.Test.YtlmdgaajkjbpgaaInfP
namespace Go.Proofs.Ytlmdgaajkjbpgaa
open Go.RowKit Go.Sort

theorem below_drewN5 {B : Nat} {a w : World} (h : Below B a w) (n : Nat) : Below B a (w.drewN n) := ⟨h.os, h.tape, h.output, h.size, h.block⟩
theorem EInt : ElemT Try.prog 32 3 (.int .i64 0) 1 8 := ⟨Try.underlying32, by kernel_rfl, rfl, by omega⟩
def ordL : List Int := [16, 17, 18, 0, 8, 7, 9, 6, 10, 5, 11, 4, 12, 3, 13, 2, 14, 1, 15]
def iV (l : List Int) : List Value := l.map (Value.int .i64)
def OneRow (l : List Int) (w : World) (e : Ending) (w' : World) : Prop := ∃ a c, e = .returned (.slice a l.length c) ∧ Row w' 1 a l.length c (iV l) ∧ a ≠ none ∧ Below w.heap.size w w'
def TwoRows (l d : List Int) (w : World) (e : Ending) (w' : World) : Prop := ∃ a c b f, e = .returned (.tuple #[.slice a l.length c, .slice b d.length f]) ∧ Row w' 1 a l.length c (iV l) ∧ Row w' 1 b d.length f (iV d) ∧ a ≠ none ∧ b ≠ none ∧ Below w.heap.size w w'

set_option maxHeartbeats 1000000 in
theorem order_any (w : World) : Calls Try.prog 17 #[] w (OneRow ordL w) := by
  go_enter Try.func17, Try.ntmps17
  go_wp2
  go_ret
  exact ⟨_, _, rfl, ⟨rfl, Nat.le_refl _, by decide, fun h => (by cases h), fun _ => ⟨_, _, rfl, (by rw [sizeA]; omega), fun j u hj => by
    rw [cell_of_row _ _ _ _ _ _ (heapA_new _ rfl)]
    simpa [iV, ordL] using hj⟩⟩, fun h => (by cases h), belowA _ _⟩
set_option maxHeartbeats 1000000 in
theorem rorder_any (w : World) : Calls Try.prog 18 #[] w (OneRow ordL w) := by
  go_enter Try.func18, Try.ntmps18
  go_wp2
  go_ret
  exact ⟨_, _, rfl, ⟨rfl, Nat.le_refl _, by decide, fun h => (by cases h), fun _ => ⟨_, _, rfl, (by rw [sizeA]; omega), fun j u hj => by
    rw [cell_of_row _ _ _ _ _ _ (heapA_new _ rfl)]
    simpa [iV, ordL] using hj⟩⟩, fun h => (by cases h), belowA _ _⟩

set_option maxHeartbeats 1000000 in
theorem same_ints (a b : Option Addr) (n c d : Nat) (l : List Int) (w : World) (ha : Row w 1 a n c (iV l)) (hb : Row w 1 b n d (iV l)) :
    Calls Try.prog 16 #[.slice a n c, .slice b n d] w fun e w' => e = .returned (.bool true) ∧ Below w.heap.size w w' := by
  have hm := ha.i64
  have HA := Lib.hid ha
  have HB := Lib.hid hb
  have HL := Lib.hid (show l.length = n by have := ha.1; simpa [iV] using this)
  clear ha hb
  go_enter Try.func16, Try.ntmps16
  go_wp2
  go_loopw [5] (fun vk wr => ∃ k : Nat, vk = .int .i64 k ∧ k ≤ n ∧ Hid (Below w.heap.size w wr)) (fun vk _ => n - (intOf vk).toNat)
  case atStart => exact ⟨0, rfl, Nat.zero_le _, Lib.hid (Below.refl _ _)⟩
  case round =>
    obtain ⟨k, rfl, hk, HW⟩ := hrel
    by_cases hlt : k < n
    · obtain ⟨b1, o1, rfl, hb1, hc1⟩ := HA.out.2.2.2.2 (by omega)
      obtain ⟨b2, o2, rfl, hb2, hc2⟩ := HB.out.2.2.2.2 (by omega)
      obtain ⟨x, hx⟩ : ∃ x, (iV l)[k]? = some (.int .i64 x) := ⟨l[k]'(by rw [HL.out]; exact hlt), by simp [iV, show k < l.length by rw [HL.out]; exact hlt]⟩
      have c1 := cell?_keep HW.out (hc1 k _ hx)
      have c2 := cell?_keep HW.out (hc2 k _ hx)
      clear hc1 hc2 hx
      go_wp2
      go_quiet (fail)
      go_wp2
      go_roundw
      case rel => exact ⟨k + 1, by go_num, by omega, Lib.hid (below_drewN5 HW.out _)⟩
      case measure => simp [intOf]; omega
    · obtain rfl : k = n := by omega
      go_wp2
      go_ret
      exact ⟨rfl, HW.out⟩

theorem fixL_snoc (k : Nat) : ((List.range (k + 1)).map fun k : Nat => if k < 144 ∨ 279 < k then (8 : Int) else if k < 256 then 9 else 7) = ((List.range k).map fun k : Nat => if k < 144 ∨ 279 < k then (8 : Int) else if k < 256 then 9 else 7) ++ [if k < 144 ∨ 279 < k then (8 : Int) else if k < 256 then 9 else 7] := by rw [List.range_succ, List.map_append]; rfl
def fixA (k : Nat) : List Int := (List.range k).map fun k => if k < 144 ∨ 279 < k then 8 else if k < 256 then 9 else 7
theorem fixA_len (k : Nat) : (fixA k).length = k := by simp [fixA]
theorem fixA_snoc (k : Nat) (v : Int) (h : (if k < 144 ∨ 279 < k then (8 : Int) else if k < 256 then 9 else 7) = v) : fixA (k + 1) = fixA k ++ [v] := by rw [← h]; exact fixL_snoc k
theorem one_int (x : Int) : ∀ u ∈ [Value.int .i64 x], u.oneCell' = true := fun u hu => by simp at hu; subst hu; rfl

theorem fixA_288 : fixA 288 = fixL := by unfold fixA fixL; rfl
theorem fixL_len : fixL.length = 288 := by rw [← fixA_288, fixA_len]
theorem fixD_len : fixD.length = 30 := by unfold fixD; rw [List.length_map, List.length_range]

set_option maxRecDepth 20000 in
set_option maxHeartbeats 4000000 in
theorem rfixed_any (w : World) : Calls Try.prog 15 #[] w (TwoRows fixL fixD w) := by
  go_enter Try.func15, Try.ntmps15
  go_wp2
  go_loopw [2, 4] (fun vo vk wr => ∃ k : Nat, vk = .int .i64 k ∧ k ≤ 288 ∧ Hid (wr.ownsRow w.heap.size 3 1 vo k (iV (fixA k))) ∧ Hid (Below w.heap.size w wr)) (fun _ vk _ => 288 - (intOf vk).toNat)
  case atStart => exact ⟨0, rfl, Nat.zero_le _, Lib.hid (World.ownsRow_nil _ _ _ _), Lib.hid (Below.refl _ _)⟩
  case round =>
    obtain ⟨k, rfl, hk, HO, HW⟩ := hrel
    obtain ⟨a0, c0, hv, -, -⟩ := Row.of_owns HO.out
    subst hv
    have hsz := HW.out.size
    by_cases hlt : k < 288
    · obtain ⟨v, hv⟩ : ∃ v, (if k < 144 ∨ 279 < k then (8 : Int) else if k < 256 then 9 else 7) = v := ⟨_, rfl⟩
      have HSN := Lib.hid (fixA_snoc k v hv)
      have hway : (k < 144 ∧ v = 8) ∨ (144 ≤ k ∧ k < 256 ∧ v = 9) ∨ (256 ≤ k ∧ k < 280 ∧ v = 7) ∨ (280 ≤ k ∧ v = 8) := by
        by_cases q1 : k < 144
        · exact .inl ⟨q1, by rw [← hv, if_pos (.inl q1)]⟩
        · by_cases q2 : 279 < k
          · exact .inr (.inr (.inr ⟨by omega, by rw [← hv, if_pos (.inr q2)]⟩))
          · by_cases q3 : k < 256
            · exact .inr (.inl ⟨by omega, q3, by rw [← hv, if_neg (by omega), if_pos q3]⟩)
            · exact .inr (.inr (.inl ⟨by omega, by omega, by rw [← hv, if_neg (by omega), if_neg q3]⟩))
      clear hv
      rcases hway with ⟨q1, rfl⟩ | ⟨q1, q2, rfl⟩ | ⟨q1, q2, rfl⟩ | ⟨q1, rfl⟩
      all_goals
        go_wp2_with (at_builtin; refine append_row EInt rfl (.tmp 23) (.tmp 25) rfl w.heap.size _ k _ rfl (HO.out.alloc _) _ 1 _ _ rfl (row_new1 _ _ _) (one_int _) (by unfold maxLen; omega) (by omega) (by rw [sizeA]; omega) ?_; intro v' w5 hO5 hg5 hnil5; have HO5 := Lib.hid hO5; have HG5 := Lib.hid hg5; clear hO5 hg5 hnil5)
        go_roundw
        case rel => exact ⟨k + 1, by go_num, by omega, Lib.hid (by rw [HSN.out, iV, List.map_append]; exact HO5.out), Lib.hid ((HW.out.alloc hsz _).grown HG5.out (by rw [sizeA]; omega) (fun q hq => (HO.out.lt q hq).1))⟩
        case measure => simp [intOf]; omega
    · have hk8 : k = 288 := by omega
      have HL := Lib.hid (show fixA k = fixL by rw [hk8, fixA_288])
      have HK := Lib.hid hk8
      have hki : decide ((k : Int) < 288) = false := decide_eq_false (by omega)
      have hki2 : decide (k < 288) = false := decide_eq_false (by omega)
      clear hk8
      obtain ⟨w1, hw1⟩ : ∃ w1, w1 = wr := ⟨_, rfl⟩
      subst hw1
      go_wp2
      go_loopw [3, 6] (fun vo vk w2 => ∃ k : Nat, vk = .int .i64 k ∧ k ≤ 30 ∧ Hid (w2.ownsRow w1.heap.size 3 1 vo k (iV (List.replicate k 5))) ∧ Hid (Below w1.heap.size w1 w2)) (fun _ vk _ => 30 - (intOf vk).toNat)
      case atStart => exact ⟨0, rfl, Nat.zero_le _, Lib.hid (World.ownsRow_nil _ _ _ _), Lib.hid (Below.refl _ _)⟩
      case round =>
        obtain ⟨j, rfl, hj, HO2, HW2⟩ := hrel
        obtain ⟨a2, c2, hv, -, -⟩ := Row.of_owns HO2.out
        subst hv
        have hsz2 := HW2.out.size
        by_cases hlt2 : j < 30
        · have HSN := Lib.hid (show List.replicate (j + 1) (5 : Int) = List.replicate j 5 ++ [5] from by rw [List.replicate_succ'])
          go_wp2_with (at_builtin; refine append_row EInt rfl (.tmp 31) (.tmp 32) rfl w1.heap.size _ j _ rfl (HO2.out.alloc _) _ 1 _ _ rfl (row_new1 _ _ _) (one_int _) (by unfold maxLen; omega) (by omega) (by rw [sizeA]; omega) ?_; intro v' w5 hO5 hg5 hnil5; have HO5 := Lib.hid (show w5.ownsRow w1.heap.size 3 1 v' (j + 1) (iV (List.replicate (j + 1) 5)) from by rw [HSN.out, iV, List.map_append]; exact hO5); have HG5 := Lib.hid hg5; clear hO5 hg5 hnil5)
          go_roundw
          case rel => exact ⟨j + 1, by go_num, by omega, HO5, Lib.hid ((HW2.out.alloc hsz2 _).grown HG5.out (by rw [sizeA]; omega) (fun q hq => (HO2.out.lt q hq).1))⟩
          case measure => simp [intOf]; omega
        · obtain rfl : j = 30 := by omega
          go_wp2
          go_ret2
          have h1 := (Row.of_own (ownsRow_keep HO.out HW2.out)).2
          have h2 := (Row.of_own HO2.out).2
          rw [HL.out] at h1
          have h3 : iV (List.replicate 30 5) = iV fixD := rfl
          rw [h3] at h2
          refine ⟨a0, c0, a2, c2, by rw [fixL_len, fixD_len, HK.out]; rfl, by rw [fixL_len, ← HK.out]; exact h1, by rw [fixD_len]; exact h2, fun e => ?_, fun e => ?_, HW.out.trans (HW2.out.mono HW.out.size)⟩
          · subst e; have := h1.2.2.2.1 rfl; have := h1.2.1; have := HK.out; omega
          · subst e; have := h2.2.2.2.1 rfl; have := h2.2.1; omega
end Go.Proofs.Ytlmdgaajkjbpgaa
