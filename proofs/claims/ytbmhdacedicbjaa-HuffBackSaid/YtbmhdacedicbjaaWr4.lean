/-
  Walks of layer 1: the writer's numbers; a new one; its bytes.
-/
import Derived.Test.YtbmhdacedicbjaaWr3
namespace Go.Proofs.Ytbmhdacedicbjaa
open Go.RowKit

theorem new_wr (high : Bool) (w : World) : Calls Try.prog 25 #[.bool high] w fun e w' => e = .returned (.pointer (some ⟨w.heap.size, 0, none⟩)) ∧ WrQ w' (fun b => b = w.heap.size) w.heap.size high [] ∧ Below w.heap.size w w' ∧ w'.heap.size = w.heap.size + 1 := by
  go_enter Try.func25, Try.ntmps25
  go_wp2
  go_ret
  refine ⟨rfl, ⟨[], .slice none 0 0, ⟨heapA_new _ rfl, World.ownsRow_nil _ _ _ _, fun b h => (by cases h), rfl, fun b h => (by rw [sizeA]; have h2 : b = w.heap.size := h; omega)⟩, wrote_nil high⟩, belowA _ _, sizeA _ _⟩

theorem bit_test (x t : Nat) (hx : x < 4294967296) : (bits .and .u32 ((x : Int) / 2 ^ t) 1 == 1) = x.testBit t := by
  have e : (x : Int) / 2 ^ t = ((x / 2 ^ t : Nat) : Int) := by simp only [Int.natCast_ediv, Int.natCast_pow, Int.cast_ofNat_Int]
  have hl : x / 2 ^ t < 4294967296 := Nat.lt_of_le_of_lt (Nat.div_le_self _ _) hx
  rw [e, show (1 : Int) = ((1 : Nat) : Int) from rfl, u32_and_nat _ 1 hl (by omega), Nat.and_one_is_mod, Nat.testBit_eq_decide_div_mod_eq, Bool.eq_iff_iff]
  simp
  omega
theorem putL_succ (x : Nat) (high : Bool) (n k : Nat) : putL x high n (k + 1) = putL x high n k ++ [x.testBit (turnN k n high)] := rfl

set_option maxHeartbeats 1000000 in
theorem wput_any (wb n x : Nat) (high : Bool) (B : List Bool) (S : Nat → Prop) (w : World) (h : WrQ w S wb high B) (hlt : B.length < 549755813888) (hn : n ≤ 32) (hx : x < 2 ^ n) :
    Calls Try.prog 61 #[.pointer (some ⟨wb, 0, none⟩), .int .u32 x, .int .i64 n] w fun e w' => e = .returned (.int .i64 0) ∧ WrNext w S wb high (B ++ putL x high n n) w' := by
  have HQ := Lib.hid h
  have hdead : Calls Try.prog 62 #[.pointer (some ⟨wb, 0, none⟩)] w fun e w' => e = .returned (.bool false) ∧ w = w' := by
    obtain ⟨bs, v, hw, hq⟩ := h
    exact wdead_any hw
  have HD := Lib.hid hdead
  have hx32 : x < 4294967296 := Nat.lt_of_lt_of_le hx (pow32 hn)
  have hdiv : x / 2 ^ n = 0 := Nat.div_eq_of_lt hx
  have HX := Lib.hid hx
  have HDV := Lib.hid hdiv
  have hN1 : decide ((n : Int) < 0) = false := by simp
  have hN2 : decide (32 < (n : Int)) = false := by simp; omega
  have hN3 : ((x : Int) / 2 ^ n != 0) = false := by
    have e : (x : Int) / 2 ^ n = ((x / 2 ^ n : Nat) : Int) := by simp only [Int.natCast_ediv, Int.natCast_pow, Int.cast_ofNat_Int]
    rw [e, hdiv]; rfl
  clear h hdead hx hdiv
  go_enter Try.func61, Try.ntmps61
  go_wp2_with (go_at_call 62; refine HD.out.mono ?_; rintro e w' ⟨rfl, rfl⟩)
  go_loopw [26] (fun i wr => ∃ (k : Nat) (S' : Nat → Prop), k ≤ n ∧ i = .int .i64 k ∧ Hid (WrQ wr S' wb high (B ++ putL x high n k)) ∧ Hid (Keeps S w wr) ∧ Hid (∀ b, S' b → S b ∨ w.heap.size ≤ b)) (fun i _ => n - (intOf i).toNat)
  case atStart => exact ⟨0, S, by omega, rfl, Lib.hid (by simpa [putL] using HQ.out), Lib.hid (Keeps.refl _ _), Lib.hid (fun b h => .inl h)⟩
  case round =>
    obtain ⟨k, S', hk, rfl, HQk, HK, HS⟩ := hrel
    by_cases hlt2 : k < n
    · have hbt := bit_test x (turnN k n high) hx32
      have hc1 : wr.cell? ⟨wb, 1, none⟩ = some (.bool high) := by
        obtain ⟨bs, v, hw, hq⟩ := HQk.out
        exact (wrV_cells hw.blk).2.1
      have hbit := wbit_any wb high (x.testBit (turnN k n high)) (B ++ putL x high n k) S' wr HQk.out (by rw [List.length_append, putL_len]; omega)
      have ht32 : turnN k n high < 32 := by unfold turnN; split <;> omega
      generalize hone : x.testBit (turnN k n high) = one at hbt hbit
      have HONE := Lib.hid hone
      clear hone
      have HB := Lib.hid hbit
      clear hbit
      go_wp2_with fail
      refine (turn_any wb 0 k n high _ (by simpa using hc1) hlt2 hn).mono ?_
      rintro e w' ⟨rfl, rfl⟩
      go_wp2_with fail
      refine HB.out.mono ?_
      rintro e w2 ⟨rfl, S2, hQ2, hK2, hS2⟩
      have HQ2 := Lib.hid hQ2
      have HK2 := Lib.hid (HK.out.trans hK2 HS.out)
      have HS2 := Lib.hid (show ∀ b, S2 b → S b ∨ w.heap.size ≤ b from fun b hb => (hS2 b hb).elim (HS.out b) (fun h => .inr (Nat.le_trans HK.out.size h)))
      clear hQ2 hK2 hS2
      go_wp2
      go_roundw
      case rel => exact ⟨k + 1, S2, by omega, by go_num, by rw [putL_succ, HONE.out, ← List.append_assoc]; exact HQ2, HK2, HS2⟩
      case measure => simp [intOf]; omega
    · obtain rfl : k = n := by omega
      go_wp2
      go_ret
      exact ⟨rfl, S', HQk.out, HK.out, HS.out⟩

theorem wbytes_any (wb : Nat) (high : Bool) (B : List Bool) (S : Nat → Prop) (w : World) (h : WrQ w S wb high B) (hlt : B.length < 549755813888) :
    Calls Try.prog 27 #[.pointer (some ⟨wb, 0, none⟩)] w fun e w' => ∃ bs v, Wrote bs high B ∧ e = .returned v ∧ w'.ownsRow w.heap.size 5 1 v bs.length (bs.map fun b => .int .u8 b.toNat) ∧ Below w.heap.size w w' := by
  obtain ⟨bs, v, hw, hq⟩ := h
  have hdead := wdead_any hw
  have h3 := (wrV_cells hw.blk).2.2.1
  obtain ⟨a, c, rfl, hr, _⟩ := Row.of_owns hw.row
  have hl := hq.1
  have hcl := cloneB a bs.length c _ w hr (by intro u hu; simp at hu; obtain ⟨x, _, rfl⟩ := hu; rfl) (by omega)
  have HD := Lib.hid hdead
  have HC := Lib.hid hcl
  have HQ := Lib.hid hq
  clear hdead hcl hw hq hr hl
  go_enter Try.func27, Try.ntmps27
  go_wp2_with (first
    | (go_at_call 62; refine HD.out.mono ?_; rintro e w' ⟨rfl, rfl⟩)
    | (go_at_call 53; refine HC.out.mono ?_; rintro e w1 ⟨v, rfl, hO, hb, hnn⟩; have HO := Lib.hid hO; have HB := Lib.hid hb; clear hO hb hnn))
  go_ret
  exact ⟨bs, _, HQ.out, rfl, HO.out, HB.out⟩
end Go.Proofs.Ytbmhdacedicbjaa
