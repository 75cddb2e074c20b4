/-
  Walks of layer 1: one bit is written, a one.
-/
import Derived.Test.YtbmhdacedicbjaaWr2
namespace Go.Proofs.Ytbmhdacedicbjaa
open Go.RowKit

theorem or_mask {bs : List UInt8} {n x : Nat} {high : Bool} (hx : x = (bs.getD (n / 8) 0).toNat) : bits .or .u8 (x : Int) (maskV n high) = (((bs.getD (n / 8) 0).toNat ||| 2 ^ maskE n high : Nat) : Int) := by
  have h1 : x < 256 := by rw [hx]; exact (bs.getD (n / 8) 0).toNat_lt
  have h2 : 2 ^ maskE n high < 256 := Nat.lt_of_lt_of_le (Nat.pow_lt_pow_right (by omega) (maskE_lt n high)) (by omega)
  unfold maskV
  rw [u8_or_nat x _ h1 h2, hx]

set_option maxRecDepth 8000 in
set_option maxHeartbeats 1000000 in
theorem bit_one (wb : Nat) (high : Bool) (B : List Bool) (S : Nat → Prop) (w : World) (h : WrQ w S wb high B) (hlt : B.length < 1099511627776) :
    Calls Try.prog 78 #[.pointer (some ⟨wb, 0, none⟩), .bool true] w fun e w' => e = .returned (.tuple #[]) ∧ WrNext w S wb high (B ++ [true]) w' := by
  have HQ := Lib.hid h
  obtain ⟨bs, v, hw, hq⟩ := h
  obtain ⟨h0, h1, h3, hf⟩ := wrV_cells hw.blk
  have hf0 := hf 0
  have hf3 := hf 3
  have hl := hq.1
  have hbs : bs.length ≤ 1099511627776 := by omega
  have hsz := (hw.lt wb hw.own).2
  have HW := Lib.hid hw
  have HWQ := Lib.hid hq
  obtain ⟨n, hn⟩ : ∃ n, n = B.length := ⟨_, rfl⟩
  rw [← hn] at h0
  have HN := Lib.hid hn
  have hnb : n < 1099511627776 := by omega
  by_cases h8 : n % 8 = 0
  · have hand : bits .and .i64 (n : Int) 7 = 0 := by rw [i64_and7]; omega
    clear hw hq hf hl h8 hn
    go_enter Try.func78, Try.ntmps78
    go_wp2_with (at_builtin; refine append_at ETB rfl (.tmp 15) (.tmp 16) rfl (wb + 1) v bs.length _ rfl (HW.out.row.alloc _) _ 1 _ _ rfl (row_new1 _ _ _) (one_mem rfl) (by unfold maxLen; omega) (by omega) (by rw [sizeA]; omega) ?_; intro v' w5 hO5 hg5 hN5; obtain ⟨a5, c5, rfl, _, _⟩ := Row.of_owns hO5; have HALF := Lib.hid (half_pad HW.out HWQ.out (by have := HN.out; have := i64_and7 (n : Int); omega) _ hO5 hg5 hN5); obtain ⟨k0, k1, k3, kf⟩ := wrV_cells (blk_after HW.out _ hg5); rw [← HN.out] at k0; have kf0 := kf 0; have kf3 := kf 3; clear hO5 hg5 hN5 kf)
    clear k0 k1 k3 kf0 kf3 h0 h1 h3 hf0 hf3 hand
    generalize w5.setCell ⟨wb, 3, none⟩ (.slice a5 (bs.length + 1) c5) = W at *
    obtain ⟨g, c, hv, hwg, hix, hcell, hfree⟩ := half_row HALF.out rfl
    rw [← HN.out] at hix hcell hfree
    simp only [Value.slice.injEq] at hv
    obtain ⟨rfl, hlen, rfl⟩ := hv
    obtain ⟨k0, k1, k3, kf⟩ := wrV_cells HALF.out.blk
    rw [← HN.out] at k0
    have kf0 := kf 0
    have hmask := mask_any wb 0 n high
    obtain ⟨x, hx⟩ : ∃ x, x = ((bs ++ [0]).getD (n / 8) 0).toNat := ⟨_, rfl⟩
    rw [← hx] at hcell
    have HX := Lib.hid hx
    have HM := Lib.hid hmask
    have hdi : ((n : Int) / 8).toNat = n / 8 := by omega
    have hix2 : (n : Int) / 8 < (bs.length : Int) + 1 := by rw [List.length_append] at hix; simp at hix; omega
    have hix0 : (0 : Int) ≤ (n : Int) / 8 := by omega
    clear hmask hx kf hix hlen
    refine wp_region_still_tail 18 (by kernel_rfl) (by kernel_rfl) ?_
    simp only [List.take_succ_cons, List.take_zero, List.drop_succ_cons, List.drop_zero]
    repeat still_step
    still_call ((HM.out _ (by exact k0) (by exact k1)).mono fun e w' ⟨he, hw⟩ => ⟨he, hw.symm⟩)
    repeat still_step
    refine wpStill_nil ?_
    change wpList _ _ _ _ _ (W.drewN 1)
    have hgw : g ≠ wb := by omega
    go_wp2
    go_end0
    have hz := half_one 1 HQ.out HALF.out rfl (bits .or .u8 (x : Int) (maskV n high)) (by rw [← HN.out]; exact or_mask HX.out)
    rw [← HN.out] at hz
    exact ⟨rfl, hz⟩
  · have hand : bits .and .i64 (n : Int) 7 = ((n % 8 : Nat) : Int) := by rw [i64_and7]; omega
    have hne : (((n % 8 : Nat) : Int) == 0) = false := by rw [beq_eq_false_iff_ne]; omega
    have HALF := Lib.hid (half_in hw hq (by omega))
    clear hw hq hf hl h8 hn h0 h1 h3 hf0 hf3
    obtain ⟨g, c, hv, hwg, hix, hcell, hfree⟩ := half_row HALF.out rfl
    rw [← HN.out] at hix hcell hfree
    subst hv
    obtain ⟨k0, k1, k3, kf⟩ := wrV_cells HALF.out.blk
    rw [← HN.out] at k0
    have kf0 := kf 0
    have hmask := mask_any wb 0 n high
    obtain ⟨x, hx⟩ : ∃ x, x = (bs.getD (n / 8) 0).toNat := ⟨_, rfl⟩
    rw [← hx] at hcell
    have HX := Lib.hid hx
    have HM := Lib.hid hmask
    have hdi : ((n : Int) / 8).toNat = n / 8 := by omega
    have hix2 : (n : Int) / 8 < (bs.length : Int) := by omega
    have hix0 : (0 : Int) ≤ (n : Int) / 8 := by omega
    clear hmask hx kf hix
    go_enter Try.func78, Try.ntmps78
    go_wp2
    refine wp_region_still_tail 18 (by kernel_rfl) (by kernel_rfl) ?_
    simp only [List.take_succ_cons, List.take_zero, List.drop_succ_cons, List.drop_zero]
    repeat still_step
    still_call ((HM.out _ (by exact k0) (by exact k1)).mono fun e w' ⟨he, hw⟩ => ⟨he, hw.symm⟩)
    repeat still_step
    refine wpStill_nil ?_
    change wpList _ _ _ _ _ (w.drewN 1)
    have hgw : g ≠ wb := by omega
    go_wp2
    go_end0
    have hz := half_one 1 HQ.out HALF.out rfl (bits .or .u8 (x : Int) (maskV n high)) (by rw [← HN.out]; exact or_mask HX.out)
    rw [← HN.out] at hz
    exact ⟨rfl, hz⟩

theorem wbit_any (wb : Nat) (high one : Bool) (B : List Bool) (S : Nat → Prop) (w : World) (h : WrQ w S wb high B) (hlt : B.length < 1099511627776) :
    Calls Try.prog 78 #[.pointer (some ⟨wb, 0, none⟩), .bool one] w fun e w' => e = .returned (.tuple #[]) ∧ WrNext w S wb high (B ++ [one]) w' := by
  cases one
  · exact bit_zero wb high B S w h hlt
  · exact bit_one wb high B S w h hlt
end Go.Proofs.Ytbmhdacedicbjaa
