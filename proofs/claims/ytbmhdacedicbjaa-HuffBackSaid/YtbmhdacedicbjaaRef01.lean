/-
  Walks of the references of layers 1 and 4: a byte's bits; the next symbol by definition.
-/
import Derived.Test.YtbmhdacedicbjaaTGet
import Derived.Test.YtbmhdacedicbjaaArgs
namespace Go.Proofs.Ytbmhdacedicbjaa
open Go.RowKit Go.Sort

set_option maxHeartbeats 400000 in
theorem bit_any (X k : Nat) (w : World) (hX : X < 4294967296) (hk : k ≤ 64) :
    Calls Try.prog 54 #[.int .u32 X, .int .i64 k] w fun e w' => e = .returned (.bool (X / 2 ^ k % 2 == 1)) ∧ w = w' := by
  go_enter Try.func54, Try.ntmps54
  go_wp2
  go_loop [0, 5] (fun x i => ∃ j : Nat, j ≤ k ∧ i = .int .i64 j ∧ x = .int .u32 (X / 2 ^ j : Nat)) (fun _ i => k - (intOf i).toNat)
  case atStart => exact ⟨0, by omega, rfl, by simp⟩
  case round =>
    obtain ⟨j, hj, rfl, rfl⟩ := hrel
    have hle : X / 2 ^ j ≤ X := Nat.div_le_self _ _
    have hs : X / 2 ^ (j + 1) = X / 2 ^ j / 2 := by rw [Nat.pow_succ, Nat.div_div_eq_div_mul]
    have HS := Lib.hid hs
    clear hs
    generalize hy : X / 2 ^ j = y at *
    have HY := Lib.hid hy
    clear hy
    by_cases hlt : j < k
    · go_wp2
      go_round
      case rel => exact ⟨j + 1, by omega, by go_num, by rw [HS.out]; go_num⟩
      case measure => simp [intOf]; omega
    · obtain rfl : j = k := by omega
      go_wp2
      go_ret
      refine ⟨ret_bool ?_, rfl⟩
      rw [HY.out, Bool.eq_iff_iff]; simp; omega

theorem bit_int (X : Nat) (K : Int) (w : World) (hX : X < 4294967296) (h0 : 0 ≤ K) (hk : K ≤ 64) :
    Calls Try.prog 54 #[.int .u32 X, .int .i64 K] w fun e w' => e = .returned (.bool (X / 2 ^ K.toNat % 2 == 1)) ∧ w = w' := by
  obtain ⟨k, rfl⟩ := Int.eq_ofNat_of_zero_le h0
  exact bit_any X k w hX (by omega)

theorem EBool : ElemT Try.prog 34 4 (.bool false) 1 1 := ⟨Try.underlying34, by kernel_rfl, rfl, by omega⟩

/-- All bits of bytes. -/
def bitsL (bs : List UInt8) (high : Bool) (m : Nat) : List Value := (List.range m).map fun i => .bool (bitAt bs high i)
theorem bitsL_succ (bs : List UInt8) (high : Bool) (m : Nat) : bitsL bs high (m + 1) = bitsL bs high m ++ [.bool (bitAt bs high m)] := by simp [bitsL, List.range_succ]
theorem bitsL_length (bs : List UInt8) (high : Bool) (m : Nat) : (bitsL bs high m).length = m := by simp [bitsL]

set_option maxHeartbeats 1000000 in
theorem bits_any (a : Option Addr) (cap : Nat) (bs : List UInt8) (high : Bool) (w : World) (hr : Row w 1 a bs.length cap (bs.map fun b => Value.int .u8 b.toNat)) (hsm : bs.length ≤ 1000000) :
    Calls Try.prog 17 #[.slice a bs.length cap, .bool high] w fun e w' => ∃ v, e = .returned v ∧ w'.ownsRow w.heap.size 4 1 v (8 * bs.length) (bitsL bs high (8 * bs.length)) ∧ Below w.heap.size w w' := by
  obtain ⟨n, hn⟩ : ∃ n, n = bs.length := ⟨_, rfl⟩
  have HN := Lib.hid hn
  have HR := Lib.hid hr
  rw [← hn] at hsm
  rw [← hn]
  clear hn hr
  go_enter Try.func17, Try.ntmps17
  go_wp2
  go_loopw [5, 6] (fun v i wr => ∃ k : Nat, k ≤ n ∧ i = .int .i64 k ∧ Hid (wr.ownsRow w.heap.size 4 1 v (8 * k) (bitsL bs high (8 * k))) ∧ Hid (Below w.heap.size w wr)) (fun _ i _ => n - (intOf i).toNat)
  case atStart => exact ⟨0, by omega, rfl, Lib.hid (World.ownsRow_nil _ _ _ _), Lib.hid (Below.refl _ _)⟩
  case round =>
    obtain ⟨k, hk, rfl, HO, HB⟩ := hrel
    by_cases hlt : k < n
    · go_wp2
      go_loopw [5, 7] (fun v i wr => ∃ j : Nat, j ≤ 8 ∧ i = .int .i64 j ∧ Hid (wr.ownsRow w.heap.size 4 1 v (8 * k + j) (bitsL bs high (8 * k + j))) ∧ Hid (Below w.heap.size w wr)) (fun _ i _ => 8 - (intOf i).toNat)
      case atStart => exact ⟨0, by omega, rfl, HO, HB⟩
      case round =>
        obtain ⟨j, hj, rfl, HO2, HB2⟩ := hrel
        clear HO HB
        by_cases hj8 : j < 8
        · obtain ⟨b, off, hab, hblt, hc⟩ := (HR.out.mono HB2.out).at 0 k (by rw [← HN.out]; exact hlt)
          have hck := hc k (by rw [← HN.out]; exact hlt)
          have hx2 : (bs.getD k 0).toNat < 256 := (bs.getD k 0).toNat_lt
          have hbA : ∀ s, s = (if high then 7 - j else j) → bitAt bs high (8 * k + j) = ((bs.getD k 0).toNat / 2 ^ s % 2 == 1) := by
            intro s hs
            have e1 : (8 * k + j) / 8 = k := by omega
            have e2 : (8 * k + j) % 8 = j := by omega
            unfold bitAt maskE
            rw [e1, e2, hs]
          obtain ⟨x, hx⟩ : ∃ x, x = (bs.getD k 0).toNat := ⟨_, rfl⟩
          rw [← hx] at hck hx2 hbA
          have HBA := Lib.hid hbA
          clear hc hx hbA
          subst hab
          have hsz := HB2.out.size
          rcases high with _ | _
          · go_wp2_with (first
              | (go_at_call 54; refine (bit_any x j _ (by omega) (by omega)).mono ?_; rintro e w' ⟨rfl, rfl⟩)
              | (at_builtin; refine append_row EBool rfl (.tmp 30) (.tmp 38) rfl w.heap.size _ (8 * k + j) _ rfl (HO2.out.alloc _) _ 1 _ _ rfl (row_new1 _ _ _) (one_mem rfl) (by unfold maxLen; omega) (by omega) (by rw [sizeA]; omega) ?_; intro v' w5 hO5 hg5 hnil5; have HO5 := Lib.hid hO5; have HG5 := Lib.hid hg5; clear hO5 hg5 hnil5))
            go_roundw
            case rel =>
              refine ⟨j + 1, by omega, by go_num, Lib.hid (own_congr HO5.out ?_), Lib.hid ?_⟩
              · rw [show 8 * k + (j + 1) = 8 * k + j + 1 from rfl, bitsL_succ, HBA.out j rfl]
              · exact (HB2.out.alloc (by omega) _).grown HG5.out (by rw [sizeA]; omega) (fun q hq => (HO2.out.lt q hq).1)
            case measure => simp [intOf]; omega
          · go_wp2_with (first
              | (go_at_call 54; refine (bit_int x _ _ (by omega) (by omega) (by omega)).mono ?_; rintro e w' ⟨rfl, rfl⟩)
              | (at_builtin; refine append_row EBool rfl (.tmp 19) (.tmp 28) rfl w.heap.size _ (8 * k + j) _ rfl (HO2.out.alloc _) _ 1 _ _ rfl (row_new1 _ _ _) (one_mem rfl) (by unfold maxLen; omega) (by omega) (by rw [sizeA]; omega) ?_; intro v' w5 hO5 hg5 hnil5; have HO5 := Lib.hid hO5; have HG5 := Lib.hid hg5; clear hO5 hg5 hnil5))
            go_roundw
            case rel =>
              refine ⟨j + 1, by omega, by go_num, Lib.hid (own_congr HO5.out ?_), Lib.hid ?_⟩
              · rw [show 8 * k + (j + 1) = 8 * k + j + 1 from rfl, bitsL_succ, HBA.out (7 - j) rfl]
              · exact (HB2.out.alloc (by omega) _).grown HG5.out (by rw [sizeA]; omega) (fun q hq => (HO2.out.lt q hq).1)
            case measure => simp [intOf]; omega
        · obtain rfl : j = 8 := by omega
          go_wp2
          go_roundw
          case rel => exact ⟨k + 1, by omega, by go_num, HO2, HB2⟩
          case measure => simp [intOf]; omega
    · obtain rfl : k = n := by omega
      go_wp2
      go_ret
      exact ⟨_, rfl, HO.out, HB.out⟩
end Go.Proofs.Ytbmhdacedicbjaa
