/-
  Walks of layer 4: kraft and room take the same room; Complete and May ask it.
-/
import Derived.Test.YtlmdgaajkjbpgaaProg
import Derived.Test.YtlmdgaajkjbpgaaBase
import Derived.Test.YtlmdgaajkjbpgaaHuffM
namespace Go.Proofs.Ytlmdgaajkjbpgaa
open Go.RowKit

theorem kraft_end {l : List Int} {n : Nat} (hl : l.length = n) (h1 : ¬ (n : Int) < 1) (h2 : ¬ 320 < (n : Int)) (hok1 : hok (l.take n) = true) :
    roomV l = if 32768 < hsum (l.take n) then -1 else hsum (l.take n) := by
  subst hl
  rw [List.take_length] at hok1 ⊢
  unfold roomV
  rw [if_neg (by rintro (h | h | h) <;> first | omega | simp_all)]

set_option maxHeartbeats 400000 in
theorem kraft_any (a : Option Addr) (n cap : Nat) (l : List Int) (w : World) (hr : Row w 1 a n cap (l.map (Value.int .i64))) :
    Calls Try.prog 64 #[.slice a n cap] w fun e w' => e = .returned (.int .i64 (roomV l)) ∧ w = w' := by
  have hm := hr.i64
  have hl := hr.len1
  by_cases h1 : (n : Int) < 1
  · have hv : roomV l = -1 := by unfold roomV; rw [if_pos (by omega)]
    have HV := Lib.hid hv; clear hv
    go_enter Try.func64, Try.ntmps64
    go_wp2
    go_ret
    exact ⟨ret_int HV.out.symm, rfl⟩
  by_cases h2 : 320 < (n : Int)
  · have hv : roomV l = -1 := by unfold roomV; rw [if_pos (by omega)]
    have HV := Lib.hid hv; clear hv
    go_enter Try.func64, Try.ntmps64
    go_wp2
    go_ret
    exact ⟨ret_int HV.out.symm, rfl⟩
  have HL := Lib.hid hl; clear hl
  go_enter Try.func64, Try.ntmps64
  go_wp2
  go_loop [3, 16] (fun s i => ∃ k : Nat, k ≤ n ∧ i = .int .i64 k ∧ s = .int .i64 (hsum (l.take k)) ∧ Hid (hok (l.take k) = true)) (fun s i => n - (intOf i).toNat)
  case atStart => exact ⟨0, by omega, rfl, rfl, Lib.hid rfl⟩
  case round =>
    obtain ⟨k, hk, rfl, rfl, hok1⟩ := hrel
    by_cases hlt : k < n
    · obtain ⟨b, off, rfl, hb, hc⟩ := hr.at 0 k hlt
      have hck := hc k hlt
      have hs := hsum_bd (l.take k)
      have hs2 : (l.take k).length ≤ k := List.length_take_le _ _
      have ht := take_snoc 0 l k (by rw [HL.out]; exact hlt)
      obtain ⟨x, hx⟩ : ∃ x, x = l.getD k 0 := ⟨_, rfl⟩
      rw [← hx] at hck ht
      have HX := Lib.hid hx
      have HT := Lib.hid ht
      clear hc hx ht
      by_cases hneg : x < 0
      · have hv : roomV l = -1 := by unfold roomV; rw [if_pos (.inr (.inr (hok_not (k := k) (by rw [HL.out]; exact hlt) (by rw [← HX.out]; omega))))]
        have HV := Lib.hid hv; clear hv
        go_wp2
        go_ret
        exact ⟨ret_int HV.out.symm, rfl⟩
      by_cases h15 : 15 < x
      · have hv : roomV l = -1 := by unfold roomV; rw [if_pos (.inr (.inr (hok_not (k := k) (by rw [HL.out]; exact hlt) (by rw [← HX.out]; omega))))]
        have HV := Lib.hid hv; clear hv
        go_wp2
        go_ret
        exact ⟨ret_int HV.out.symm, rfl⟩
      have hbd := hby_bd x
      unfold hby at hbd
      by_cases hp : 0 < x
      · go_wp2
        go_round
        case rel => exact ⟨k + 1, by omega, by go_num, by rw [HT.out, hsum_snoc]; unfold hadd hby; rw [if_pos hp], Lib.hid (by rw [HT.out, hok_snoc, hok1.out]; simp; omega)⟩
        case measure => simp [intOf]; omega
      · go_wp2
        go_round
        case rel => exact ⟨k + 1, by omega, by go_num, by rw [HT.out, hsum_snoc]; unfold hadd; rw [if_neg hp], Lib.hid (by rw [HT.out, hok_snoc, hok1.out]; simp; omega)⟩
        case measure => simp [intOf]; omega
    · obtain rfl : k = n := by omega
      have hv := kraft_end HL.out (by omega) (by omega) hok1.out
      by_cases hw : 32768 < hsum (l.take k)
      · rw [if_pos hw] at hv
        have HV := Lib.hid hv; clear hv
        go_wp2
        go_ret
        exact ⟨ret_int HV.out.symm, rfl⟩
      · rw [if_neg hw] at hv
        have HV := Lib.hid hv; clear hv
        go_wp2
        go_ret
        exact ⟨ret_int HV.out.symm, rfl⟩

end Go.Proofs.Ytlmdgaajkjbpgaa
