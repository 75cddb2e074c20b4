/-
  The walk of the law HuffApart where two codes are held against one another.
-/
import Derived.Test.YtbmhdacedicbjaaApart0
namespace Go.Proofs.Ytbmhdacedicbjaa
open Go.RowKit Go.Sort

set_option maxHeartbeats 1000000 in
theorem apart_e8 (ba oa n cap ka kb : Nat) (l : List Int) (xa xb ya yb : Int) (w : World) (hm : (n : Int) ≤ 400) (hka : ka < n) (hkb : kb < n) (HC : Hid (CodesAt (some ⟨ba, oa, none⟩) n cap l w)) (HCELL : Hid (CellsAt ba oa ka kb n l w xa xb ya yb)) (d1 : decide ((ka : Int) < 0) = false) (d2 : decide ((kb : Int) < 0) = false) (d3 : decide (n ≤ ka) = false) (d4 : decide (n ≤ kb) = false) (d5 : ((ka : Int) == (kb : Int)) = false) (d6 : (xa == 0) = false) (d7 : decide (xb < xa) = false) (hle : xa ≤ xb) (hxa : 0 ≤ xa ∧ xa ≤ 15) (hxb : 0 ≤ xb ∧ xb ≤ 15) (hcb : 0 ≤ yb ∧ yb ≤ 32768)
    (HPF2 : Hid (yb / 2 ^ (xb - xa).toNat ≠ ya)) :
    Calls Try.prog 4 #[.slice (some ⟨ba, oa, none⟩) n cap, .int .i64 ka, .int .i64 kb] w (ApartEnd w) := by
  have hnn : ((n : Int) == (n : Int)) = true := by simp
  have i1 : (0 : Int) ≤ ka := by omega
  have i2 : (ka : Int) < n := by omega
  have i3 : (0 : Int) ≤ kb := by omega
  have i4 : (kb : Int) < n := by omega
  go_enter Try.func4, Try.ntmps4
  go_wp2_with (go_at_call 21; refine HC.out.mono ?_; rintro e w1 ⟨v1, rfl, hO1, hb1⟩; obtain ⟨a1, c1, rfl, hr1, _⟩ := Row.of_owns hO1; obtain ⟨b1, o1, rfl, q1, q2, q3, q4⟩ := HCELL.out _ hb1 a1 c1 hr1; have HB := Lib.hid hb1; clear hO1 hb1 hr1)
  go_quiet (fail)
  go_wp2
  go_loop [9, 10] (fun x i => ∃ j : Nat, (j : Int) ≤ xb - xa ∧ i = .int .i64 (xa + j) ∧ x = .int .u32 (yb / 2 ^ j)) (fun _ i => (xb - intOf i).toNat)
  case atStart => exact ⟨0, by omega, by simp, by simp⟩
  case round =>
    obtain ⟨j, hj, rfl, rfl⟩ := hrel
    have hs := half_pow yb j
    have hq0 : 0 ≤ yb / 2 ^ j := Int.ediv_nonneg hcb.1 (Int.pow_nonneg (by omega))
    have hq1 : yb / 2 ^ j ≤ yb := Int.ediv_le_self _ hcb.1
    have HS := Lib.hid hs
    clear hs
    by_cases hlt : xa + (j : Int) < xb
    · generalize hQ : yb / 2 ^ j = Q at *
      have HQ := Lib.hid hQ
      clear hQ
      go_wp2
      go_round
      case rel => exact ⟨j + 1, by omega, by go_num, by rw [HS.out]⟩
      case measure => simp [intOf]; omega
    · have hjx : (xb - xa).toNat = j := by omega
      have hne := HPF2.out
      rw [hjx] at hne
      have hne2 : (yb / 2 ^ j != ya) = true := by rw [bne_iff_ne]; exact hne
      clear hne hjx
      generalize hQ : yb / 2 ^ j = Q at *
      have HQ := Lib.hid hQ
      clear hQ
      go_wp2_with (go_at_call 13; refine (works4 _).mono ?_; rintro e w' ⟨rfl, hb⟩)
      go_ret
      exact ⟨rfl, (below_drewN HB.out _).trans (hb.mono HB.out.size)⟩
end Go.Proofs.Ytbmhdacedicbjaa
