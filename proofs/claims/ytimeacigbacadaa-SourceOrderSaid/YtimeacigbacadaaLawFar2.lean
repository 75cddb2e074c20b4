/-
  The walk of the law SourceFar, in range.
-/
import Derived.Test.YtimeacigbacadaaLawFar
namespace Go.Proofs.Ytimeacigbacadaa
open Go.RowKit Go.Maps Go.Sort

theorem conv_row {w : World} {a : Option Addr} {cap : Nat} {bs : List UInt8} (hr : Row w 1 a bs.length cap (bs.map u8C)) : (convert 39 9 (.slice a bs.length cap)).run Try.prog w = .ok (.string (mkB bs)) w := by
  cases a with
  | none =>
    have h0 := hr.2.2.2.1 rfl
    have h1 := hr.2.1
    have ho : bs = [] := List.eq_nil_of_length_eq_zero (by omega)
    subst ho
    rw [h0]
    exact run_convert_bytes_string w 39 9 5 none 0 0 Try.underlying39 Try.underlying5 Try.underlying9
  | some x =>
    refine run_convert_bytes_back (P := Try.prog) w 39 9 5 x cap bs Try.underlying39 Try.underlying5 Try.underlying9 (fun j hj => ?_)
    obtain ⟨b, o, hx, -, hc⟩ := hr.2.2.2.2 (by omega)
    cases hx
    rw [Addr.add_lit]
    exact hc j (u8C bs[j]) (by simp [hj])
theorem bytesC_is {C : Nat → UInt8} {at_ : Nat} {bs : List UInt8} (h : ∀ i : Nat, i < bs.length → C (at_ + i) = bs.getD i 0) : bytesC C at_ bs.length = bs := by
  unfold bytesC
  apply List.ext_getElem?
  intro j
  by_cases hj : j < bs.length
  · simp [hj, h j hj]
  · simp [hj]

set_option maxRecDepth 8000 in
set_option maxHeartbeats 4000000 in
theorem far_in (t at_ : Nat) (a : Option Addr) (cap : Nat) (bs : List UInt8) (w : World) (h : t ≤ 2147483647) (hr : Row w 1 a bs.length cap (bs.map u8C)) (hl : bs.length ≤ 10000) (hat : at_ + bs.length ≤ t) :
    Calls Try.prog 5 #[.int .i64 t, .int .i64 at_, .slice a bs.length cap] w (LawEnd w) := by
  have HN := Lib.hid (new_any t w h)
  have HR := Lib.hid (fun W => rnew_ok t W h)
  have HW := Lib.hid (fun W => works_any W)
  have HRP := Lib.hid (fun W => rput_any t at_ bs.length W h)
  rw [show rput t at_ bs.length = 0 from by unfold rput; rw [if_neg (by omega), if_neg (by omega)]] at HRP
  have hd : decide ((10000 : Int) < bs.length) = false := decide_eq_false (by omega)
  have hd' : decide (10000 < bs.length) = false := decide_eq_false (by omega)
  have HRW := Lib.hid hr
  have hmx := hr.i64
  clear hr
  go_enter Try.func5, Try.ntmps5
  go_wp2_with fail
  refine HN.out.mono ?_
  rintro e w1 ⟨p, U, rfl, hQ, hB, hU, hp⟩
  have HB := Lib.hid hB
  have HU := Lib.hid hU
  have HP := Lib.hid (sput_any hQ (by simp) at_ (HRW.out.mono hB) (fun hn x hx hUx => by
    have h1 := row_block HRW.out hn x hx
    have h2 := hU _ hUx
    omega) hat (N' := bs.length) (by simp) (by omega))
  clear hQ hB hU hp
  go_wp2_with fail
  refine (HR.out _).mono ?_
  rintro e w2 ⟨rfl, rfl⟩
  go_wp2_with fail
  refine HP.out.mono ?_
  rintro e w2 ⟨rfl, U2, T2, C2, hQ2, hPS, hC, hK, hU2⟩
  obtain ⟨hF, hcov⟩ := putS_form hPS
  have hc : ∀ i : Nat, cov T2 i ↔ at_ ≤ i ∧ i < at_ + bs.length := fun i => by
    rw [hcov]
    have h1 := cov_one at_ (at_ + bs.length) i
    rw [Int.natCast_add] at h1
    constructor
    · rintro (h | h)
      · exact absurd h (cov_nil _)
      · exact h1.1 h
    · exact fun h => .inr (h1.2 h)
  have hl2 := putS_len hPS
  have hu : uptoS T2 at_ = ((at_ + bs.length : Nat) : Int) := upto_is hF (by omega) (fun i hi => by rw [hc]; omega)
  have hby : bytesC C2 at_ bs.length = bs := bytesC_is (fun i hi => by
    have := (hC (at_ + i)).2 (cov_nil _) (by omega) (by omega)
    rw [this, Nat.add_sub_cancel_left])
  have hB2 := HB.out.trans (hK.below HB.out.size HU.out)
  have hRD := read_any hQ2 (by simp at hl2; omega) at_ (by omega) bs.length (by omega) (by omega) (n := bs.length) (by rw [hu]; omega)
  have hFI := fun (W : World) (q : Below w2.heap.size w2 W) => first_any (hQ2.mono q) (by simp at hl2; omega) at_
  rw [show max 0 (at_ : Int) = (at_ : Int) by omega, hu, show min (t : Int) ((at_ + bs.length : Nat) : Int) = (at_ : Int) + bs.length by omega] at hFI
  have HRD := Lib.hid hRD
  have HFI := Lib.hid hFI
  have HB2 := Lib.hid hB2
  have HBY := Lib.hid hby
  clear hQ2 hPS hC hK hU2 hF hcov hc hl2 hu hby hB2 hRD hFI
  go_wp2_with fail
  refine (HRP.out _).mono ?_
  rintro e w3 ⟨rfl, rfl⟩
  go_wp2_with fail
  refine HRD.out.mono ?_
  rintro e w4 ⟨v4, rfl, hO4, hb4⟩
  rw [HBY.out] at hO4
  obtain ⟨a4, c4, rfl, -, -⟩ := Row.of_owns hO4
  have hcx := conv_own hO4
  have hcb := conv_row (HRW.out.mono (HB2.out.trans (hb4.mono HB2.out.size)))
  obtain ⟨q, hq⟩ : ∃ q, q = decide (at_ + bs.length = t) := ⟨_, rfl⟩
  rw [← hq]
  have hq1 : ((bs.length : Int) == (t : Int) - at_) = q := by
    rw [hq, Bool.eq_iff_iff, beq_iff_eq, decide_eq_true_iff]; omega
  have i1 : IntKind.i64.wrap ((t : Int) - at_) = (t : Int) - at_ := IntWalk.i64_in _ (by omega)
  have i2 : IntKind.i64.wrap ((at_ : Int) + bs.length) = (at_ : Int) + bs.length := IntWalk.i64_in _ (by omega)
  obtain ⟨s, hs⟩ : ∃ s, s = mkB bs := ⟨_, rfl⟩
  rw [← hs] at hcx hcb
  have HB4 := Lib.hid hb4
  clear hO4 hb4 hq hs
  go_wp2_with fail
  refine (HFI.out _ HB4.out).mono ?_
  rintro e w5 ⟨rfl, hb5⟩
  have HB5 := Lib.hid (HB2.out.trans ((HB4.out.trans (hb5.mono HB4.out.size)).mono HB2.out.size))
  clear hb5 hcx hcb
  go_wp2_with fail
  refine (HW.out _).mono ?_
  rintro e w6 ⟨rfl, hb⟩
  have HE := Lib.hid (HB5.out.trans (hb.mono HB5.out.size))
  clear hb
  go_wp2
  go_ret
  exact ⟨rfl, HE.out⟩

theorem law_far (t at_ : Int) (a : Option Addr) (cap : Nat) (bs : List UInt8) (w : World) (hr : Row w 1 a bs.length cap (bs.map u8C)) :
    Calls Try.prog 5 #[.int .i64 t, .int .i64 at_, .slice a bs.length cap] w (LawEnd w) := by
  by_cases h : t < 0 ∨ 2147483647 < t
  · exact far_bad t at_ a bs.length cap w h
  · obtain ⟨tn, rfl⟩ := Int.eq_ofNat_of_zero_le (show 0 ≤ t by omega)
    by_cases hl : 10000 < bs.length
    · exact far_long tn at_ a bs.length cap w (by omega) hl
    · by_cases hat : at_ < 0 ∨ (tn : Int) < at_
      · exact far_at tn at_ a bs.length cap w (by omega) (by omega) hat
      · obtain ⟨an, rfl⟩ := Int.eq_ofNat_of_zero_le (show 0 ≤ at_ by omega)
        by_cases hf : tn < an + bs.length
        · exact far_far tn an a bs.length cap w (by omega) (by omega) (by omega) hf
        · exact far_in tn an a cap bs w (by omega) hr (by omega) (by omega)
end Go.Proofs.Ytimeacigbacadaa
