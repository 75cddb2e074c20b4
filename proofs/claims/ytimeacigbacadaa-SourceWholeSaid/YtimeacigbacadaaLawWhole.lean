/-
  The walk of the law SourceWhole.
-/
import Derived.Test.YtimeacigbacadaaLawFar2
import Derived.Test.YtimeacigbacadaaBelow
namespace Go.Proofs.Ytimeacigbacadaa
open Go.RowKit Go.Maps Go.Sort

theorem first_all {T : List (Int × Int)} {n : Nat} (h : Form T) (hc : ∀ i : Nat, cov T i ↔ i < n) (at_ : Int) : min (n : Int) (uptoS T (max 0 at_)) = n := by
  by_cases h1 : max 0 at_ ≤ n
  · obtain ⟨m, hm⟩ := Int.eq_ofNat_of_zero_le (show 0 ≤ max 0 at_ by omega)
    rw [hm] at h1 ⊢
    have h2 := upto_is h (at_ := m) (b := n) (by omega) (fun i _ => hc i)
    rw [h2]; omega
  · obtain ⟨h2, -, -⟩ := uptoS_bd (n : Int) T (max 0 at_) (fun x hx => (h.full x hx).1)
    omega

set_option maxHeartbeats 2000000 in
theorem whole_long (at_ most : Int) (a : Option Addr) (n cap : Nat) (w : World) (hl : 10000 < n) :
    Calls Try.prog 7 #[.slice a n cap, .int .i64 at_, .int .i64 most] w (LawEnd w) := by
  have HW := Lib.hid (works_any w)
  have hd : decide ((10000 : Int) < n) = true := decide_eq_true (by omega)
  go_enter Try.func7, Try.ntmps7
  go_wp2_with fail
  refine HW.out.mono ?_
  rintro e w3 ⟨rfl, hb⟩
  go_wp2
  go_ret
  exact ⟨rfl, hb⟩

set_option maxRecDepth 8000 in
set_option maxHeartbeats 2000000 in
theorem whole_bad (at_ most : Int) (a : Option Addr) (cap : Nat) (bs : List UInt8) (w : World) (hr : Row w 1 a bs.length cap (bs.map u8C)) (hl : bs.length ≤ 10000) (hb : at_ < 0 ∨ (bs.length : Int) < at_ ∨ most < 0) :
    Calls Try.prog 7 #[.slice a bs.length cap, .int .i64 at_, .int .i64 most] w (LawEnd w) := by
  have HWH := Lib.hid (whole_any hr hl)
  have HW := Lib.hid (fun W => works_any W)
  have HBD := Lib.hid hb
  have hmx := hr.i64
  have hd : decide ((10000 : Int) < bs.length) = false := decide_eq_false (by omega)
  have hd' : decide (10000 < bs.length) = false := decide_eq_false (by omega)
  obtain ⟨q1, hq1⟩ : ∃ q, q = decide (at_ < 0) := ⟨_, rfl⟩
  obtain ⟨q2, hq2⟩ : ∃ q, q = decide ((bs.length : Int) < at_) := ⟨_, rfl⟩
  obtain ⟨q3, hq3⟩ : ∃ q, q = decide (most < 0) := ⟨_, rfl⟩
  have HQQ := Lib.hid (show q1 = true ∨ q2 = true ∨ q3 = true by
    rcases hb with h | h | h
    · exact .inl (by rw [hq1]; exact decide_eq_true h)
    · exact .inr (.inl (by rw [hq2]; exact decide_eq_true h))
    · exact .inr (.inr (by rw [hq3]; exact decide_eq_true h)))
  have e1 := hq1.symm
  have e2 := hq2.symm
  have e3 := hq3.symm
  clear hr hb hq1 hq2 hq3
  go_enter Try.func7, Try.ntmps7
  go_wp2_with fail
  refine HWH.out.mono ?_
  rintro e w1 ⟨p, U, T, C, rfl, hQ, hT, hF, hc, hC, hB⟩
  have HRD := Lib.hid (read_bad hQ at_ most HBD.out)
  have HT := Lib.hid (total_any hQ)
  have hfi := first_any hQ (by omega) at_
  rw [first_all hF hc] at hfi
  have HF := Lib.hid hfi
  have HB := Lib.hid hB
  clear hQ hT hF hc hC hB hfi
  go_wp2_with fail
  refine HRD.out.mono ?_
  rintro e w2 ⟨rfl, rfl⟩
  go_wp2_with fail
  refine HT.out.mono ?_
  rintro e w3 ⟨rfl, rfl⟩
  go_wp2_with fail
  refine HF.out.mono ?_
  rintro e w4 ⟨rfl, hb4⟩
  have HB4 := Lib.hid (HB.out.trans (hb4.mono HB.out.size))
  clear hb4
  cases q1 <;> cases q2 <;> cases q3 <;> first
    | (exfalso; simpa using HQQ.out; done)
    | (go_wp2_with fail
       refine (HW.out _).mono ?_
       rintro e w6 ⟨rfl, hb⟩
       have HE := Lib.hid (HB4.out.trans (hb.mono HB4.out.size))
       clear hb
       go_wp2
       go_ret
       exact ⟨rfl, HE.out⟩)

theorem conv_zero (y : Addr) (c : Nat) (W : World) : (convert 39 9 (.slice (some y) 0 c)).run Try.prog W = .ok (.string (mkB [])) W :=
  run_convert_bytes_back (P := Try.prog) W 39 9 5 y c [] Try.underlying39 Try.underlying5 Try.underlying9 (fun j hj => absurd hj (by simp))

set_option maxRecDepth 8000 in
set_option maxHeartbeats 4000000 in
theorem whole_in (at_ n : Nat) (most : Int) (b0 o0 cap : Nat) (bs : List UInt8) (w : World) (hr : Row w 1 (some ⟨b0, o0, none⟩) bs.length cap (bs.map u8C)) (hl : bs.length ≤ 10000) (hn0 : 0 < n) (hat : at_ + n ≤ bs.length) (hn : min most ((bs.length : Int) - at_) = n) (h0 : 0 ≤ most) (h64 : most ≤ 9223372036854775807) :
    Calls Try.prog 7 #[.slice (some ⟨b0, o0, none⟩) bs.length cap, .int .i64 at_, .int .i64 most] w (LawEnd w) := by
  have HWH := Lib.hid (whole_any hr hl)
  have HW := Lib.hid (fun W => works_any W)
  have HRW := Lib.hid hr
  have hmx := hr.i64
  have hcap := hr.2.1
  have hcmx := hr.2.2.1
  have hd : decide ((10000 : Int) < bs.length) = false := decide_eq_false (by omega)
  have hd' : decide (10000 < bs.length) = false := decide_eq_false (by omega)
  have hd1 : decide ((at_ : Int) < 0) = false := decide_eq_false (by omega)
  have hd2 : decide ((bs.length : Int) < at_) = false := decide_eq_false (by omega)
  have hd2' : decide (bs.length < at_) = false := decide_eq_false (by omega)
  have hd3 : decide (most < 0) = false := decide_eq_false (by omega)
  clear hr
  go_enter Try.func7, Try.ntmps7
  go_wp2_with fail
  refine HWH.out.mono ?_
  rintro e w1 ⟨p, U, T, C, rfl, hQ, hT, hF, hc, hC, hB⟩
  have hu : uptoS T at_ = ((bs.length : Nat) : Int) := upto_is hF (by omega) (fun i _ => hc i)
  have HRD := Lib.hid (read_any hQ (by omega) at_ (by omega) most h0 h64 (n := n) (by rw [hu]; omega))
  have HT := Lib.hid (fun (W : World) (h : Below w1.heap.size w1 W) => total_any (hQ.mono h))
  have hfi := fun (W : World) (h : Below w1.heap.size w1 W) => first_any (hQ.mono h) (by omega) at_
  rw [first_all hF hc] at hfi
  have HF := Lib.hid hfi
  have HB := Lib.hid hB
  have hby : bytesC C at_ n = (bs.drop at_).take n := by
    have e : ((bs.drop at_).take n).length = n := by simp; omega
    have h2 := bytesC_is (C := C) (at_ := at_) (bs := (bs.drop at_).take n) (fun i hi => by
      rw [e] at hi
      rw [hC _ (by omega), List.getD_eq_getElem?_getD, List.getD_eq_getElem?_getD, List.getElem?_take, if_pos hi, List.getElem?_drop])
    rw [e] at h2
    exact h2
  have HBY := Lib.hid hby
  clear hQ hT hF hc hC hB hfi hu hby
  go_wp2_with fail
  refine HRD.out.mono ?_
  rintro e w2 ⟨v2, rfl, hO2, hb2⟩
  rw [HBY.out] at hO2
  obtain ⟨a2, c2, rfl, -, -⟩ := Row.of_owns hO2
  have HO2 := Lib.hid hO2
  have HB2 := Lib.hid hb2
  clear hO2 hb2
  go_wp2_with fail
  refine (HT.out _ HB2.out).mono ?_
  rintro e w3 ⟨rfl, rfl⟩
  go_wp2_with fail
  refine (HF.out _ HB2.out).mono ?_
  rintro e w4 ⟨rfl, hb4⟩
  have HB4 := Lib.hid (HB.out.trans ((HB2.out.trans (hb4.mono HB2.out.size)).mono HB.out.size))
  have hO4 := ownsRow_keep HO2.out hb4
  have hlen : ((bs.drop at_).take n).length = n := by simp; omega
  have hcx : ∀ q : BelowW w4, (convert 39 9 (.slice a2 n c2)).run Try.prog q.w = .ok (.string (mkB ((bs.drop at_).take n))) q.w := fun q => conv_own (o := (bs.drop at_).take n) (by rw [hlen]; exact ownsRow_keep hO4 q.h)
  obtain ⟨Q, hQ⟩ : ∃ Q, Q = at_ + n := ⟨_, rfl⟩
  have hsum : (at_ : Int) + n = (Q : Int) := by omega
  have hcb : ∀ q : BelowW w4, (convert 39 9 (.slice (some ⟨b0, o0 + at_, none⟩) (Q - at_) (cap - at_))).run Try.prog q.w = .ok (.string (mkB ((bs.drop at_).take n))) q.w := fun q => by
    have h1 := conv_row (row_sub (HRW.out.mono (HB4.out.trans (q.h.mono HB4.out.size))) at_ Q (by omega) (by omega))
    rw [show Q - at_ = n by omega] at h1 ⊢
    rw [hlen] at h1
    exact h1
  obtain ⟨s, hs⟩ : ∃ s, s = mkB ((bs.drop at_).take n) := ⟨_, rfl⟩
  rw [← hs] at hcx hcb
  have iu : IntKind.i64.wrap (at_ : Int) = (at_ : Int) := IntWalk.i64_in _ (by omega)
  have iv : IntKind.i64.wrap (Q : Int) = (Q : Int) := IntWalk.i64_in _ (by omega)
  have hmx0 : max (Q : Int) 0 = (Q : Int) := by omega
  have hcne : ¬ cap = at_ := by omega
  have hQc : Q ≤ cap := by omega
  have haQ : at_ ≤ Q := by omega
  obtain ⟨q, hq⟩ : ∃ q, q = decide (at_ + n = bs.length) := ⟨_, rfl⟩
  have hq1 : ((n : Int) == (bs.length : Int) - at_) = q := by
    rw [hq, Bool.eq_iff_iff, beq_iff_eq, decide_eq_true_iff]; omega
  have HWQ := Lib.hid (fun W => works_any W)
  rw [← hq]
  clear hO4 hlen hQ hs hq hb4
  go_wp2_with fail
  refine wp_region_below (by kernel_rfl) (by kernel_rfl) ?_
  repeat (go_big_quiet_step ((go_at_call 17; with_reducible exact Calls.below_of (HWQ.out _))))
  refine wpQuiet_nil ?_
  rintro _ ⟨⟨w5, hb5⟩, rfl⟩
  go_wp2
  go_ret
  exact ⟨rfl, HB4.out.trans (hb5.mono HB4.out.size)⟩
set_option maxRecDepth 8000 in
set_option maxHeartbeats 4000000 in
theorem whole_zero (at_ : Nat) (most : Int) (y : Addr) (cap : Nat) (bs : List UInt8) (w : World) (hr : Row w 1 (some y) bs.length cap (bs.map u8C)) (hl : bs.length ≤ 10000) (hat : at_ ≤ bs.length) (hn : min most ((bs.length : Int) - at_) = 0) (h0 : 0 ≤ most) (h64 : most ≤ 9223372036854775807) :
    Calls Try.prog 7 #[.slice (some y) bs.length cap, .int .i64 at_, .int .i64 most] w (LawEnd w) := by
  have HWH := Lib.hid (whole_any hr hl)
  have HW := Lib.hid (fun W => works_any W)
  have HRW := Lib.hid hr
  have hmx := hr.i64
  have hcap := hr.2.1
  have hcmx := hr.2.2.1
  have hd : decide ((10000 : Int) < bs.length) = false := decide_eq_false (by omega)
  have hd' : decide (10000 < bs.length) = false := decide_eq_false (by omega)
  have hd1 : decide ((at_ : Int) < 0) = false := decide_eq_false (by omega)
  have hd2 : decide ((bs.length : Int) < at_) = false := decide_eq_false (by omega)
  have hd2' : decide (bs.length < at_) = false := decide_eq_false (by omega)
  have hd3 : decide (most < 0) = false := decide_eq_false (by omega)
  clear hr
  go_enter Try.func7, Try.ntmps7
  go_wp2_with fail
  refine HWH.out.mono ?_
  rintro e w1 ⟨p, U, T, C, rfl, hQ, hT, hF, hc, hC, hB⟩
  have hu : uptoS T at_ = ((bs.length : Nat) : Int) := upto_is hF (by omega) (fun i _ => hc i)
  have HRD := Lib.hid (read_any hQ (by omega) at_ (by omega) most h0 h64 (n := 0) (by rw [hu]; omega))
  have HT := Lib.hid (fun (W : World) (h : Below w1.heap.size w1 W) => total_any (hQ.mono h))
  have hfi := fun (W : World) (h : Below w1.heap.size w1 W) => first_any (hQ.mono h) (by omega) at_
  rw [first_all hF hc] at hfi
  have HF := Lib.hid hfi
  have HB := Lib.hid hB
  have hby : bytesC C at_ 0 = [] := rfl
  have HBY := Lib.hid hby
  clear hQ hT hF hc hC hB hfi hu hby
  go_wp2_with fail
  refine HRD.out.mono ?_
  rintro e w2 ⟨v2, rfl, hO2, hb2⟩
  rw [HBY.out] at hO2
  obtain ⟨a2, c2, rfl, -, -⟩ := Row.of_owns hO2
  have HO2 := Lib.hid hO2
  have HB2 := Lib.hid hb2
  clear hO2 hb2
  go_wp2_with fail
  refine (HT.out _ HB2.out).mono ?_
  rintro e w3 ⟨rfl, rfl⟩
  go_wp2_with fail
  refine (HF.out _ HB2.out).mono ?_
  rintro e w4 ⟨rfl, hb4⟩
  have HB4 := Lib.hid (HB.out.trans ((HB2.out.trans (hb4.mono HB2.out.size)).mono HB.out.size))
  have hO4 := ownsRow_keep HO2.out hb4
  have hcx : ∀ q : BelowW w4, (convert 39 9 (.slice a2 0 c2)).run Try.prog q.w = .ok (.string (mkB [])) q.w := fun q => conv_own (o := []) (ownsRow_keep hO4 q.h)
  have hcb : ∀ (Y : Addr) (c : Nat) (q : BelowW w4), (convert 39 9 (.slice (some Y) 0 c)).run Try.prog q.w = .ok (.string (mkB [])) q.w := fun Y c q => conv_zero Y c q.w
  obtain ⟨s, hs⟩ : ∃ s, s = mkB [] := ⟨_, rfl⟩
  rw [← hs] at hcx hcb
  have iu : IntKind.i64.wrap (at_ : Int) = (at_ : Int) := IntWalk.i64_in _ (by omega)
  have hmx0 : max (at_ : Int) 0 = (at_ : Int) := by omega
  have hQc : at_ ≤ cap := by omega
  obtain ⟨q, hq⟩ : ∃ q, q = decide (at_ = bs.length) := ⟨_, rfl⟩
  have hq1 : ((0 : Int) == (bs.length : Int) - at_) = q := by
    rw [hq, Bool.eq_iff_iff, beq_iff_eq, decide_eq_true_iff]; omega
  have HWQ := Lib.hid (fun W => works_any W)
  rw [← hq]
  clear hO4 hs hq hb4
  go_wp2_with fail
  by_cases hcne : cap = at_
  · subst hcne
    refine wp_region_below (by kernel_rfl) (by kernel_rfl) ?_
    repeat (go_big_quiet_step ((go_at_call 17; with_reducible exact Calls.below_of (HWQ.out _))))
    refine wpQuiet_nil ?_
    rintro _ ⟨⟨w5, hb5⟩, rfl⟩
    go_wp2
    go_ret
    exact ⟨rfl, HB4.out.trans (hb5.mono HB4.out.size)⟩
  · refine wp_region_below (by kernel_rfl) (by kernel_rfl) ?_
    repeat (go_big_quiet_step ((go_at_call 17; with_reducible exact Calls.below_of (HWQ.out _))))
    refine wpQuiet_nil ?_
    rintro _ ⟨⟨w5, hb5⟩, rfl⟩
    go_wp2
    go_ret
    exact ⟨rfl, HB4.out.trans (hb5.mono HB4.out.size)⟩
set_option maxRecDepth 8000 in
set_option maxHeartbeats 4000000 in
theorem whole_nil (most : Int) (w : World) (h0 : 0 ≤ most) (h64 : most ≤ 9223372036854775807) :
    Calls Try.prog 7 #[.slice none 0 0, .int .i64 0, .int .i64 most] w (LawEnd w) := by
  have hr : Row w 1 none ([] : List UInt8).length 0 (([] : List UInt8).map u8C) := ⟨rfl, Nat.le_refl _, by unfold maxLen; omega, fun _ => rfl, fun h => absurd h (by simp)⟩
  have HWH := Lib.hid (whole_any hr (by simp))
  have hd3 : decide (most < 0) = false := decide_eq_false (by omega)
  have hn : min most 0 = 0 := by omega
  clear hr
  go_enter Try.func7, Try.ntmps7
  go_wp2_with fail
  refine HWH.out.mono ?_
  rintro e w1 ⟨p, U, T, C, rfl, hQ, hT, hF, hc, hC, hB⟩
  have hu : uptoS T (0 : Nat) = ((0 : Nat) : Int) := upto_is hF (by omega) (fun i _ => hc i)
  have HRD := Lib.hid (read_any hQ (by omega) 0 (by simp) most h0 h64 (n := 0) (by rw [hu]; omega))
  have HT := Lib.hid (fun (W : World) (h : Below w1.heap.size w1 W) => total_any (hQ.mono h))
  have hfi := fun (W : World) (h : Below w1.heap.size w1 W) => first_any (hQ.mono h) (by omega) 0
  rw [first_all hF hc] at hfi
  have HF := Lib.hid hfi
  have HB := Lib.hid hB
  have hby : bytesC C 0 0 = [] := rfl
  have HBY := Lib.hid hby
  clear hQ hT hF hc hC hB hfi hu hby
  go_wp2_with fail
  refine HRD.out.mono ?_
  rintro e w2 ⟨v2, rfl, hO2, hb2⟩
  rw [HBY.out] at hO2
  obtain ⟨a2, c2, rfl, -, -⟩ := Row.of_owns hO2
  have HO2 := Lib.hid hO2
  have HB2 := Lib.hid hb2
  clear hO2 hb2
  go_wp2_with fail
  refine (HT.out _ HB2.out).mono ?_
  rintro e w3 ⟨rfl, rfl⟩
  go_wp2_with fail
  refine (HF.out _ HB2.out).mono ?_
  rintro e w4 ⟨rfl, hb4⟩
  have HB4 := Lib.hid (HB.out.trans ((HB2.out.trans (hb4.mono HB2.out.size)).mono HB.out.size))
  have hO4 := ownsRow_keep HO2.out hb4
  have hcx : ∀ q : BelowW w4, (convert 39 9 (.slice a2 0 c2)).run Try.prog q.w = .ok (.string (mkB [])) q.w := fun q => conv_own (o := []) (ownsRow_keep hO4 q.h)
  have hcb : ∀ (q : BelowW w4), (convert 39 9 (.slice none 0 0)).run Try.prog q.w = .ok (.string (mkB [])) q.w := fun q => run_convert_bytes_string q.w 39 9 5 none 0 0 Try.underlying39 Try.underlying5 Try.underlying9
  obtain ⟨s, hs⟩ : ∃ s, s = mkB [] := ⟨_, rfl⟩
  rw [← hs] at hcx hcb
  have HWQ := Lib.hid (fun W => works_any W)
  clear hO4 hs hb4
  go_wp2_with fail
  refine wp_region_below (by kernel_rfl) (by kernel_rfl) ?_
  repeat (go_big_quiet_step ((go_at_call 17; with_reducible exact Calls.below_of (HWQ.out _))))
  refine wpQuiet_nil ?_
  rintro _ ⟨⟨w5, hb5⟩, rfl⟩
  go_wp2
  go_ret
  exact ⟨rfl, HB4.out.trans (hb5.mono HB4.out.size)⟩

theorem law_whole (at_ most : Int) (a : Option Addr) (cap : Nat) (bs : List UInt8) (w : World) (hr : Row w 1 a bs.length cap (bs.map u8C)) (h64 : most ≤ 9223372036854775807) :
    Calls Try.prog 7 #[.slice a bs.length cap, .int .i64 at_, .int .i64 most] w (LawEnd w) := by
  by_cases hl : 10000 < bs.length
  · exact whole_long at_ most a bs.length cap w hl
  · by_cases hb : at_ < 0 ∨ (bs.length : Int) < at_ ∨ most < 0
    · exact whole_bad at_ most a cap bs w hr (by omega) hb
    · obtain ⟨an, rfl⟩ := Int.eq_ofNat_of_zero_le (show 0 ≤ at_ by omega)
      obtain ⟨n, hn⟩ := Int.eq_ofNat_of_zero_le (show 0 ≤ min most ((bs.length : Int) - an) by omega)
      by_cases hn0 : n = 0
      · subst hn0
        cases a with
        | none =>
          have h1 := hr.2.2.2.1 rfl
          have h2 := hr.2.1
          have ho : bs = [] := List.eq_nil_of_length_eq_zero (by omega)
          subst ho
          subst h1
          have h3 : an = 0 := by simp at hb; omega
          subst h3
          exact whole_nil most w (by omega) h64
        | some y => exact whole_zero an most y cap bs w hr (by omega) (by omega) hn (by omega) h64
      · obtain ⟨b0, o0, rfl, -, -⟩ := hr.2.2.2.2 (by omega)
        exact whole_in an n most b0 o0 cap bs w hr (by omega) (by omega) (by omega) hn (by omega) h64
end Go.Proofs.Ytimeacigbacadaa
