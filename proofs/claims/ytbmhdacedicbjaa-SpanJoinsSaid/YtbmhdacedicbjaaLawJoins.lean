/-
  The walk of the law SpanJoins: for all spans it returns true and leaves all that was there as it was.
-/
import Derived.Test.YtbmhdacedicbjaaRef02J
import Derived.Test.YtbmhdacedicbjaaClip
namespace Go.Proofs.Ytbmhdacedicbjaa
open Go.RowKit Go.Sort

theorem cov_full (L : List (Int × Int)) (k : Int) : cov (full L) k ↔ cov L k := cov_filter L k
theorem spOf_cov {L S : List (Int × Int)} (h : ∀ z ∈ L, z.2 ≤ 301) (hS : SpOf 301 (marks L) S) (j : Int) : cov S j ↔ cov L j := by
  rw [hS.cov_ j, marks_iff]
  constructor
  · rintro ⟨h0, h1, h2⟩
    rwa [Int.toNat_of_nonneg h0] at h2
  · intro hc
    obtain ⟨x, hx, h0, h1, h2⟩ := hc
    have := h x hx
    refine ⟨by omega, by omega, ?_⟩
    rw [Int.toNat_of_nonneg (by omega)]
    exact ⟨x, hx, h0, h1, h2⟩
theorem join_same {L S S' : List (Int × Int)} {gap : Int} (h : ∀ z ∈ L, z.2 ≤ 301) (hS : SpOf 301 (marks L) S) (hp : S'.Perm (full L)) (hs : S'.Pairwise fun x y => x.1 ≤ y.1) : joinS (max 0 gap) S' = joinS (max 0 gap) S := by
  have hm : ∀ y ∈ S', 0 ≤ y.1 ∧ y.1 < y.2 := fun y hy => by
    have h1 := List.mem_filter.1 (hp.mem_iff.1 hy)
    exact emp_false.1 (by simpa using h1.2)
  obtain ⟨f1, f2⟩ := join_form hm hs
  rw [joinS_joinS (by omega) S' (fun y hy => (hm y hy).2)]
  rw [form_unique f1 hS.form (fun j => by rw [f2 j, cov_perm hp j, cov_full, spOf_cov h hS j])]

set_option maxRecDepth 8000 in
set_option maxHeartbeats 2000000 in
theorem law_joins (a : Option Addr) (n cap : Nat) (l : List (Int × Int)) (gap to : Int) (w : World) (hr : SRow w a n cap l) (hf : Fit l) (hg : -9223372036854775808 ≤ gap ∧ gap ≤ 9223372036854775807) (ht : -9223372036854775808 ≤ to ∧ to ≤ 9223372036854775807) :
    Calls Try.prog 7 #[.slice a n cap, .int .i64 gap, .int .i64 to] w fun e w' => e = .returned (.bool true) ∧ Below w.heap.size w w' := by
  have hm := hr.i64
  have hl := hr.len
  obtain ⟨hg1, hg2⟩ := hg
  obtain ⟨ht1, ht2⟩ := ht
  by_cases hbig : 40 < (n : Int)
  · clear hr hf hl
    go_enter Try.func7, Try.ntmps7
    go_wp2_with (go_at_call 29; refine (works2 _).mono ?_; rintro e w' ⟨rfl, hb⟩)
    go_ret
    exact ⟨rfl, hb⟩
  have HR := Lib.hid hr
  have HF := Lib.hid hf
  have HL := Lib.hid hl
  clear hr hf hl
  go_enter Try.func7, Try.ntmps7
  go_wp2
  go_loopw [7] (fun vi wr => ∃ k : Nat, vi = .int .i64 k ∧ k ≤ n ∧ Hid (∀ z ∈ l.take k, z.2 ≤ 301) ∧ Hid (Below w.heap.size w wr)) (fun vi _ => n - (intOf vi).toNat)
  case atStart => exact ⟨0, rfl, Nat.zero_le _, Lib.hid (fun z h => by simp at h), Lib.hid (Below.refl _ _)⟩
  case round =>
    obtain ⟨k, rfl, hk, HS, HB⟩ := hrel
    by_cases hlt : k < n
    · obtain ⟨b, off, rfl, hbw, hc⟩ := SRow.at (HR.out.mono HB.out) k hlt
      obtain ⟨c0, c1⟩ := hc k hlt
      have hlk : k < l.length := by rw [HL.out]; exact hlt
      obtain ⟨x, y, hxy⟩ : ∃ x y, l.getD k (0, 0) = (x, y) := ⟨_, _, rfl⟩
      have hts := take_succ_getD l k hlk
      rw [hxy] at c0 c1 hts
      simp only at c0 c1
      have HT := Lib.hid hts
      clear hc hxy hts
      go_wp2_with fail
      refine (small_any x y wr).mono ?_
      rintro e w1 ⟨rfl, hb1⟩
      have e0 := cell?_keep hb1 c0
      have e1 := cell?_keep hb1 c1
      have HB1 := Lib.hid (HB.out.trans (hb1.mono HB.out.size))
      have hbw1 : b < w1.heap.size := Nat.lt_of_lt_of_le hbw hb1.size
      clear c0 c1 hb1
      obtain ⟨s, hs⟩ : ∃ s, smB x y = s := ⟨_, rfl⟩
      rw [hs]
      cases s
      · clear hs
        go_wp2_with (go_at_call 29; refine (works2 _).mono ?_; rintro e w' ⟨rfl, hb⟩)
        go_ret
        exact ⟨rfl, HB1.out.trans (hb.mono HB1.out.size)⟩
      · obtain ⟨s1, s2, s3, s4⟩ := (smB_iff x y).1 hs
        clear hs
        go_wp2_with fail
        refine (clip_any x y to w1).mono ?_
        rintro e w2 ⟨rfl, hb2⟩
        have c0 := cell?_keep hb2 e0
        have c1 := cell?_keep hb2 e1
        have HB2 := Lib.hid (HB1.out.trans (hb2.mono HB1.out.size))
        have hbw2 : b < w2.heap.size := Nat.lt_of_lt_of_le hbw1 hb2.size
        have hbne : ¬ b = w2.heap.size := by omega
        have hsw2 : w.heap.size ≤ w2.heap.size := HB2.out.size
        clear e0 e1 hb2
        have hV : clipV x y to = if emp (x, min y to) = true then (0, 0) else (x, min y to) := rfl
        obtain ⟨m, hm9⟩ : ∃ m, m = min y to := ⟨_, rfl⟩
        rw [← hm9] at hV
        have hmin : min y to = m := hm9.symm
        by_cases he : emp (x, m) = true
        · rw [if_pos he] at hV
          rw [hV]
          have he2 := emp_true.1 he
          simp only at he2
          clear he hV hm9
          by_cases hx : x < 0
          · have dx : decide (x < 0) = true := by simpa using hx
            clear he2
            go_wp2
            go_roundw
            case rel => exact ⟨k + 1, by go_num, by omega, Lib.hid (fun z hz => by rw [HT.out] at hz; rcases List.mem_append.1 hz with h | h; exact HS.out z h; simp at h; subst h; show y ≤ 301; omega), Lib.hid (HB2.out.alloc hsw2 _)⟩
            case measure => simp [intOf]; omega
          · have dx : decide (x < 0) = false := by simpa using hx
            have hmx : m ≤ x := he2.resolve_left hx
            have dm : decide (m ≤ x) = true := by simpa using hmx
            clear he2
            go_wp2
            go_roundw
            case rel => exact ⟨k + 1, by go_num, by omega, Lib.hid (fun z hz => by rw [HT.out] at hz; rcases List.mem_append.1 hz with h | h; exact HS.out z h; simp at h; subst h; show y ≤ 301; omega), Lib.hid (HB2.out.alloc hsw2 _)⟩
            case measure => simp [intOf]; omega
        · rw [if_neg he] at hV
          rw [hV]
          obtain ⟨he1, he2⟩ := emp_false.1 (by simpa using he)
          simp only at he1 he2
          have dx : decide (x < 0) = false := by simpa using he1
          have dm : decide (m ≤ x) = false := by simpa using he2
          clear he hV hm9
          go_wp2
          go_quiet (fail)
          go_wp2
          go_roundw
          case rel => exact ⟨k + 1, by go_num, by omega, Lib.hid (fun z hz => by rw [HT.out] at hz; rcases List.mem_append.1 hz with h | h; exact HS.out z h; simp at h; subst h; show y ≤ 301; omega), Lib.hid (below_drewN (HB2.out.alloc hsw2 _) nq)⟩
          case measure => simp [intOf]; omega
    · obtain rfl : k = n := by omega
      have hsm := HS.out
      rw [show l.take k = l from by rw [← HL.out]; exact List.take_length] at hsm
      have HSM := Lib.hid hsm
      clear hsm
      go_wp2_with fail
      refine (join_any a k cap l gap wr (HR.out.mono HB.out) HF.out (by omega) (by omega)).mono ?_
      rintro e w1 ⟨S', v1, hP, hSo, rfl, hO1, hb1⟩
      obtain ⟨a1, c1, rfl, hr1, _⟩ := Row.of_owns hO1
      have hB1 := HB.out.trans (hb1.mono HB.out.size)
      have hmg : max gap 0 = max 0 gap := by omega
      go_wp2_with fail
      refine (rjoin_any a k cap l (max 0 gap) w1 (HR.out.mono hB1) (by omega) (by omega) (by omega)).mono ?_
      rintro e w2 ⟨S, v2, hS, rfl, hO2, hb2⟩
      obtain ⟨a2, c2, rfl, hr2, _⟩ := Row.of_owns hO2
      rw [join_same HSM.out hS hP hSo] at hr1 ⊢
      have HB2 := Lib.hid (hB1.trans (hb2.mono hB1.size))
      have hs := same_any a1 a2 _ _ c1 c2 _ _ w2 (hr1.mono hb2) hr2
      generalize (joinS (max 0 gap) S).length = N at *
      have HSA := Lib.hid hs
      clear hP hSo hO1 hb1 hr1 hB1 hmg hS hO2 hb2 hr2 hs
      go_wp2_with fail
      refine HSA.out.mono ?_
      rintro e w3 ⟨rfl, q, hq⟩
      have hB3 : Below w.heap.size w w3 := by rw [hq]; exact below_drewN HB2.out q
      clear hq
      go_wp2_with (go_at_call 29; refine (works2 _).mono ?_; rintro e w' ⟨rfl, hb⟩)
      go_ret
      exact ⟨rfl, hB3.trans (hb.mono hB3.size)⟩
end Go.Proofs.Ytbmhdacedicbjaa
