/-
  The walk of the law HuffCodes: for every list of lengths it returns true and leaves all that was there as it was.
-/
import Derived.Test.YtbmhdacedicbjaaWorks4
import Derived.Test.YtbmhdacedicbjaaArgs
namespace Go.Proofs.Ytbmhdacedicbjaa
open Go.RowKit Go.Sort

set_option maxHeartbeats 1000000 in
theorem law_codes (a : Option Addr) (n cap : Nat) (l : List Int) (w : World) (hr : Row w 1 a n cap (l.map (Value.int .i64))) :
    Calls Try.prog 5 #[.slice a n cap] w fun e w' => e = .returned (.bool true) ∧ Below w.heap.size w w' := by
  have hm := hr.i64
  have hl := hr.len1
  by_cases hbig : 1000 < (n : Int)
  · go_enter Try.func5, Try.ntmps5
    go_wp2_with (go_at_call 13; refine (works4 _).mono ?_; rintro e w' ⟨rfl, hb⟩)
    go_ret
    exact ⟨rfl, hb⟩
  by_cases hroom : 0 ≤ roomV l
  · have HL := Lib.hid hl
    have HROOM := Lib.hid hroom
    clear hl hroom
    go_enter Try.func5, Try.ntmps5
    go_wp2_with fail
    refine (codes_ok a n cap l w hr HROOM.out).mono ?_
    rintro e w1 ⟨v1, rfl, hO1, hb1⟩
    obtain ⟨a1, c1, rfl, hr1, _⟩ := Row.of_owns hO1
    have hra1 := hr.mono hb1
    go_wp2_with fail
    refine (rcodes_ok a n cap l w1 hra1 HROOM.out).mono ?_
    rintro e w2 ⟨v2, rfl, hO2, hb2⟩
    obtain ⟨a2, c2, rfl, hr2, _⟩ := Row.of_owns hO2
    have hra2 := hra1.mono hb2
    have hr12 := hr1.mono hb2
    have hbw := hb1.trans (hb2.mono hb1.size)
    have hns : (n : Int) ≤ 9223372036854775807 := hm
    have HB := Lib.hid hbw
    clear hO1 hb1 hra1 hr1 hO2 hb2 hbw
    go_wp2_with (first
      | (go_at_call 22; refine (complete_any _ _ _ l _ hra2).mono ?_; rintro e w' ⟨rfl, rfl⟩)
      | (go_at_call 23; refine (rcomplete_any _ _ _ l _ hra2).mono ?_; rintro e w' ⟨rfl, rfl⟩))
    go_loopw [7] (fun i wr => ∃ k : Nat, k ≤ n ∧ i = .int .i64 k ∧ ∃ q, Hid (wr = w2.drewN q)) (fun i _ => n - (intOf i).toNat)
    case atStart => exact ⟨0, by omega, rfl, 0, Lib.hid rfl⟩
    case round =>
      obtain ⟨k, hk, rfl, q, HW⟩ := hrel
      obtain rfl := HW.out
      by_cases hlt : k < n
      · obtain ⟨b1, o1, rfl, _, hc1⟩ := Row.at (enc := id) (.bool false) (l := fl n (cdV l n)) (by simpa using hr12) k hlt
        obtain ⟨b2, o2, rfl, _, hc2⟩ := Row.at (enc := id) (.bool false) (l := fl n (cdV l n)) (by simpa using hr2) k hlt
        have hcd : (fl n (cdV l n)).getD k (.bool false) = .int .u32 (codeAt l k) := by simp [fl, hlt, cdV]
        have hk1 := hc1 k hlt
        have hk2 := hc2 k hlt
        simp only [id, hcd] at hk1 hk2
        clear hc1 hc2 hcd
        generalize codeAt l k = x at *
        go_wp2
        go_quiet (fail)
        go_wp2
        go_roundw
        case rel => exact ⟨k + 1, by omega, by go_num, q + nq, Lib.hid (by first | rfl | exact World.drewN_drewN _ _ _ | simp [World.drewN_drewN])⟩
        case measure => simp [intOf]; omega
      · go_wp2_with (go_at_call 13; refine (works4 _).mono ?_; rintro e w' ⟨rfl, hb⟩)
        go_ret
        exact ⟨rfl, (below_drewN HB.out q).trans (hb.mono (below_drewN HB.out q).size)⟩
  · have hroom2 : roomV l < 0 := by omega
    go_enter Try.func5, Try.ntmps5
    go_wp2_with (first
      | (go_at_call 21; refine (codes_bad _ _ _ l _ hr hroom2).mono ?_; rintro e w' ⟨rfl, rfl⟩)
      | (go_at_call 15; refine (rcodes_bad _ _ _ l _ hr hroom2).mono ?_; rintro e w' ⟨rfl, rfl⟩)
      | (go_at_call 22; refine (complete_any _ _ _ l _ hr).mono ?_; rintro e w' ⟨rfl, rfl⟩)
      | (go_at_call 23; refine (rcomplete_any _ _ _ l _ hr).mono ?_; rintro e w' ⟨rfl, rfl⟩))
    refine wp_loop_once ?_
    go_wp2_with (go_at_call 13; refine (works4 _).mono ?_; rintro e w' ⟨rfl, hb⟩)
    go_ret
    exact ⟨rfl, hb⟩
end Go.Proofs.Ytbmhdacedicbjaa
