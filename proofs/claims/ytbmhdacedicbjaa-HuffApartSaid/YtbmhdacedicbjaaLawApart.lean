/-
  The walk of the law HuffApart: for every list of lengths and any two places it returns true and leaves all that was there as it was.
-/
import Derived.Test.YtbmhdacedicbjaaApart1
import Derived.Test.YtbmhdacedicbjaaApart2
import Derived.Test.YtbmhdacedicbjaaApart3
namespace Go.Proofs.Ytbmhdacedicbjaa
open Go.RowKit Go.Sort

set_option maxHeartbeats 1000000 in
theorem law_apart (a : Option Addr) (n cap : Nat) (l : List Int) (A B : Int) (w : World) (hr : Row w 1 a n cap (l.map (Value.int .i64))) :
    Calls Try.prog 4 #[.slice a n cap, .int .i64 A, .int .i64 B] w (ApartEnd w) := by
  have hm := hr.i64
  have hl := hr.len1
  by_cases hbig : 400 < (n : Int)
  · go_enter Try.func4, Try.ntmps4
    go_wp2_with (go_at_call 13; refine (works4 _).mono ?_; rintro e w' ⟨rfl, hb⟩)
    go_ret
    exact ⟨rfl, hb⟩
  by_cases hroom : 0 ≤ roomV l
  · have hok1 := (roomV_ok hroom).2.2.1
    have HC : Hid (CodesAt a n cap l w) := Lib.hid (codes_ok a n cap l w hr hroom)
    have h400 : (n : Int) ≤ 400 := by omega
    by_cases h1 : A < 0
    · exact apart_e1 a n cap l A B w h400 HC (by simpa using h1)
    by_cases h2 : B < 0
    · exact apart_e2 a n cap l A B w h400 HC (by simpa using h1) (by simpa using h2)
    by_cases h3 : (n : Int) ≤ A
    · exact apart_e3 a n cap l A B w h400 HC (by simpa using h1) (by simpa using h2) (by simpa using h3)
    by_cases h4 : (n : Int) ≤ B
    · exact apart_e4 a n cap l A B w h400 HC (by simpa using h1) (by simpa using h2) (by simpa using h3) (by simpa using h4)
    by_cases h5 : A = B
    · exact apart_e5 a n cap l A B w h400 HC (by simpa using h1) (by simpa using h2) (by simpa using h3) (by simpa using h4) (by simpa using h5)
    obtain ⟨ka, rfl⟩ := Int.eq_ofNat_of_zero_le (show 0 ≤ A by omega)
    obtain ⟨kb, rfl⟩ := Int.eq_ofNat_of_zero_le (show 0 ≤ B by omega)
    have hka : ka < n := by omega
    have hkb : kb < n := by omega
    have hkab : ka ≠ kb := by omega
    have HPF := prefix_free hroom (a := ka) (b := kb) (by omega) (by omega) hkab
    have hxa := (hok_mem hok1) (l.getD ka 0) (by simp [List.getD, show ka < l.length by omega])
    have hxb := (hok_mem hok1) (l.getD kb 0) (by simp [List.getD, show kb < l.length by omega])
    have hcb := codeAt_bd hroom kb
    obtain ⟨ba, oa, rfl, hbalt, hca⟩ := hr.at 0 ka hka
    have hcka := hca ka hka
    have hckb := hca kb hkb
    have HCELL : Hid (CellsAt ba oa ka kb n l w (l.getD ka 0) (l.getD kb 0) (codeAt l ka) (codeAt l kb)) := by
      refine Lib.hid ?_
      intro w1 hb a1 c1 hr1
      obtain ⟨b1, o1, rfl, _, hc1⟩ := Row.at (enc := id) (.bool false) (l := fl n (cdV l n)) (by simpa using hr1) ka hka
      have e1 := hc1 ka hka
      have e2 := hc1 kb hkb
      have f1 : (fl n (cdV l n)).getD ka (.bool false) = .int .u32 (codeAt l ka) := by simp [fl, hka, cdV]
      have f2 : (fl n (cdV l n)).getD kb (.bool false) = .int .u32 (codeAt l kb) := by simp [fl, hkb, cdV]
      rw [id, f1] at e1
      rw [id, f2] at e2
      exact ⟨b1, o1, rfl, e1, e2, cell?_keep hb hcka, cell?_keep hb hckb⟩
    have d1 : decide ((ka : Int) < 0) = false := by simp
    have d2 : decide ((kb : Int) < 0) = false := by simp
    have d3 : decide (n ≤ ka) = false := by simp; omega
    have d4 : decide (n ≤ kb) = false := by simp; omega
    have d5 : ((ka : Int) == (kb : Int)) = false := by simp; omega
    by_cases hz : l.getD ka 0 = 0
    · exact apart_e6 ba oa n cap ka kb l _ _ _ _ w h400 hka hkb HC HCELL d1 d2 d3 d4 d5 (by simpa using hz)
    by_cases hgt : l.getD kb 0 < l.getD ka 0
    · exact apart_e7 ba oa n cap ka kb l _ _ _ _ w h400 hka hkb HC HCELL d1 d2 d3 d4 d5 (by simpa using hz) (by simpa using hgt)
    · exact apart_e8 ba oa n cap ka kb l _ _ _ _ w h400 hka hkb HC HCELL d1 d2 d3 d4 d5 (by simpa using hz) (by simpa using hgt) (by omega) hxa hxb hcb (Lib.hid (HPF (by omega) (by omega)))
  · have hroom2 : roomV l < 0 := by omega
    go_enter Try.func4, Try.ntmps4
    go_wp2_with (go_at_call 21; refine (codes_bad _ _ _ l _ hr hroom2).mono ?_; rintro e w' ⟨rfl, rfl⟩)
    go_quiet (fail)
    go_wp2_with (go_at_call 13; refine (works4 _).mono ?_; rintro e w' ⟨rfl, hb⟩)
    go_ret
    exact ⟨rfl, (below_drewN (Below.refl _ _) _).trans hb⟩
end Go.Proofs.Ytbmhdacedicbjaa
