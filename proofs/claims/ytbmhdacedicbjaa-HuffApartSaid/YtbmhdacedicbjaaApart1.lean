/-
  The walk of the law HuffApart where a place is none, or both are one.
-/
import Derived.Test.YtbmhdacedicbjaaApart0
namespace Go.Proofs.Ytbmhdacedicbjaa
open Go.RowKit Go.Sort

set_option maxHeartbeats 400000 in
theorem apart_e1 (a : Option Addr) (n cap : Nat) (l : List Int) (A B : Int) (w : World) (hm : (n : Int) ≤ 400) (HC : Hid (CodesAt a n cap l w)) (d1 : decide (A < 0) = true) :
    Calls Try.prog 4 #[.slice a n cap, .int .i64 A, .int .i64 B] w (ApartEnd w) := by
  have hnn : ((n : Int) == (n : Int)) = true := by simp
  go_enter Try.func4, Try.ntmps4
  go_wp2_with (go_at_call 21; refine HC.out.mono ?_; rintro e w1 ⟨v1, rfl, hO1, hb1⟩; obtain ⟨a1, c1, rfl, hr1, _⟩ := Row.of_owns hO1; have HB := Lib.hid hb1; clear hO1 hb1 hr1)
  go_quiet (fail)
  go_wp2_with (go_at_call 13; refine (works4 _).mono ?_; rintro e w' ⟨rfl, hb⟩)
  go_ret
  exact ⟨rfl, (below_drewN HB.out _).trans (hb.mono HB.out.size)⟩

set_option maxHeartbeats 400000 in
theorem apart_e2 (a : Option Addr) (n cap : Nat) (l : List Int) (A B : Int) (w : World) (hm : (n : Int) ≤ 400) (HC : Hid (CodesAt a n cap l w)) (d1 : decide (A < 0) = false) (d2 : decide (B < 0) = true) :
    Calls Try.prog 4 #[.slice a n cap, .int .i64 A, .int .i64 B] w (ApartEnd w) := by
  have hnn : ((n : Int) == (n : Int)) = true := by simp
  go_enter Try.func4, Try.ntmps4
  go_wp2_with (go_at_call 21; refine HC.out.mono ?_; rintro e w1 ⟨v1, rfl, hO1, hb1⟩; obtain ⟨a1, c1, rfl, hr1, _⟩ := Row.of_owns hO1; have HB := Lib.hid hb1; clear hO1 hb1 hr1)
  go_quiet (fail)
  go_wp2_with (go_at_call 13; refine (works4 _).mono ?_; rintro e w' ⟨rfl, hb⟩)
  go_ret
  exact ⟨rfl, (below_drewN HB.out _).trans (hb.mono HB.out.size)⟩

set_option maxHeartbeats 400000 in
theorem apart_e3 (a : Option Addr) (n cap : Nat) (l : List Int) (A B : Int) (w : World) (hm : (n : Int) ≤ 400) (HC : Hid (CodesAt a n cap l w)) (d1 : decide (A < 0) = false) (d2 : decide (B < 0) = false) (d3 : decide ((n : Int) ≤ A) = true) :
    Calls Try.prog 4 #[.slice a n cap, .int .i64 A, .int .i64 B] w (ApartEnd w) := by
  have hnn : ((n : Int) == (n : Int)) = true := by simp
  go_enter Try.func4, Try.ntmps4
  go_wp2_with (go_at_call 21; refine HC.out.mono ?_; rintro e w1 ⟨v1, rfl, hO1, hb1⟩; obtain ⟨a1, c1, rfl, hr1, _⟩ := Row.of_owns hO1; have HB := Lib.hid hb1; clear hO1 hb1 hr1)
  go_quiet (fail)
  go_wp2_with (go_at_call 13; refine (works4 _).mono ?_; rintro e w' ⟨rfl, hb⟩)
  go_ret
  exact ⟨rfl, (below_drewN HB.out _).trans (hb.mono HB.out.size)⟩

set_option maxHeartbeats 400000 in
theorem apart_e4 (a : Option Addr) (n cap : Nat) (l : List Int) (A B : Int) (w : World) (hm : (n : Int) ≤ 400) (HC : Hid (CodesAt a n cap l w)) (d1 : decide (A < 0) = false) (d2 : decide (B < 0) = false) (d3 : decide ((n : Int) ≤ A) = false) (d4 : decide ((n : Int) ≤ B) = true) :
    Calls Try.prog 4 #[.slice a n cap, .int .i64 A, .int .i64 B] w (ApartEnd w) := by
  have hnn : ((n : Int) == (n : Int)) = true := by simp
  go_enter Try.func4, Try.ntmps4
  go_wp2_with (go_at_call 21; refine HC.out.mono ?_; rintro e w1 ⟨v1, rfl, hO1, hb1⟩; obtain ⟨a1, c1, rfl, hr1, _⟩ := Row.of_owns hO1; have HB := Lib.hid hb1; clear hO1 hb1 hr1)
  go_quiet (fail)
  go_wp2_with (go_at_call 13; refine (works4 _).mono ?_; rintro e w' ⟨rfl, hb⟩)
  go_ret
  exact ⟨rfl, (below_drewN HB.out _).trans (hb.mono HB.out.size)⟩

set_option maxHeartbeats 400000 in
theorem apart_e5 (a : Option Addr) (n cap : Nat) (l : List Int) (A B : Int) (w : World) (hm : (n : Int) ≤ 400) (HC : Hid (CodesAt a n cap l w)) (d1 : decide (A < 0) = false) (d2 : decide (B < 0) = false) (d3 : decide ((n : Int) ≤ A) = false) (d4 : decide ((n : Int) ≤ B) = false) (d5 : (A == B) = true) :
    Calls Try.prog 4 #[.slice a n cap, .int .i64 A, .int .i64 B] w (ApartEnd w) := by
  have hnn : ((n : Int) == (n : Int)) = true := by simp
  go_enter Try.func4, Try.ntmps4
  go_wp2_with (go_at_call 21; refine HC.out.mono ?_; rintro e w1 ⟨v1, rfl, hO1, hb1⟩; obtain ⟨a1, c1, rfl, hr1, _⟩ := Row.of_owns hO1; have HB := Lib.hid hb1; clear hO1 hb1 hr1)
  go_quiet (fail)
  go_wp2_with (go_at_call 13; refine (works4 _).mono ?_; rintro e w' ⟨rfl, hb⟩)
  go_ret
  exact ⟨rfl, (below_drewN HB.out _).trans (hb.mono HB.out.size)⟩

end Go.Proofs.Ytbmhdacedicbjaa
