/-
  The walk of the law SourceFar.
-/
import Derived.Test.YtimeacigbacadaaSrc9
namespace Go.Proofs.Ytimeacigbacadaa
open Go.RowKit Go.Maps Go.Sort

def LawEnd (w : World) (e : Ending) (w' : World) : Prop := e = .returned (.bool true) ∧ Below w.heap.size w w'

set_option maxHeartbeats 2000000 in
theorem far_bad (t at_ : Int) (a : Option Addr) (n cap : Nat) (w : World) (h : t < 0 ∨ 2147483647 < t) :
    Calls Try.prog 5 #[.int .i64 t, .int .i64 at_, .slice a n cap] w (LawEnd w) := by
  have HN := Lib.hid (new_bad t w h)
  have HR := Lib.hid (rnew_bad t w h)
  have HW := Lib.hid (works_any w)
  clear h
  go_enter Try.func5, Try.ntmps5
  go_wp2_with fail
  refine HN.out.mono ?_
  rintro e w1 ⟨rfl, rfl⟩
  go_wp2_with fail
  refine HR.out.mono ?_
  rintro e w2 ⟨rfl, rfl⟩
  go_wp2_with fail
  refine HW.out.mono ?_
  rintro e w3 ⟨rfl, hb⟩
  go_wp2
  go_ret
  exact ⟨rfl, hb⟩

set_option maxHeartbeats 2000000 in
theorem far_long (t : Nat) (at_ : Int) (a : Option Addr) (n cap : Nat) (w : World) (h : t ≤ 2147483647) (hl : 10000 < n) :
    Calls Try.prog 5 #[.int .i64 t, .int .i64 at_, .slice a n cap] w (LawEnd w) := by
  have HN := Lib.hid (new_any t w h)
  have HR := Lib.hid (fun W => rnew_ok t W h)
  have HW := Lib.hid (fun W => works_any W)
  have hd : decide ((10000 : Int) < n) = true := decide_eq_true (by omega)
  go_enter Try.func5, Try.ntmps5
  go_wp2_with fail
  refine HN.out.mono ?_
  rintro e w1 ⟨p, U, rfl, hQ, hB, hU, hp⟩
  have HB := Lib.hid hB
  clear hQ hB hU hp
  go_wp2_with fail
  refine (HR.out _).mono ?_
  rintro e w2 ⟨rfl, rfl⟩
  go_wp2_with fail
  refine (HW.out _).mono ?_
  rintro e w3 ⟨rfl, hb⟩
  have HE := Lib.hid (HB.out.trans (hb.mono HB.out.size))
  clear hb
  go_wp2
  go_ret
  exact ⟨rfl, HE.out⟩

set_option maxHeartbeats 2000000 in
theorem far_at (t : Nat) (at_ : Int) (a : Option Addr) (n cap : Nat) (w : World) (h : t ≤ 2147483647) (hl : n ≤ 10000) (hat : at_ < 0 ∨ (t : Int) < at_) :
    Calls Try.prog 5 #[.int .i64 t, .int .i64 at_, .slice a n cap] w (LawEnd w) := by
  have HN := Lib.hid (new_any t w h)
  have HR := Lib.hid (fun W => rnew_ok t W h)
  have HW := Lib.hid (fun W => works_any W)
  have HRP := Lib.hid (fun W => rput_any t at_ n W h)
  rw [show rput t at_ n = 2 from by unfold rput; rw [if_pos hat]] at HRP
  have HAT := Lib.hid hat
  have hd : decide ((10000 : Int) < n) = false := decide_eq_false (by omega)
  have hd' : decide (10000 < n) = false := decide_eq_false (by omega)
  clear hat
  go_enter Try.func5, Try.ntmps5
  go_wp2_with fail
  refine HN.out.mono ?_
  rintro e w1 ⟨p, U, rfl, hQ, hB, hU, hp⟩
  have HB := Lib.hid hB
  have HP := Lib.hid (sput_bad hQ at_ (.slice a n cap) HAT.out)
  have HRD := Lib.hid (read_bad hQ at_ n (by have := HAT.out; omega))
  have HK := Lib.hid (known_any hQ (by simp))
  clear hQ hB hU hp
  go_wp2_with fail
  refine (HR.out _).mono ?_
  rintro e w2 ⟨rfl, rfl⟩
  go_wp2_with fail
  refine HP.out.mono ?_
  rintro e w2 ⟨rfl, rfl⟩
  go_wp2_with fail
  refine (HRP.out _).mono ?_
  rintro e w3 ⟨rfl, rfl⟩
  go_wp2_with fail
  refine HRD.out.mono ?_
  rintro e w4 ⟨rfl, rfl⟩
  go_wp2_with fail
  refine HK.out.mono ?_
  rintro e w5 ⟨v, rfl, hO, hb⟩
  obtain ⟨a5, c5, rfl, -, -⟩ := Row.of_owns hO
  have HB5 := Lib.hid (HB.out.trans (hb.mono HB.out.size))
  simp only [List.length_nil]
  clear hO hb
  go_wp2_with fail
  refine (HW.out _).mono ?_
  rintro e w6 ⟨rfl, hb⟩
  have HE := Lib.hid (HB5.out.trans (hb.mono HB5.out.size))
  clear hb
  go_wp2
  go_ret
  exact ⟨rfl, HE.out⟩

set_option maxHeartbeats 2000000 in
theorem far_far (t at_ : Nat) (a : Option Addr) (n cap : Nat) (w : World) (h : t ≤ 2147483647) (hl : n ≤ 10000) (hat : at_ ≤ t) (hf : t < at_ + n) :
    Calls Try.prog 5 #[.int .i64 t, .int .i64 at_, .slice a n cap] w (LawEnd w) := by
  have HN := Lib.hid (new_any t w h)
  have HR := Lib.hid (fun W => rnew_ok t W h)
  have HW := Lib.hid (fun W => works_any W)
  have HRP := Lib.hid (fun W => rput_any t at_ n W h)
  rw [show rput t at_ n = 5 from by unfold rput; rw [if_neg (by omega), if_pos (by omega)]] at HRP
  have HAT := Lib.hid (And.intro hat hf)
  have hd : decide ((10000 : Int) < n) = false := decide_eq_false (by omega)
  have hd' : decide (10000 < n) = false := decide_eq_false (by omega)
  clear hat hf
  go_enter Try.func5, Try.ntmps5
  go_wp2_with fail
  refine HN.out.mono ?_
  rintro e w1 ⟨p, U, rfl, hQ, hB, hU, hp⟩
  have HB := Lib.hid hB
  have HP := Lib.hid (sput_far hQ at_ a n cap (by omega) (by have := HAT.out; omega) (by have := HAT.out; omega))
  have HRD := Lib.hid (read_any hQ (by simp) at_ HAT.out.1 n (by omega) (by omega) (n := 0) (by show _ = min _ ((at_ : Int) - at_); omega))
  have HQ := Lib.hid hQ
  clear hQ hB hU hp
  go_wp2_with fail
  refine (HR.out _).mono ?_
  rintro e w2 ⟨rfl, rfl⟩
  go_wp2_with fail
  refine HP.out.mono ?_
  rintro e w2 ⟨rfl, rfl⟩
  go_wp2_with fail
  refine (HRP.out _).mono ?_
  rintro e w3 ⟨rfl, rfl⟩
  go_wp2_with fail
  refine HRD.out.mono ?_
  rintro e w4 ⟨v4, rfl, hO4, hb4⟩
  obtain ⟨a4, c4, rfl, -, -⟩ := Row.of_owns hO4
  have HK := Lib.hid (known_any (HQ.out.mono hb4) (by simp))
  have HB4 := Lib.hid (HB.out.trans (hb4.mono HB.out.size))
  clear hO4 hb4
  go_wp2_with fail
  refine HK.out.mono ?_
  rintro e w5 ⟨v, rfl, hO, hb⟩
  obtain ⟨a5, c5, rfl, -, -⟩ := Row.of_owns hO
  have HB5 := Lib.hid (HB4.out.trans (hb.mono HB4.out.size))
  simp only [List.length_nil]
  clear hO hb
  go_wp2_with fail
  refine (HW.out _).mono ?_
  rintro e w6 ⟨rfl, hb⟩
  have HE := Lib.hid (HB5.out.trans (hb.mono HB5.out.size))
  clear hb
  go_wp2
  go_ret
  exact ⟨rfl, HE.out⟩
end Go.Proofs.Ytimeacigbacadaa
