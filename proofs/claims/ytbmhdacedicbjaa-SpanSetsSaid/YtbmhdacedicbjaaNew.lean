/-
  Walks of layer 4: a table of codes is made.
-/
import Derived.Test.YtbmhdacedicbjaaStabS
import Derived.Test.YtbmhdacedicbjaaHuffT
import Derived.Test.YtbmhdacedicbjaaHuff4
import Derived.Test.YtbmhdacedicbjaaClone
import Derived.Test.YtbmhdacedicbjaaGet
import Derived.Deep.RegionHeld3
namespace Go.Proofs.Ytbmhdacedicbjaa
open Go.RowKit Go.Sort

def cmpI (x y : Int) : Int := if x < y then -1 else if y < x then 1 else 0

theorem isNaN_any (x : Int) (w : World) : Calls Try.prog 75 #[.int .i64 x] w fun e w' => e = .returned (.bool false) ∧ w = w' := by
  go_enter Try.func75, Try.ntmps75
  go_wp2
  go_ret
  exact ⟨ret_bool (by simp), rfl⟩
theorem compare_any (x y : Int) (w : World) : Calls Try.prog 52 #[.int .i64 x, .int .i64 y] w fun e w' => e = .returned (.int .i64 (cmpI x y)) ∧ w = w' := by
  have hv : cmpI x y = if x < y then -1 else if y < x then 1 else 0 := rfl
  have HV := Lib.hid hv
  clear hv
  by_cases h1 : x < y
  · go_enter Try.func52, Try.ntmps52
    go_wp2_with (go_at_call 75; refine (isNaN_any _ _).mono ?_; rintro e w' ⟨rfl, rfl⟩)
    go_ret
    exact ⟨ret_int (by rw [HV.out, if_pos h1]), rfl⟩
  · by_cases h2 : y < x
    · go_enter Try.func52, Try.ntmps52
      go_wp2_with (go_at_call 75; refine (isNaN_any _ _).mono ?_; rintro e w' ⟨rfl, rfl⟩)
      go_ret
      exact ⟨ret_int (by rw [HV.out, if_neg (by omega), if_pos h2]), rfl⟩
    · go_enter Try.func52, Try.ntmps52
      go_wp2_with (go_at_call 75; refine (isNaN_any _ _).mono ?_; rintro e w' ⟨rfl, rfl⟩)
      go_ret
      exact ⟨ret_int (by rw [HV.out, if_neg (by omega), if_neg (by omega)]), rfl⟩

/-- What New's closure compares: the lengths of two symbols. -/
def cfL (l : List Int) (x y : Int) : Int := cmpI (l.getD x.toNat 0) (l.getD y.toNat 0)

set_option maxHeartbeats 400000 in
theorem cmpNew_any (bx : Nat) (a : Option Addr) (n cap : Nat) (l : List Int) (x y : Nat) (w : World) (hb : w.cell? ⟨bx, 0, none⟩ = some (.slice a n cap)) (hr : Row w 1 a n cap (l.map (Value.int .i64))) (hx : x < n) (hy : y < n) :
    Calls Try.prog 51 #[.int .i64 x, .int .i64 y, .pointer (some ⟨bx, 0, none⟩)] w fun e w' => e = .returned (.int .i64 (cfL l x y)) ∧ ∃ q, w' = w.drewN q := by
  have hm := hr.i64
  have hv : cfL l x y = cmpI (l.getD x 0) (l.getD y 0) := rfl
  have HV := Lib.hid hv
  clear hv
  obtain ⟨b, off, rfl, hblt, hc⟩ := hr.at 0 x hx
  have hcx := hc x hx
  have hcy := hc y hy
  generalize l.getD x 0 = X at *
  generalize l.getD y 0 = Y at *
  clear hc hr
  go_enter Try.func51, Try.ntmps51
  go_wp2
  go_quiet ((go_at_call 52; exact quiet_eq (compare_any _ _ _)))
  go_wp2
  go_ret
  exact ⟨ret_int HV.out.symm, _, rfl⟩
end Go.Proofs.Ytbmhdacedicbjaa
