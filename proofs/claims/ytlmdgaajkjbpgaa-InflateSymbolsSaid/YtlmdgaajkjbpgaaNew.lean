/-
  Walks of layer 4: a table of codes is made.
-/
import Derived.Test.YtlmdgaajkjbpgaaStabS
import Derived.Test.YtlmdgaajkjbpgaaHuffT
import Derived.Test.YtlmdgaajkjbpgaaHuff4
import Derived.Test.YtlmdgaajkjbpgaaClone
import Derived.Test.YtlmdgaajkjbpgaaGet
import Derived.Test.YtlmdgaajkjbpgaaCmp
import Derived.Deep.RegionHeld3
namespace Go.Proofs.Ytlmdgaajkjbpgaa
open Go.RowKit Go.Sort

/-- What New's closure compares: the lengths of two symbols. -/
def cfL (l : List Int) (x y : Int) : Int := cmpI (l.getD x.toNat 0) (l.getD y.toNat 0)

set_option maxHeartbeats 400000 in
theorem cmpNew_any (bx : Nat) (a : Option Addr) (n cap : Nat) (l : List Int) (x y : Nat) (w : World) (hb : w.cell? ⟨bx, 0, none⟩ = some (.slice a n cap)) (hr : Row w 1 a n cap (l.map (Value.int .i64))) (hx : x < n) (hy : y < n) :
    Calls Try.prog 60 #[.int .i64 x, .int .i64 y, .pointer (some ⟨bx, 0, none⟩)] w fun e w' => e = .returned (.int .i64 (cfL l x y)) ∧ ∃ q, w' = w.drewN q := by
  have hm := hr.i64
  have hv : cfL l x y = cmpI (l.getD x 0) (l.getD y 0) := rfl
  have HV := Lib.hid hv
  clear hv
  obtain ⟨b, off, rfl, hblt, hc⟩ := hr.at 0 x hx
  have hcx := hc x hx
  have hcy := hc y hy
  generalize l.getD x 0 = X at *
  generalize l.getD y 0 = Y at *
  clear hc hr
  go_enter Try.func60, Try.ntmps60
  go_wp2
  go_quiet ((go_at_call 61; exact quiet_eq (compare_any _ _ _)))
  go_wp2
  go_ret
  exact ⟨ret_int HV.out.symm, _, rfl⟩
end Go.Proofs.Ytlmdgaajkjbpgaa
