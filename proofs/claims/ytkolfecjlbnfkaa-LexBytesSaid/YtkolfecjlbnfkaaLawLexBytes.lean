/-
  The law LexBytes, walked.
-/
import Derived.Test.YtkolfecjlbnfkaaLexI
import Derived.Test.YtkolfecjlbnfkaaLexJ
namespace Go.Proofs.Ytkolfecjlbnfkaa
open Go.RowKit

theorem byte_arg {n : Int} (h : (Lit.int .u8 n).wf = true) : ∃ c : UInt8, n = c.toNat := by
  simp [Lit.wf, IntKind.min, IntKind.max, IntKind.signed, IntKind.bits] at h
  refine ⟨UInt8.ofNat n.toNat, ?_⟩
  simp
  omega

set_option maxRecDepth 8000 in
set_option maxHeartbeats 4000000 in
theorem law_lexbytes {a : Option Addr} {cap : Nat} {bs : List UInt8} (k : Int) (c : UInt8) (w : World) (hr : Row w 1 a bs.length cap (bs.map u8C)) :
    Calls Try.prog 4 #[.slice a bs.length cap, .int .i64 k, .int .u8 c.toNat] w fun e w' => e = .returned (.bool true) ∧ Below w.heap.size w w' := by
  have HR := Lib.hid hr
  have hi := hr.i64
  clear hr
  by_cases hbig : 400 < bs.length
  · have hb2 : decide (400 < bs.length) = true := decide_eq_true hbig
    have hb3 : decide ((400 : Int) < bs.length) = true := decide_eq_true (by omega)
    go_enter Try.func4, Try.ntmps4
    go_wp2_with (go_at_call 8; refine (works_any _).mono ?_; rintro e w' ⟨rfl, hb⟩)
    go_ret
    exact ⟨rfl, hb⟩
  · have hb2 : decide (400 < bs.length) = false := decide_eq_false hbig
    have hb3 : decide ((400 : Int) < bs.length) = false := decide_eq_false (by omega)
    have HS1 := Lib.hid (skip_any HR.out (by omega) k)
    have HS2 := Lib.hid (rskip_any HR.out (by omega) k)
    have HD := Lib.hid (fun W => delim_any c W)
    generalize skipV bs k = V at *
    generalize c.toNat = x at *
    clear hbig
    go_enter Try.func4, Try.ntmps4
    go_wp2_with (first
      | (go_at_call 13; refine (space_any _ _).mono ?_; rintro e w' ⟨rfl, rfl⟩)
      | (go_at_call 14; refine (rspace_any _ _).mono ?_; rintro e w' ⟨rfl, rfl⟩)
      | (go_at_call 15; refine (HD.out _).mono ?_; rintro e w' ⟨rfl, rfl⟩)
      | (go_at_call 16; refine (rdelim_any _ _).mono ?_; rintro e w' ⟨rfl, rfl⟩)
      | (go_at_call 17; refine HS1.out.mono ?_; rintro e w' ⟨rfl, rfl⟩)
      | (go_at_call 18; refine HS2.out.mono ?_; rintro e w' ⟨rfl, rfl⟩)
      | (go_at_call 8; refine (works_any _).mono ?_; rintro e w' ⟨rfl, hb⟩))
    go_ret
    exact ⟨rfl, hb⟩
end Go.Proofs.Ytkolfecjlbnfkaa
