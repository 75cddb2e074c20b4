/-
  Walks of layer 16: what a source refuses; one of which all is known.
-/
import Derived.Test.YtimeacigbacadaaSrc5
namespace Go.Proofs.Ytimeacigbacadaa
open Go.RowKit Go.Maps Go.Sort

theorem new_bad (t : Int) (w : World) (h : t < 0 ∨ 2147483647 < t) : Calls Try.prog 15 #[.int .i64 t] w fun e w' => e = .returned (.tuple #[.pointer none, .int .i64 5]) ∧ w' = w := by
  by_cases h1 : t < 0
  · clear h
    go_enter Try.func15, Try.ntmps15
    go_wp2
    go_ret2
    exact ⟨rfl, rfl⟩
  · have h2 : (2147483647 : Int) < t := by omega
    clear h
    go_enter Try.func15, Try.ntmps15
    go_wp2
    go_ret2
    exact ⟨rfl, rfl⟩

theorem sput_bad {w : World} {U : Nat → Prop} {p tot N : Nat} {T : List (Int × Int)} {C : Nat → UInt8} (h : SrcQ w U p tot N T C) (at_ : Int) (v : Value) (hb : at_ < 0 ∨ (tot : Int) < at_) :
    Calls Try.prog 19 #[.pointer (some ⟨p, 0, none⟩), .int .i64 at_, v] w fun e w' => e = .returned (.int .i64 2) ∧ w = w' := by
  have HI := Lib.hid (is_any h)
  obtain ⟨S, v0, mb, n, f, hs, -⟩ := h
  obtain ⟨-, c1, -, -⟩ := hs.cells
  clear hs
  by_cases h1 : at_ < 0
  · clear hb
    have hd : decide (at_ < 0) = true := decide_eq_true h1
    go_enter Try.func19, Try.ntmps19
    go_wp2_with (go_at_call 34; refine HI.out.mono ?_; rintro e w' ⟨rfl, rfl⟩)
    go_ret
    exact ⟨rfl, rfl⟩
  · have h2 : (tot : Int) < at_ := by omega
    clear hb
    have hd : decide (at_ < 0) = false := decide_eq_false h1
    have hd2 : decide ((tot : Int) < at_) = true := decide_eq_true h2
    go_enter Try.func19, Try.ntmps19
    go_wp2_with (go_at_call 34; refine HI.out.mono ?_; rintro e w' ⟨rfl, rfl⟩)
    go_ret
    exact ⟨rfl, rfl⟩

theorem sput_far {w : World} {U : Nat → Prop} {p tot N : Nat} {T : List (Int × Int)} {C : Nat → UInt8} (h : SrcQ w U p tot N T C) (at_ : Int) (a : Option Addr) (n cap : Nat) (h0 : 0 ≤ at_) (h1 : at_ ≤ tot) (h2 : (tot : Int) - at_ < n) :
    Calls Try.prog 19 #[.pointer (some ⟨p, 0, none⟩), .int .i64 at_, .slice a n cap] w fun e w' => e = .returned (.int .i64 5) ∧ w = w' := by
  have HI := Lib.hid (is_any h)
  obtain ⟨S, v0, mb, nn, f, hs, -⟩ := h
  obtain ⟨-, c1, -, -⟩ := hs.cells
  have htb := hs.totb
  clear hs
  have hd : decide (at_ < 0) = false := decide_eq_false (by omega)
  have hd2 : decide ((tot : Int) < at_) = false := decide_eq_false (by omega)
  have hd3 : decide ((tot : Int) - at_ < n) = true := decide_eq_true h2
  have i1 : IntKind.i64.wrap ((tot : Int) - at_) = (tot : Int) - at_ := IntWalk.i64_in _ (by omega)
  go_enter Try.func19, Try.ntmps19
  go_wp2_with (go_at_call 34; refine HI.out.mono ?_; rintro e w' ⟨rfl, rfl⟩)
  go_ret
  exact ⟨rfl, rfl⟩

theorem read_bad {w : World} {U : Nat → Prop} {p tot N : Nat} {T : List (Int × Int)} {C : Nat → UInt8} (h : SrcQ w U p tot N T C) (at_ most : Int) (hb : at_ < 0 ∨ (tot : Int) < at_ ∨ most < 0) :
    Calls Try.prog 20 #[.pointer (some ⟨p, 0, none⟩), .int .i64 at_, .int .i64 most] w fun e w' => e = .returned (.tuple #[.slice none 0 0, .bool false]) ∧ w = w' := by
  have HI := Lib.hid (is_any h)
  obtain ⟨S, v0, mb, n, f, hs, -⟩ := h
  obtain ⟨-, c1, -, -⟩ := hs.cells
  clear hs
  by_cases h1 : at_ < 0
  · clear hb
    have hd : decide (at_ < 0) = true := decide_eq_true h1
    go_enter Try.func20, Try.ntmps20
    go_wp2_with (go_at_call 34; refine HI.out.mono ?_; rintro e w' ⟨rfl, rfl⟩)
    go_ret2
    exact ⟨rfl, rfl⟩
  · have hd : decide (at_ < 0) = false := decide_eq_false h1
    by_cases h2 : (tot : Int) < at_
    · have hd2 : decide ((tot : Int) < at_) = true := decide_eq_true h2
      clear hb
      go_enter Try.func20, Try.ntmps20
      go_wp2_with (go_at_call 34; refine HI.out.mono ?_; rintro e w' ⟨rfl, rfl⟩)
      go_ret2
      exact ⟨rfl, rfl⟩
    · have hd2 : decide ((tot : Int) < at_) = false := decide_eq_false h2
      have h3 : most < 0 := by omega
      have hd3 : decide (most < 0) = true := decide_eq_true h3
      clear hb
      go_enter Try.func20, Try.ntmps20
      go_wp2_with (go_at_call 34; refine HI.out.mono ?_; rintro e w' ⟨rfl, rfl⟩)
      go_ret2
      exact ⟨rfl, rfl⟩
end Go.Proofs.Ytimeacigbacadaa
