/-
  Walks of layer 16: a source of which all is known; numbers of the document's answer.
-/
import Derived.Test.YtimeacigbacadaaSrc6
namespace Go.Proofs.Ytimeacigbacadaa
open Go.RowKit Go.Maps Go.Sort

theorem row_block {w : World} {sz : Nat} {a : Option Addr} {n cap : Nat} {xs : List Value} (h : Row w sz a n cap xs) (hn : 0 < n) : ∀ x, a = some x → x.block < w.heap.size := by
  obtain ⟨b, o, rfl, hb, -⟩ := h.2.2.2.2 hn
  intro x hx
  cases hx
  exact hb

/-- What Whole leaves. -/
def WholeEnd (bs : List UInt8) (w : World) (e : Ending) (w' : World) : Prop :=
  ∃ p U T C, e = .returned (.pointer (some ⟨p, 0, none⟩)) ∧ SrcQ w' U p bs.length bs.length T C ∧ T.length ≤ 1 ∧ Form T ∧ (∀ i : Nat, cov T i ↔ i < bs.length) ∧ (∀ i : Nat, i < bs.length → C i = bs.getD i 0) ∧ Below w.heap.size w w'

set_option maxHeartbeats 2000000 in
theorem whole_any {w : World} {a : Option Addr} {cap : Nat} {bs : List UInt8} (hr : Row w 1 a bs.length cap (bs.map u8C)) (hl : bs.length ≤ 10000) :
    Calls Try.prog 29 #[.slice a bs.length cap] w (WholeEnd bs w) := by
  have HN := Lib.hid (new_any bs.length w (by omega))
  have HR := Lib.hid hr
  have hmx := hr.i64
  clear hr
  go_enter Try.func29, Try.ntmps29
  go_wp2_with (go_at_call 15; refine HN.out.mono ?_; rintro e w1 ⟨p, U, rfl, hQ, hB, hU, hp⟩)
  have HQ := Lib.hid hQ
  have HB := Lib.hid hB
  have HU := Lib.hid hU
  have HP := Lib.hid (sput_any hQ (by simp) 0 (HR.out.mono hB) (fun hn x hx hUx => by
    have h1 := row_block HR.out hn x hx
    have h2 := hU _ hUx
    omega) (by omega) (N' := bs.length) (by simp) (by omega))
  clear hQ hB hU hp
  go_wp2_with fail
  refine HP.out.mono ?_
  rintro e w2 ⟨rfl, U', T', C', hQ', hPS, hC, hK, hU'⟩
  obtain ⟨hF, hcov⟩ := putS_form hPS
  have hc : ∀ i : Nat, cov T' i ↔ i < bs.length := fun i => by
    rw [hcov]
    constructor
    · rintro (h1 | ⟨y, hy, -, -, h2⟩)
      · exact absurd h1 (cov_nil _)
      · simp only [List.mem_singleton] at hy
        subst hy
        simp only at h2
        omega
    · intro hi
      exact .inr ⟨_, List.mem_singleton.2 rfl, by simp, by simp, by simp only; omega⟩
  have HFIN := Lib.hid (show WholeEnd bs w (.returned (.pointer (some ⟨p, 0, none⟩))) w2 from
    ⟨p, U', T', C', rfl, hQ', by have := putS_len hPS; simpa using this, hF, hc, fun i hi => by
      have := (hC i).2 (cov_nil _) (by omega) (by omega)
      simpa using this, HB.out.trans (hK.below HB.out.size HU.out)⟩)
  clear hQ' hPS hC hK hU' hF hcov hc
  go_wp2
  go_ret
  exact HFIN.out

theorem rnew_ok (t : Nat) (w : World) (h : t ≤ 2147483647) : Calls Try.prog 16 #[.int .i64 t] w fun e w' => e = .returned (.int .i64 0) ∧ w' = w := by
  have h1 : decide ((t : Int) < 0) = false := decide_eq_false (by omega)
  have h2 : decide ((2147483647 : Int) < t) = false := decide_eq_false (by omega)
  have h3 : decide (2147483647 < t) = false := decide_eq_false (by omega)
  go_enter Try.func16, Try.ntmps16
  go_wp2
  go_ret
  exact ⟨rfl, rfl⟩
theorem rnew_bad (t : Int) (w : World) (h : t < 0 ∨ 2147483647 < t) : Calls Try.prog 16 #[.int .i64 t] w fun e w' => e = .returned (.int .i64 5) ∧ w' = w := by
  by_cases h1 : t < 0
  · clear h
    go_enter Try.func16, Try.ntmps16
    go_wp2
    go_ret
    exact ⟨rfl, rfl⟩
  · have h2 : (2147483647 : Int) < t := by omega
    clear h
    go_enter Try.func16, Try.ntmps16
    go_wp2
    go_ret
    exact ⟨rfl, rfl⟩
/-- The document's answer to a put. -/
def rput (tot at_ n : Int) : Int := if at_ < 0 ∨ tot < at_ then 2 else if tot - at_ < n then 5 else 0
theorem rput_any (tot : Nat) (at_ n : Int) (w : World) (ht : tot ≤ 2147483647) : Calls Try.prog 18 #[.int .i64 tot, .int .i64 at_, .int .i64 n] w fun e w' => e = .returned (.int .i64 (rput tot at_ n)) ∧ w' = w := by
  unfold rput
  by_cases h1 : at_ < 0
  · rw [if_pos (.inl h1)]
    have hd : decide (at_ < 0) = true := decide_eq_true h1
    go_enter Try.func18, Try.ntmps18
    go_wp2
    go_ret
    exact ⟨rfl, rfl⟩
  · have hd : decide (at_ < 0) = false := decide_eq_false h1
    by_cases h2 : (tot : Int) < at_
    · rw [if_pos (.inr h2)]
      have hd2 : decide ((tot : Int) < at_) = true := decide_eq_true h2
      go_enter Try.func18, Try.ntmps18
      go_wp2
      go_ret
      exact ⟨rfl, rfl⟩
    · have hd2 : decide ((tot : Int) < at_) = false := decide_eq_false h2
      have i1 : IntKind.i64.wrap ((tot : Int) - at_) = (tot : Int) - at_ := IntWalk.i64_in _ (by omega)
      rw [if_neg (by omega)]
      by_cases h3 : (tot : Int) - at_ < n
      · rw [if_pos h3]
        have hd3 : decide ((tot : Int) - at_ < n) = true := decide_eq_true h3
        go_enter Try.func18, Try.ntmps18
        go_wp2
        go_ret
        exact ⟨rfl, rfl⟩
      · rw [if_neg h3]
        have hd3 : decide ((tot : Int) - at_ < n) = false := decide_eq_false h3
        go_enter Try.func18, Try.ntmps18
        go_wp2
        go_ret
        exact ⟨rfl, rfl⟩
end Go.Proofs.Ytimeacigbacadaa
