/-
  Walks of layer 16's reference: the first place that is not known; what is read; the marks.
-/
import Derived.Test.YtimeacigbacadaaPc1
import Derived.Test.YtimeacigbacadaaSetsPG
namespace Go.Proofs.Ytimeacigbacadaa
open Go.RowKit Go.Maps Go.Sort

/-- m is the first place from i on that f does not tell, or t. -/
def FirstIs (f : Nat → Option UInt8) (t i m : Nat) : Prop := (t ≤ i ∧ m = t) ∨ (i ≤ m ∧ m ≤ t ∧ (∀ j, i ≤ j → j < m → ∃ c, f j = some c) ∧ (m < t → f m = none))
theorem FirstIs.le {f : Nat → Option UInt8} {t i m : Nat} (h : FirstIs f t i m) : m ≤ t := by rcases h with h | h <;> omega
theorem FirstIs.lo {f : Nat → Option UInt8} {t i m : Nat} (h : FirstIs f t i m) (hi : i ≤ t) : i ≤ m := by rcases h with h | h <;> omega
theorem FirstIs.on {f : Nat → Option UInt8} {t i m : Nat} (h : FirstIs f t i m) {j : Nat} {c : UInt8} (hi : i < t) (hj : j ≤ m) (ht : j < t) (hc : f j = some c) : j + 1 ≤ m := by
  rcases h with h | ⟨h1, h2, h3, h4⟩
  · omega
  · by_cases e : j = m
    · subst e; rw [h4 ht] at hc; cases hc
    · omega
theorem FirstIs.off {f : Nat → Option UInt8} {t i m : Nat} (h : FirstIs f t i m) {j : Nat} (hi : i < t) (hj : j ≤ m) (hij : i ≤ j) (hc : f j = none) : j = m := by
  rcases h with h | ⟨h1, h2, h3, h4⟩
  · omega
  · by_cases e : j < m
    · obtain ⟨c, hc'⟩ := h3 j hij e
      rw [hc'] at hc; cases hc
    · omega
theorem FirstIs.some {f : Nat → Option UInt8} {t i m : Nat} (h : FirstIs f t i m) {j : Nat} (hi : i < t) (hij : i ≤ j) (hj : j < m) : ∃ c, f j = some c := by
  rcases h with h | ⟨h1, h2, h3, h4⟩
  · omega
  · exact h3 j hij hj
theorem FirstIs.none {f : Nat → Option UInt8} {t i m : Nat} (h : FirstIs f t i m) (hi : i < t) (hj : m < t) : f m = none := by
  rcases h with h | ⟨h1, h2, h3, h4⟩
  · omega
  · exact h4 hj

set_option maxHeartbeats 2000000 in
theorem rfirst_any (a : Option Addr) (n cap : Nat) (l : List Pc) (t : Nat) (x : Int) (i m : Nat) (w : World) (hr : PRow w a n cap l) (hp : ∀ p ∈ l, p.at_ ≤ 4000000000) (ht : t ≤ 4000000000) (hi : max 0 x = i) (hm : FirstIs (byteP l) t i m) :
    Calls Try.prog 23 #[.int .i64 t, .slice a n cap, .int .i64 x] w fun e w' => e = .returned (.int .i64 m) ∧ Below w.heap.size w w' := by
  have HB := Lib.hid (fun (W : World) (h : Below w.heap.size w W) (j : Nat) (hj : j ≤ 4000000000) => rbyte_any a n cap l j W (hr.mono h) hj hp)
  have HM := Lib.hid hm
  have hmt := hm.le
  have hml := hm.lo
  clear hr hp hm
  obtain ⟨HS, d0⟩ : Hid ((if decide (x < 0) = true then Value.int .i64 0 else Value.int .i64 x) = .int .i64 i) ∧ True := ⟨Lib.hid (by
    by_cases h0 : x < 0
    · rw [if_pos (decide_eq_true h0)]; congr 1; omega
    · rw [if_neg (by simpa using h0)]; congr 1; omega), trivial⟩
  clear hi
  obtain ⟨q, hq⟩ : ∃ q, q = decide (x < 0) := ⟨_, rfl⟩
  rw [← hq] at HS
  have e1 := hq.symm
  clear hq
  cases q
  all_goals
    go_enter Try.func23, Try.ntmps23
    go_wp2
    go_loopw [2] (fun vi wr => ∃ j : Nat, vi = .int .i64 j ∧ i ≤ j ∧ (i ≤ t → j ≤ m) ∧ Hid (Below w.heap.size w wr)) (fun vi _ => t - (intOf vi).toNat)
    case atStart => exact ⟨i, HS.out, Nat.le_refl _, hml, Lib.hid (Below.refl _ _)⟩
    case round =>
      obtain ⟨j, rfl, hij, hjm, HW⟩ := hrel
      by_cases hlt : j < t
      · have hjm2 := hjm (by omega)
        have HC := Lib.hid (HB.out wr HW.out j (by omega))
        obtain ⟨o, ho⟩ : ∃ o, o = byteP l j := ⟨_, rfl⟩
        cases o with
        | none =>
          have HE := Lib.hid (HM.out.off (by omega) hjm2 hij ho.symm)
          have HO := Lib.hid ho
          clear ho
          go_wp2_with fail
          refine HC.out.mono ?_
          rintro e w1 ⟨rfl, hb⟩
          rw [← HO.out]
          dsimp only [byteV]
          have HW1 := Lib.hid (HW.out.trans (hb.mono HW.out.size))
          clear hb
          go_wp2
          go_ret
          exact ⟨ret_int (by rw [HE.out]), HW1.out⟩
        | some c =>
          have hj1 := HM.out.on (by omega) hjm2 hlt ho.symm
          have HO := Lib.hid ho
          clear ho
          go_wp2_with fail
          refine HC.out.mono ?_
          rintro e w1 ⟨rfl, hb⟩
          rw [← HO.out]
          dsimp only [byteV]
          have HW1 := Lib.hid (HW.out.trans (hb.mono HW.out.size))
          clear hb
          go_wp2
          go_roundw
          case rel => exact ⟨j + 1, by go_num, by omega, fun _ => hj1, HW1⟩
          case measure => simp [intOf]; omega
      · have HE : Hid (t = m) := Lib.hid (by
          by_cases h : i ≤ t
          · have := hjm h; omega
          · rcases HM.out with h | h <;> omega)
        go_wp2
        go_ret
        exact ⟨ret_int (by rw [HE.out]), HW.out⟩
end Go.Proofs.Ytimeacigbacadaa
