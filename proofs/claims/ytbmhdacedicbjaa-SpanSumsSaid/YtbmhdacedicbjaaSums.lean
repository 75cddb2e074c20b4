/-
  Walks of layer 2: sums and products.
-/
import Derived.Test.YtbmhdacedicbjaaWorks2
import Derived.IntWalk
namespace Go.Proofs.Ytbmhdacedicbjaa
open Go.RowKit Go.Sort

/-- A sum, and an error. -/
def addGo : List Int → Int → Bool → Int × Int
  | [], n, over => if over then (0, 5) else (n, 0)
  | x :: l, n, over => if x < 0 then (0, 2) else if over = true ∨ 2147483647 - n < x then addGo l n true else addGo l (n + x) false
def hasNeg (l : List Int) : Bool := l.any fun x => decide (x < 0)
def addRef : List Int → Int → Int × Int
  | [], n => (n, 0)
  | x :: l, n => if 2147483647 - n < x then (0, 5) else addRef l (n + x)

theorem addGo_neg : ∀ (l : List Int) (n : Int) (o : Bool), hasNeg l = true → addGo l n o = (0, 2)
  | [], _, _, h => by simp [hasNeg] at h
  | x :: l, n, o, h => by
    simp only [addGo]
    by_cases hx : x < 0
    · rw [if_pos hx]
    · rw [if_neg hx]
      have hl : hasNeg l = true := by simpa [hasNeg, hx] using h
      split
      · exact addGo_neg l _ _ hl
      · exact addGo_neg l _ _ hl
theorem addGo_over : ∀ (l : List Int) (n : Int), hasNeg l = false → addGo l n true = (0, 5)
  | [], _, _ => rfl
  | x :: l, n, h => by
    have hx : ¬ x < 0 := by intro hx; simp [hasNeg, hx] at h
    have hl : hasNeg l = false := by simpa [hasNeg, hx] using h
    simp only [addGo, if_neg hx, true_or, if_true]
    exact addGo_over l n hl
theorem addGo_ref : ∀ (l : List Int) (n : Int), hasNeg l = false → addGo l n false = addRef l n
  | [], _, _ => rfl
  | x :: l, n, h => by
    have hx : ¬ x < 0 := by intro hx; simp [hasNeg, hx] at h
    have hl : hasNeg l = false := by simpa [hasNeg, hx] using h
    simp only [addGo, addRef, if_neg hx, Bool.false_eq_true, false_or]
    split
    · exact addGo_over l n hl
    · exact addGo_ref l _ hl

/-- What both tell. -/
def sumV (l : List Int) : Int × Int := addGo l 0 false

set_option maxHeartbeats 1000000 in
theorem add_any (a : Option Addr) (n cap : Nat) (l : List Int) (w : World) (hr : Row w 1 a n cap (l.map (Value.int .i64))) (hw : ∀ x ∈ l, -9223372036854775808 ≤ x ∧ x ≤ 9223372036854775807) :
    Calls Try.prog 43 #[.slice a n cap] w fun e w' => e = .returned (.tuple #[.int .i64 (sumV l).1, .int .i64 (sumV l).2]) ∧ w = w' := by
  have hm := hr.i64
  have hl := hr.len1
  obtain ⟨V, hV⟩ : ∃ V, V = sumV l := ⟨_, rfl⟩
  rw [← hV]
  have HV := Lib.hid (show V = addGo (l.drop 0) 0 false from hV)
  have HL := Lib.hid hl
  have HR := Lib.hid hr
  have HWF := Lib.hid hw
  clear hV hl hr hw
  go_enter Try.func43, Try.ntmps43
  go_wp2
  go_loop [4, 5, 10] (fun s o i => ∃ (k : Nat) (N : Int) (ov : Bool), k ≤ n ∧ i = .int .i64 k ∧ s = .int .i64 N ∧ o = .bool ov ∧ 0 ≤ N ∧ N ≤ 2147483647 ∧ Hid (V = addGo (l.drop k) N ov)) (fun _ _ i => n - (intOf i).toNat)
  case atStart => exact ⟨0, 0, false, by omega, rfl, rfl, rfl, by omega, by omega, HV⟩
  case round =>
    obtain ⟨k, N, ov, hk, rfl, rfl, rfl, hN0, hN1, HA⟩ := hrel
    by_cases hlt : k < n
    · obtain ⟨b, off, rfl, hblt, hc⟩ := HR.out.at 0 k hlt
      have hck := hc k hlt
      have hkl : k < l.length := by rw [HL.out]; exact hlt
      have hx := HWF.out (l.getD k 0) (by simp [List.getD, hkl])
      have hd : l.drop k = l.getD k 0 :: l.drop (k + 1) := by rw [List.drop_eq_getElem_cons hkl]; simp [List.getD, hkl]
      have ha := HA.out
      rw [hd, addGo] at ha
      generalize l.getD k 0 = x at *
      obtain ⟨hx0, hx1⟩ := hx
      clear hc hd
      by_cases hneg : x < 0
      · rw [if_pos hneg] at ha
        have HA2 := Lib.hid ha
        clear ha
        go_wp2
        go_ret2
        rw [HA2.out]
        exact ⟨rfl, rfl⟩
      · rw [if_neg hneg] at ha
        have hneg2 : decide (x < 0) = false := by simpa using hneg
        cases ov
        · by_cases hov : 2147483647 - N < x
          · rw [if_pos (.inr hov)] at ha
            have HA2 := Lib.hid ha
            clear ha
            go_wp2
            go_round
            case rel => exact ⟨k + 1, N, true, by omega, by go_num, rfl, rfl, hN0, hN1, HA2⟩
            case measure => simp [intOf]; omega
          · rw [if_neg (by simp; omega)] at ha
            have HA2 := Lib.hid ha
            clear ha
            go_wp2
            go_round
            case rel => exact ⟨k + 1, N + x, false, by omega, by go_num, rfl, rfl, by omega, by omega, HA2⟩
            case measure => simp [intOf]; omega
        · rw [if_pos (.inl rfl)] at ha
          have HA2 := Lib.hid ha
          clear ha
          go_wp2
          go_round
          case rel => exact ⟨k + 1, N, true, by omega, by go_num, rfl, rfl, hN0, hN1, HA2⟩
          case measure => simp [intOf]; omega
    · obtain rfl : k = n := by omega
      have ha := HA.out
      rw [show l.drop k = [] from by rw [← HL.out]; exact List.drop_length, addGo] at ha
      have HA2 := Lib.hid ha
      clear ha
      cases ov
      · go_wp2
        go_ret2
        rw [HA2.out]
        exact ⟨rfl, rfl⟩
      · go_wp2
        go_ret2
        rw [HA2.out]
        exact ⟨rfl, rfl⟩

set_option maxHeartbeats 1000000 in
theorem radd_any (a : Option Addr) (n cap : Nat) (l : List Int) (w : World) (hr : Row w 1 a n cap (l.map (Value.int .i64))) (hw : ∀ x ∈ l, -9223372036854775808 ≤ x ∧ x ≤ 9223372036854775807) :
    Calls Try.prog 44 #[.slice a n cap] w fun e w' => e = .returned (.tuple #[.int .i64 (sumV l).1, .int .i64 (sumV l).2]) ∧ w = w' := by
  have hm := hr.i64
  have hl := hr.len1
  obtain ⟨V, hV⟩ : ∃ V, V = sumV l := ⟨_, rfl⟩
  rw [← hV]
  have HV := Lib.hid hV
  have HL := Lib.hid hl
  have HR := Lib.hid hr
  have HWF := Lib.hid hw
  clear hV hl hr hw
  go_enter Try.func44, Try.ntmps44
  go_wp2
  go_loop [4] (fun i => ∃ k : Nat, k ≤ n ∧ i = .int .i64 k ∧ Hid (hasNeg (l.take k) = false)) (fun i => n - (intOf i).toNat)
  case atStart => exact ⟨0, by omega, rfl, Lib.hid rfl⟩
  case round =>
    obtain ⟨k, hk, rfl, HN⟩ := hrel
    by_cases hlt : k < n
    · obtain ⟨b, off, rfl, hblt, hc⟩ := HR.out.at 0 k hlt
      have hck := hc k hlt
      have hkl : k < l.length := by rw [HL.out]; exact hlt
      have hmem : l.getD k 0 ∈ l := by simp [List.getD, hkl]
      have HS := Lib.hid (show hasNeg (l.take (k + 1)) = (hasNeg (l.take k) || decide (l.getD k 0 < 0)) from by unfold hasNeg; rw [take_snoc 0 l k hkl, List.any_append]; simp)
      have HMEM := Lib.hid hmem
      obtain ⟨x, hx⟩ : ∃ x, x = l.getD k 0 := ⟨_, rfl⟩
      rw [← hx] at hck
      have HX := Lib.hid hx
      clear hc hx hmem
      by_cases hneg : x < 0
      · have hall : hasNeg l = true := by
          unfold hasNeg; rw [List.any_eq_true]
          exact ⟨_, HMEM.out, by rw [← HX.out]; simpa using hneg⟩
        have HA := Lib.hid (addGo_neg l 0 false hall)
        clear hall
        go_wp2
        go_ret2
        rw [HV.out, sumV, HA.out]
        exact ⟨rfl, rfl⟩
      · go_wp2
        go_round
        case rel => exact ⟨k + 1, by omega, by go_num, Lib.hid (by rw [HS.out, HN.out, ← HX.out]; simp; omega)⟩
        case measure => simp [intOf]; omega
    · obtain rfl : k = n := by omega
      have hnn := HN.out
      rw [show l.take k = l from by rw [← HL.out]; exact List.take_length] at hnn
      have HA := Lib.hid (show V = addRef (l.drop 0) 0 from by rw [HV.out, sumV, addGo_ref l 0 hnn]; rfl)
      have HNN := Lib.hid hnn
      clear hnn
      go_wp2
      go_loop [5, 6] (fun s i => ∃ (j : Nat) (N : Int), j ≤ k ∧ i = .int .i64 j ∧ s = .int .i64 N ∧ 0 ≤ N ∧ N ≤ 2147483647 ∧ Hid (V = addRef (l.drop j) N)) (fun _ i => k - (intOf i).toNat)
      case atStart => exact ⟨0, 0, by omega, rfl, rfl, by omega, by omega, HA⟩
      case round =>
        obtain ⟨j, N, hj, rfl, rfl, hN0, hN1, HB⟩ := hrel
        by_cases hjl : j < k
        · obtain ⟨b, off, rfl, hblt, hc⟩ := HR.out.at 0 j hjl
          have hck := hc j hjl
          have hkl : j < l.length := by rw [HL.out]; exact hjl
          have hx := HWF.out (l.getD j 0) (by simp [List.getD, hkl])
          have hx2 : ¬ l.getD j 0 < 0 := fun h => by
            have := HNN.out
            unfold hasNeg at this
            rw [List.any_eq_false] at this
            exact this (l.getD j 0) (by simp [List.getD, hkl]) (by simpa using h)
          have hd : l.drop j = l.getD j 0 :: l.drop (j + 1) := by rw [List.drop_eq_getElem_cons hkl]; simp [List.getD, hkl]
          have ha := HB.out
          rw [hd, addRef] at ha
          generalize l.getD j 0 = x at *
          obtain ⟨hx0, hx1⟩ := hx
          have hx3 : 0 ≤ x := by omega
          clear hc hd
          by_cases hov : 2147483647 - N < x
          · rw [if_pos hov] at ha
            have HA2 := Lib.hid ha
            clear ha
            go_wp2
            go_ret2
            rw [HA2.out]
            exact ⟨rfl, rfl⟩
          · rw [if_neg hov] at ha
            have HA2 := Lib.hid ha
            clear ha
            go_wp2
            go_round
            case rel => exact ⟨j + 1, N + x, by omega, by go_num, rfl, by omega, by omega, HA2⟩
            case measure => simp [intOf]; omega
        · obtain rfl : j = k := by omega
          have ha := HB.out
          rw [show l.drop j = [] from by rw [← HL.out]; exact List.drop_length, addRef] at ha
          have HA2 := Lib.hid ha
          clear ha
          go_wp2
          go_ret2
          rw [HA2.out]
          exact ⟨rfl, rfl⟩
end Go.Proofs.Ytbmhdacedicbjaa
