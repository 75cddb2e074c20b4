/-
  Walks of layer 9: digits with zeros ahead, in the program and in the reference; may a number be; digits' number, by definition.
-/
import Derived.Test.YtkolfecjlbnfkaaDoorPad2
namespace Go.Proofs.YtkolfecjlbnfkaaDoor
open Go.RowKit

def PadEnd (n d : Int) (w : World) (e : Ending) (w' : World) : Prop := e = .returned (.tuple #[.string (mkS (padV n d).1), .int .i64 (padV n d).2]) ∧ ∃ q, w' = w.drewN q

theorem padV_bad {n d : Int} (h : n < 0 ∨ d < 1 ∨ 20 < d ∨ d < ((decL n.toNat).length : Int)) : padV n d = ([], 2) := by unfold padV; rw [if_pos h]
theorem padV_ok {N : Nat} {d : Int} (h1 : 1 ≤ d) (h2 : d ≤ 20) (h3 : ((decL N).length : Int) ≤ d) : padV N d = (padL N d.toNat, 0) := by unfold padV; rw [if_neg (by simp; omega)]; simp

set_option maxRecDepth 8000 in
set_option maxHeartbeats 2000000 in
theorem pad_any (n d : Int) (w : World) (hn : n < 9223372036854775808) (hn0 : -9223372036854775808 ≤ n) (hd0 : -9223372036854775808 ≤ d) (hd1 : d ≤ 9223372036854775807) :
    Calls Tryd.prog 15 #[.int .i64 n, .int .i64 d] w (PadEnd n d w) := by
  obtain ⟨V, hV⟩ : ∃ V, V = padV n d := ⟨_, rfl⟩
  unfold PadEnd
  rw [← hV]
  have HV := Lib.hid hV
  clear hV
  by_cases h1 : n < 0
  · have HE := Lib.hid (show V = ([], 2) by rw [HV.out]; exact padV_bad (.inl h1))
    clear hn hn0 hd0 hd1
    go_enter Tryd.func15, Tryd.ntmps15
    go_wp2
    go_ret2
    exact ⟨by rw [HE.out]; rfl, 0, rfl⟩
  have h1d : decide (n < 0) = false := by simpa using h1
  by_cases h2 : d < 1
  · have HE := Lib.hid (show V = ([], 2) by rw [HV.out]; exact padV_bad (.inr (.inl h2)))
    clear hn hn0 hd0 hd1 h1
    go_enter Tryd.func15, Tryd.ntmps15
    go_wp2
    go_ret2
    exact ⟨by rw [HE.out]; rfl, 0, rfl⟩
  have h2d : decide (d < 1) = false := by simpa using h2
  by_cases h3 : 20 < d
  · have HE := Lib.hid (show V = ([], 2) by rw [HV.out]; exact padV_bad (.inr (.inr (.inl h3))))
    clear hn hn0 hd0 hd1 h1 h2
    go_enter Tryd.func15, Tryd.ntmps15
    go_wp2
    go_ret2
    exact ⟨by rw [HE.out]; rfl, 0, rfl⟩
  have h3d : decide (20 < d) = false := by simpa using h3
  obtain ⟨N, rfl⟩ := Int.eq_ofNat_of_zero_le (show 0 ≤ n by omega)
  have h2' : 1 ≤ d := by omega
  have h3' : d ≤ 20 := by omega
  have HT := Lib.hid (fun W => text_any N (by omega) W)
  unfold TextEnd at HT
  have hsz : (mkS (decL N)).size = (decL N).length := mkS_size _
  have hl1 := (decL_spec N).2.2
  have hconv : IntKind.u64.wrap (N : Int) = (N : Int) := IntWalk.u64_in _ (by omega)
  clear hn hn0 hd0 hd1 h1 h2 h3
  by_cases h4 : d < ((decL N).length : Int)
  · have HE := Lib.hid (show V = ([], 2) by rw [HV.out]; exact padV_bad (.inr (.inr (.inr (by simpa using h4)))))
    generalize (decL N).length = len at *
    generalize mkS (decL N) = T at *
    go_enter Tryd.func15, Tryd.ntmps15
    go_wp2_with (go_at_call 24; refine (HT.out _).mono ?_; rintro e w' ⟨rfl, q, rfl⟩)
    go_ret2
    exact ⟨by rw [HE.out]; rfl, q, rfl⟩
  · have h4d : decide (d < ((decL N).length : Int)) = false := by simpa using h4
    obtain ⟨k, hk⟩ := Int.eq_ofNat_of_zero_le (show 0 ≤ d - ((decL N).length : Int) by omega)
    have HR := Lib.hid (fun W => repeat_any k (by omega) W)
    have hzz : (mkS (List.replicate k 48)).size = k := by rw [mkS_size, List.length_replicate]
    have hk19 : k ≤ 19 := by omega
    have hl20 : (decL N).length ≤ 20 := by omega
    have HE := Lib.hid (show V = (bl (mkS (List.replicate k 48) ++ mkS (decL N)), 0) by
      rw [HV.out, padV_ok h2' h3' (by omega), mkS_app, bl_mkS]
      unfold padL
      rw [show d.toNat - (decL N).length = k from by omega])
    clear h4
    generalize (decL N).length = len at *
    generalize mkS (decL N) = T at *
    generalize mkS (List.replicate k 48) = Z at *
    go_enter Tryd.func15, Tryd.ntmps15
    go_wp2_with (first
      | (go_at_call 24; refine (HT.out _).mono ?_; rintro e w' ⟨rfl, q, rfl⟩)
      | (go_at_call 27; refine (HR.out _).mono ?_; rintro e w' ⟨rfl, rfl⟩))
    go_ret2
    exact ⟨by rw [HE.out]; rfl, q, rfl⟩

set_option maxRecDepth 8000 in
set_option maxHeartbeats 2000000 in
theorem rpad_any (n d : Int) (w : World) (hn : n < 9223372036854775808) (hn0 : -9223372036854775808 ≤ n) (hd0 : -9223372036854775808 ≤ d) (hd1 : d ≤ 9223372036854775807) :
    Calls Tryd.prog 16 #[.int .i64 n, .int .i64 d] w (PadEnd n d w) := by
  obtain ⟨V, hV⟩ : ∃ V, V = padV n d := ⟨_, rfl⟩
  unfold PadEnd
  rw [← hV]
  have HV := Lib.hid hV
  clear hV
  by_cases h1 : n < 0
  · have HE := Lib.hid (show V = ([], 2) by rw [HV.out]; exact padV_bad (.inl h1))
    clear hn hn0 hd0 hd1
    go_enter Tryd.func16, Tryd.ntmps16
    go_wp2
    go_ret2
    exact ⟨by rw [HE.out]; rfl, 0, rfl⟩
  have h1d : decide (n < 0) = false := by simpa using h1
  by_cases h2 : d < 1
  · have HE := Lib.hid (show V = ([], 2) by rw [HV.out]; exact padV_bad (.inr (.inl h2)))
    clear hn hn0 hd0 hd1 h1
    go_enter Tryd.func16, Tryd.ntmps16
    go_wp2
    go_ret2
    exact ⟨by rw [HE.out]; rfl, 0, rfl⟩
  have h2d : decide (d < 1) = false := by simpa using h2
  by_cases h3 : 20 < d
  · have HE := Lib.hid (show V = ([], 2) by rw [HV.out]; exact padV_bad (.inr (.inr (.inl h3))))
    clear hn hn0 hd0 hd1 h1 h2
    go_enter Tryd.func16, Tryd.ntmps16
    go_wp2
    go_ret2
    exact ⟨by rw [HE.out]; rfl, 0, rfl⟩
  have h3d : decide (20 < d) = false := by simpa using h3
  obtain ⟨N, rfl⟩ := Int.eq_ofNat_of_zero_le (show 0 ≤ n by omega)
  have h2' : 1 ≤ d := by omega
  have h3' : d ≤ 20 := by omega
  have HT := Lib.hid (fun W => rtext_any N d W (by omega) h2' h3')
  have hsz : (mkS (padL N d.toNat)).size = (padL N d.toNat).length := mkS_size _
  have hl1 := (decL_spec N).2.2
  clear hn hn0 hd0 hd1 h1 h2 h3
  by_cases h4 : d < ((decL N).length : Int)
  · have HE := Lib.hid (show V = ([], 2) by rw [HV.out]; exact padV_bad (.inr (.inr (.inr (by simpa using h4)))))
    have h5 : d < ((padL N d.toNat).length : Int) := by rw [padL_of_ge (by omega)]; exact h4
    generalize (padL N d.toNat).length = len at *
    generalize mkS (padL N d.toNat) = T at *
    clear h4
    go_enter Tryd.func16, Tryd.ntmps16
    go_wp2_with (go_at_call 26; refine (HT.out _).mono ?_; rintro e w' ⟨rfl, rfl⟩)
    go_ret2
    exact ⟨by rw [HE.out]; rfl, 0, rfl⟩
  · have h5 : decide (d < ((padL N d.toNat).length : Int)) = false := by rw [padL_len (by omega)]; simp; omega
    have HE := Lib.hid (show V = (bl (mkS (padL N d.toNat)), 0) by rw [HV.out, padV_ok h2' h3' (by omega), bl_mkS])
    generalize (padL N d.toNat).length = len at *
    generalize mkS (padL N d.toNat) = T at *
    clear h4
    go_enter Tryd.func16, Tryd.ntmps16
    go_wp2_with (go_at_call 26; refine (HT.out _).mono ?_; rintro e w' ⟨rfl, rfl⟩)
    go_ret2
    exact ⟨by rw [HE.out]; rfl, 0, rfl⟩

set_option maxHeartbeats 4000000 in
theorem rcheck_any (k n : Int) (s : ByteArray) (a : Option Addr) (m c : Nat) (w : World) (hm : (m : Int) ≤ 9223372036854775807) :
    Calls Tryd.prog 18 #[.agg #[.int .i64 k, .int .i64 n, .string s, .slice a m c]] w fun e w' => e = .returned (.int .i64 (checkV k n (bareV s m))) ∧ Below w.heap.size w w' := by
  obtain ⟨V, hV⟩ : ∃ V, V = checkV k n (bareV s m) := ⟨_, rfl⟩
  rw [← hV]
  unfold checkV at hV
  have HB := Lib.hid (belowA w (.cells #[.int .i64 k, .int .i64 n, .string s, .slice a m c] 25))
  by_cases h3 : s.toList = []
  · have h3e : s.toList.isEmpty = true := by rw [h3]; rfl
    by_cases h4 : m = 0
    · have hb : bareV s m = true := by unfold bareV; rw [← toL, h3, h4]; rfl
      subst h4
      rw [hb] at hV
      by_cases hk2 : k = 2
      · subst hk2
        by_cases h5 : -2147483647 ≤ n
        · by_cases h6 : n ≤ 2147483647
          · have HV := Lib.hid (show V = 0 by rw [hV, if_pos]; exact ⟨rfl, .inl ⟨rfl, h5, h6⟩⟩)
            clear hV
            go_enter Tryd.func18, Tryd.ntmps18
            go_wp2
            go_ret
            exact ⟨ret_int HV.out.symm, HB.out⟩
          · have HV := Lib.hid (show V = 2 by rw [hV, if_neg]; rintro ⟨-, h | h⟩ <;> omega)
            have h6d : decide (n ≤ 2147483647) = false := by simpa using h6
            clear hV h6
            go_enter Tryd.func18, Tryd.ntmps18
            go_wp2
            go_ret
            exact ⟨ret_int HV.out.symm, HB.out⟩
        · have HV := Lib.hid (show V = 2 by rw [hV, if_neg]; rintro ⟨-, h | h⟩ <;> omega)
          have h5d : decide (-2147483647 ≤ n) = false := by simpa using h5
          clear hV h5
          go_enter Tryd.func18, Tryd.ntmps18
          go_wp2
          go_ret
          exact ⟨ret_int HV.out.symm, HB.out⟩
      · have hk2d : (k == 2) = false := by rw [beq_eq_false_iff_ne]; exact hk2
        by_cases hk3 : k = 3
        · subst hk3
          by_cases h5 : -2147483647000000 ≤ n
          · by_cases h6 : n ≤ 2147483647000000
            · have HV := Lib.hid (show V = 0 by rw [hV, if_pos]; exact ⟨rfl, .inr ⟨rfl, h5, h6⟩⟩)
              clear hV hk2d
              go_enter Tryd.func18, Tryd.ntmps18
              go_wp2
              go_ret
              exact ⟨ret_int HV.out.symm, HB.out⟩
            · have HV := Lib.hid (show V = 2 by rw [hV, if_neg]; rintro ⟨-, h | h⟩ <;> omega)
              have h6d : decide (n ≤ 2147483647000000) = false := by simpa using h6
              clear hV h6 hk2d
              go_enter Tryd.func18, Tryd.ntmps18
              go_wp2
              go_ret
              exact ⟨ret_int HV.out.symm, HB.out⟩
          · have HV := Lib.hid (show V = 2 by rw [hV, if_neg]; rintro ⟨-, h | h⟩ <;> omega)
            have h5d : decide (-2147483647000000 ≤ n) = false := by simpa using h5
            clear hV h5 hk2d
            go_enter Tryd.func18, Tryd.ntmps18
            go_wp2
            go_ret
            exact ⟨ret_int HV.out.symm, HB.out⟩
        · have hk3d : (k == 3) = false := by rw [beq_eq_false_iff_ne]; exact hk3
          have HV := Lib.hid (show V = 2 by rw [hV, if_neg]; rintro ⟨-, h | h⟩ <;> omega)
          clear hV hk2 hk3
          go_enter Tryd.func18, Tryd.ntmps18
          go_wp2
          go_ret
          exact ⟨ret_int HV.out.symm, HB.out⟩
    · have HV := Lib.hid (show V = 2 by rw [hV, if_neg]; rintro ⟨h, -⟩; unfold bareV at h; simp at h; exact h4 h.2)
      have h4d : ((m : Int) == 0) = false := by rw [beq_eq_false_iff_ne]; omega
      have h4e : ((m : Int) != 0) = true := by rw [bne_iff_ne]; omega
      clear hV h4
      go_enter Tryd.func18, Tryd.ntmps18
      go_wp2
      go_ret
      exact ⟨ret_int HV.out.symm, HB.out⟩
  · have HV := Lib.hid (show V = 2 by rw [hV, if_neg]; rintro ⟨h, -⟩; unfold bareV at h; rw [← toL] at h; simp at h; exact h3 h.1)
    have h3e : s.toList.isEmpty = false := by simpa using h3
    clear hV
    go_enter Tryd.func18, Tryd.ntmps18
    go_wp2
    go_ret
    exact ⟨ret_int HV.out.symm, HB.out⟩

set_option maxHeartbeats 2000000 in
theorem rdigits_any (s : ByteArray) (w : World) (hs : s.size ≤ 100000) :
    Calls Tryd.prog 11 #[.string s] w (DigEnd (digitsV (bl s)) w) := by
  obtain ⟨V, hV⟩ : ∃ V, V = digitsV (bl s) := ⟨_, rfl⟩
  rw [← hV]
  have HV := Lib.hid hV
  clear hV
  by_cases h0 : s.size = 0
  · have HE := Lib.hid (show V = (0, 11) by rw [HV.out, show bl s = [] from List.eq_nil_of_length_eq_zero (by rw [bl_len]; exact h0)]; exact digitsV_nil)
    go_enter Tryd.func11, Tryd.ntmps11
    go_wp2
    go_ret2
    exact ⟨by rw [HE.out]; rfl, Below.refl _ _⟩
  have HNE := Lib.hid (show bl s ≠ [] by intro e; have := congrArg List.length e; rw [bl_len] at this; exact h0 this)
  have h0d : ((s.size : Int) == 0) = false := by rw [beq_eq_false_iff_ne]; omega
  have hgb := PlainAid.get_bt s
  clear h0
  go_enter Tryd.func11, Tryd.ntmps11
  go_wp2
  go_loop [4] (fun i => ∃ k : Nat, k ≤ s.size ∧ i = .int .i64 k ∧ Hid (((bl s).take k).all isDg = true)) (fun i => s.size - (intOf i).toNat)
  case atStart => exact ⟨0, by omega, rfl, Lib.hid rfl⟩
  case round =>
    obtain ⟨k, hk, rfl, HA⟩ := hrel
    by_cases hlt : k < s.size
    · have hx : (s[k].toNat : Int) = PlainAid.bt s k := hgb k hlt
      have HX := Lib.hid hx
      clear hx
      by_cases h1 : PlainAid.bt s k < 48
      · have HE := Lib.hid (show V = (0, 11) by rw [HV.out]; exact digitsV_form (all_false (bl_mem s k hlt) (by rw [isDg_no]; have := HX.out; omega)))
        go_wp2
        go_ret2
        exact ⟨by rw [HE.out]; rfl, Below.refl _ _⟩
      · have h1d : decide (PlainAid.bt s k < 48) = false := by simpa using h1
        by_cases h2 : 57 < PlainAid.bt s k
        · have HE := Lib.hid (show V = (0, 11) by rw [HV.out]; exact digitsV_form (all_false (bl_mem s k hlt) (by rw [isDg_no]; have := HX.out; omega)))
          clear h1
          go_wp2
          go_ret2
          exact ⟨by rw [HE.out]; rfl, Below.refl _ _⟩
        · have h2d : decide (57 < PlainAid.bt s k) = false := by simpa using h2
          have HA2 := Lib.hid (show ((bl s).take (k + 1)).all isDg = true by rw [bl_take s k hlt]; exact all_snoc _ _ HA.out (by rw [isDg_iff]; have := HX.out; omega))
          clear h1 h2
          go_wp2
          go_round
          case rel => exact ⟨k + 1, by omega, by go_num, HA2⟩
          case measure => simp [intOf]; omega
    · obtain rfl : k = s.size := by omega
      have HALL := Lib.hid (show (bl s).all isDg = true by have := HA.out; rwa [List.take_of_length_le (by rw [bl_len]; omega)] at this)
      go_wp2
      go_loop [5, 6] (fun n i => ∃ (k : Nat) (N : Int), k ≤ s.size ∧ i = .int .i64 k ∧ n = .int .i64 N ∧ 0 ≤ N ∧ N ≤ 2147483647 ∧ Hid (N = (valD ((bl s).take k) : Nat))) (fun _ i => s.size - (intOf i).toNat)
      case atStart => exact ⟨0, 0, by omega, rfl, rfl, by omega, by omega, Lib.hid rfl⟩
      case round =>
        obtain ⟨k, N, hk2, rfl, rfl, hN0, hN1, HN⟩ := hrel
        by_cases hlt2 : k < s.size
        · have hx : (s[k].toNat : Int) = PlainAid.bt s k := hgb k hlt2
          have hdg : isDg s[k] = true := List.all_eq_true.1 HALL.out _ (bl_mem s k hlt2)
          have hdv := dgV_int hdg
          have hd9 := dgV_le hdg
          have hb0 : 48 ≤ PlainAid.bt s k := by rw [← hx]; rw [isDg_iff] at hdg; omega
          have hb1 : PlainAid.bt s k ≤ 57 := by rw [← hx]; rw [isDg_iff] at hdg; omega
          have HS := Lib.hid (show 10 * N + PlainAid.bt s k - 48 = ((valD ((bl s).take (k + 1)) : Nat) : Int) by
            rw [bl_take s k hlt2, valD_snoc, HN.out, ← hx]; omega)
          have HTK := Lib.hid (show valD ((bl s).take (k + 1)) ≤ valD (bl s) by
            have := valD_append_ge ((bl s).take (k + 1)) ((bl s).drop (k + 1)); rwa [List.take_append_drop] at this)
          clear hx hdg hdv hd9
          by_cases hov : 2147483647 < 10 * N + PlainAid.bt s k - 48
          · have HE := Lib.hid (show V = (0, 5) by rw [HV.out]; exact digitsV_over HNE.out HALL.out (by have := HS.out; have := HTK.out; omega))
            go_wp2
            go_ret2
            exact ⟨by rw [HE.out]; rfl, Below.refl _ _⟩
          · have hovd : decide (2147483647 < 10 * N + PlainAid.bt s k - 48) = false := by simpa using hov
            have hov2 : 10 * N + PlainAid.bt s k - 48 ≤ 2147483647 := by omega
            clear hov
            go_wp2
            go_round
            case rel => exact ⟨k + 1, 10 * N + PlainAid.bt s k - 48, by omega, by go_num, rfl, by omega, hov2, HS⟩
            case measure => simp [intOf]; omega
        · obtain rfl : k = s.size := by omega
          have HE := Lib.hid (show V = (N, 0) by
            have h1 := HN.out
            rw [List.take_of_length_le (by rw [bl_len]; omega)] at h1
            rw [HV.out, digitsV_ok HNE.out HALL.out (by omega), h1])
          go_wp2
          go_ret2
          exact ⟨by rw [HE.out]; rfl, Below.refl _ _⟩
end Go.Proofs.YtkolfecjlbnfkaaDoor
