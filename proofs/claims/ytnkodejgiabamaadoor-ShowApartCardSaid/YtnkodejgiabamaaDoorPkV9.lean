/-
  Our texts Pad3 to Sv1, in one.
-/
import Derived.Test.YtnkodejgiabamaaDoorPkV8
import Derived.Deep.Cut
/-
  Walks of layer 9: digits with zeros ahead, in the program and in the reference; may a number be; digits' number, by definition.
-/
namespace Go.Proofs.YtnkodejgiabamaaDoor
open Go.RowKit

def PadEnd (n d : Int) (w : World) (e : Ending) (w' : World) : Prop := e = .returned (.tuple #[.string (mkS (padV n d).1), .int .i64 (padV n d).2]) ∧ ∃ q, w' = w.drewN q

theorem padV_bad {n d : Int} (h : n < 0 ∨ d < 1 ∨ 20 < d ∨ d < ((decL n.toNat).length : Int)) : padV n d = ([], 2) := by unfold padV; rw [if_pos h]
theorem padV_ok {N : Nat} {d : Int} (h1 : 1 ≤ d) (h2 : d ≤ 20) (h3 : ((decL N).length : Int) ≤ d) : padV N d = (padL N d.toNat, 0) := by unfold padV; rw [if_neg (by simp; omega)]; simp

set_option maxRecDepth 8000 in
set_option maxHeartbeats 2000000 in
theorem pad_any (n d : Int) (w : World) (hn : n < 9223372036854775808) (hn0 : -9223372036854775808 ≤ n) (hd0 : -9223372036854775808 ≤ d) (hd1 : d ≤ 9223372036854775807) :
    Calls Tryd.prog 57 #[.int .i64 n, .int .i64 d] w (PadEnd n d w) := by
  obtain ⟨V, hV⟩ : ∃ V, V = padV n d := ⟨_, rfl⟩
  unfold PadEnd
  rw [← hV]
  have HV := Lib.hid hV
  clear hV
  by_cases h1 : n < 0
  · have HE := Lib.hid (show V = ([], 2) by rw [HV.out]; exact padV_bad (.inl h1))
    clear hn hn0 hd0 hd1
    go_enter Tryd.func57, Tryd.ntmps57
    go_wp2
    go_ret2
    exact ⟨by rw [HE.out]; rfl, 0, rfl⟩
  have h1d : decide (n < 0) = false := by simpa using h1
  by_cases h2 : d < 1
  · have HE := Lib.hid (show V = ([], 2) by rw [HV.out]; exact padV_bad (.inr (.inl h2)))
    clear hn hn0 hd0 hd1 h1
    go_enter Tryd.func57, Tryd.ntmps57
    go_wp2
    go_ret2
    exact ⟨by rw [HE.out]; rfl, 0, rfl⟩
  have h2d : decide (d < 1) = false := by simpa using h2
  by_cases h3 : 20 < d
  · have HE := Lib.hid (show V = ([], 2) by rw [HV.out]; exact padV_bad (.inr (.inr (.inl h3))))
    clear hn hn0 hd0 hd1 h1 h2
    go_enter Tryd.func57, Tryd.ntmps57
    go_wp2
    go_ret2
    exact ⟨by rw [HE.out]; rfl, 0, rfl⟩
  have h3d : decide (20 < d) = false := by simpa using h3
  obtain ⟨N, rfl⟩ := Int.eq_ofNat_of_zero_le (show 0 ≤ n by omega)
  have h2' : 1 ≤ d := by omega
  have h3' : d ≤ 20 := by omega
  have HT := Lib.hid (fun W => text_any N (by omega) W)
  unfold TextEnd at HT
  have hsz : (mkS (decL N)).size = (decL N).length := mkS_size _
  have hl1 := (decL_spec N).2.2
  have hconv : IntKind.u64.wrap (N : Int) = (N : Int) := IntWalk.u64_in _ (by omega)
  clear hn hn0 hd0 hd1 h1 h2 h3
  by_cases h4 : d < ((decL N).length : Int)
  · have HE := Lib.hid (show V = ([], 2) by rw [HV.out]; exact padV_bad (.inr (.inr (.inr (by simpa using h4)))))
    generalize (decL N).length = len at *
    generalize mkS (decL N) = T at *
    go_enter Tryd.func57, Tryd.ntmps57
    go_wp2_with (go_at_call 56; refine (HT.out _).mono ?_; rintro e w' ⟨rfl, q, rfl⟩)
    go_ret2
    exact ⟨by rw [HE.out]; rfl, q, rfl⟩
  · have h4d : decide (d < ((decL N).length : Int)) = false := by simpa using h4
    obtain ⟨k, hk⟩ := Int.eq_ofNat_of_zero_le (show 0 ≤ d - ((decL N).length : Int) by omega)
    have HR := Lib.hid (fun W => repeat_any k (by omega) W)
    have hzz : (mkS (List.replicate k 48)).size = k := by rw [mkS_size, List.length_replicate]
    have hk19 : k ≤ 19 := by omega
    have hl20 : (decL N).length ≤ 20 := by omega
    have HE := Lib.hid (show V = (bl (mkS (List.replicate k 48) ++ mkS (decL N)), 0) by
      rw [HV.out, padV_ok h2' h3' (by omega), mkS_app, bl_mkS]
      unfold padL
      rw [show d.toNat - (decL N).length = k from by omega])
    clear h4
    generalize (decL N).length = len at *
    generalize mkS (decL N) = T at *
    generalize mkS (List.replicate k 48) = Z at *
    go_enter Tryd.func57, Tryd.ntmps57
    go_wp2_with (first
      | (go_at_call 56; refine (HT.out _).mono ?_; rintro e w' ⟨rfl, q, rfl⟩)
      | (go_at_call 69; refine (HR.out _).mono ?_; rintro e w' ⟨rfl, rfl⟩))
    go_ret2
    exact ⟨by rw [HE.out]; rfl, q, rfl⟩

set_option maxHeartbeats 4000000 in
theorem rcheck_any (k n : Int) (s : ByteArray) (a : Option Addr) (m c : Nat) (w : World) (hm : (m : Int) ≤ 9223372036854775807) :
    Calls Tryd.prog 62 #[.agg #[.int .i64 k, .int .i64 n, .string s, .slice a m c]] w fun e w' => e = .returned (.int .i64 (checkV k n (bareV s m))) ∧ Below w.heap.size w w' := by
  obtain ⟨V, hV⟩ : ∃ V, V = checkV k n (bareV s m) := ⟨_, rfl⟩
  rw [← hV]
  unfold checkV at hV
  have HB := Lib.hid (belowA w (.cells #[.int .i64 k, .int .i64 n, .string s, .slice a m c] 24))
  by_cases h3 : s.toList = []
  · have h3e : s.toList.isEmpty = true := by rw [h3]; rfl
    by_cases h4 : m = 0
    · have hb : bareV s m = true := by unfold bareV; rw [← toL, h3, h4]; rfl
      subst h4
      rw [hb] at hV
      by_cases hk2 : k = 2
      · subst hk2
        by_cases h5 : -2147483647 ≤ n
        · by_cases h6 : n ≤ 2147483647
          · have HV := Lib.hid (show V = 0 by rw [hV, if_pos]; exact ⟨rfl, .inl ⟨rfl, h5, h6⟩⟩)
            clear hV
            go_enter Tryd.func62, Tryd.ntmps62
            go_wp2
            go_ret
            exact ⟨ret_int HV.out.symm, HB.out⟩
          · have HV := Lib.hid (show V = 2 by rw [hV, if_neg]; rintro ⟨-, h | h⟩ <;> omega)
            have h6d : decide (n ≤ 2147483647) = false := by simpa using h6
            clear hV h6
            go_enter Tryd.func62, Tryd.ntmps62
            go_wp2
            go_ret
            exact ⟨ret_int HV.out.symm, HB.out⟩
        · have HV := Lib.hid (show V = 2 by rw [hV, if_neg]; rintro ⟨-, h | h⟩ <;> omega)
          have h5d : decide (-2147483647 ≤ n) = false := by simpa using h5
          clear hV h5
          go_enter Tryd.func62, Tryd.ntmps62
          go_wp2
          go_ret
          exact ⟨ret_int HV.out.symm, HB.out⟩
      · have hk2d : (k == 2) = false := by rw [beq_eq_false_iff_ne]; exact hk2
        by_cases hk3 : k = 3
        · subst hk3
          by_cases h5 : -2147483647000000 ≤ n
          · by_cases h6 : n ≤ 2147483647000000
            · have HV := Lib.hid (show V = 0 by rw [hV, if_pos]; exact ⟨rfl, .inr ⟨rfl, h5, h6⟩⟩)
              clear hV hk2d
              go_enter Tryd.func62, Tryd.ntmps62
              go_wp2
              go_ret
              exact ⟨ret_int HV.out.symm, HB.out⟩
            · have HV := Lib.hid (show V = 2 by rw [hV, if_neg]; rintro ⟨-, h | h⟩ <;> omega)
              have h6d : decide (n ≤ 2147483647000000) = false := by simpa using h6
              clear hV h6 hk2d
              go_enter Tryd.func62, Tryd.ntmps62
              go_wp2
              go_ret
              exact ⟨ret_int HV.out.symm, HB.out⟩
          · have HV := Lib.hid (show V = 2 by rw [hV, if_neg]; rintro ⟨-, h | h⟩ <;> omega)
            have h5d : decide (-2147483647000000 ≤ n) = false := by simpa using h5
            clear hV h5 hk2d
            go_enter Tryd.func62, Tryd.ntmps62
            go_wp2
            go_ret
            exact ⟨ret_int HV.out.symm, HB.out⟩
        · have hk3d : (k == 3) = false := by rw [beq_eq_false_iff_ne]; exact hk3
          have HV := Lib.hid (show V = 2 by rw [hV, if_neg]; rintro ⟨-, h | h⟩ <;> omega)
          clear hV hk2 hk3
          go_enter Tryd.func62, Tryd.ntmps62
          go_wp2
          go_ret
          exact ⟨ret_int HV.out.symm, HB.out⟩
    · have HV := Lib.hid (show V = 2 by rw [hV, if_neg]; rintro ⟨h, -⟩; unfold bareV at h; simp at h; exact h4 h.2)
      have h4d : ((m : Int) == 0) = false := by rw [beq_eq_false_iff_ne]; omega
      have h4e : ((m : Int) != 0) = true := by rw [bne_iff_ne]; omega
      clear hV h4
      go_enter Tryd.func62, Tryd.ntmps62
      go_wp2
      go_ret
      exact ⟨ret_int HV.out.symm, HB.out⟩
  · have HV := Lib.hid (show V = 2 by rw [hV, if_neg]; rintro ⟨h, -⟩; unfold bareV at h; rw [← toL] at h; simp at h; exact h3 h.1)
    have h3e : s.toList.isEmpty = false := by simpa using h3
    clear hV
    go_enter Tryd.func62, Tryd.ntmps62
    go_wp2
    go_ret
    exact ⟨ret_int HV.out.symm, HB.out⟩

end Go.Proofs.YtnkodejgiabamaaDoor
/-
  Walks of layer 9: the text of a number, in the program and in the reference.
-/
namespace Go.Proofs.YtnkodejgiabamaaDoor
open Go.RowKit

def PrintEnd (k n : Int) (bare : Bool) (w : World) (e : Ending) (w' : World) : Prop := e = .returned (.tuple #[.string (mkS (printV k n bare).1), .int .i64 (printV k n bare).2]) ∧ Below w.heap.size w w'

theorem printV_bad {k n : Int} {b : Bool} (h : checkV k n b = 2) : printV k n b = ([], 2) := by unfold printV; rw [if_neg (by omega)]
theorem printV_ok {k n : Int} {b : Bool} (h : checkV k n b = 0) : printV k n b = (signL n ++ absL k n.natAbs, 0) := by unfold printV; rw [if_pos h]
theorem checkV_is (k n : Int) (b : Bool) : checkV k n b = 0 ∨ checkV k n b = 2 := by unfold checkV; split <;> simp

theorem padV6 (A : Nat) : padV ((A % 1000000 : Nat) : Int) 6 = (padL (A % 1000000) 6, 0) := by
  have h := decL_len 5 (A % 1000000) (by omega)
  rw [padV_ok (by omega) (by omega) (by omega)]; rfl
theorem pad6_len (A : Nat) : (padL (A % 1000000) 6).length = 6 := padL_len (decL_len 5 (A % 1000000) (by omega))

set_option maxRecDepth 8000 in
set_option maxHeartbeats 4000000 in
theorem print_any (k n : Int) (s : ByteArray) (a : Option Addr) (m c : Nat) (w : World) (hm : (m : Int) ≤ 9223372036854775807) :
    Calls Tryd.prog 38 #[.agg #[.int .i64 k, .int .i64 n, .string s, .slice a m c]] w (PrintEnd k n (bareV s m) w) := by
  obtain ⟨V, hV⟩ : ∃ V, V = printV k n (bareV s m) := ⟨_, rfl⟩
  unfold PrintEnd
  rw [← hV]
  have HV := Lib.hid hV
  have HC := Lib.hid (fun W => check_any k n s a m c W hm)
  have HBX := Lib.hid (show (w.alloc (.cells #[.int .i64 k, .int .i64 n, .string s, .slice a m c] 24)).heap[w.heap.size]? = some (.cells #[.int .i64 k, .int .i64 n, .string s, .slice a m c] 24 (0, 0)) from heapA_new _ rfl)
  have HB0 := Lib.hid (belowA w (.cells #[.int .i64 k, .int .i64 n, .string s, .slice a m c] 24))
  clear hV hm
  rcases checkV_is k n (bareV s m) with hc | hc
  case inr =>
    have HE := Lib.hid (show V = ([], 2) by rw [HV.out]; exact printV_bad hc)
    rw [hc] at HC
    clear hc
    go_enter Tryd.func38, Tryd.ntmps38
    go_wp2_with (go_at_call 53; refine (HC.out _).mono ?_; rintro e w' ⟨rfl, hb⟩)
    go_ret2
    exact ⟨by rw [HE.out]; rfl, HB0.out.trans (hb.mono HB0.out.size)⟩
  have HE := Lib.hid (show V = (signL n ++ absL k n.natAbs, 0) by rw [HV.out]; exact printV_ok hc)
  obtain ⟨-, hkn⟩ := checkV_cases hc
  rw [hc] at HC
  clear hc
  obtain ⟨A, hA⟩ : ∃ A : Nat, A = n.natAbs := ⟨_, rfl⟩
  rw [← hA] at HE
  have hAb : A ≤ 2147483647000000 := by omega
  have HT := Lib.hid (fun W => text_any A (by omega) W)
  have HT2 := Lib.hid (fun W => text_any (A / 1000000) (by omega) W)
  unfold TextEnd at HT HT2
  have hconv : IntKind.u64.wrap (A : Int) = (A : Int) := IntWalk.u64_in _ (by omega)
  have hconv2 : IntKind.u64.wrap ((A / 1000000 : Nat) : Int) = ((A / 1000000 : Nat) : Int) := IntWalk.u64_in _ (by omega)
  have hTs : (mkS (decL A)).size ≤ 20 := by rw [mkS_size]; exact decL_len 19 A (by omega)
  have hTs2 : (mkS (decL (A / 1000000))).size ≤ 20 := by rw [mkS_size]; exact decL_len 19 _ (by omega)
  rcases hkn with ⟨rfl, hn1, hn2⟩ | ⟨rfl, hn1, hn2⟩
  · have HE2 := Lib.hid (show V = (signL n ++ decL A, 0) by rw [HE.out]; rfl)
    by_cases hn : n < 0
    · have hAn : -n = (A : Int) := by omega
      have HR := Lib.hid (show (⟨#[45]⟩ : ByteArray) ++ mkS (decL A) = mkS (signL n ++ decL A) by rw [← mkS_app]; unfold signL; rw [if_pos hn]; rfl)
      clear hA
      generalize mkS (decL A) = T at *
      go_enter Tryd.func38, Tryd.ntmps38
      go_wp2_with fail
      refine (HC.out _).mono ?_
      rintro e w1 ⟨rfl, hb1⟩
      have HK1 := Lib.hid (block_keep hb1 HBX.out)
      have HB1 := Lib.hid (HB0.out.trans (hb1.mono HB0.out.size))
      obtain ⟨⟨k0, k1, k2, k3⟩, -⟩ := cells4 HK1.out
      clear hb1
      go_wp2
      go_quiet (fail)
      go_wp2_with (go_at_call 56; refine (HT.out _).mono ?_; rintro e w' ⟨rfl, q, rfl⟩)
      go_ret2
      exact ⟨ret_str2 (by rw [HE2.out]; exact HR.out) (by rw [HE2.out]), by simpa using below_drewN (below_drewN HB1.out nq) q⟩
    · obtain rfl : n = (A : Int) := by omega
      have HR := Lib.hid (show (⟨#[]⟩ : ByteArray) ++ mkS (decL A) = mkS (signL (A : Int) ++ decL A) by rw [← mkS_app]; unfold signL; rw [if_neg hn]; rfl)
      clear hA hn
      generalize mkS (decL A) = T at *
      go_enter Tryd.func38, Tryd.ntmps38
      go_wp2_with fail
      refine (HC.out _).mono ?_
      rintro e w1 ⟨rfl, hb1⟩
      have HK1 := Lib.hid (block_keep hb1 HBX.out)
      have HB1 := Lib.hid (HB0.out.trans (hb1.mono HB0.out.size))
      obtain ⟨⟨k0, k1, k2, k3⟩, -⟩ := cells4 HK1.out
      clear hb1
      go_wp2
      go_quiet (fail)
      go_wp2_with (go_at_call 56; refine (HT.out _).mono ?_; rintro e w' ⟨rfl, q, rfl⟩)
      go_ret2
      exact ⟨ret_str2 (by rw [HE2.out]; exact HR.out) (by rw [HE2.out]), by simpa using below_drewN (below_drewN HB1.out nq) q⟩
  · have HE2 := Lib.hid (show V = (signL n ++ (decL (A / 1000000) ++ 46 :: trimF (padL (A % 1000000) 6)), 0) by rw [HE.out]; rfl)
    have hp := fun W => pad_any ((A % 1000000 : Nat) : Int) 6 W (by omega) (by omega) (by omega) (by omega)
    unfold PadEnd at hp
    rw [padV6] at hp
    have HP := Lib.hid hp
    have hFs : (mkS (padL (A % 1000000) 6)).size = 6 := by rw [mkS_size]; exact pad6_len A
    have HTR := Lib.hid (fun W => trimRight_any ((mkS (padL (A % 1000000) 6)).extract 1 6) W (by rw [ByteArray.size_extract]; omega))
    have HTF := Lib.hid (show (mkS (padL (A % 1000000) 6)).extract 0 1 ++ mkS (trimR (bl ((mkS (padL (A % 1000000) 6)).extract 1 6))) = mkS (trimF (padL (A % 1000000) 6)) by
      apply mkS_ext
      rw [bl_app, bl_mkS, bl_mkS, bl_to]
      have h6 := bl_from (mkS (padL (A % 1000000) 6)) 1
      rw [hFs] at h6
      rw [h6, bl_mkS]; rfl)
    have hFe : ((mkS (padL (A % 1000000) 6)).extract 0 1 ++ mkS (trimR (bl ((mkS (padL (A % 1000000) 6)).extract 1 6)))).size ≤ 6 := by
      rw [HTF.out, mkS_size]; exact (mil_trimF (A % 1000000) (by omega)).2.2.2
    have hF1 : (mkS (trimR (bl ((mkS (padL (A % 1000000) 6)).extract 1 6)))).size ≤ 6 := by rw [size_app] at hFe; omega
    have hF0 : ((mkS (padL (A % 1000000) 6)).extract 0 1).size ≤ 6 := by rw [ByteArray.size_extract]; omega
    clear hp
    by_cases hn : n < 0
    · have hAn : -n = (A : Int) := by omega
      have HR := Lib.hid (show (⟨#[45]⟩ : ByteArray) ++ mkS (decL (A / 1000000)) ++ ⟨#[46]⟩ ++ ((mkS (padL (A % 1000000) 6)).extract 0 1 ++ mkS (trimR (bl ((mkS (padL (A % 1000000) 6)).extract 1 6)))) = mkS (signL n ++ (decL (A / 1000000) ++ 46 :: trimF (padL (A % 1000000) 6))) by
        rw [HTF.out]
        unfold signL; rw [if_pos hn]
        apply mkS_ext
        simp only [bl_app, bl_mkS]
        simp [bl])
      clear hA HTF
      generalize mkS (decL (A / 1000000)) = T at *
      generalize mkS (padL (A % 1000000) 6) = F at *
      go_enter Tryd.func38, Tryd.ntmps38
      go_wp2_with fail
      refine (HC.out _).mono ?_
      rintro e w1 ⟨rfl, hb1⟩
      have HK1 := Lib.hid (block_keep hb1 HBX.out)
      have HB1 := Lib.hid (HB0.out.trans (hb1.mono HB0.out.size))
      obtain ⟨⟨k0, k1, k2, k3⟩, -⟩ := cells4 HK1.out
      clear hb1
      go_wp2
      go_quiet (fail)
      go_wp2_with fail
      refine (HP.out _).mono ?_
      rintro e w2 ⟨rfl, q, rfl⟩
      go_wp2_with fail
      go_quiet ((go_at_call 58; exact (HTR.out _).mono fun _ _ ⟨he, hm⟩ => ⟨he, _, hm.symm⟩))
      go_wp2_with (go_at_call 56; refine (HT2.out _).mono ?_; rintro e w' ⟨rfl, q2, rfl⟩)
      go_ret2
      exact ⟨ret_str2 (by rw [HE2.out]; exact HR.out) (by rw [HE2.out]), by simpa using below_drewN HB1.out _⟩
    · obtain rfl : n = (A : Int) := by omega
      have HR := Lib.hid (show (⟨#[]⟩ : ByteArray) ++ mkS (decL (A / 1000000)) ++ ⟨#[46]⟩ ++ ((mkS (padL (A % 1000000) 6)).extract 0 1 ++ mkS (trimR (bl ((mkS (padL (A % 1000000) 6)).extract 1 6)))) = mkS (signL (A : Int) ++ (decL (A / 1000000) ++ 46 :: trimF (padL (A % 1000000) 6))) by
        rw [HTF.out]
        unfold signL; rw [if_neg hn]
        apply mkS_ext
        simp only [bl_app, bl_mkS]
        simp [bl])
      clear hA HTF hn
      generalize mkS (decL (A / 1000000)) = T at *
      generalize mkS (padL (A % 1000000) 6) = F at *
      go_enter Tryd.func38, Tryd.ntmps38
      go_wp2_with fail
      refine (HC.out _).mono ?_
      rintro e w1 ⟨rfl, hb1⟩
      have HK1 := Lib.hid (block_keep hb1 HBX.out)
      have HB1 := Lib.hid (HB0.out.trans (hb1.mono HB0.out.size))
      obtain ⟨⟨k0, k1, k2, k3⟩, -⟩ := cells4 HK1.out
      clear hb1
      go_wp2
      go_quiet (fail)
      go_wp2_with fail
      refine (HP.out _).mono ?_
      rintro e w2 ⟨rfl, q, rfl⟩
      go_wp2_with fail
      go_quiet ((go_at_call 58; exact (HTR.out _).mono fun _ _ ⟨he, hm⟩ => ⟨he, _, hm.symm⟩))
      go_wp2_with (go_at_call 56; refine (HT2.out _).mono ?_; rintro e w' ⟨rfl, q2, rfl⟩)
      go_ret2
      exact ⟨ret_str2 (by rw [HE2.out]; exact HR.out) (by rw [HE2.out]), by simpa using below_drewN HB1.out _⟩

theorem trimF_one (a : UInt8) : trimF [a] = [a] := by simp [trimF, trimR]
theorem trimF_snoc (a : UInt8) (g : List UInt8) : trimF (a :: (g ++ [48])) = trimF (a :: g) := by unfold trimF; simp [trimR_snoc]
theorem trimF_stop (a c : UInt8) (g : List UInt8) (h : c ≠ 48) : trimF (a :: (g ++ [c])) = a :: (g ++ [c]) := by unfold trimF; simp [trimR_stop _ _ h]
theorem trimF_drop (t : List UInt8) (ht : 1 ≤ t.length) : trimF (t ++ [48]) = trimF t := by
  cases t with
  | nil => simp at ht
  | cons a g => exact trimF_snoc a g
theorem trimF_keep (t : List UInt8) (c : UInt8) (ht : 1 ≤ t.length) (hc : c ≠ 48) : trimF (t ++ [c]) = t ++ [c] := by
  cases t with
  | nil => simp at ht
  | cons a g => exact trimF_stop a c g hc

set_option maxRecDepth 8000 in
set_option maxHeartbeats 4000000 in
theorem rprint_any (k n : Int) (s : ByteArray) (a : Option Addr) (m c : Nat) (w : World) (hm : (m : Int) ≤ 9223372036854775807) :
    Calls Tryd.prog 44 #[.agg #[.int .i64 k, .int .i64 n, .string s, .slice a m c]] w (PrintEnd k n (bareV s m) w) := by
  obtain ⟨V, hV⟩ : ∃ V, V = printV k n (bareV s m) := ⟨_, rfl⟩
  unfold PrintEnd
  rw [← hV]
  have HV := Lib.hid hV
  have HC := Lib.hid (fun W => rcheck_any k n s a m c W hm)
  have HBX := Lib.hid (show (w.alloc (.cells #[.int .i64 k, .int .i64 n, .string s, .slice a m c] 24)).heap[w.heap.size]? = some (.cells #[.int .i64 k, .int .i64 n, .string s, .slice a m c] 24 (0, 0)) from heapA_new _ rfl)
  have HB0 := Lib.hid (belowA w (.cells #[.int .i64 k, .int .i64 n, .string s, .slice a m c] 24))
  clear hV hm
  rcases checkV_is k n (bareV s m) with hc | hc
  case inr =>
    have HE := Lib.hid (show V = ([], 2) by rw [HV.out]; exact printV_bad hc)
    rw [hc] at HC
    clear hc
    go_enter Tryd.func44, Tryd.ntmps44
    go_wp2_with (go_at_call 62; refine (HC.out _).mono ?_; rintro e w' ⟨rfl, hb⟩)
    go_ret2
    exact ⟨by rw [HE.out]; rfl, HB0.out.trans (hb.mono HB0.out.size)⟩
  have HE := Lib.hid (show V = (signL n ++ absL k n.natAbs, 0) by rw [HV.out]; exact printV_ok hc)
  obtain ⟨-, hkn⟩ := checkV_cases hc
  rw [hc] at HC
  clear hc
  obtain ⟨A, hA⟩ : ∃ A : Nat, A = n.natAbs := ⟨_, rfl⟩
  rw [← hA] at HE
  have hAb : A ≤ 2147483647000000 := by omega
  have hT := fun W => rtext_any A 1 W (by omega) (by omega) (by omega)
  have hT2 := fun W => rtext_any (A / 1000000) 1 W (by omega) (by omega) (by omega)
  have hT3 := fun W => rtext_any (A % 1000000) 6 W (by omega) (by omega) (by omega)
  rw [show padL A (1 : Int).toNat = decL A from padL_of_ge (decL_spec A).2.2] at hT
  rw [show padL (A / 1000000) (1 : Int).toNat = decL (A / 1000000) from padL_of_ge (decL_spec _).2.2] at hT2
  rw [show (6 : Int).toNat = 6 from rfl] at hT3
  have HT := Lib.hid hT
  have HT2 := Lib.hid hT2
  have HT3 := Lib.hid hT3
  clear hT hT2 hT3
  have hTs : (mkS (decL A)).size ≤ 20 := by rw [mkS_size]; exact decL_len 19 A (by omega)
  have hTs2 : (mkS (decL (A / 1000000))).size ≤ 20 := by rw [mkS_size]; exact decL_len 19 _ (by omega)
  obtain ⟨sg, hsg⟩ : ∃ sg : ByteArray, sg = if n < 0 then ⟨#[45]⟩ else ⟨#[]⟩ := ⟨_, rfl⟩
  have HSG := Lib.hid (show bl sg = signL n by rw [hsg]; unfold signL; split <;> rfl)
  rcases hkn with ⟨rfl, hn1, hn2⟩ | ⟨rfl, hn1, hn2⟩
  · have HE2 := Lib.hid (show V = (signL n ++ decL A, 0) by rw [HE.out]; rfl)
    have HR := Lib.hid (show sg ++ mkS (decL A) = mkS (signL n ++ decL A) by apply mkS_ext; rw [bl_app, bl_mkS, bl_mkS, HSG.out])
    by_cases hn : n < 0
    · have hAn : -n = (A : Int) := by omega
      rw [if_pos hn] at hsg
      subst hsg
      clear hA
      generalize mkS (decL A) = T at *
      go_enter Tryd.func44, Tryd.ntmps44
      go_wp2_with fail
      refine (HC.out _).mono ?_
      rintro e w1 ⟨rfl, hb1⟩
      have HK1 := Lib.hid (block_keep hb1 HBX.out)
      have HB1 := Lib.hid (HB0.out.trans (hb1.mono HB0.out.size))
      obtain ⟨⟨k0, k1, k2, k3⟩, -⟩ := cells4 HK1.out
      clear hb1
      go_wp2_with (go_at_call 63; refine (HT.out _).mono ?_; rintro e w' ⟨rfl, rfl⟩)
      go_ret2
      exact ⟨ret_str2 (by rw [HE2.out]; exact HR.out) (by rw [HE2.out]), HB1.out⟩
    · obtain rfl : n = (A : Int) := by omega
      rw [if_neg hn] at hsg
      subst hsg
      clear hA hn
      generalize mkS (decL A) = T at *
      go_enter Tryd.func44, Tryd.ntmps44
      go_wp2_with fail
      refine (HC.out _).mono ?_
      rintro e w1 ⟨rfl, hb1⟩
      have HK1 := Lib.hid (block_keep hb1 HBX.out)
      have HB1 := Lib.hid (HB0.out.trans (hb1.mono HB0.out.size))
      obtain ⟨⟨k0, k1, k2, k3⟩, -⟩ := cells4 HK1.out
      clear hb1
      go_wp2_with (go_at_call 63; refine (HT.out _).mono ?_; rintro e w' ⟨rfl, rfl⟩)
      go_ret2
      exact ⟨ret_str2 (by rw [HE2.out]; exact HR.out) (by rw [HE2.out]), HB1.out⟩
  · have HE2 := Lib.hid (show V = (signL n ++ (decL (A / 1000000) ++ 46 :: trimF (padL (A % 1000000) 6)), 0) by rw [HE.out]; rfl)
    have hFs : (mkS (padL (A % 1000000) 6)).size = 6 := by rw [mkS_size]; exact pad6_len A
    have HR := Lib.hid (show ∀ F : ByteArray, bl F = trimF (padL (A % 1000000) 6) → sg ++ mkS (decL (A / 1000000)) ++ ⟨#[46]⟩ ++ F = mkS (signL n ++ (decL (A / 1000000) ++ 46 :: trimF (padL (A % 1000000) 6))) from fun F hF => by
        apply mkS_ext
        simp only [bl_app, bl_mkS, HSG.out, hF]
        simp [bl])
    obtain ⟨f, hf⟩ : ∃ f, f = trimF (padL (A % 1000000) 6) := ⟨_, rfl⟩
    have HF := Lib.hid (show f = trimF (bl (mkS (padL (A % 1000000) 6))) from hf)
    rw [← hf] at HR HE2
    clear hf
    by_cases hn : n < 0
    · have hAn : -n = (A : Int) := by omega
      rw [if_pos hn] at hsg
      subst hsg
      clear hA
      generalize mkS (decL (A / 1000000)) = T at *
      generalize mkS (padL (A % 1000000) 6) = F at *
      go_enter Tryd.func44, Tryd.ntmps44
      go_wp2_with fail
      refine (HC.out _).mono ?_
      rintro e w1 ⟨rfl, hb1⟩
      have HK1 := Lib.hid (block_keep hb1 HBX.out)
      have HB1 := Lib.hid (HB0.out.trans (hb1.mono HB0.out.size))
      obtain ⟨⟨k0, k1, k2, k3⟩, -⟩ := cells4 HK1.out
      clear hb1
      go_wp2_with fail
      refine (HT3.out _).mono ?_
      rintro e w2 ⟨rfl, rfl⟩
      go_wp2
      go_loop [6, 7] (fun v i => ∃ (j : Nat) (G : ByteArray), j ≤ 5 ∧ v = .string G ∧ i = .int .i64 j ∧ G.size = 6 - j ∧ Hid (f = trimF (bl G))) (fun _ i => 5 - (intOf i).toNat)
      case atStart => exact ⟨0, F, by omega, rfl, rfl, hFs, HF⟩
      case round =>
        obtain ⟨j, G, hj, rfl, rfl, hGs, HG⟩ := hrel
        by_cases hj5 : j < 5
        · have hj5d : decide ((j : Int) < 5) = true := by simp; omega
          obtain ⟨q, hq⟩ : ∃ q, 6 - j = q + 1 := ⟨5 - j, by omega⟩
          have hq1 : 1 ≤ q := by omega
          have hq5 : q ≤ 5 := by omega
          have hgb := PlainAid.get_bt G
          rw [hq] at hGs
          have hlt : q < G.size := by omega
          have hx : (G[q].toNat : Int) = PlainAid.bt G q := hgb q hlt
          have hl : 1 ≤ ((bl G).take q).length := by rw [List.length_take, bl_len]; omega
          have hsp := bl_take G q hlt
          rw [List.take_of_length_le (by rw [bl_len]; omega)] at hsp
          have HL := Lib.hid hl
          have HSP := Lib.hid hsp
          have HX := Lib.hid hx
          have HQ := Lib.hid hq
          clear hl hsp hx hq
          by_cases h48 : PlainAid.bt G q = 48
          · have h48d : (PlainAid.bt G q == 48) = true := by rw [beq_iff_eq]; exact h48
            have HN := Lib.hid (show f = trimF (bl (G.extract 0 q)) by
              have hc : G[q] = 48 := UInt8.toNat_inj.1 (Int.ofNat_inj.1 (HX.out.trans h48))
              have h1 := HSP.out
              rw [hc] at h1
              have h2 := trimF_drop _ HL.out
              rw [← h1] at h2
              rw [HG.out, bl_to, h2])
            clear h48
            go_wp2
            go_round
            case rel => exact ⟨j + 1, _, by omega, rfl, by go_num, by have := HQ.out; rw [ByteArray.size_extract]; omega, HN⟩
            case measure => simp [intOf]; omega
          · have h48d : (PlainAid.bt G q == 48) = false := by rw [beq_eq_false_iff_ne]; exact h48
            have HN := Lib.hid (show bl G = f by
              have hc : G[q] ≠ 48 := fun e => h48 (by rw [← HX.out, e]; rfl)
              have h2 := trimF_keep _ _ HL.out hc
              rw [← HSP.out] at h2
              rw [HG.out, h2])
            have HRF := Lib.hid (HR.out G HN.out)
            clear h48
            go_wp2_with (go_at_call 63; refine (HT2.out _).mono ?_; rintro e w' ⟨rfl, rfl⟩)
            go_ret2
            exact ⟨ret_str2 (by rw [HE2.out]; exact HRF.out) (by rw [HE2.out]), HB1.out⟩
        · obtain rfl : j = 5 := by omega
          have HN := Lib.hid (show bl G = f by
            rw [HG.out]
            have hl1 : (bl G).length = 1 := by rw [bl_len, hGs]
            obtain ⟨a, ha⟩ := List.length_eq_one_iff.1 hl1
            rw [ha, trimF_one])
          have HRF := Lib.hid (HR.out G HN.out)
          go_wp2_with (go_at_call 63; refine (HT2.out _).mono ?_; rintro e w' ⟨rfl, rfl⟩)
          go_ret2
          exact ⟨ret_str2 (by rw [HE2.out]; exact HRF.out) (by rw [HE2.out]), HB1.out⟩
    · obtain rfl : n = (A : Int) := by omega
      rw [if_neg hn] at hsg
      subst hsg
      clear hA hn
      generalize mkS (decL (A / 1000000)) = T at *
      generalize mkS (padL (A % 1000000) 6) = F at *
      go_enter Tryd.func44, Tryd.ntmps44
      go_wp2_with fail
      refine (HC.out _).mono ?_
      rintro e w1 ⟨rfl, hb1⟩
      have HK1 := Lib.hid (block_keep hb1 HBX.out)
      have HB1 := Lib.hid (HB0.out.trans (hb1.mono HB0.out.size))
      obtain ⟨⟨k0, k1, k2, k3⟩, -⟩ := cells4 HK1.out
      clear hb1
      go_wp2_with fail
      refine (HT3.out _).mono ?_
      rintro e w2 ⟨rfl, rfl⟩
      go_wp2
      go_loop [6, 7] (fun v i => ∃ (j : Nat) (G : ByteArray), j ≤ 5 ∧ v = .string G ∧ i = .int .i64 j ∧ G.size = 6 - j ∧ Hid (f = trimF (bl G))) (fun _ i => 5 - (intOf i).toNat)
      case atStart => exact ⟨0, F, by omega, rfl, rfl, hFs, HF⟩
      case round =>
        obtain ⟨j, G, hj, rfl, rfl, hGs, HG⟩ := hrel
        by_cases hj5 : j < 5
        · have hj5d : decide ((j : Int) < 5) = true := by simp; omega
          obtain ⟨q, hq⟩ : ∃ q, 6 - j = q + 1 := ⟨5 - j, by omega⟩
          have hq1 : 1 ≤ q := by omega
          have hq5 : q ≤ 5 := by omega
          have hgb := PlainAid.get_bt G
          rw [hq] at hGs
          have hlt : q < G.size := by omega
          have hx : (G[q].toNat : Int) = PlainAid.bt G q := hgb q hlt
          have hl : 1 ≤ ((bl G).take q).length := by rw [List.length_take, bl_len]; omega
          have hsp := bl_take G q hlt
          rw [List.take_of_length_le (by rw [bl_len]; omega)] at hsp
          have HL := Lib.hid hl
          have HSP := Lib.hid hsp
          have HX := Lib.hid hx
          have HQ := Lib.hid hq
          clear hl hsp hx hq
          by_cases h48 : PlainAid.bt G q = 48
          · have h48d : (PlainAid.bt G q == 48) = true := by rw [beq_iff_eq]; exact h48
            have HN := Lib.hid (show f = trimF (bl (G.extract 0 q)) by
              have hc : G[q] = 48 := UInt8.toNat_inj.1 (Int.ofNat_inj.1 (HX.out.trans h48))
              have h1 := HSP.out
              rw [hc] at h1
              have h2 := trimF_drop _ HL.out
              rw [← h1] at h2
              rw [HG.out, bl_to, h2])
            clear h48
            go_wp2
            go_round
            case rel => exact ⟨j + 1, _, by omega, rfl, by go_num, by have := HQ.out; rw [ByteArray.size_extract]; omega, HN⟩
            case measure => simp [intOf]; omega
          · have h48d : (PlainAid.bt G q == 48) = false := by rw [beq_eq_false_iff_ne]; exact h48
            have HN := Lib.hid (show bl G = f by
              have hc : G[q] ≠ 48 := fun e => h48 (by rw [← HX.out, e]; rfl)
              have h2 := trimF_keep _ _ HL.out hc
              rw [← HSP.out] at h2
              rw [HG.out, h2])
            have HRF := Lib.hid (HR.out G HN.out)
            clear h48
            go_wp2_with (go_at_call 63; refine (HT2.out _).mono ?_; rintro e w' ⟨rfl, rfl⟩)
            go_ret2
            exact ⟨ret_str2 (by rw [HE2.out]; exact HRF.out) (by rw [HE2.out]), HB1.out⟩
        · obtain rfl : j = 5 := by omega
          have HN := Lib.hid (show bl G = f by
            rw [HG.out]
            have hl1 : (bl G).length = 1 := by rw [bl_len, hGs]
            obtain ⟨a, ha⟩ := List.length_eq_one_iff.1 hl1
            rw [ha, trimF_one])
          have HRF := Lib.hid (HR.out G HN.out)
          go_wp2_with (go_at_call 63; refine (HT2.out _).mono ?_; rintro e w' ⟨rfl, rfl⟩)
          go_ret2
          exact ⟨ret_str2 (by rw [HE2.out]; exact HRF.out) (by rw [HE2.out]), HB1.out⟩
end Go.Proofs.YtnkodejgiabamaaDoor
/-
  Walks of layer 11 (value): how deep a value is; whether it has nothing but its kind.
-/
namespace Go.Proofs.YtnkodejgiabamaaDoor
open Go.RowKit

theorem depthL_takeS {l : List PV} {k : Nat} {x : PV} (hx : l[k]? = some x) : depthL (l.take (k + 1)) = max (depthL (l.take k)) (depthV x) := by
  induction l generalizing k with
  | nil => cases hx
  | cons y l ih =>
    cases k with
    | zero =>
      have : y = x := by simpa using hx
      subst this
      simp [depthL]
    | succ k =>
      rw [List.take_succ_cons, List.take_succ_cons]
      simp only [depthL]
      rw [ih (by simpa using hx)]; omega
theorem depthL_memS {x : PV} : ∀ (l : List PV) (k : Nat), l[k]? = some x → depthV x ≤ depthL l
  | [], k, h => by cases h
  | y :: l, 0, h => by
    have : y = x := by simpa using h
    subst this
    simp only [depthL]; omega
  | y :: l, k + 1, h => by
    have := depthL_memS l k (by simpa using h)
    simp only [depthL]; omega
theorem depthL_take_le : ∀ (l : List PV) (k : Nat), depthL (l.take k) ≤ depthL l
  | [], k => by simp
  | y :: l, 0 => by simp [depthL]
  | y :: l, k + 1 => by have := depthL_take_le l k; simp only [List.take_succ_cons, depthL]; omega
theorem depthV_is (v : PV) : depthV v = if v.kind = 6 ∨ v.kind = 7 then 1 + depthL v.l else 1 := by obtain ⟨_, _, _, _⟩ := v; rfl

set_option maxRecDepth 8000 in
set_option maxHeartbeats 4000000 in
theorem vdepth_any : ∀ (N : Nat) (v : PV) (sl : Value) (w : World), SizeOf.sizeOf v ≤ N → depthV v ≤ 1000 → IsV w anyF v sl →
    Calls Tryd.prog 33 #[pvA v sl] w fun e w' => e = .returned (.int .i64 (depthV v : Nat)) ∧ Below w.heap.size w w' := by
  intro N
  induction N with
  | zero => intro v sl w h; obtain ⟨_, _, _, _⟩ := v; simp at h
  | succ N ih =>
  intro v sl w hN hd hv
  obtain ⟨a1, cap1, e1, g1, g2, g3⟩ := hv.len
  subst e1
  have HA := Lib.hid hv
  have HIH := Lib.hid ih
  have HN := Lib.hid hN
  have HSA := Lib.hid (fun (k : Nat) (x : PV) (h : v.l[k]? = some x) => sizeOf_mem h)
  have m1 : (v.l.length : Int) ≤ 9223372036854775807 := by unfold maxLen at g2; omega
  have hdv := depthV_is v
  unfold pvA
  obtain ⟨DV, hDV⟩ : ∃ DV, DV = depthV v := ⟨_, rfl⟩
  rw [← hDV] at hd hdv ⊢
  clear hDV
  clear ih hN hv
  obtain ⟨la, hla⟩ : ∃ la, la = v.l := ⟨_, rfl⟩
  have HLA := Lib.hid hla
  rw [← hla] at hdv HA HSA m1 g1 ⊢
  clear hla g2 g3
  have HHK : ∀ k, k = v.kind → DV = if k = 6 ∨ k = 7 then 1 + depthL la else 1 := fun k e => by rw [e]; exact hdv
  obtain ⟨k0, hk0⟩ : ∃ k, k = v.kind := ⟨_, rfl⟩
  have hdk := HHK k0 hk0
  rw [← hk0]
  have HD := Lib.hid hd
  clear HHK hdv hk0 hd
  generalize v.n = n0 at *
  generalize mkB v.s = s0 at *
  go_enter Tryd.func33, Tryd.ntmps33
  obtain ⟨B, hB⟩ : ∃ B, B = w.heap.size := ⟨_, rfl⟩
  have HX1 := Lib.hid (heapA_new (w := w) (b := B) (.cells #[.int .i64 k0, .int .i64 n0, .string s0, .slice a1 la.length cap1] 24) hB)
  have HW := Lib.hid (belowA w (.cells #[.int .i64 k0, .int .i64 n0, .string s0, .slice a1 la.length cap1] 24))
  go_upto_region 2 with fail
  rw [← hB]
  clear hB
  generalize w.alloc _ = W1 at *
  obtain ⟨⟨c0, c1, c2, c3⟩, -⟩ := cells4 HX1.out
  by_cases hk : k0 = 6 ∨ k0 = 7
  case neg =>
    have hk6 : (k0 == 6) = false := by rw [beq_eq_false_iff_ne]; omega
    have hk7 : (k0 == 7) = false := by rw [beq_eq_false_iff_ne]; omega
    rw [if_neg hk] at hdk
    subst hdk
    clear hk HA HIH HN HSA HD HLA
    go_wp2
    go_ret
    exact ⟨rfl, HW.out⟩
  rw [if_pos hk] at hdk
  have HDK := Lib.hid hdk
  have hdl : depthL la ≤ 999 := by have := HD.out; omega
  clear hdk
  have hor : ∀ {Q : Prop}, (k0 = 6 → Q) → (k0 = 7 → Q) → Q := fun h6 h7 => hk.elim h6 h7
  have HFIN : Hid (∀ w', Below w.heap.size w w' → w' = w') := Lib.hid fun _ _ => rfl
  clear hk HFIN
  refine hor (fun e6 => ?_) (fun e7 => ?_)
  all_goals
    first | subst e6 | subst e7
    clear hor
    go_wp2
    go_loopw [3, 17] (fun vn vk wr => ∃ (k n : Nat), vk = .int .i64 k ∧ vn = .int .i64 n ∧ n ≤ 999 ∧ k ≤ la.length ∧ Hid (Below W1.heap.size W1 wr) ∧ Hid (n = depthL (la.take k))) (fun _ vk _ => la.length - (intOf vk).toNat)
    case atStart => exact ⟨0, 0, rfl, rfl, by omega, Nat.zero_le _, Below.refl _ _, rfl⟩
    case round =>
      obtain ⟨k, n, rfl, rfl, hn, hk, HWR1, HV⟩ := hrel
      have HWR := Lib.hid (HW.out.trans (HWR1.out.mono HW.out.size))
      by_cases q1 : k < la.length
      case neg =>
        have hkl : k = la.length := by omega
        subst hkl
        have hv := HV.out
        rw [List.take_length] at hv
        have hv2 : DV = 1 + n := by rw [HDK.out, hv]
        have HV9 := Lib.hid hv2
        clear hv hv2 HV HA HIH HN HSA c0 c1 c2 c3 HDK
        go_wp2
        go_ret
        exact ⟨by rw [HV9.out]; push_cast; rfl, HWR.out⟩
      obtain ⟨x, hx⟩ : ∃ x, la[k]? = some x := ⟨_, List.getElem?_eq_getElem q1⟩
      obtain ⟨-, -, -, b1, o1, rfl, -, -, hax⟩ := (HA.out.below HWR.out).at (by omega)
      rw [← HLA.out] at hax
      obtain ⟨sx, hsx, x0, x1, x2, x3⟩ := hax k x hx
      have hlt : SizeOf.sizeOf x < SizeOf.sizeOf v := HSA.out k x hx
      have hN := HN.out
      have hdx := depthL_memS la k hx
      have hv : max n (depthV x) = depthL (la.take (k + 1)) := by rw [depthL_takeS hx]; have := HV.out; omega
      have HV2 := Lib.hid hv
      have hdx2 : depthV x ≤ 999 := by omega
      obtain ⟨sa', sc', rfl, -, -, -⟩ := hsx.len
      have HCALL := Lib.hid (fun (W : World) (hb : Below wr.heap.size wr W) => HIH.out x _ W (by omega) (by omega) (hsx.below hb))
      simp only [pvA] at HCALL
      clear hv hsx hlt hN hax hx HA HIH HV HSA HLA HN hdx c0 c1 c2 c3
      generalize depthV x = d at *
      have hkl : (0 : Int) ≤ (k : Int) := by omega
      have hki : (k : Int) < (la.length : Int) := by omega
      have hd1 : decide (k < la.length) = true := decide_eq_true q1
      generalize x.kind = xk at *
      generalize x.n = xn at *
      generalize mkB x.s = xs at *
      generalize x.l.length = xl at *
      have HB4 := Lib.hid (belowA wr (.cells #[.int .i64 xk, .int .i64 xn, .string xs, .slice sa' xl sc'] 24))
      have HK4 := Lib.hid (heapA_new (w := wr) (b := wr.heap.size) (.cells #[.int .i64 xk, .int .i64 xn, .string xs, .slice sa' xl sc'] 24) rfl)
      have HW4 := Lib.hid (HWR1.out.trans (HB4.out.mono HWR1.out.size))
      go_upto_region 6 with fail
      obtain ⟨r4, hr4⟩ : ∃ r4, r4 = wr.heap.size := ⟨_, rfl⟩
      rw [← hr4] at HK4 ⊢
      clear hr4 x0 x1 x2 x3
      have HC4 := Lib.hid (HCALL.out _ HB4.out)
      clear HCALL HB4
      generalize wr.alloc _ = W4 at *
      obtain ⟨⟨x0, x1, x2, x3⟩, -⟩ := cells4 HK4.out
      go_wp2_with fail
      refine HC4.out.mono ?_
      rintro e w5 ⟨rfl, hb5⟩
      have HW5 := Lib.hid (HW4.out.trans (hb5.mono HW4.out.size))
      clear hb5 x0 x1 x2 x3 HC4
      by_cases hc : n < d
      · have hm : max n d = d := by omega
        have hm2 : max (n : Int) (d : Int) = (d : Int) := by omega
        rw [hm] at HV2
        have hd1 : decide ((n : Int) < (d : Int)) = true := decide_eq_true (by omega)
        have hd2 : decide (n < d) = true := decide_eq_true hc
        have hc2 : (n : Int) ≤ (d : Int) := by omega
        go_wp2
        go_roundw
        case rel => exact ⟨k + 1, d, by go_num, by go_num, by omega, by omega, HW5, HV2⟩
        case measure => simp [intOf]; omega
      · have hm : max n d = n := by omega
        have hm2 : max (n : Int) (d : Int) = (n : Int) := by omega
        rw [hm] at HV2
        have hd1 : decide ((n : Int) < (d : Int)) = false := decide_eq_false (by omega)
        have hd2 : decide (n < d) = false := decide_eq_false hc
        have hc2 : (d : Int) ≤ (n : Int) := by omega
        go_wp2
        go_roundw
        case rel => exact ⟨k + 1, n, by go_num, by go_num, by omega, by omega, HW5, HV2⟩
        case measure => simp [intOf]; omega
end Go.Proofs.YtnkodejgiabamaaDoor
