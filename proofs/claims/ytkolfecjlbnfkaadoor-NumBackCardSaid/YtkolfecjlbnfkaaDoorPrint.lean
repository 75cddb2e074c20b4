/-
  Walks of layer 9: the text of a number, in the program and in the reference.
-/
import Derived.Test.YtkolfecjlbnfkaaDoorPad3
namespace Go.Proofs.YtkolfecjlbnfkaaDoor
open Go.RowKit

def PrintEnd (k n : Int) (bare : Bool) (w : World) (e : Ending) (w' : World) : Prop := e = .returned (.tuple #[.string (mkS (printV k n bare).1), .int .i64 (printV k n bare).2]) ∧ Below w.heap.size w w'

theorem printV_bad {k n : Int} {b : Bool} (h : checkV k n b = 2) : printV k n b = ([], 2) := by unfold printV; rw [if_neg (by omega)]
theorem printV_ok {k n : Int} {b : Bool} (h : checkV k n b = 0) : printV k n b = (signL n ++ absL k n.natAbs, 0) := by unfold printV; rw [if_pos h]
theorem checkV_is (k n : Int) (b : Bool) : checkV k n b = 0 ∨ checkV k n b = 2 := by unfold checkV; split <;> simp

theorem padV6 (A : Nat) : padV ((A % 1000000 : Nat) : Int) 6 = (padL (A % 1000000) 6, 0) := by
  have h := decL_len 5 (A % 1000000) (by omega)
  rw [padV_ok (by omega) (by omega) (by omega)]; rfl
theorem pad6_len (A : Nat) : (padL (A % 1000000) 6).length = 6 := padL_len (decL_len 5 (A % 1000000) (by omega))

set_option maxRecDepth 8000 in
set_option maxHeartbeats 4000000 in
theorem print_any (k n : Int) (s : ByteArray) (a : Option Addr) (m c : Nat) (w : World) (hm : (m : Int) ≤ 9223372036854775807) :
    Calls Tryd.prog 13 #[.agg #[.int .i64 k, .int .i64 n, .string s, .slice a m c]] w (PrintEnd k n (bareV s m) w) := by
  obtain ⟨V, hV⟩ : ∃ V, V = printV k n (bareV s m) := ⟨_, rfl⟩
  unfold PrintEnd
  rw [← hV]
  have HV := Lib.hid hV
  have HC := Lib.hid (fun W => check_any k n s a m c W hm)
  have HBX := Lib.hid (show (w.alloc (.cells #[.int .i64 k, .int .i64 n, .string s, .slice a m c] 25)).heap[w.heap.size]? = some (.cells #[.int .i64 k, .int .i64 n, .string s, .slice a m c] 25 (0, 0)) from heapA_new _ rfl)
  have HB0 := Lib.hid (belowA w (.cells #[.int .i64 k, .int .i64 n, .string s, .slice a m c] 25))
  clear hV hm
  rcases checkV_is k n (bareV s m) with hc | hc
  case inr =>
    have HE := Lib.hid (show V = ([], 2) by rw [HV.out]; exact printV_bad hc)
    rw [hc] at HC
    clear hc
    go_enter Tryd.func13, Tryd.ntmps13
    go_wp2_with (go_at_call 17; refine (HC.out _).mono ?_; rintro e w' ⟨rfl, hb⟩)
    go_ret2
    exact ⟨by rw [HE.out]; rfl, HB0.out.trans (hb.mono HB0.out.size)⟩
  have HE := Lib.hid (show V = (signL n ++ absL k n.natAbs, 0) by rw [HV.out]; exact printV_ok hc)
  obtain ⟨-, hkn⟩ := checkV_cases hc
  rw [hc] at HC
  clear hc
  obtain ⟨A, hA⟩ : ∃ A : Nat, A = n.natAbs := ⟨_, rfl⟩
  rw [← hA] at HE
  have hAb : A ≤ 2147483647000000 := by omega
  have HT := Lib.hid (fun W => text_any A (by omega) W)
  have HT2 := Lib.hid (fun W => text_any (A / 1000000) (by omega) W)
  unfold TextEnd at HT HT2
  have hconv : IntKind.u64.wrap (A : Int) = (A : Int) := IntWalk.u64_in _ (by omega)
  have hconv2 : IntKind.u64.wrap ((A / 1000000 : Nat) : Int) = ((A / 1000000 : Nat) : Int) := IntWalk.u64_in _ (by omega)
  have hTs : (mkS (decL A)).size ≤ 20 := by rw [mkS_size]; exact decL_len 19 A (by omega)
  have hTs2 : (mkS (decL (A / 1000000))).size ≤ 20 := by rw [mkS_size]; exact decL_len 19 _ (by omega)
  rcases hkn with ⟨rfl, hn1, hn2⟩ | ⟨rfl, hn1, hn2⟩
  · have HE2 := Lib.hid (show V = (signL n ++ decL A, 0) by rw [HE.out]; rfl)
    by_cases hn : n < 0
    · have hAn : -n = (A : Int) := by omega
      have HR := Lib.hid (show (⟨#[45]⟩ : ByteArray) ++ mkS (decL A) = mkS (signL n ++ decL A) by rw [← mkS_app]; unfold signL; rw [if_pos hn]; rfl)
      clear hA
      generalize mkS (decL A) = T at *
      go_enter Tryd.func13, Tryd.ntmps13
      go_wp2_with fail
      refine (HC.out _).mono ?_
      rintro e w1 ⟨rfl, hb1⟩
      have HK1 := Lib.hid (block_keep hb1 HBX.out)
      have HB1 := Lib.hid (HB0.out.trans (hb1.mono HB0.out.size))
      obtain ⟨⟨k0, k1, k2, k3⟩, -⟩ := cells4 HK1.out
      clear hb1
      go_wp2
      go_quiet (fail)
      go_wp2_with (go_at_call 24; refine (HT.out _).mono ?_; rintro e w' ⟨rfl, q, rfl⟩)
      go_ret2
      exact ⟨ret_str2 (by rw [HE2.out]; exact HR.out) (by rw [HE2.out]), by simpa using below_drewN (below_drewN HB1.out nq) q⟩
    · obtain rfl : n = (A : Int) := by omega
      have HR := Lib.hid (show (⟨#[]⟩ : ByteArray) ++ mkS (decL A) = mkS (signL (A : Int) ++ decL A) by rw [← mkS_app]; unfold signL; rw [if_neg hn]; rfl)
      clear hA hn
      generalize mkS (decL A) = T at *
      go_enter Tryd.func13, Tryd.ntmps13
      go_wp2_with fail
      refine (HC.out _).mono ?_
      rintro e w1 ⟨rfl, hb1⟩
      have HK1 := Lib.hid (block_keep hb1 HBX.out)
      have HB1 := Lib.hid (HB0.out.trans (hb1.mono HB0.out.size))
      obtain ⟨⟨k0, k1, k2, k3⟩, -⟩ := cells4 HK1.out
      clear hb1
      go_wp2
      go_quiet (fail)
      go_wp2_with (go_at_call 24; refine (HT.out _).mono ?_; rintro e w' ⟨rfl, q, rfl⟩)
      go_ret2
      exact ⟨ret_str2 (by rw [HE2.out]; exact HR.out) (by rw [HE2.out]), by simpa using below_drewN (below_drewN HB1.out nq) q⟩
  · have HE2 := Lib.hid (show V = (signL n ++ (decL (A / 1000000) ++ 46 :: trimF (padL (A % 1000000) 6)), 0) by rw [HE.out]; rfl)
    have hp := fun W => pad_any ((A % 1000000 : Nat) : Int) 6 W (by omega) (by omega) (by omega) (by omega)
    unfold PadEnd at hp
    rw [padV6] at hp
    have HP := Lib.hid hp
    have hFs : (mkS (padL (A % 1000000) 6)).size = 6 := by rw [mkS_size]; exact pad6_len A
    have HTR := Lib.hid (fun W => trimRight_any ((mkS (padL (A % 1000000) 6)).extract 1 6) W (by rw [ByteArray.size_extract]; omega))
    have HTF := Lib.hid (show (mkS (padL (A % 1000000) 6)).extract 0 1 ++ mkS (trimR (bl ((mkS (padL (A % 1000000) 6)).extract 1 6))) = mkS (trimF (padL (A % 1000000) 6)) by
      apply mkS_ext
      rw [bl_app, bl_mkS, bl_mkS, bl_to]
      have h6 := bl_from (mkS (padL (A % 1000000) 6)) 1
      rw [hFs] at h6
      rw [h6, bl_mkS]; rfl)
    have hFe : ((mkS (padL (A % 1000000) 6)).extract 0 1 ++ mkS (trimR (bl ((mkS (padL (A % 1000000) 6)).extract 1 6)))).size ≤ 6 := by
      rw [HTF.out, mkS_size]; exact (mil_trimF (A % 1000000) (by omega)).2.2.2
    have hF1 : (mkS (trimR (bl ((mkS (padL (A % 1000000) 6)).extract 1 6)))).size ≤ 6 := by rw [size_app] at hFe; omega
    have hF0 : ((mkS (padL (A % 1000000) 6)).extract 0 1).size ≤ 6 := by rw [ByteArray.size_extract]; omega
    clear hp
    by_cases hn : n < 0
    · have hAn : -n = (A : Int) := by omega
      have HR := Lib.hid (show (⟨#[45]⟩ : ByteArray) ++ mkS (decL (A / 1000000)) ++ ⟨#[46]⟩ ++ ((mkS (padL (A % 1000000) 6)).extract 0 1 ++ mkS (trimR (bl ((mkS (padL (A % 1000000) 6)).extract 1 6)))) = mkS (signL n ++ (decL (A / 1000000) ++ 46 :: trimF (padL (A % 1000000) 6))) by
        rw [HTF.out]
        unfold signL; rw [if_pos hn]
        apply mkS_ext
        simp only [bl_app, bl_mkS]
        simp [bl])
      clear hA HTF
      generalize mkS (decL (A / 1000000)) = T at *
      generalize mkS (padL (A % 1000000) 6) = F at *
      go_enter Tryd.func13, Tryd.ntmps13
      go_wp2_with fail
      refine (HC.out _).mono ?_
      rintro e w1 ⟨rfl, hb1⟩
      have HK1 := Lib.hid (block_keep hb1 HBX.out)
      have HB1 := Lib.hid (HB0.out.trans (hb1.mono HB0.out.size))
      obtain ⟨⟨k0, k1, k2, k3⟩, -⟩ := cells4 HK1.out
      clear hb1
      go_wp2
      go_quiet (fail)
      go_wp2_with fail
      refine (HP.out _).mono ?_
      rintro e w2 ⟨rfl, q, rfl⟩
      go_wp2_with fail
      go_quiet ((go_at_call 25; exact (HTR.out _).mono fun _ _ ⟨he, hm⟩ => ⟨he, _, hm.symm⟩))
      go_wp2_with (go_at_call 24; refine (HT2.out _).mono ?_; rintro e w' ⟨rfl, q2, rfl⟩)
      go_ret2
      exact ⟨ret_str2 (by rw [HE2.out]; exact HR.out) (by rw [HE2.out]), by simpa using below_drewN HB1.out _⟩
    · obtain rfl : n = (A : Int) := by omega
      have HR := Lib.hid (show (⟨#[]⟩ : ByteArray) ++ mkS (decL (A / 1000000)) ++ ⟨#[46]⟩ ++ ((mkS (padL (A % 1000000) 6)).extract 0 1 ++ mkS (trimR (bl ((mkS (padL (A % 1000000) 6)).extract 1 6)))) = mkS (signL (A : Int) ++ (decL (A / 1000000) ++ 46 :: trimF (padL (A % 1000000) 6))) by
        rw [HTF.out]
        unfold signL; rw [if_neg hn]
        apply mkS_ext
        simp only [bl_app, bl_mkS]
        simp [bl])
      clear hA HTF hn
      generalize mkS (decL (A / 1000000)) = T at *
      generalize mkS (padL (A % 1000000) 6) = F at *
      go_enter Tryd.func13, Tryd.ntmps13
      go_wp2_with fail
      refine (HC.out _).mono ?_
      rintro e w1 ⟨rfl, hb1⟩
      have HK1 := Lib.hid (block_keep hb1 HBX.out)
      have HB1 := Lib.hid (HB0.out.trans (hb1.mono HB0.out.size))
      obtain ⟨⟨k0, k1, k2, k3⟩, -⟩ := cells4 HK1.out
      clear hb1
      go_wp2
      go_quiet (fail)
      go_wp2_with fail
      refine (HP.out _).mono ?_
      rintro e w2 ⟨rfl, q, rfl⟩
      go_wp2_with fail
      go_quiet ((go_at_call 25; exact (HTR.out _).mono fun _ _ ⟨he, hm⟩ => ⟨he, _, hm.symm⟩))
      go_wp2_with (go_at_call 24; refine (HT2.out _).mono ?_; rintro e w' ⟨rfl, q2, rfl⟩)
      go_ret2
      exact ⟨ret_str2 (by rw [HE2.out]; exact HR.out) (by rw [HE2.out]), by simpa using below_drewN HB1.out _⟩

theorem trimF_one (a : UInt8) : trimF [a] = [a] := by simp [trimF, trimR]
theorem trimF_snoc (a : UInt8) (g : List UInt8) : trimF (a :: (g ++ [48])) = trimF (a :: g) := by unfold trimF; simp [trimR_snoc]
theorem trimF_stop (a c : UInt8) (g : List UInt8) (h : c ≠ 48) : trimF (a :: (g ++ [c])) = a :: (g ++ [c]) := by unfold trimF; simp [trimR_stop _ _ h]
theorem trimF_drop (t : List UInt8) (ht : 1 ≤ t.length) : trimF (t ++ [48]) = trimF t := by
  cases t with
  | nil => simp at ht
  | cons a g => exact trimF_snoc a g
theorem trimF_keep (t : List UInt8) (c : UInt8) (ht : 1 ≤ t.length) (hc : c ≠ 48) : trimF (t ++ [c]) = t ++ [c] := by
  cases t with
  | nil => simp at ht
  | cons a g => exact trimF_stop a c g hc

set_option maxRecDepth 8000 in
set_option maxHeartbeats 4000000 in
theorem rprint_any (k n : Int) (s : ByteArray) (a : Option Addr) (m c : Nat) (w : World) (hm : (m : Int) ≤ 9223372036854775807) :
    Calls Tryd.prog 14 #[.agg #[.int .i64 k, .int .i64 n, .string s, .slice a m c]] w (PrintEnd k n (bareV s m) w) := by
  obtain ⟨V, hV⟩ : ∃ V, V = printV k n (bareV s m) := ⟨_, rfl⟩
  unfold PrintEnd
  rw [← hV]
  have HV := Lib.hid hV
  have HC := Lib.hid (fun W => rcheck_any k n s a m c W hm)
  have HBX := Lib.hid (show (w.alloc (.cells #[.int .i64 k, .int .i64 n, .string s, .slice a m c] 25)).heap[w.heap.size]? = some (.cells #[.int .i64 k, .int .i64 n, .string s, .slice a m c] 25 (0, 0)) from heapA_new _ rfl)
  have HB0 := Lib.hid (belowA w (.cells #[.int .i64 k, .int .i64 n, .string s, .slice a m c] 25))
  clear hV hm
  rcases checkV_is k n (bareV s m) with hc | hc
  case inr =>
    have HE := Lib.hid (show V = ([], 2) by rw [HV.out]; exact printV_bad hc)
    rw [hc] at HC
    clear hc
    go_enter Tryd.func14, Tryd.ntmps14
    go_wp2_with (go_at_call 18; refine (HC.out _).mono ?_; rintro e w' ⟨rfl, hb⟩)
    go_ret2
    exact ⟨by rw [HE.out]; rfl, HB0.out.trans (hb.mono HB0.out.size)⟩
  have HE := Lib.hid (show V = (signL n ++ absL k n.natAbs, 0) by rw [HV.out]; exact printV_ok hc)
  obtain ⟨-, hkn⟩ := checkV_cases hc
  rw [hc] at HC
  clear hc
  obtain ⟨A, hA⟩ : ∃ A : Nat, A = n.natAbs := ⟨_, rfl⟩
  rw [← hA] at HE
  have hAb : A ≤ 2147483647000000 := by omega
  have hT := fun W => rtext_any A 1 W (by omega) (by omega) (by omega)
  have hT2 := fun W => rtext_any (A / 1000000) 1 W (by omega) (by omega) (by omega)
  have hT3 := fun W => rtext_any (A % 1000000) 6 W (by omega) (by omega) (by omega)
  rw [show padL A (1 : Int).toNat = decL A from padL_of_ge (decL_spec A).2.2] at hT
  rw [show padL (A / 1000000) (1 : Int).toNat = decL (A / 1000000) from padL_of_ge (decL_spec _).2.2] at hT2
  rw [show (6 : Int).toNat = 6 from rfl] at hT3
  have HT := Lib.hid hT
  have HT2 := Lib.hid hT2
  have HT3 := Lib.hid hT3
  clear hT hT2 hT3
  have hTs : (mkS (decL A)).size ≤ 20 := by rw [mkS_size]; exact decL_len 19 A (by omega)
  have hTs2 : (mkS (decL (A / 1000000))).size ≤ 20 := by rw [mkS_size]; exact decL_len 19 _ (by omega)
  obtain ⟨sg, hsg⟩ : ∃ sg : ByteArray, sg = if n < 0 then ⟨#[45]⟩ else ⟨#[]⟩ := ⟨_, rfl⟩
  have HSG := Lib.hid (show bl sg = signL n by rw [hsg]; unfold signL; split <;> rfl)
  rcases hkn with ⟨rfl, hn1, hn2⟩ | ⟨rfl, hn1, hn2⟩
  · have HE2 := Lib.hid (show V = (signL n ++ decL A, 0) by rw [HE.out]; rfl)
    have HR := Lib.hid (show sg ++ mkS (decL A) = mkS (signL n ++ decL A) by apply mkS_ext; rw [bl_app, bl_mkS, bl_mkS, HSG.out])
    by_cases hn : n < 0
    · have hAn : -n = (A : Int) := by omega
      rw [if_pos hn] at hsg
      subst hsg
      clear hA
      generalize mkS (decL A) = T at *
      go_enter Tryd.func14, Tryd.ntmps14
      go_wp2_with fail
      refine (HC.out _).mono ?_
      rintro e w1 ⟨rfl, hb1⟩
      have HK1 := Lib.hid (block_keep hb1 HBX.out)
      have HB1 := Lib.hid (HB0.out.trans (hb1.mono HB0.out.size))
      obtain ⟨⟨k0, k1, k2, k3⟩, -⟩ := cells4 HK1.out
      clear hb1
      go_wp2_with (go_at_call 26; refine (HT.out _).mono ?_; rintro e w' ⟨rfl, rfl⟩)
      go_ret2
      exact ⟨ret_str2 (by rw [HE2.out]; exact HR.out) (by rw [HE2.out]), HB1.out⟩
    · obtain rfl : n = (A : Int) := by omega
      rw [if_neg hn] at hsg
      subst hsg
      clear hA hn
      generalize mkS (decL A) = T at *
      go_enter Tryd.func14, Tryd.ntmps14
      go_wp2_with fail
      refine (HC.out _).mono ?_
      rintro e w1 ⟨rfl, hb1⟩
      have HK1 := Lib.hid (block_keep hb1 HBX.out)
      have HB1 := Lib.hid (HB0.out.trans (hb1.mono HB0.out.size))
      obtain ⟨⟨k0, k1, k2, k3⟩, -⟩ := cells4 HK1.out
      clear hb1
      go_wp2_with (go_at_call 26; refine (HT.out _).mono ?_; rintro e w' ⟨rfl, rfl⟩)
      go_ret2
      exact ⟨ret_str2 (by rw [HE2.out]; exact HR.out) (by rw [HE2.out]), HB1.out⟩
  · have HE2 := Lib.hid (show V = (signL n ++ (decL (A / 1000000) ++ 46 :: trimF (padL (A % 1000000) 6)), 0) by rw [HE.out]; rfl)
    have hFs : (mkS (padL (A % 1000000) 6)).size = 6 := by rw [mkS_size]; exact pad6_len A
    have HR := Lib.hid (show ∀ F : ByteArray, bl F = trimF (padL (A % 1000000) 6) → sg ++ mkS (decL (A / 1000000)) ++ ⟨#[46]⟩ ++ F = mkS (signL n ++ (decL (A / 1000000) ++ 46 :: trimF (padL (A % 1000000) 6))) from fun F hF => by
        apply mkS_ext
        simp only [bl_app, bl_mkS, HSG.out, hF]
        simp [bl])
    obtain ⟨f, hf⟩ : ∃ f, f = trimF (padL (A % 1000000) 6) := ⟨_, rfl⟩
    have HF := Lib.hid (show f = trimF (bl (mkS (padL (A % 1000000) 6))) from hf)
    rw [← hf] at HR HE2
    clear hf
    by_cases hn : n < 0
    · have hAn : -n = (A : Int) := by omega
      rw [if_pos hn] at hsg
      subst hsg
      clear hA
      generalize mkS (decL (A / 1000000)) = T at *
      generalize mkS (padL (A % 1000000) 6) = F at *
      go_enter Tryd.func14, Tryd.ntmps14
      go_wp2_with fail
      refine (HC.out _).mono ?_
      rintro e w1 ⟨rfl, hb1⟩
      have HK1 := Lib.hid (block_keep hb1 HBX.out)
      have HB1 := Lib.hid (HB0.out.trans (hb1.mono HB0.out.size))
      obtain ⟨⟨k0, k1, k2, k3⟩, -⟩ := cells4 HK1.out
      clear hb1
      go_wp2_with fail
      refine (HT3.out _).mono ?_
      rintro e w2 ⟨rfl, rfl⟩
      go_wp2
      go_loop [6, 7] (fun v i => ∃ (j : Nat) (G : ByteArray), j ≤ 5 ∧ v = .string G ∧ i = .int .i64 j ∧ G.size = 6 - j ∧ Hid (f = trimF (bl G))) (fun _ i => 5 - (intOf i).toNat)
      case atStart => exact ⟨0, F, by omega, rfl, rfl, hFs, HF⟩
      case round =>
        obtain ⟨j, G, hj, rfl, rfl, hGs, HG⟩ := hrel
        by_cases hj5 : j < 5
        · have hj5d : decide ((j : Int) < 5) = true := by simp; omega
          obtain ⟨q, hq⟩ : ∃ q, 6 - j = q + 1 := ⟨5 - j, by omega⟩
          have hq1 : 1 ≤ q := by omega
          have hq5 : q ≤ 5 := by omega
          have hgb := PlainAid.get_bt G
          rw [hq] at hGs
          have hlt : q < G.size := by omega
          have hx : (G[q].toNat : Int) = PlainAid.bt G q := hgb q hlt
          have hl : 1 ≤ ((bl G).take q).length := by rw [List.length_take, bl_len]; omega
          have hsp := bl_take G q hlt
          rw [List.take_of_length_le (by rw [bl_len]; omega)] at hsp
          have HL := Lib.hid hl
          have HSP := Lib.hid hsp
          have HX := Lib.hid hx
          have HQ := Lib.hid hq
          clear hl hsp hx hq
          by_cases h48 : PlainAid.bt G q = 48
          · have h48d : (PlainAid.bt G q == 48) = true := by rw [beq_iff_eq]; exact h48
            have HN := Lib.hid (show f = trimF (bl (G.extract 0 q)) by
              have hc : G[q] = 48 := UInt8.toNat_inj.1 (Int.ofNat_inj.1 (HX.out.trans h48))
              have h1 := HSP.out
              rw [hc] at h1
              have h2 := trimF_drop _ HL.out
              rw [← h1] at h2
              rw [HG.out, bl_to, h2])
            clear h48
            go_wp2
            go_round
            case rel => exact ⟨j + 1, _, by omega, rfl, by go_num, by have := HQ.out; rw [ByteArray.size_extract]; omega, HN⟩
            case measure => simp [intOf]; omega
          · have h48d : (PlainAid.bt G q == 48) = false := by rw [beq_eq_false_iff_ne]; exact h48
            have HN := Lib.hid (show bl G = f by
              have hc : G[q] ≠ 48 := fun e => h48 (by rw [← HX.out, e]; rfl)
              have h2 := trimF_keep _ _ HL.out hc
              rw [← HSP.out] at h2
              rw [HG.out, h2])
            have HRF := Lib.hid (HR.out G HN.out)
            clear h48
            go_wp2_with (go_at_call 26; refine (HT2.out _).mono ?_; rintro e w' ⟨rfl, rfl⟩)
            go_ret2
            exact ⟨ret_str2 (by rw [HE2.out]; exact HRF.out) (by rw [HE2.out]), HB1.out⟩
        · obtain rfl : j = 5 := by omega
          have HN := Lib.hid (show bl G = f by
            rw [HG.out]
            have hl1 : (bl G).length = 1 := by rw [bl_len, hGs]
            obtain ⟨a, ha⟩ := List.length_eq_one_iff.1 hl1
            rw [ha, trimF_one])
          have HRF := Lib.hid (HR.out G HN.out)
          go_wp2_with (go_at_call 26; refine (HT2.out _).mono ?_; rintro e w' ⟨rfl, rfl⟩)
          go_ret2
          exact ⟨ret_str2 (by rw [HE2.out]; exact HRF.out) (by rw [HE2.out]), HB1.out⟩
    · obtain rfl : n = (A : Int) := by omega
      rw [if_neg hn] at hsg
      subst hsg
      clear hA hn
      generalize mkS (decL (A / 1000000)) = T at *
      generalize mkS (padL (A % 1000000) 6) = F at *
      go_enter Tryd.func14, Tryd.ntmps14
      go_wp2_with fail
      refine (HC.out _).mono ?_
      rintro e w1 ⟨rfl, hb1⟩
      have HK1 := Lib.hid (block_keep hb1 HBX.out)
      have HB1 := Lib.hid (HB0.out.trans (hb1.mono HB0.out.size))
      obtain ⟨⟨k0, k1, k2, k3⟩, -⟩ := cells4 HK1.out
      clear hb1
      go_wp2_with fail
      refine (HT3.out _).mono ?_
      rintro e w2 ⟨rfl, rfl⟩
      go_wp2
      go_loop [6, 7] (fun v i => ∃ (j : Nat) (G : ByteArray), j ≤ 5 ∧ v = .string G ∧ i = .int .i64 j ∧ G.size = 6 - j ∧ Hid (f = trimF (bl G))) (fun _ i => 5 - (intOf i).toNat)
      case atStart => exact ⟨0, F, by omega, rfl, rfl, hFs, HF⟩
      case round =>
        obtain ⟨j, G, hj, rfl, rfl, hGs, HG⟩ := hrel
        by_cases hj5 : j < 5
        · have hj5d : decide ((j : Int) < 5) = true := by simp; omega
          obtain ⟨q, hq⟩ : ∃ q, 6 - j = q + 1 := ⟨5 - j, by omega⟩
          have hq1 : 1 ≤ q := by omega
          have hq5 : q ≤ 5 := by omega
          have hgb := PlainAid.get_bt G
          rw [hq] at hGs
          have hlt : q < G.size := by omega
          have hx : (G[q].toNat : Int) = PlainAid.bt G q := hgb q hlt
          have hl : 1 ≤ ((bl G).take q).length := by rw [List.length_take, bl_len]; omega
          have hsp := bl_take G q hlt
          rw [List.take_of_length_le (by rw [bl_len]; omega)] at hsp
          have HL := Lib.hid hl
          have HSP := Lib.hid hsp
          have HX := Lib.hid hx
          have HQ := Lib.hid hq
          clear hl hsp hx hq
          by_cases h48 : PlainAid.bt G q = 48
          · have h48d : (PlainAid.bt G q == 48) = true := by rw [beq_iff_eq]; exact h48
            have HN := Lib.hid (show f = trimF (bl (G.extract 0 q)) by
              have hc : G[q] = 48 := UInt8.toNat_inj.1 (Int.ofNat_inj.1 (HX.out.trans h48))
              have h1 := HSP.out
              rw [hc] at h1
              have h2 := trimF_drop _ HL.out
              rw [← h1] at h2
              rw [HG.out, bl_to, h2])
            clear h48
            go_wp2
            go_round
            case rel => exact ⟨j + 1, _, by omega, rfl, by go_num, by have := HQ.out; rw [ByteArray.size_extract]; omega, HN⟩
            case measure => simp [intOf]; omega
          · have h48d : (PlainAid.bt G q == 48) = false := by rw [beq_eq_false_iff_ne]; exact h48
            have HN := Lib.hid (show bl G = f by
              have hc : G[q] ≠ 48 := fun e => h48 (by rw [← HX.out, e]; rfl)
              have h2 := trimF_keep _ _ HL.out hc
              rw [← HSP.out] at h2
              rw [HG.out, h2])
            have HRF := Lib.hid (HR.out G HN.out)
            clear h48
            go_wp2_with (go_at_call 26; refine (HT2.out _).mono ?_; rintro e w' ⟨rfl, rfl⟩)
            go_ret2
            exact ⟨ret_str2 (by rw [HE2.out]; exact HRF.out) (by rw [HE2.out]), HB1.out⟩
        · obtain rfl : j = 5 := by omega
          have HN := Lib.hid (show bl G = f by
            rw [HG.out]
            have hl1 : (bl G).length = 1 := by rw [bl_len, hGs]
            obtain ⟨a, ha⟩ := List.length_eq_one_iff.1 hl1
            rw [ha, trimF_one])
          have HRF := Lib.hid (HR.out G HN.out)
          go_wp2_with (go_at_call 26; refine (HT2.out _).mono ?_; rintro e w' ⟨rfl, rfl⟩)
          go_ret2
          exact ⟨ret_str2 (by rw [HE2.out]; exact HRF.out) (by rw [HE2.out]), HB1.out⟩
end Go.Proofs.YtkolfecjlbnfkaaDoor
