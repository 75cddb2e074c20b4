/-
  Our texts NumS2 to LexS, in one.
-/
import Derived.Test.YtnkodejgiabamaaGreatPkW11
import Derived.PlainAid
/-
  The walk of the reference's Parse: the number of a text, by definition (sign (-1)).
-/
namespace Go.Proofs.YtnkodejgiabamaaGreat
open Go.RowKit

set_option maxRecDepth 8000 in
set_option maxHeartbeats 16000000 in
theorem rparse_minus (s : ByteArray) (w : World) (hs : s.size ≤ 100000) (h0 : 0 < s.size) (hc : PlainAid.bt s 0 = 45) :
    Calls Tryz.prog 33 #[.string s] w (ParseEnd (parseV (bl s)) w) := by
  have hbx : (w.alloc (.cells #[.int .i64 0, .int .i64 0, .string ⟨#[]⟩, .slice none 0 0] 26)).heap[w.heap.size]? = some (.cells #[.int .i64 0, .int .i64 0, .string ⟨#[]⟩, .slice none 0 0] 26 (0, 0)) := heapA_new _ rfl
  have hB0 := belowA w (.cells #[.int .i64 0, .int .i64 0, .string ⟨#[]⟩, .slice none 0 0] 26)
  have HBX := Lib.hid hbx
  have HB0 := Lib.hid hB0
  obtain ⟨V, hV⟩ : ∃ V, V = parseV (bl s) := ⟨_, rfl⟩
  rw [← hV]
  have HV := Lib.hid hV
  clear hV hbx hB0
  · have hgb := PlainAid.get_bt s
    have hx : (s[0].toNat : Int) = PlainAid.bt s 0 := hgb 0 h0
    have HS := Lib.hid (show V = parseB (-1) ((bl s).drop 1) by
      have hb := bl_drop s 0 h0
      have a1 : s[0] = 45 := UInt8.toNat_inj.1 (Int.ofNat_inj.1 (hx.trans hc))
      rw [List.drop_zero] at hb
      rw [HV.out, parseV]
      unfold signOf bodyOf
      rw [hb, a1]; rfl)
    clear hx
    go_enter Tryz.func33, Tryz.ntmps33
    go_wp2
    generalize w.alloc (.cells #[.int .i64 0, .int .i64 0, .string ⟨#[]⟩, .slice none 0 0] 26) = W at *
    go_loop [5, 6, 7, 8, 9, 10] (fun n p d t o i => ∃ (K : Nat) (N P D T : Int) (ov : Bool), 1 ≤ K ∧ K ≤ s.size ∧ n = .int .i64 N ∧ p = .int .i64 P ∧ d = .int .i64 D ∧ t = .int .i64 T ∧ o = .bool ov ∧ i = .int .i64 K ∧ 0 ≤ N ∧ N ≤ 21474836479 ∧ (ov = false → N ≤ 2147483647) ∧ 0 ≤ P ∧ P ≤ 999999 ∧ 0 ≤ D ∧ D ≤ K ∧ Hid (St ((bl s).drop 1) 1 K N P D T ov))
      (fun _ _ _ _ _ i => s.size - (intOf i).toNat)
    case atStart => exact ⟨1, 0, 0, 0, -1, false, Nat.le_refl _, by omega, rfl, rfl, rfl, rfl, rfl, rfl, by omega, by omega, fun _ => by omega, by omega, by omega, by omega, by omega, Lib.hid (.inl ⟨rfl, rfl, by omega, PA.nil⟩)⟩
    case round =>
      obtain ⟨K, N, P, D, T, ov, hK0, hK1, rfl, rfl, rfl, rfl, rfl, rfl, hN0, hN1, hNo, hP0, hP1, hD0, hD1, HST⟩ := hrel
      by_cases hlt : K < s.size
      · have hgb := PlainAid.get_bt s
        have hx : (s[K].toNat : Int) = PlainAid.bt s K := hgb K hlt
        have HTK := Lib.hid (at_take s 1 K hlt hK0)
        have HSP := Lib.hid (at_split s 1 K hlt hK0)
        have hx0 := PlainAid.bt_nonneg s K
        have hx1 := PlainAid.bt_le s K
        have HX := Lib.hid hx
        clear hx
        rcases HST.out with ⟨rfl, rfl, hD, hA⟩ | ⟨i, rfl, hi, hD, hB⟩
        · have HA := Lib.hid hA
          have HD := Lib.hid hD
          clear hA hD HST
          by_cases h46 : PlainAid.bt s K = 46
          · have HB := Lib.hid (show PB (((bl s).drop 1).take (K + 1 - 1)) (K - 1) N 0 ov by
              rw [HTK.out, show s[K] = 46 from UInt8.toNat_inj.1 (by have := HX.out; rw [h46] at this; exact Int.ofNat_inj.1 this)]
              have := HA.out.point
              rwa [show (((bl s).drop 1).take (K - 1)).length = K - 1 from by rw [List.length_take, List.length_drop, bl_len]; omega] at this)
            have h46d : (PlainAid.bt s K == 46) = true := by rw [beq_iff_eq]; exact h46
            clear h46
            go_wp2
            go_round
            case rel => exact ⟨K + 1, N, 0, D, K, ov, by omega, by omega, rfl, rfl, rfl, rfl, rfl, by go_num, hN0, hN1, hNo, by omega, by omega, hD0, by omega, Lib.hid (.inr ⟨K - 1, by omega, by omega, by have := HD.out; omega, HB.out⟩)⟩
            case measure => simp [intOf]; omega
          · have h46d : (PlainAid.bt s K == 46) = false := by rw [beq_eq_false_iff_ne]; exact h46
            have HNE := Lib.hid (show s[K] ≠ 46 from fun e => h46 (by rw [← HX.out, e]; rfl))
            clear h46
            by_cases h48 : 48 ≤ PlainAid.bt s K
            · by_cases h57 : PlainAid.bt s K ≤ 57
              · have HDG := Lib.hid (show isDg s[K] = true by rw [isDg_iff]; have := HX.out; omega)
                have HDV := Lib.hid (show ((dgV s[K] : Nat) : Int) = PlainAid.bt s K - 48 by rw [dgV_int HDG.out, HX.out])
                have h48d : decide (48 ≤ PlainAid.bt s K) = true := by simpa using h48
                have h57d : decide (PlainAid.bt s K ≤ 57) = true := by simpa using h57
                cases ov
                · have hN2 := hNo rfl
                  by_cases hM : 2147483647 < 10 * N + PlainAid.bt s K - 48
                  · have HA2 := Lib.hid (show PA (((bl s).drop 1).take (K + 1 - 1)) (10 * N + PlainAid.bt s K - 48) true by
                      rw [HTK.out]; exact HA.out.more HDG.out _ (by have := HDV.out; omega) _ (by rw [eq_comm, decide_eq_true_iff]; exact hM))
                    go_wp2
                    go_round
                    case rel => exact ⟨K + 1, 10 * N + PlainAid.bt s K - 48, 0, D + 1, -1, true, by omega, by omega, rfl, rfl, rfl, rfl, rfl, by go_num, by omega, by omega, (fun h => by cases h), by omega, by omega, by omega, by omega, Lib.hid (.inl ⟨rfl, rfl, by have := HD.out; omega, HA2.out⟩)⟩
                    case measure => simp [intOf]; omega
                  · have HA2 := Lib.hid (show PA (((bl s).drop 1).take (K + 1 - 1)) (10 * N + PlainAid.bt s K - 48) false by
                      rw [HTK.out]; exact HA.out.more HDG.out _ (by have := HDV.out; omega) _ (by rw [eq_comm, decide_eq_false_iff_not]; exact hM))
                    have hMd : decide (2147483647 < 10 * N + PlainAid.bt s K - 48) = false := by simpa using hM
                    have hM2 : 10 * N + PlainAid.bt s K - 48 ≤ 2147483647 := by omega
                    clear hM
                    go_wp2
                    go_round
                    case rel => exact ⟨K + 1, 10 * N + PlainAid.bt s K - 48, 0, D + 1, -1, false, by omega, by omega, rfl, rfl, rfl, rfl, rfl, by go_num, by omega, by omega, (fun _ => hM2), by omega, by omega, by omega, by omega, Lib.hid (.inl ⟨rfl, rfl, by have := HD.out; omega, HA2.out⟩)⟩
                    case measure => simp [intOf]; omega
                · have HA2 := Lib.hid (show PA (((bl s).drop 1).take (K + 1 - 1)) N true by rw [HTK.out]; exact HA.out.over HDG.out)
                  go_wp2
                  go_round
                  case rel => exact ⟨K + 1, N, 0, D + 1, -1, true, by omega, by omega, rfl, rfl, rfl, rfl, rfl, by go_num, hN0, hN1, hNo, by omega, by omega, by omega, by omega, Lib.hid (.inl ⟨rfl, rfl, by have := HD.out; omega, HA2.out⟩)⟩
                  case measure => simp [intOf]; omega
              · have HL := Lib.hid (show V = (0, 0, 11) by
                  rw [HS.out, HSP.out]; exact parseB_bad1 _ _ _ _ HA.out.dg HNE.out (by rw [isDg_no]; have := HX.out; omega))
                have h48d : decide (48 ≤ PlainAid.bt s K) = true := by simpa using h48
                have h57d : decide (PlainAid.bt s K ≤ 57) = false := by simpa using h57
                obtain ⟨⟨k0, k1, k2, k3⟩, f0, f1, f2, f3⟩ := cells4 HBX.out
                go_wp2
                refine bodyPost_ret (results_val rfl _ _ w.heap.size 26 _ (0, 0) _ rfl (set4 HBX.out _ _ _ _) Tryz.underlying26 rfl infoVal _ rfl) rfl ⟨?_, below_set4 HB0.out (Nat.le_refl _) _ _ _ _⟩
                rw [HL.out]
                rfl
            · have HL := Lib.hid (show V = (0, 0, 11) by
                rw [HS.out, HSP.out]; exact parseB_bad1 _ _ _ _ HA.out.dg HNE.out (by rw [isDg_no]; have := HX.out; omega))
              have h48d : decide (48 ≤ PlainAid.bt s K) = false := by simpa using h48
              obtain ⟨⟨k0, k1, k2, k3⟩, f0, f1, f2, f3⟩ := cells4 HBX.out
              go_wp2
              refine bodyPost_ret (results_val rfl _ _ w.heap.size 26 _ (0, 0) _ rfl (set4 HBX.out _ _ _ _) Tryz.underlying26 rfl infoVal _ rfl) rfl ⟨?_, below_set4 HB0.out (Nat.le_refl _) _ _ _ _⟩
              rw [HL.out]
              rfl
        · have HB := Lib.hid hB
          have HD := Lib.hid hD
          clear hB hD HST
          have hpt : decide ((1 : Int) + (i : Int) < 0) = false := decide_eq_false (by omega)
          have hpt2 : decide ((i : Int) < 0) = false := decide_eq_false (by omega)
          have hpt3 : 0 ≤ (1 : Int) + (i : Int) := by omega
          by_cases h48 : 48 ≤ PlainAid.bt s K
          · have h48d : decide (48 ≤ PlainAid.bt s K) = true := by simpa using h48
            have h46d : (PlainAid.bt s K == 46) = false := by rw [beq_eq_false_iff_ne]; omega
            by_cases h57 : PlainAid.bt s K ≤ 57
            · have h57d : decide (PlainAid.bt s K ≤ 57) = true := by simpa using h57
              have HDG := Lib.hid (show isDg s[K] = true by rw [isDg_iff]; have := HX.out; omega)
              go_wp2
              go_loop [11, 12] (fun b j => ∃ (J : Nat) (B : Int), 1 ≤ J ∧ J ≤ 7 ∧ J ≤ K - 1 - i ∧ b = .int .i64 B ∧ j = .int .i64 J ∧ 0 ≤ B ∧ B ≤ 100000 ∧ Hid (B = (100000 / 10 ^ (J - 1) : Nat))) (fun _ j => 7 - (intOf j).toNat)
              case atStart => exact ⟨1, 100000, by omega, by omega, by omega, rfl, rfl, by omega, by omega, Lib.hid rfl⟩
              case round =>
                obtain ⟨J, B, hJ1, hJ7, hJL, rfl, rfl, hB0, hB1, HBJ⟩ := hrel
                by_cases hJK : (J : Int) < (K : Int) - (1 + (i : Int))
                · have hJKd : decide ((J : Int) < (K : Int) - (1 + (i : Int))) = true := by simpa using hJK
                  by_cases hJ7b : J < 7
                  · have hJ7d : decide ((J : Int) < 7) = true := by simp; omega
                    have HBN := Lib.hid (show B / 10 = ((100000 / 10 ^ (J + 1 - 1) : Nat) : Int) by
                      rw [HBJ.out, show J + 1 - 1 = (J - 1) + 1 from by omega, Nat.pow_succ, ← Nat.div_div_eq_div_mul]; omega)
                    go_wp2
                    go_round
                    case rel => exact ⟨J + 1, B / 10, by omega, by omega, by omega, rfl, by go_num, by omega, by omega, HBN⟩
                    case measure => simp [intOf]; omega
                  · have hJ7d : decide ((J : Int) < 7) = false := decide_eq_false (by omega)
                    have hz0 : 0 ≤ B * (PlainAid.bt s K - 48) := Int.mul_nonneg hB0 (by omega)
                    have hz1 : B * (PlainAid.bt s K - 48) ≤ 100000 * 9 := Int.mul_le_mul hB1 (by omega) (by omega) (by omega)
                    have HQ := Lib.hid (show PB (((bl s).drop 1).take (K + 1 - 1)) i N (P + B * (PlainAid.bt s K - 48)) ov by
                      rw [HTK.out]
                      refine HB.out.more HDG.out (100000 / 10 ^ (J - 1)) ?_ _ (by rw [HBJ.out, HX.out])
                      rw [List.length_take, List.length_drop, bl_len]
                      congr 3
                      omega)
                    have hq := HQ.out.bd
                    have hq0 := hq.1
                    have hq1 := hq.2
                    clear hq
                    have hwr : IntKind.i64.wrap (B * (PlainAid.bt s K - 48)) = B * (PlainAid.bt s K - 48) := IntWalk.i64_in _ (by omega)
                    clear hz1
                    go_wp2
                    go_round
                    case rel => exact ⟨K + 1, N, P + B * (PlainAid.bt s K - 48), D + 1, _, ov, by omega, by omega, rfl, rfl, rfl, rfl, rfl, by go_num, hN0, hN1, hNo, hq0, hq1, by omega, by omega, Lib.hid (.inr ⟨i, rfl, by omega, by have := HD.out; omega, HQ.out⟩)⟩
                    case measure => simp [intOf]; omega
                · have hJKd : decide ((J : Int) < (K : Int) - (1 + (i : Int))) = false := by simpa using hJK
                  have hz0 : 0 ≤ B * (PlainAid.bt s K - 48) := Int.mul_nonneg hB0 (by omega)
                  have hz1 : B * (PlainAid.bt s K - 48) ≤ 100000 * 9 := Int.mul_le_mul hB1 (by omega) (by omega) (by omega)
                  have HQ := Lib.hid (show PB (((bl s).drop 1).take (K + 1 - 1)) i N (P + B * (PlainAid.bt s K - 48)) ov by
                    rw [HTK.out]
                    refine HB.out.more HDG.out (100000 / 10 ^ (J - 1)) ?_ _ (by rw [HBJ.out, HX.out])
                    rw [List.length_take, List.length_drop, bl_len]
                    congr 3
                    omega)
                  have hq := HQ.out.bd
                  have hq0 := hq.1
                  have hq1 := hq.2
                  clear hq
                  have hwr : IntKind.i64.wrap (B * (PlainAid.bt s K - 48)) = B * (PlainAid.bt s K - 48) := IntWalk.i64_in _ (by omega)
                  clear hz1
                  go_wp2
                  go_round
                  case rel => exact ⟨K + 1, N, P + B * (PlainAid.bt s K - 48), D + 1, _, ov, by omega, by omega, rfl, rfl, rfl, rfl, rfl, by go_num, hN0, hN1, hNo, hq0, hq1, by omega, by omega, Lib.hid (.inr ⟨i, rfl, by omega, by have := HD.out; omega, HQ.out⟩)⟩
                  case measure => simp [intOf]; omega
            · have HL := Lib.hid (show V = (0, 0, 11) by
                rw [HS.out, HSP.out]; exact HB.out.bad _ _ _ (by rw [isDg_no]; have := HX.out; omega))
              have h57d : decide (PlainAid.bt s K ≤ 57) = false := by simpa using h57
              obtain ⟨⟨k0, k1, k2, k3⟩, f0, f1, f2, f3⟩ := cells4 HBX.out
              go_wp2
              refine bodyPost_ret (results_val rfl _ _ w.heap.size 26 _ (0, 0) _ rfl (set4 HBX.out _ _ _ _) Tryz.underlying26 rfl infoVal _ rfl) rfl ⟨?_, below_set4 HB0.out (Nat.le_refl _) _ _ _ _⟩
              rw [HL.out]
              rfl
          · have HL := Lib.hid (show V = (0, 0, 11) by
              rw [HS.out, HSP.out]; exact HB.out.bad _ _ _ (by rw [isDg_no]; have := HX.out; omega))
            have h48d : decide (48 ≤ PlainAid.bt s K) = false := by simpa using h48
            obtain ⟨⟨k0, k1, k2, k3⟩, f0, f1, f2, f3⟩ := cells4 HBX.out
            by_cases h46 : PlainAid.bt s K = 46
            · have h46d : (PlainAid.bt s K == 46) = true := by rw [beq_iff_eq]; exact h46
              clear h46
              go_wp2
              refine bodyPost_ret (results_val rfl _ _ w.heap.size 26 _ (0, 0) _ rfl (set4 HBX.out _ _ _ _) Tryz.underlying26 rfl infoVal _ rfl) rfl ⟨?_, below_set4 HB0.out (Nat.le_refl _) _ _ _ _⟩
              rw [HL.out]
              rfl
            · have h46d : (PlainAid.bt s K == 46) = false := by rw [beq_eq_false_iff_ne]; exact h46
              clear h46
              go_wp2
              refine bodyPost_ret (results_val rfl _ _ w.heap.size 26 _ (0, 0) _ rfl (set4 HBX.out _ _ _ _) Tryz.underlying26 rfl infoVal _ rfl) rfl ⟨?_, below_set4 HB0.out (Nat.le_refl _) _ _ _ _⟩
              rw [HL.out]
              rfl
      · obtain rfl : K = s.size := by omega
        have HTK := Lib.hid (show ((bl s).drop 1).take (s.size - 1) = (bl s).drop 1 by rw [List.take_of_length_le (by rw [List.length_drop, bl_len]; omega)])
        have HLEN := Lib.hid (show ((bl s).drop 1).length = s.size - 1 by rw [List.length_drop, bl_len])
        have hwlt := (Array.getElem?_eq_some_iff.1 HBX.out).1
        obtain ⟨⟨k0, k1, k2, k3⟩, f0, f1, f2, f3⟩ := cells4 HBX.out
        rcases HST.out with ⟨rfl, rfl, hD, hA⟩ | ⟨i, rfl, hi, hD, hB⟩
        · rw [HTK.out] at hA
          have HL := Lib.hid (show V = if s.size - 1 = 0 then (0, 0, 11) else if ov = true then (0, 0, 5) else (2, (-1) * N, 0) by rw [HS.out, hA.fin, HLEN.out])
          clear hA HST
          by_cases hz : s.size - 1 = 0
          · rw [if_pos hz] at HL
            have hDz : (D == 0) = true := by rw [beq_iff_eq]; omega
            clear hD hz
            go_wp2
            refine bodyPost_ret (results_val rfl _ _ w.heap.size 26 _ (0, 0) _ rfl (set4 HBX.out _ _ _ _) Tryz.underlying26 rfl infoVal _ rfl) rfl ⟨?_, below_set4 HB0.out (Nat.le_refl _) _ _ _ _⟩
            rw [HL.out]
            rfl
          · rw [if_neg hz] at HL
            have hDz : (D == 0) = false := by rw [beq_eq_false_iff_ne]; omega
            clear hD hz
            cases ov
            · rw [if_neg (by decide)] at HL
              have hNo2 := hNo rfl
              go_wp2
              refine bodyPost_ret (results_val rfl _ _ w.heap.size 26 _ (0, 0) _ rfl (heapA_old _ (set4 HBX.out _ _ _ _)) Tryz.underlying26 rfl infoVal _ rfl) rfl ⟨?_, (below_set4 HB0.out (Nat.le_refl _) _ _ _ _).alloc (by simpa using Nat.le_of_lt hwlt) _⟩
              rw [HL.out]
              simp [valC, noStr]
            · rw [if_pos rfl] at HL
              go_wp2
              refine bodyPost_ret (results_val rfl _ _ w.heap.size 26 _ (0, 0) _ rfl (set4 HBX.out _ _ _ _) Tryz.underlying26 rfl infoVal _ rfl) rfl ⟨?_, below_set4 HB0.out (Nat.le_refl _) _ _ _ _⟩
              rw [HL.out]
              rfl
        · rw [HTK.out] at hB
          have HL := Lib.hid (show V = if s.size - 1 = 1 then (0, 0, 11) else if ov = true ∨ (N = 2147483647 ∧ 0 < P) then (0, 0, 5) else (3, (-1) * (1000000 * N + P), 0) by rw [HS.out, hB.fin, HLEN.out])
          clear hB HST
          have hpt : decide (0 ≤ (1 : Int) + (i : Int)) = true := decide_eq_true (by omega)
          have hpt2 : decide (0 ≤ (i : Int)) = true := decide_eq_true (by omega)
          have hpt3 : 0 ≤ (1 : Int) + (i : Int) := by omega
          by_cases hz : s.size - 1 = 1
          · rw [if_pos hz] at HL
            have hDz : (D == 0) = true := by rw [beq_iff_eq]; omega
            clear hD hz hi
            go_wp2
            refine bodyPost_ret (results_val rfl _ _ w.heap.size 26 _ (0, 0) _ rfl (set4 HBX.out _ _ _ _) Tryz.underlying26 rfl infoVal _ rfl) rfl ⟨?_, below_set4 HB0.out (Nat.le_refl _) _ _ _ _⟩
            rw [HL.out]
            rfl
          · rw [if_neg hz] at HL
            have hDz : (D == 0) = false := by rw [beq_eq_false_iff_ne]; omega
            clear hD hz hi
            cases ov
            · have hNo2 := hNo rfl
              by_cases hNm : N = 2147483647
              · have hNmd : (N == 2147483647) = true := by rw [beq_iff_eq]; exact hNm
                by_cases hPp : 0 < P
                · have hPd : decide (0 < P) = true := by simpa using hPp
                  rw [if_pos (.inr ⟨hNm, hPp⟩)] at HL
                  clear hNm
                  go_wp2
                  refine bodyPost_ret (results_val rfl _ _ w.heap.size 26 _ (0, 0) _ rfl (set4 HBX.out _ _ _ _) Tryz.underlying26 rfl infoVal _ rfl) rfl ⟨?_, below_set4 HB0.out (Nat.le_refl _) _ _ _ _⟩
                  rw [HL.out]
                  rfl
                · have hPd : decide (0 < P) = false := by simpa using hPp
                  rw [if_neg (by rintro (h | h); cases h; exact hPp h.2)] at HL
                  clear hNm
                  go_wp2
                  refine bodyPost_ret (results_val rfl _ _ w.heap.size 26 _ (0, 0) _ rfl (heapA_old _ (set4 HBX.out _ _ _ _)) Tryz.underlying26 rfl infoVal _ rfl) rfl ⟨?_, (below_set4 HB0.out (Nat.le_refl _) _ _ _ _).alloc (by simpa using Nat.le_of_lt hwlt) _⟩
                  rw [HL.out]
                  simp [valC, noStr]
              · have hNmd : (N == 2147483647) = false := by rw [beq_eq_false_iff_ne]; exact hNm
                rw [if_neg (by rintro (h | h); cases h; exact hNm h.1)] at HL
                clear hNm
                go_wp2
                refine bodyPost_ret (results_val rfl _ _ w.heap.size 26 _ (0, 0) _ rfl (heapA_old _ (set4 HBX.out _ _ _ _)) Tryz.underlying26 rfl infoVal _ rfl) rfl ⟨?_, (below_set4 HB0.out (Nat.le_refl _) _ _ _ _).alloc (by simpa using Nat.le_of_lt hwlt) _⟩
                rw [HL.out]
                simp [valC, noStr]
            · rw [if_pos (.inl rfl)] at HL
              go_wp2
              refine bodyPost_ret (results_val rfl _ _ w.heap.size 26 _ (0, 0) _ rfl (set4 HBX.out _ _ _ _) Tryz.underlying26 rfl infoVal _ rfl) rfl ⟨?_, below_set4 HB0.out (Nat.le_refl _) _ _ _ _⟩
              rw [HL.out]
              rfl
end Go.Proofs.YtnkodejgiabamaaGreat
/-
  The reference's Parse, for every text.
-/
namespace Go.Proofs.YtnkodejgiabamaaGreat
open Go.RowKit

set_option maxRecDepth 8000 in
set_option maxHeartbeats 1000000 in
theorem rparse_empty (s : ByteArray) (w : World) (h0 : s.size = 0) :
    Calls Tryz.prog 33 #[.string s] w (ParseEnd (parseV (bl s)) w) := by
  have hbx : (w.alloc (.cells #[.int .i64 0, .int .i64 0, .string ⟨#[]⟩, .slice none 0 0] 26)).heap[w.heap.size]? = some (.cells #[.int .i64 0, .int .i64 0, .string ⟨#[]⟩, .slice none 0 0] 26 (0, 0)) := heapA_new _ rfl
  have hB0 := belowA w (.cells #[.int .i64 0, .int .i64 0, .string ⟨#[]⟩, .slice none 0 0] 26)
  have HBX := Lib.hid hbx
  have HB0 := Lib.hid hB0
  obtain ⟨V, hV⟩ : ∃ V, V = parseV (bl s) := ⟨_, rfl⟩
  rw [← hV]
  have HV := Lib.hid hV
  clear hV hbx hB0
  have HL := Lib.hid (show V = (0, 0, 11) by rw [HV.out, show bl s = [] from List.eq_nil_of_length_eq_zero (by rw [bl_len]; exact h0)]; rfl)
  have hz : ¬ 0 < s.size := by omega
  have hzd : decide (0 < s.size) = false := decide_eq_false hz
  have hzi : decide ((0 : Int) < s.size) = false := decide_eq_false (by omega)
  clear h0
  go_enter Tryz.func33, Tryz.ntmps33
  go_wp2
  generalize w.alloc (.cells #[.int .i64 0, .int .i64 0, .string ⟨#[]⟩, .slice none 0 0] 26) = W at *
  go_loop [7, 10] (fun d i => d = .int .i64 0 ∧ i = .int .i64 0) (fun _ _ => 0)
  case atStart => exact ⟨rfl, rfl⟩
  case round =>
    obtain ⟨rfl, rfl⟩ := hrel
    obtain ⟨⟨k0, k1, k2, k3⟩, f0, f1, f2, f3⟩ := cells4 HBX.out
    go_wp2
    refine bodyPost_ret (results_val rfl _ _ w.heap.size 26 _ (0, 0) _ rfl (set4 HBX.out _ _ _ _) Tryz.underlying26 rfl infoVal _ rfl) rfl ⟨?_, below_set4 HB0.out (Nat.le_refl _) _ _ _ _⟩
    rw [HL.out]
    rfl
theorem rparse_any (s : ByteArray) (w : World) (hs : s.size ≤ 100000) :
    Calls Tryz.prog 33 #[.string s] w (ParseEnd (parseV (bl s)) w) := by
  by_cases h0 : 0 < s.size
  · by_cases h1 : PlainAid.bt s 0 = 43
    · exact rparse_plus s w hs h0 h1
    · by_cases h2 : PlainAid.bt s 0 = 45
      · exact rparse_minus s w hs h0 h2
      · exact rparse_none s w hs h0 h1 h2
  · exact rparse_empty s w (by omega)
end Go.Proofs.YtnkodejgiabamaaGreat
/-
  The document's Next: what is needed ahead of its walk.
-/
namespace Go.Proofs.YtnkodejgiabamaaGreat
open Go.RowKit

/-- Amid the document's Next: the block of the result, and that of 'no'. -/
structure Rx (w : World) (r n : Nat) (f : Nat) (W : World) : Prop where
  blk : W.heap[r]? = some (.cells #[.int .i64 0, .int .i64 0, .int .i64 0, .int .i64 0, .int .i64 0, .string ⟨#[]⟩, .slice none 0 0, .string ⟨#[]⟩] 50 (0, 0))
  no : W.heap[n]? = some (.cells #[.int .i64 0, .int .i64 f, .int .i64 f, .int .i64 0, .int .i64 0, .string ⟨#[]⟩, .slice none 0 0, .string ⟨#[]⟩] 50 (0, 0))
  bel : Below w.heap.size w W
  wr : w.heap.size ≤ r
theorem Rx.on {w W W' : World} {r n f : Nat} (h : Rx w r n f W) (hb : Below W.heap.size W W') : Rx w r n f W' := ⟨block_keep hb h.blk, block_keep hb h.no, h.bel.trans (hb.mono h.bel.size), h.wr⟩
theorem Rx.alloc {w W : World} {r n f : Nat} (h : Rx w r n f W) (o : Obj) : Rx w r n f (W.alloc o) := h.on (belowA W o)
theorem next_fin {w W : World} {r : Nat} {V : Tk × Int × Int × Int} {x : Tk} {f t er : Int} (hb : Below w.heap.size w W) (hr : w.heap.size ≤ r) (hV : V = (x, f, t, er)) (y0 y1 y2 y3 y4 y5 y6 y7 : Value) :
    NextEnd w V (.returned (.tuple #[.agg (tokN x f t), .int .i64 er]))
      ((((((((W.setCell ⟨r, 0, none⟩ y0).setCell ⟨r, 1, none⟩ y1).setCell ⟨r, 2, none⟩ y2).setCell ⟨r, 3, none⟩ y3).setCell ⟨r, 4, none⟩ y4).setCell ⟨r, 5, none⟩ y5).setCell ⟨r, 6, none⟩ y6).setCell ⟨r, 7, none⟩ y7) := by
  subst hV; exact ⟨rfl, below_set8 hb hr _ _ _ _ _ _ _ _⟩

theorem nextF_at {bs : List UInt8} {f : Nat} (last : Bool) (h : f < bs.length) : nextF bs f last = if (tokV last (bs.getD f 0) (bs.drop (f + 1))).1 = 0 then ((tokV last (bs.getD f 0) (bs.drop (f + 1))).2.1, (f : Int), (bs.length : Int) - ((tokV last (bs.getD f 0) (bs.drop (f + 1))).2.2.length : Int), 0) else ({ kind := 0 }, (f : Int), (f : Int), (tokV last (bs.getD f 0) (bs.drop (f + 1))).1) := nextF_cons last (drop_cons h)
theorem nextF_ok {bs : List UInt8} {f j : Nat} {last : Bool} (h : f < bs.length) {c : UInt8} (hc : bs.getD f 0 = c) {x : Tk} (ht : tokV last c (bs.drop (f + 1)) = (0, x, bs.drop j)) (hj : j ≤ bs.length) : nextF bs f last = (x, (f : Int), (j : Int), 0) := by
  rw [nextF_at last h, hc, ht, if_pos rfl]
  simp only [List.length_drop]
  congr 3; omega
theorem nextF_len {bs : List UInt8} {f : Nat} {last : Bool} (h : f < bs.length) {c : UInt8} (hc : bs.getD f 0 = c) {x : Tk} {r : List UInt8} (ht : tokV last c (bs.drop (f + 1)) = (0, x, r)) (hj : r.length ≤ bs.length) : nextF bs f last = (x, (f : Int), ((bs.length - r.length : Nat) : Int), 0) := by
  rw [nextF_at last h, hc, ht, if_pos rfl]
  simp only
  congr 3; omega
theorem nextF_no {bs : List UInt8} {f : Nat} {last : Bool} (h : f < bs.length) {c : UInt8} (hc : bs.getD f 0 = c) {e : Int} (ht : (tokV last c (bs.drop (f + 1))).1 = e) (he : e ≠ 0) : nextF bs f last = ({ kind := 0 }, (f : Int), (f : Int), e) := by
  rw [nextF_at last h, hc, if_neg (by rw [ht]; exact he), ht]
theorem tokV_62 (last : Bool) (t : List UInt8) : tokV last 62 t = match t with
      | [] => (if last then 11 else 6, { kind := 0 }, [])
      | d :: u => if d = 62 then (0, { kind := 5 }, u) else (11, { kind := 0 }, []) := by
  unfold tokV
  rw [if_neg (by decide), if_neg (by decide), if_neg (by decide), if_neg (by decide), if_pos rfl]
  cases t <;> rfl
theorem tokV_60 (last : Bool) (t : List UInt8) (h : ∀ u, t ≠ 60 :: u) : tokV last 60 t = hexK last (hexV [] (-1) t) := by
  have := tokV_open ⟨none, 0, t, last⟩ 0
  rw [List.drop_zero] at this
  rw [this]
  cases t with
  | nil => rfl
  | cons d u =>
    rw [opV_in (X := ⟨none, 0, d :: u, last⟩) (k := 0) (by simp), if_neg (by simp; intro e; subst e; exact h u rfl)]
    rfl
theorem skip_here {bs : List UInt8} {k : Int} {f : Nat} (h0 : 0 ≤ k) (h1 : k ≤ bs.length) (hf : skipV bs k = f) (hl : f < bs.length) : bs.getD f 0 ≠ 37 ∧ isSp (bs.getD f 0) = false := by
  have hi := skipV_idem h0 h1
  rw [hf] at hi
  have h2 : f + skipN false (bs.drop f) = f := by
    have : skipV bs (f : Int) = f + skipN false (bs.drop f) := by
      unfold skipV; rw [if_neg (by omega), if_neg (by omega), Int.toNat_natCast]
    rw [← this]; exact hi
  rw [drop_cons hl] at h2
  refine ⟨fun e => ?_, ?_⟩
  · rw [skipN, if_pos e] at h2; omega
  · by_cases e : bs.getD f 0 = 37
    · rw [skipN, if_pos e] at h2; omega
    · cases hs : isSp (bs.getD f 0) with
      | false => rfl
      | true => rw [skipN, if_neg e, if_pos hs] at h2; omega
/-- The result is told: hexes' is not looked at. -/
theorem HexREnd.some_end {bs : List UInt8} {last : Bool} {V : Int × List UInt8 × List UInt8} {w w' : World} {e : Ending} (h : HexREnd bs last V w e w') : ∃ v n er, e = .returned (.tuple #[v, .int .i64 n, .int .i64 er]) ∧ Below w.heap.size w w' := by
  obtain ⟨hb, ⟨-, h⟩ | ⟨-, h⟩ | ⟨-, v, h, -, -⟩⟩ := h
  · exact ⟨_, _, _, h, hb⟩
  · exact ⟨_, _, _, h, hb⟩
  · exact ⟨_, _, _, h, hb⟩
end Go.Proofs.YtnkodejgiabamaaGreat
