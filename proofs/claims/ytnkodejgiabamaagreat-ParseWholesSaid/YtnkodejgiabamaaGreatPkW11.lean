/-
  Our texts LexK to NumS1, in one.
-/
import Derived.Test.YtnkodejgiabamaaGreatPkW10
import Derived.PlainAid
/-
  Walks of layer 10's law: a token as the document has it; two tokens that are the same are alike.
-/
namespace Go.Proofs.YtnkodejgiabamaaGreat
open Go.RowKit

theorem infoRTok : (Tryz.prog.info? 50).map (·.size) = some 8 := by kernel_rfl

end Go.Proofs.YtnkodejgiabamaaGreat
/-
  The walk of the reference's Parse: the number of a text, by definition.
-/
namespace Go.Proofs.YtnkodejgiabamaaGreat
open Go.RowKit

/-- Ahead of a point: digits p have been looked at. -/
structure PA (p : List UInt8) (N : Int) (ov : Bool) : Prop where
  dg : p.all isDg = true
  ov_ : ov = decide (2147483647 < valD p)
  n : ov = false → N = (valD p : Nat)
/-- Behind a point at place i. -/
def PB (p : List UInt8) (i : Nat) (N P : Int) (ov : Bool) : Prop := ∃ w r, p = w ++ 46 :: r ∧ w.length = i ∧ PA w N ov ∧ r.all isDg = true ∧ P = (mil r : Nat)

theorem PA.nil : PA [] 0 false := ⟨rfl, rfl, fun _ => rfl⟩
theorem PA.over {p : List UInt8} {N : Int} (h : PA p N true) {c : UInt8} (hc : isDg c = true) : PA (p ++ [c]) N true :=
  ⟨all_snoc _ _ h.dg hc, by have := h.ov_; rw [eq_comm, decide_eq_true_iff] at this; rw [eq_comm, decide_eq_true_iff, valD_snoc]; omega, fun h => by cases h⟩
theorem PA.more {p : List UInt8} {N : Int} (h : PA p N false) {c : UInt8} (hc : isDg c = true) (M : Int) (hM : M = 10 * N + (dgV c : Nat)) (o : Bool) (ho : o = decide (2147483647 < M)) : PA (p ++ [c]) M o := by
  have h1 := h.n rfl
  have hv : M = (valD (p ++ [c]) : Nat) := by rw [valD_snoc, hM, h1]; omega
  refine ⟨all_snoc _ _ h.dg hc, ?_, fun _ => hv⟩
  rw [ho, Bool.eq_iff_iff, decide_eq_true_iff, decide_eq_true_iff]; omega
theorem PA.point {p : List UInt8} {N : Int} {ov : Bool} (h : PA p N ov) : PB (p ++ [46]) p.length N 0 ov := ⟨p, [], rfl, rfl, h, rfl, rfl⟩
theorem mil_by (r : List UInt8) (c : UInt8) (b : Nat) (hb : b = 100000 / 10 ^ (min (r.length + 1) 7 - 1)) : mil (r ++ [c]) = mil r + b * dgV c := by
  by_cases h : r.length < 6
  · rw [mil_snoc_lt r c h, hb, Nat.min_eq_left (by omega)]
    congr 2
    have : r.length = 0 ∨ r.length = 1 ∨ r.length = 2 ∨ r.length = 3 ∨ r.length = 4 ∨ r.length = 5 := by omega
    rcases this with h | h | h | h | h | h <;> rw [h]
  · rw [mil_snoc_ge r c (by omega), hb, Nat.min_eq_right (by omega)]
    simp
theorem PB.more {p : List UInt8} {i : Nat} {N P : Int} {ov : Bool} (h : PB p i N P ov) {c : UInt8} (hc : isDg c = true) (b : Nat) (hb : b = 100000 / 10 ^ (min (p.length - i) 7 - 1)) (Q : Int) (hQ : Q = P + (b : Int) * ((c.toNat : Int) - 48)) : PB (p ++ [c]) i N Q ov := by
  obtain ⟨w, r, e, hl, hA, hr, hP⟩ := h
  have hlen := congrArg List.length e
  simp only [List.length_append, List.length_cons] at hlen
  refine ⟨w, r ++ [c], by rw [e]; simp, hl, hA, all_snoc _ _ hr hc, ?_⟩
  rw [mil_by r c b (by rw [hb]; congr 3; omega), hQ, hP, ← dgV_int hc]
  push_cast
  rfl
theorem PB.bad {p : List UInt8} {i : Nat} {N P : Int} {ov : Bool} (h : PB p i N P ov) (sg : Int) (c : UInt8) (t : List UInt8) (hc : isDg c = false) : parseB sg (p ++ c :: t) = (0, 0, 11) := by
  obtain ⟨w, r, e, hl, hA, hr, hP⟩ := h
  rw [e]
  have : w ++ 46 :: r ++ c :: t = w ++ 46 :: (r ++ c :: t) := by simp
  rw [this]
  exact parseB_bad2 sg w r t c hA.dg hc
theorem PB.bd {p : List UInt8} {i : Nat} {N P : Int} {ov : Bool} (h : PB p i N P ov) : 0 ≤ P ∧ P ≤ 999999 := by
  obtain ⟨w, r, e, hl, hA, hr, rfl⟩ := h
  have := mil_lt r hr
  omega

/-- The end: no point. -/
theorem PA.fin {p : List UInt8} {N : Int} {ov : Bool} (h : PA p N ov) (sg : Int) : parseB sg p = if p.length = 0 then (0, 0, 11) else if ov = true then (0, 0, 5) else (2, sg * N, 0) := by
  rw [parseB_int sg p h.dg]
  by_cases h0 : p.length = 0
  · rw [if_pos h0, if_pos h0]
  · rw [if_neg h0, if_neg h0]
    have h1 := h.ov_
    cases ov
    · rw [eq_comm, decide_eq_false_iff_not] at h1
      rw [if_neg h1, if_neg (by decide), h.n rfl]
    · rw [eq_comm, decide_eq_true_iff] at h1
      rw [if_pos h1, if_pos rfl]
theorem PB.fin {p : List UInt8} {i : Nat} {N P : Int} {ov : Bool} (h : PB p i N P ov) (sg : Int) : parseB sg p = if p.length = 1 then (0, 0, 11) else if ov = true ∨ (N = 2147483647 ∧ 0 < P) then (0, 0, 5) else (3, sg * (1000000 * N + P), 0) := by
  obtain ⟨w, r, e, hl, hA, hr, rfl⟩ := h
  have hlen := congrArg List.length e
  simp only [List.length_append, List.length_cons] at hlen
  rw [e, parseB_real sg w r hA.dg hr, ← e]
  by_cases h0 : p.length = 1
  · rw [if_pos h0, if_pos (by omega)]
  · rw [if_neg h0, if_neg (by omega)]
    have h1 := hA.ov_
    cases ov
    · rw [eq_comm, decide_eq_false_iff_not] at h1
      have h2 := hA.n rfl
      by_cases h3 : N = 2147483647 ∧ 0 < ((mil r : Nat) : Int)
      · rw [if_pos (.inr (by omega)), if_pos (.inr h3)]
      · rw [if_neg (by rintro (h | h); exact h1 h; exact h3 (by omega)), if_neg (by rintro (h | h); cases h; exact h3 h), h2]
        rw [Int.natCast_add, Int.natCast_mul, Int.mul_comm 1000000]; rfl
    · rw [eq_comm, decide_eq_true_iff] at h1
      rw [if_pos (.inl h1), if_pos (.inl rfl)]

/-- Where the reference stands. -/
def St (b : List UInt8) (a K : Nat) (N P D T : Int) (ov : Bool) : Prop :=
  (T = -1 ∧ P = 0 ∧ D = (K : Int) - (a : Int) ∧ PA (b.take (K - a)) N ov) ∨ (∃ i : Nat, T = (a : Int) + (i : Int) ∧ i < K - a ∧ D = (K : Int) - (a : Int) - 1 ∧ PB (b.take (K - a)) i N P ov)
theorem at_take (s : ByteArray) (a k : Nat) (h : k < s.size) (ha : a ≤ k) : ((bl s).drop a).take (k + 1 - a) = ((bl s).drop a).take (k - a) ++ [s[k]] := by
  rw [show k + 1 - a = (k - a) + 1 from by omega, List.take_succ_eq_append_getElem (by rw [List.length_drop, bl_len]; omega), List.getElem_drop]
  congr 2
  rw [← bl_get s k h]
  congr 1
  omega
theorem at_split (s : ByteArray) (a k : Nat) (h : k < s.size) (ha : a ≤ k) : (bl s).drop a = ((bl s).drop a).take (k - a) ++ s[k] :: (bl s).drop (k + 1) := by
  have h1 := List.take_append_drop (k - a) ((bl s).drop a)
  rw [List.drop_drop, show a + (k - a) = k from by omega, bl_drop s k h] at h1
  exact h1.symm
end Go.Proofs.YtnkodejgiabamaaGreat
/-
  The walk of the reference's Parse: the number of a text, by definition (no sign).
-/
namespace Go.Proofs.YtnkodejgiabamaaGreat
open Go.RowKit

set_option maxRecDepth 8000 in
set_option maxHeartbeats 16000000 in
theorem rparse_none (s : ByteArray) (w : World) (hs : s.size ≤ 100000) (h0 : 0 < s.size) (hn43 : PlainAid.bt s 0 ≠ 43) (hn45 : PlainAid.bt s 0 ≠ 45) :
    Calls Tryz.prog 33 #[.string s] w (ParseEnd (parseV (bl s)) w) := by
  have hbx : (w.alloc (.cells #[.int .i64 0, .int .i64 0, .string ⟨#[]⟩, .slice none 0 0] 26)).heap[w.heap.size]? = some (.cells #[.int .i64 0, .int .i64 0, .string ⟨#[]⟩, .slice none 0 0] 26 (0, 0)) := heapA_new _ rfl
  have hB0 := belowA w (.cells #[.int .i64 0, .int .i64 0, .string ⟨#[]⟩, .slice none 0 0] 26)
  have HBX := Lib.hid hbx
  have HB0 := Lib.hid hB0
  obtain ⟨V, hV⟩ : ∃ V, V = parseV (bl s) := ⟨_, rfl⟩
  rw [← hV]
  have HV := Lib.hid hV
  clear hV hbx hB0
  · have hgb := PlainAid.get_bt s
    have hx : (s[0].toNat : Int) = PlainAid.bt s 0 := hgb 0 h0
    have h43 : (PlainAid.bt s 0 == 43) = false := by rw [beq_eq_false_iff_ne]; exact hn43
    have h45 : (PlainAid.bt s 0 == 45) = false := by rw [beq_eq_false_iff_ne]; exact hn45
    have HS := Lib.hid (show V = parseB 1 ((bl s).drop 0) by
      have hb := bl_drop s 0 h0
      have a1 : s[0] ≠ 45 := fun e => hn45 (by rw [← hx, e]; rfl)
      have a2 : s[0] ≠ 43 := fun e => hn43 (by rw [← hx, e]; rfl)
      rw [List.drop_zero] at hb
      rw [HV.out, parseV, List.drop_zero]
      unfold signOf bodyOf
      rw [hb, List.head?_cons, if_neg (by simpa using a1), if_neg (by simp; exact ⟨a1, a2⟩)])
    clear hx hn43 hn45
    go_enter Tryz.func33, Tryz.ntmps33
    go_wp2
    generalize w.alloc (.cells #[.int .i64 0, .int .i64 0, .string ⟨#[]⟩, .slice none 0 0] 26) = W at *
    go_loop [5, 6, 7, 8, 9, 10] (fun n p d t o i => ∃ (K : Nat) (N P D T : Int) (ov : Bool), 0 ≤ K ∧ K ≤ s.size ∧ n = .int .i64 N ∧ p = .int .i64 P ∧ d = .int .i64 D ∧ t = .int .i64 T ∧ o = .bool ov ∧ i = .int .i64 K ∧ 0 ≤ N ∧ N ≤ 21474836479 ∧ (ov = false → N ≤ 2147483647) ∧ 0 ≤ P ∧ P ≤ 999999 ∧ 0 ≤ D ∧ D ≤ K ∧ Hid (St ((bl s).drop 0) 0 K N P D T ov))
      (fun _ _ _ _ _ i => s.size - (intOf i).toNat)
    case atStart => exact ⟨0, 0, 0, 0, -1, false, Nat.le_refl _, by omega, rfl, rfl, rfl, rfl, rfl, rfl, by omega, by omega, fun _ => by omega, by omega, by omega, by omega, by omega, Lib.hid (.inl ⟨rfl, rfl, by omega, PA.nil⟩)⟩
    case round =>
      obtain ⟨K, N, P, D, T, ov, hK0, hK1, rfl, rfl, rfl, rfl, rfl, rfl, hN0, hN1, hNo, hP0, hP1, hD0, hD1, HST⟩ := hrel
      by_cases hlt : K < s.size
      · have hgb := PlainAid.get_bt s
        have hx : (s[K].toNat : Int) = PlainAid.bt s K := hgb K hlt
        have HTK := Lib.hid (at_take s 0 K hlt hK0)
        have HSP := Lib.hid (at_split s 0 K hlt hK0)
        have hx0 := PlainAid.bt_nonneg s K
        have hx1 := PlainAid.bt_le s K
        have HX := Lib.hid hx
        clear hx
        rcases HST.out with ⟨rfl, rfl, hD, hA⟩ | ⟨i, rfl, hi, hD, hB⟩
        · have HA := Lib.hid hA
          have HD := Lib.hid hD
          clear hA hD HST
          by_cases h46 : PlainAid.bt s K = 46
          · have HB := Lib.hid (show PB (((bl s).drop 0).take (K + 1 - 0)) (K - 0) N 0 ov by
              rw [HTK.out, show s[K] = 46 from UInt8.toNat_inj.1 (by have := HX.out; rw [h46] at this; exact Int.ofNat_inj.1 this)]
              have := HA.out.point
              rwa [show (((bl s).drop 0).take (K - 0)).length = K - 0 from by rw [List.length_take, List.length_drop, bl_len]; omega] at this)
            have h46d : (PlainAid.bt s K == 46) = true := by rw [beq_iff_eq]; exact h46
            clear h46
            go_wp2
            go_round
            case rel => exact ⟨K + 1, N, 0, D, K, ov, by omega, by omega, rfl, rfl, rfl, rfl, rfl, by go_num, hN0, hN1, hNo, by omega, by omega, hD0, by omega, Lib.hid (.inr ⟨K - 0, by omega, by omega, by have := HD.out; omega, HB.out⟩)⟩
            case measure => simp [intOf]; omega
          · have h46d : (PlainAid.bt s K == 46) = false := by rw [beq_eq_false_iff_ne]; exact h46
            have HNE := Lib.hid (show s[K] ≠ 46 from fun e => h46 (by rw [← HX.out, e]; rfl))
            clear h46
            by_cases h48 : 48 ≤ PlainAid.bt s K
            · by_cases h57 : PlainAid.bt s K ≤ 57
              · have HDG := Lib.hid (show isDg s[K] = true by rw [isDg_iff]; have := HX.out; omega)
                have HDV := Lib.hid (show ((dgV s[K] : Nat) : Int) = PlainAid.bt s K - 48 by rw [dgV_int HDG.out, HX.out])
                have h48d : decide (48 ≤ PlainAid.bt s K) = true := by simpa using h48
                have h57d : decide (PlainAid.bt s K ≤ 57) = true := by simpa using h57
                cases ov
                · have hN2 := hNo rfl
                  by_cases hM : 2147483647 < 10 * N + PlainAid.bt s K - 48
                  · have HA2 := Lib.hid (show PA (((bl s).drop 0).take (K + 1 - 0)) (10 * N + PlainAid.bt s K - 48) true by
                      rw [HTK.out]; exact HA.out.more HDG.out _ (by have := HDV.out; omega) _ (by rw [eq_comm, decide_eq_true_iff]; exact hM))
                    go_wp2
                    go_round
                    case rel => exact ⟨K + 1, 10 * N + PlainAid.bt s K - 48, 0, D + 1, -1, true, by omega, by omega, rfl, rfl, rfl, rfl, rfl, by go_num, by omega, by omega, (fun h => by cases h), by omega, by omega, by omega, by omega, Lib.hid (.inl ⟨rfl, rfl, by have := HD.out; omega, HA2.out⟩)⟩
                    case measure => simp [intOf]; omega
                  · have HA2 := Lib.hid (show PA (((bl s).drop 0).take (K + 1 - 0)) (10 * N + PlainAid.bt s K - 48) false by
                      rw [HTK.out]; exact HA.out.more HDG.out _ (by have := HDV.out; omega) _ (by rw [eq_comm, decide_eq_false_iff_not]; exact hM))
                    have hMd : decide (2147483647 < 10 * N + PlainAid.bt s K - 48) = false := by simpa using hM
                    have hM2 : 10 * N + PlainAid.bt s K - 48 ≤ 2147483647 := by omega
                    clear hM
                    go_wp2
                    go_round
                    case rel => exact ⟨K + 1, 10 * N + PlainAid.bt s K - 48, 0, D + 1, -1, false, by omega, by omega, rfl, rfl, rfl, rfl, rfl, by go_num, by omega, by omega, (fun _ => hM2), by omega, by omega, by omega, by omega, Lib.hid (.inl ⟨rfl, rfl, by have := HD.out; omega, HA2.out⟩)⟩
                    case measure => simp [intOf]; omega
                · have HA2 := Lib.hid (show PA (((bl s).drop 0).take (K + 1 - 0)) N true by rw [HTK.out]; exact HA.out.over HDG.out)
                  go_wp2
                  go_round
                  case rel => exact ⟨K + 1, N, 0, D + 1, -1, true, by omega, by omega, rfl, rfl, rfl, rfl, rfl, by go_num, hN0, hN1, hNo, by omega, by omega, by omega, by omega, Lib.hid (.inl ⟨rfl, rfl, by have := HD.out; omega, HA2.out⟩)⟩
                  case measure => simp [intOf]; omega
              · have HL := Lib.hid (show V = (0, 0, 11) by
                  rw [HS.out, HSP.out]; exact parseB_bad1 _ _ _ _ HA.out.dg HNE.out (by rw [isDg_no]; have := HX.out; omega))
                have h48d : decide (48 ≤ PlainAid.bt s K) = true := by simpa using h48
                have h57d : decide (PlainAid.bt s K ≤ 57) = false := by simpa using h57
                obtain ⟨⟨k0, k1, k2, k3⟩, f0, f1, f2, f3⟩ := cells4 HBX.out
                go_wp2
                refine bodyPost_ret (results_val rfl _ _ w.heap.size 26 _ (0, 0) _ rfl (set4 HBX.out _ _ _ _) Tryz.underlying26 rfl infoVal _ rfl) rfl ⟨?_, below_set4 HB0.out (Nat.le_refl _) _ _ _ _⟩
                rw [HL.out]
                rfl
            · have HL := Lib.hid (show V = (0, 0, 11) by
                rw [HS.out, HSP.out]; exact parseB_bad1 _ _ _ _ HA.out.dg HNE.out (by rw [isDg_no]; have := HX.out; omega))
              have h48d : decide (48 ≤ PlainAid.bt s K) = false := by simpa using h48
              obtain ⟨⟨k0, k1, k2, k3⟩, f0, f1, f2, f3⟩ := cells4 HBX.out
              go_wp2
              refine bodyPost_ret (results_val rfl _ _ w.heap.size 26 _ (0, 0) _ rfl (set4 HBX.out _ _ _ _) Tryz.underlying26 rfl infoVal _ rfl) rfl ⟨?_, below_set4 HB0.out (Nat.le_refl _) _ _ _ _⟩
              rw [HL.out]
              rfl
        · have HB := Lib.hid hB
          have HD := Lib.hid hD
          clear hB hD HST
          have hpt : decide ((0 : Int) + (i : Int) < 0) = false := decide_eq_false (by omega)
          have hpt2 : decide ((i : Int) < 0) = false := decide_eq_false (by omega)
          have hpt3 : 0 ≤ (0 : Int) + (i : Int) := by omega
          by_cases h48 : 48 ≤ PlainAid.bt s K
          · have h48d : decide (48 ≤ PlainAid.bt s K) = true := by simpa using h48
            have h46d : (PlainAid.bt s K == 46) = false := by rw [beq_eq_false_iff_ne]; omega
            by_cases h57 : PlainAid.bt s K ≤ 57
            · have h57d : decide (PlainAid.bt s K ≤ 57) = true := by simpa using h57
              have HDG := Lib.hid (show isDg s[K] = true by rw [isDg_iff]; have := HX.out; omega)
              go_wp2
              go_loop [11, 12] (fun b j => ∃ (J : Nat) (B : Int), 1 ≤ J ∧ J ≤ 7 ∧ J ≤ K - 0 - i ∧ b = .int .i64 B ∧ j = .int .i64 J ∧ 0 ≤ B ∧ B ≤ 100000 ∧ Hid (B = (100000 / 10 ^ (J - 1) : Nat))) (fun _ j => 7 - (intOf j).toNat)
              case atStart => exact ⟨1, 100000, by omega, by omega, by omega, rfl, rfl, by omega, by omega, Lib.hid rfl⟩
              case round =>
                obtain ⟨J, B, hJ1, hJ7, hJL, rfl, rfl, hB0, hB1, HBJ⟩ := hrel
                by_cases hJK : (J : Int) < (K : Int) - ((i : Int))
                · have hJKd : decide ((J : Int) < (K : Int) - ((i : Int))) = true := by simpa using hJK
                  by_cases hJ7b : J < 7
                  · have hJ7d : decide ((J : Int) < 7) = true := by simp; omega
                    have HBN := Lib.hid (show B / 10 = ((100000 / 10 ^ (J + 1 - 1) : Nat) : Int) by
                      rw [HBJ.out, show J + 1 - 1 = (J - 1) + 1 from by omega, Nat.pow_succ, ← Nat.div_div_eq_div_mul]; omega)
                    go_wp2
                    go_round
                    case rel => exact ⟨J + 1, B / 10, by omega, by omega, by omega, rfl, by go_num, by omega, by omega, HBN⟩
                    case measure => simp [intOf]; omega
                  · have hJ7d : decide ((J : Int) < 7) = false := decide_eq_false (by omega)
                    have hz0 : 0 ≤ B * (PlainAid.bt s K - 48) := Int.mul_nonneg hB0 (by omega)
                    have hz1 : B * (PlainAid.bt s K - 48) ≤ 100000 * 9 := Int.mul_le_mul hB1 (by omega) (by omega) (by omega)
                    have HQ := Lib.hid (show PB (((bl s).drop 0).take (K + 1 - 0)) i N (P + B * (PlainAid.bt s K - 48)) ov by
                      rw [HTK.out]
                      refine HB.out.more HDG.out (100000 / 10 ^ (J - 1)) ?_ _ (by rw [HBJ.out, HX.out])
                      rw [List.length_take, List.length_drop, bl_len]
                      congr 3
                      omega)
                    have hq := HQ.out.bd
                    have hq0 := hq.1
                    have hq1 := hq.2
                    clear hq
                    have hwr : IntKind.i64.wrap (B * (PlainAid.bt s K - 48)) = B * (PlainAid.bt s K - 48) := IntWalk.i64_in _ (by omega)
                    clear hz1
                    go_wp2
                    go_round
                    case rel => exact ⟨K + 1, N, P + B * (PlainAid.bt s K - 48), D + 1, _, ov, by omega, by omega, rfl, rfl, rfl, by go_num, rfl, by go_num, hN0, hN1, hNo, hq0, hq1, by omega, by omega, Lib.hid (.inr ⟨i, rfl, by omega, by have := HD.out; omega, HQ.out⟩)⟩
                    case measure => simp [intOf]; omega
                · have hJKd : decide ((J : Int) < (K : Int) - ((i : Int))) = false := by simpa using hJK
                  have hz0 : 0 ≤ B * (PlainAid.bt s K - 48) := Int.mul_nonneg hB0 (by omega)
                  have hz1 : B * (PlainAid.bt s K - 48) ≤ 100000 * 9 := Int.mul_le_mul hB1 (by omega) (by omega) (by omega)
                  have HQ := Lib.hid (show PB (((bl s).drop 0).take (K + 1 - 0)) i N (P + B * (PlainAid.bt s K - 48)) ov by
                    rw [HTK.out]
                    refine HB.out.more HDG.out (100000 / 10 ^ (J - 1)) ?_ _ (by rw [HBJ.out, HX.out])
                    rw [List.length_take, List.length_drop, bl_len]
                    congr 3
                    omega)
                  have hq := HQ.out.bd
                  have hq0 := hq.1
                  have hq1 := hq.2
                  clear hq
                  have hwr : IntKind.i64.wrap (B * (PlainAid.bt s K - 48)) = B * (PlainAid.bt s K - 48) := IntWalk.i64_in _ (by omega)
                  clear hz1
                  go_wp2
                  go_round
                  case rel => exact ⟨K + 1, N, P + B * (PlainAid.bt s K - 48), D + 1, _, ov, by omega, by omega, rfl, rfl, rfl, by go_num, rfl, by go_num, hN0, hN1, hNo, hq0, hq1, by omega, by omega, Lib.hid (.inr ⟨i, rfl, by omega, by have := HD.out; omega, HQ.out⟩)⟩
                  case measure => simp [intOf]; omega
            · have HL := Lib.hid (show V = (0, 0, 11) by
                rw [HS.out, HSP.out]; exact HB.out.bad _ _ _ (by rw [isDg_no]; have := HX.out; omega))
              have h57d : decide (PlainAid.bt s K ≤ 57) = false := by simpa using h57
              obtain ⟨⟨k0, k1, k2, k3⟩, f0, f1, f2, f3⟩ := cells4 HBX.out
              go_wp2
              refine bodyPost_ret (results_val rfl _ _ w.heap.size 26 _ (0, 0) _ rfl (set4 HBX.out _ _ _ _) Tryz.underlying26 rfl infoVal _ rfl) rfl ⟨?_, below_set4 HB0.out (Nat.le_refl _) _ _ _ _⟩
              rw [HL.out]
              rfl
          · have HL := Lib.hid (show V = (0, 0, 11) by
              rw [HS.out, HSP.out]; exact HB.out.bad _ _ _ (by rw [isDg_no]; have := HX.out; omega))
            have h48d : decide (48 ≤ PlainAid.bt s K) = false := by simpa using h48
            obtain ⟨⟨k0, k1, k2, k3⟩, f0, f1, f2, f3⟩ := cells4 HBX.out
            by_cases h46 : PlainAid.bt s K = 46
            · have h46d : (PlainAid.bt s K == 46) = true := by rw [beq_iff_eq]; exact h46
              clear h46
              go_wp2
              refine bodyPost_ret (results_val rfl _ _ w.heap.size 26 _ (0, 0) _ rfl (set4 HBX.out _ _ _ _) Tryz.underlying26 rfl infoVal _ rfl) rfl ⟨?_, below_set4 HB0.out (Nat.le_refl _) _ _ _ _⟩
              rw [HL.out]
              rfl
            · have h46d : (PlainAid.bt s K == 46) = false := by rw [beq_eq_false_iff_ne]; exact h46
              clear h46
              go_wp2
              refine bodyPost_ret (results_val rfl _ _ w.heap.size 26 _ (0, 0) _ rfl (set4 HBX.out _ _ _ _) Tryz.underlying26 rfl infoVal _ rfl) rfl ⟨?_, below_set4 HB0.out (Nat.le_refl _) _ _ _ _⟩
              rw [HL.out]
              rfl
      · obtain rfl : K = s.size := by omega
        have HTK := Lib.hid (show ((bl s).drop 0).take (s.size - 0) = (bl s).drop 0 by rw [List.take_of_length_le (by rw [List.length_drop, bl_len]; omega)])
        have HLEN := Lib.hid (show ((bl s).drop 0).length = s.size - 0 by rw [List.length_drop, bl_len])
        have hwlt := (Array.getElem?_eq_some_iff.1 HBX.out).1
        obtain ⟨⟨k0, k1, k2, k3⟩, f0, f1, f2, f3⟩ := cells4 HBX.out
        rcases HST.out with ⟨rfl, rfl, hD, hA⟩ | ⟨i, rfl, hi, hD, hB⟩
        · rw [HTK.out] at hA
          have HL := Lib.hid (show V = if s.size - 0 = 0 then (0, 0, 11) else if ov = true then (0, 0, 5) else (2, 1 * N, 0) by rw [HS.out, hA.fin, HLEN.out])
          clear hA HST
          by_cases hz : s.size - 0 = 0
          · rw [if_pos hz] at HL
            have hDz : (D == 0) = true := by rw [beq_iff_eq]; omega
            clear hD hz
            go_wp2
            refine bodyPost_ret (results_val rfl _ _ w.heap.size 26 _ (0, 0) _ rfl (set4 HBX.out _ _ _ _) Tryz.underlying26 rfl infoVal _ rfl) rfl ⟨?_, below_set4 HB0.out (Nat.le_refl _) _ _ _ _⟩
            rw [HL.out]
            rfl
          · rw [if_neg hz] at HL
            have hDz : (D == 0) = false := by rw [beq_eq_false_iff_ne]; omega
            clear hD hz
            cases ov
            · rw [if_neg (by decide)] at HL
              have hNo2 := hNo rfl
              go_wp2
              refine bodyPost_ret (results_val rfl _ _ w.heap.size 26 _ (0, 0) _ rfl (heapA_old _ (set4 HBX.out _ _ _ _)) Tryz.underlying26 rfl infoVal _ rfl) rfl ⟨?_, (below_set4 HB0.out (Nat.le_refl _) _ _ _ _).alloc (by simpa using Nat.le_of_lt hwlt) _⟩
              rw [HL.out]
              simp [valC, noStr]
            · rw [if_pos rfl] at HL
              go_wp2
              refine bodyPost_ret (results_val rfl _ _ w.heap.size 26 _ (0, 0) _ rfl (set4 HBX.out _ _ _ _) Tryz.underlying26 rfl infoVal _ rfl) rfl ⟨?_, below_set4 HB0.out (Nat.le_refl _) _ _ _ _⟩
              rw [HL.out]
              rfl
        · rw [HTK.out] at hB
          have HL := Lib.hid (show V = if s.size - 0 = 1 then (0, 0, 11) else if ov = true ∨ (N = 2147483647 ∧ 0 < P) then (0, 0, 5) else (3, 1 * (1000000 * N + P), 0) by rw [HS.out, hB.fin, HLEN.out])
          clear hB HST
          have hpt : decide (0 ≤ (0 : Int) + (i : Int)) = true := decide_eq_true (by omega)
          have hpt2 : decide (0 ≤ (i : Int)) = true := decide_eq_true (by omega)
          have hpt3 : 0 ≤ (0 : Int) + (i : Int) := by omega
          by_cases hz : s.size - 0 = 1
          · rw [if_pos hz] at HL
            have hDz : (D == 0) = true := by rw [beq_iff_eq]; omega
            clear hD hz hi
            go_wp2
            refine bodyPost_ret (results_val rfl _ _ w.heap.size 26 _ (0, 0) _ rfl (set4 HBX.out _ _ _ _) Tryz.underlying26 rfl infoVal _ rfl) rfl ⟨?_, below_set4 HB0.out (Nat.le_refl _) _ _ _ _⟩
            rw [HL.out]
            rfl
          · rw [if_neg hz] at HL
            have hDz : (D == 0) = false := by rw [beq_eq_false_iff_ne]; omega
            clear hD hz hi
            cases ov
            · have hNo2 := hNo rfl
              by_cases hNm : N = 2147483647
              · have hNmd : (N == 2147483647) = true := by rw [beq_iff_eq]; exact hNm
                by_cases hPp : 0 < P
                · have hPd : decide (0 < P) = true := by simpa using hPp
                  rw [if_pos (.inr ⟨hNm, hPp⟩)] at HL
                  clear hNm
                  go_wp2
                  refine bodyPost_ret (results_val rfl _ _ w.heap.size 26 _ (0, 0) _ rfl (set4 HBX.out _ _ _ _) Tryz.underlying26 rfl infoVal _ rfl) rfl ⟨?_, below_set4 HB0.out (Nat.le_refl _) _ _ _ _⟩
                  rw [HL.out]
                  rfl
                · have hPd : decide (0 < P) = false := by simpa using hPp
                  rw [if_neg (by rintro (h | h); cases h; exact hPp h.2)] at HL
                  clear hNm
                  go_wp2
                  refine bodyPost_ret (results_val rfl _ _ w.heap.size 26 _ (0, 0) _ rfl (heapA_old _ (set4 HBX.out _ _ _ _)) Tryz.underlying26 rfl infoVal _ rfl) rfl ⟨?_, (below_set4 HB0.out (Nat.le_refl _) _ _ _ _).alloc (by simpa using Nat.le_of_lt hwlt) _⟩
                  rw [HL.out]
                  simp [valC, noStr]
              · have hNmd : (N == 2147483647) = false := by rw [beq_eq_false_iff_ne]; exact hNm
                rw [if_neg (by rintro (h | h); cases h; exact hNm h.1)] at HL
                clear hNm
                go_wp2
                refine bodyPost_ret (results_val rfl _ _ w.heap.size 26 _ (0, 0) _ rfl (heapA_old _ (set4 HBX.out _ _ _ _)) Tryz.underlying26 rfl infoVal _ rfl) rfl ⟨?_, (below_set4 HB0.out (Nat.le_refl _) _ _ _ _).alloc (by simpa using Nat.le_of_lt hwlt) _⟩
                rw [HL.out]
                simp [valC, noStr]
            · rw [if_pos (.inl rfl)] at HL
              go_wp2
              refine bodyPost_ret (results_val rfl _ _ w.heap.size 26 _ (0, 0) _ rfl (set4 HBX.out _ _ _ _) Tryz.underlying26 rfl infoVal _ rfl) rfl ⟨?_, below_set4 HB0.out (Nat.le_refl _) _ _ _ _⟩
              rw [HL.out]
              rfl
end Go.Proofs.YtnkodejgiabamaaGreat
/-
  The walk of the reference's Parse: the number of a text, by definition (sign 1).
-/
namespace Go.Proofs.YtnkodejgiabamaaGreat
open Go.RowKit

set_option maxRecDepth 8000 in
set_option maxHeartbeats 16000000 in
theorem rparse_plus (s : ByteArray) (w : World) (hs : s.size ≤ 100000) (h0 : 0 < s.size) (hc : PlainAid.bt s 0 = 43) :
    Calls Tryz.prog 33 #[.string s] w (ParseEnd (parseV (bl s)) w) := by
  have hbx : (w.alloc (.cells #[.int .i64 0, .int .i64 0, .string ⟨#[]⟩, .slice none 0 0] 26)).heap[w.heap.size]? = some (.cells #[.int .i64 0, .int .i64 0, .string ⟨#[]⟩, .slice none 0 0] 26 (0, 0)) := heapA_new _ rfl
  have hB0 := belowA w (.cells #[.int .i64 0, .int .i64 0, .string ⟨#[]⟩, .slice none 0 0] 26)
  have HBX := Lib.hid hbx
  have HB0 := Lib.hid hB0
  obtain ⟨V, hV⟩ : ∃ V, V = parseV (bl s) := ⟨_, rfl⟩
  rw [← hV]
  have HV := Lib.hid hV
  clear hV hbx hB0
  · have hgb := PlainAid.get_bt s
    have hx : (s[0].toNat : Int) = PlainAid.bt s 0 := hgb 0 h0
    have HS := Lib.hid (show V = parseB 1 ((bl s).drop 1) by
      have hb := bl_drop s 0 h0
      have a1 : s[0] = 43 := UInt8.toNat_inj.1 (Int.ofNat_inj.1 (hx.trans hc))
      rw [List.drop_zero] at hb
      rw [HV.out, parseV]
      unfold signOf bodyOf
      rw [hb, a1]; rfl)
    clear hx
    go_enter Tryz.func33, Tryz.ntmps33
    go_wp2
    generalize w.alloc (.cells #[.int .i64 0, .int .i64 0, .string ⟨#[]⟩, .slice none 0 0] 26) = W at *
    go_loop [5, 6, 7, 8, 9, 10] (fun n p d t o i => ∃ (K : Nat) (N P D T : Int) (ov : Bool), 1 ≤ K ∧ K ≤ s.size ∧ n = .int .i64 N ∧ p = .int .i64 P ∧ d = .int .i64 D ∧ t = .int .i64 T ∧ o = .bool ov ∧ i = .int .i64 K ∧ 0 ≤ N ∧ N ≤ 21474836479 ∧ (ov = false → N ≤ 2147483647) ∧ 0 ≤ P ∧ P ≤ 999999 ∧ 0 ≤ D ∧ D ≤ K ∧ Hid (St ((bl s).drop 1) 1 K N P D T ov))
      (fun _ _ _ _ _ i => s.size - (intOf i).toNat)
    case atStart => exact ⟨1, 0, 0, 0, -1, false, Nat.le_refl _, by omega, rfl, rfl, rfl, rfl, rfl, rfl, by omega, by omega, fun _ => by omega, by omega, by omega, by omega, by omega, Lib.hid (.inl ⟨rfl, rfl, by omega, PA.nil⟩)⟩
    case round =>
      obtain ⟨K, N, P, D, T, ov, hK0, hK1, rfl, rfl, rfl, rfl, rfl, rfl, hN0, hN1, hNo, hP0, hP1, hD0, hD1, HST⟩ := hrel
      by_cases hlt : K < s.size
      · have hgb := PlainAid.get_bt s
        have hx : (s[K].toNat : Int) = PlainAid.bt s K := hgb K hlt
        have HTK := Lib.hid (at_take s 1 K hlt hK0)
        have HSP := Lib.hid (at_split s 1 K hlt hK0)
        have hx0 := PlainAid.bt_nonneg s K
        have hx1 := PlainAid.bt_le s K
        have HX := Lib.hid hx
        clear hx
        rcases HST.out with ⟨rfl, rfl, hD, hA⟩ | ⟨i, rfl, hi, hD, hB⟩
        · have HA := Lib.hid hA
          have HD := Lib.hid hD
          clear hA hD HST
          by_cases h46 : PlainAid.bt s K = 46
          · have HB := Lib.hid (show PB (((bl s).drop 1).take (K + 1 - 1)) (K - 1) N 0 ov by
              rw [HTK.out, show s[K] = 46 from UInt8.toNat_inj.1 (by have := HX.out; rw [h46] at this; exact Int.ofNat_inj.1 this)]
              have := HA.out.point
              rwa [show (((bl s).drop 1).take (K - 1)).length = K - 1 from by rw [List.length_take, List.length_drop, bl_len]; omega] at this)
            have h46d : (PlainAid.bt s K == 46) = true := by rw [beq_iff_eq]; exact h46
            clear h46
            go_wp2
            go_round
            case rel => exact ⟨K + 1, N, 0, D, K, ov, by omega, by omega, rfl, rfl, rfl, rfl, rfl, by go_num, hN0, hN1, hNo, by omega, by omega, hD0, by omega, Lib.hid (.inr ⟨K - 1, by omega, by omega, by have := HD.out; omega, HB.out⟩)⟩
            case measure => simp [intOf]; omega
          · have h46d : (PlainAid.bt s K == 46) = false := by rw [beq_eq_false_iff_ne]; exact h46
            have HNE := Lib.hid (show s[K] ≠ 46 from fun e => h46 (by rw [← HX.out, e]; rfl))
            clear h46
            by_cases h48 : 48 ≤ PlainAid.bt s K
            · by_cases h57 : PlainAid.bt s K ≤ 57
              · have HDG := Lib.hid (show isDg s[K] = true by rw [isDg_iff]; have := HX.out; omega)
                have HDV := Lib.hid (show ((dgV s[K] : Nat) : Int) = PlainAid.bt s K - 48 by rw [dgV_int HDG.out, HX.out])
                have h48d : decide (48 ≤ PlainAid.bt s K) = true := by simpa using h48
                have h57d : decide (PlainAid.bt s K ≤ 57) = true := by simpa using h57
                cases ov
                · have hN2 := hNo rfl
                  by_cases hM : 2147483647 < 10 * N + PlainAid.bt s K - 48
                  · have HA2 := Lib.hid (show PA (((bl s).drop 1).take (K + 1 - 1)) (10 * N + PlainAid.bt s K - 48) true by
                      rw [HTK.out]; exact HA.out.more HDG.out _ (by have := HDV.out; omega) _ (by rw [eq_comm, decide_eq_true_iff]; exact hM))
                    go_wp2
                    go_round
                    case rel => exact ⟨K + 1, 10 * N + PlainAid.bt s K - 48, 0, D + 1, -1, true, by omega, by omega, rfl, rfl, rfl, rfl, rfl, by go_num, by omega, by omega, (fun h => by cases h), by omega, by omega, by omega, by omega, Lib.hid (.inl ⟨rfl, rfl, by have := HD.out; omega, HA2.out⟩)⟩
                    case measure => simp [intOf]; omega
                  · have HA2 := Lib.hid (show PA (((bl s).drop 1).take (K + 1 - 1)) (10 * N + PlainAid.bt s K - 48) false by
                      rw [HTK.out]; exact HA.out.more HDG.out _ (by have := HDV.out; omega) _ (by rw [eq_comm, decide_eq_false_iff_not]; exact hM))
                    have hMd : decide (2147483647 < 10 * N + PlainAid.bt s K - 48) = false := by simpa using hM
                    have hM2 : 10 * N + PlainAid.bt s K - 48 ≤ 2147483647 := by omega
                    clear hM
                    go_wp2
                    go_round
                    case rel => exact ⟨K + 1, 10 * N + PlainAid.bt s K - 48, 0, D + 1, -1, false, by omega, by omega, rfl, rfl, rfl, rfl, rfl, by go_num, by omega, by omega, (fun _ => hM2), by omega, by omega, by omega, by omega, Lib.hid (.inl ⟨rfl, rfl, by have := HD.out; omega, HA2.out⟩)⟩
                    case measure => simp [intOf]; omega
                · have HA2 := Lib.hid (show PA (((bl s).drop 1).take (K + 1 - 1)) N true by rw [HTK.out]; exact HA.out.over HDG.out)
                  go_wp2
                  go_round
                  case rel => exact ⟨K + 1, N, 0, D + 1, -1, true, by omega, by omega, rfl, rfl, rfl, rfl, rfl, by go_num, hN0, hN1, hNo, by omega, by omega, by omega, by omega, Lib.hid (.inl ⟨rfl, rfl, by have := HD.out; omega, HA2.out⟩)⟩
                  case measure => simp [intOf]; omega
              · have HL := Lib.hid (show V = (0, 0, 11) by
                  rw [HS.out, HSP.out]; exact parseB_bad1 _ _ _ _ HA.out.dg HNE.out (by rw [isDg_no]; have := HX.out; omega))
                have h48d : decide (48 ≤ PlainAid.bt s K) = true := by simpa using h48
                have h57d : decide (PlainAid.bt s K ≤ 57) = false := by simpa using h57
                obtain ⟨⟨k0, k1, k2, k3⟩, f0, f1, f2, f3⟩ := cells4 HBX.out
                go_wp2
                refine bodyPost_ret (results_val rfl _ _ w.heap.size 26 _ (0, 0) _ rfl (set4 HBX.out _ _ _ _) Tryz.underlying26 rfl infoVal _ rfl) rfl ⟨?_, below_set4 HB0.out (Nat.le_refl _) _ _ _ _⟩
                rw [HL.out]
                rfl
            · have HL := Lib.hid (show V = (0, 0, 11) by
                rw [HS.out, HSP.out]; exact parseB_bad1 _ _ _ _ HA.out.dg HNE.out (by rw [isDg_no]; have := HX.out; omega))
              have h48d : decide (48 ≤ PlainAid.bt s K) = false := by simpa using h48
              obtain ⟨⟨k0, k1, k2, k3⟩, f0, f1, f2, f3⟩ := cells4 HBX.out
              go_wp2
              refine bodyPost_ret (results_val rfl _ _ w.heap.size 26 _ (0, 0) _ rfl (set4 HBX.out _ _ _ _) Tryz.underlying26 rfl infoVal _ rfl) rfl ⟨?_, below_set4 HB0.out (Nat.le_refl _) _ _ _ _⟩
              rw [HL.out]
              rfl
        · have HB := Lib.hid hB
          have HD := Lib.hid hD
          clear hB hD HST
          have hpt : decide ((1 : Int) + (i : Int) < 0) = false := decide_eq_false (by omega)
          have hpt2 : decide ((i : Int) < 0) = false := decide_eq_false (by omega)
          have hpt3 : 0 ≤ (1 : Int) + (i : Int) := by omega
          by_cases h48 : 48 ≤ PlainAid.bt s K
          · have h48d : decide (48 ≤ PlainAid.bt s K) = true := by simpa using h48
            have h46d : (PlainAid.bt s K == 46) = false := by rw [beq_eq_false_iff_ne]; omega
            by_cases h57 : PlainAid.bt s K ≤ 57
            · have h57d : decide (PlainAid.bt s K ≤ 57) = true := by simpa using h57
              have HDG := Lib.hid (show isDg s[K] = true by rw [isDg_iff]; have := HX.out; omega)
              go_wp2
              go_loop [11, 12] (fun b j => ∃ (J : Nat) (B : Int), 1 ≤ J ∧ J ≤ 7 ∧ J ≤ K - 1 - i ∧ b = .int .i64 B ∧ j = .int .i64 J ∧ 0 ≤ B ∧ B ≤ 100000 ∧ Hid (B = (100000 / 10 ^ (J - 1) : Nat))) (fun _ j => 7 - (intOf j).toNat)
              case atStart => exact ⟨1, 100000, by omega, by omega, by omega, rfl, rfl, by omega, by omega, Lib.hid rfl⟩
              case round =>
                obtain ⟨J, B, hJ1, hJ7, hJL, rfl, rfl, hB0, hB1, HBJ⟩ := hrel
                by_cases hJK : (J : Int) < (K : Int) - (1 + (i : Int))
                · have hJKd : decide ((J : Int) < (K : Int) - (1 + (i : Int))) = true := by simpa using hJK
                  by_cases hJ7b : J < 7
                  · have hJ7d : decide ((J : Int) < 7) = true := by simp; omega
                    have HBN := Lib.hid (show B / 10 = ((100000 / 10 ^ (J + 1 - 1) : Nat) : Int) by
                      rw [HBJ.out, show J + 1 - 1 = (J - 1) + 1 from by omega, Nat.pow_succ, ← Nat.div_div_eq_div_mul]; omega)
                    go_wp2
                    go_round
                    case rel => exact ⟨J + 1, B / 10, by omega, by omega, by omega, rfl, by go_num, by omega, by omega, HBN⟩
                    case measure => simp [intOf]; omega
                  · have hJ7d : decide ((J : Int) < 7) = false := decide_eq_false (by omega)
                    have hz0 : 0 ≤ B * (PlainAid.bt s K - 48) := Int.mul_nonneg hB0 (by omega)
                    have hz1 : B * (PlainAid.bt s K - 48) ≤ 100000 * 9 := Int.mul_le_mul hB1 (by omega) (by omega) (by omega)
                    have HQ := Lib.hid (show PB (((bl s).drop 1).take (K + 1 - 1)) i N (P + B * (PlainAid.bt s K - 48)) ov by
                      rw [HTK.out]
                      refine HB.out.more HDG.out (100000 / 10 ^ (J - 1)) ?_ _ (by rw [HBJ.out, HX.out])
                      rw [List.length_take, List.length_drop, bl_len]
                      congr 3
                      omega)
                    have hq := HQ.out.bd
                    have hq0 := hq.1
                    have hq1 := hq.2
                    clear hq
                    have hwr : IntKind.i64.wrap (B * (PlainAid.bt s K - 48)) = B * (PlainAid.bt s K - 48) := IntWalk.i64_in _ (by omega)
                    clear hz1
                    go_wp2
                    go_round
                    case rel => exact ⟨K + 1, N, P + B * (PlainAid.bt s K - 48), D + 1, _, ov, by omega, by omega, rfl, rfl, rfl, rfl, rfl, by go_num, hN0, hN1, hNo, hq0, hq1, by omega, by omega, Lib.hid (.inr ⟨i, rfl, by omega, by have := HD.out; omega, HQ.out⟩)⟩
                    case measure => simp [intOf]; omega
                · have hJKd : decide ((J : Int) < (K : Int) - (1 + (i : Int))) = false := by simpa using hJK
                  have hz0 : 0 ≤ B * (PlainAid.bt s K - 48) := Int.mul_nonneg hB0 (by omega)
                  have hz1 : B * (PlainAid.bt s K - 48) ≤ 100000 * 9 := Int.mul_le_mul hB1 (by omega) (by omega) (by omega)
                  have HQ := Lib.hid (show PB (((bl s).drop 1).take (K + 1 - 1)) i N (P + B * (PlainAid.bt s K - 48)) ov by
                    rw [HTK.out]
                    refine HB.out.more HDG.out (100000 / 10 ^ (J - 1)) ?_ _ (by rw [HBJ.out, HX.out])
                    rw [List.length_take, List.length_drop, bl_len]
                    congr 3
                    omega)
                  have hq := HQ.out.bd
                  have hq0 := hq.1
                  have hq1 := hq.2
                  clear hq
                  have hwr : IntKind.i64.wrap (B * (PlainAid.bt s K - 48)) = B * (PlainAid.bt s K - 48) := IntWalk.i64_in _ (by omega)
                  clear hz1
                  go_wp2
                  go_round
                  case rel => exact ⟨K + 1, N, P + B * (PlainAid.bt s K - 48), D + 1, _, ov, by omega, by omega, rfl, rfl, rfl, rfl, rfl, by go_num, hN0, hN1, hNo, hq0, hq1, by omega, by omega, Lib.hid (.inr ⟨i, rfl, by omega, by have := HD.out; omega, HQ.out⟩)⟩
                  case measure => simp [intOf]; omega
            · have HL := Lib.hid (show V = (0, 0, 11) by
                rw [HS.out, HSP.out]; exact HB.out.bad _ _ _ (by rw [isDg_no]; have := HX.out; omega))
              have h57d : decide (PlainAid.bt s K ≤ 57) = false := by simpa using h57
              obtain ⟨⟨k0, k1, k2, k3⟩, f0, f1, f2, f3⟩ := cells4 HBX.out
              go_wp2
              refine bodyPost_ret (results_val rfl _ _ w.heap.size 26 _ (0, 0) _ rfl (set4 HBX.out _ _ _ _) Tryz.underlying26 rfl infoVal _ rfl) rfl ⟨?_, below_set4 HB0.out (Nat.le_refl _) _ _ _ _⟩
              rw [HL.out]
              rfl
          · have HL := Lib.hid (show V = (0, 0, 11) by
              rw [HS.out, HSP.out]; exact HB.out.bad _ _ _ (by rw [isDg_no]; have := HX.out; omega))
            have h48d : decide (48 ≤ PlainAid.bt s K) = false := by simpa using h48
            obtain ⟨⟨k0, k1, k2, k3⟩, f0, f1, f2, f3⟩ := cells4 HBX.out
            by_cases h46 : PlainAid.bt s K = 46
            · have h46d : (PlainAid.bt s K == 46) = true := by rw [beq_iff_eq]; exact h46
              clear h46
              go_wp2
              refine bodyPost_ret (results_val rfl _ _ w.heap.size 26 _ (0, 0) _ rfl (set4 HBX.out _ _ _ _) Tryz.underlying26 rfl infoVal _ rfl) rfl ⟨?_, below_set4 HB0.out (Nat.le_refl _) _ _ _ _⟩
              rw [HL.out]
              rfl
            · have h46d : (PlainAid.bt s K == 46) = false := by rw [beq_eq_false_iff_ne]; exact h46
              clear h46
              go_wp2
              refine bodyPost_ret (results_val rfl _ _ w.heap.size 26 _ (0, 0) _ rfl (set4 HBX.out _ _ _ _) Tryz.underlying26 rfl infoVal _ rfl) rfl ⟨?_, below_set4 HB0.out (Nat.le_refl _) _ _ _ _⟩
              rw [HL.out]
              rfl
      · obtain rfl : K = s.size := by omega
        have HTK := Lib.hid (show ((bl s).drop 1).take (s.size - 1) = (bl s).drop 1 by rw [List.take_of_length_le (by rw [List.length_drop, bl_len]; omega)])
        have HLEN := Lib.hid (show ((bl s).drop 1).length = s.size - 1 by rw [List.length_drop, bl_len])
        have hwlt := (Array.getElem?_eq_some_iff.1 HBX.out).1
        obtain ⟨⟨k0, k1, k2, k3⟩, f0, f1, f2, f3⟩ := cells4 HBX.out
        rcases HST.out with ⟨rfl, rfl, hD, hA⟩ | ⟨i, rfl, hi, hD, hB⟩
        · rw [HTK.out] at hA
          have HL := Lib.hid (show V = if s.size - 1 = 0 then (0, 0, 11) else if ov = true then (0, 0, 5) else (2, 1 * N, 0) by rw [HS.out, hA.fin, HLEN.out])
          clear hA HST
          by_cases hz : s.size - 1 = 0
          · rw [if_pos hz] at HL
            have hDz : (D == 0) = true := by rw [beq_iff_eq]; omega
            clear hD hz
            go_wp2
            refine bodyPost_ret (results_val rfl _ _ w.heap.size 26 _ (0, 0) _ rfl (set4 HBX.out _ _ _ _) Tryz.underlying26 rfl infoVal _ rfl) rfl ⟨?_, below_set4 HB0.out (Nat.le_refl _) _ _ _ _⟩
            rw [HL.out]
            rfl
          · rw [if_neg hz] at HL
            have hDz : (D == 0) = false := by rw [beq_eq_false_iff_ne]; omega
            clear hD hz
            cases ov
            · rw [if_neg (by decide)] at HL
              have hNo2 := hNo rfl
              go_wp2
              refine bodyPost_ret (results_val rfl _ _ w.heap.size 26 _ (0, 0) _ rfl (heapA_old _ (set4 HBX.out _ _ _ _)) Tryz.underlying26 rfl infoVal _ rfl) rfl ⟨?_, (below_set4 HB0.out (Nat.le_refl _) _ _ _ _).alloc (by simpa using Nat.le_of_lt hwlt) _⟩
              rw [HL.out]
              simp [valC, noStr]
            · rw [if_pos rfl] at HL
              go_wp2
              refine bodyPost_ret (results_val rfl _ _ w.heap.size 26 _ (0, 0) _ rfl (set4 HBX.out _ _ _ _) Tryz.underlying26 rfl infoVal _ rfl) rfl ⟨?_, below_set4 HB0.out (Nat.le_refl _) _ _ _ _⟩
              rw [HL.out]
              rfl
        · rw [HTK.out] at hB
          have HL := Lib.hid (show V = if s.size - 1 = 1 then (0, 0, 11) else if ov = true ∨ (N = 2147483647 ∧ 0 < P) then (0, 0, 5) else (3, 1 * (1000000 * N + P), 0) by rw [HS.out, hB.fin, HLEN.out])
          clear hB HST
          have hpt : decide (0 ≤ (1 : Int) + (i : Int)) = true := decide_eq_true (by omega)
          have hpt2 : decide (0 ≤ (i : Int)) = true := decide_eq_true (by omega)
          have hpt3 : 0 ≤ (1 : Int) + (i : Int) := by omega
          by_cases hz : s.size - 1 = 1
          · rw [if_pos hz] at HL
            have hDz : (D == 0) = true := by rw [beq_iff_eq]; omega
            clear hD hz hi
            go_wp2
            refine bodyPost_ret (results_val rfl _ _ w.heap.size 26 _ (0, 0) _ rfl (set4 HBX.out _ _ _ _) Tryz.underlying26 rfl infoVal _ rfl) rfl ⟨?_, below_set4 HB0.out (Nat.le_refl _) _ _ _ _⟩
            rw [HL.out]
            rfl
          · rw [if_neg hz] at HL
            have hDz : (D == 0) = false := by rw [beq_eq_false_iff_ne]; omega
            clear hD hz hi
            cases ov
            · have hNo2 := hNo rfl
              by_cases hNm : N = 2147483647
              · have hNmd : (N == 2147483647) = true := by rw [beq_iff_eq]; exact hNm
                by_cases hPp : 0 < P
                · have hPd : decide (0 < P) = true := by simpa using hPp
                  rw [if_pos (.inr ⟨hNm, hPp⟩)] at HL
                  clear hNm
                  go_wp2
                  refine bodyPost_ret (results_val rfl _ _ w.heap.size 26 _ (0, 0) _ rfl (set4 HBX.out _ _ _ _) Tryz.underlying26 rfl infoVal _ rfl) rfl ⟨?_, below_set4 HB0.out (Nat.le_refl _) _ _ _ _⟩
                  rw [HL.out]
                  rfl
                · have hPd : decide (0 < P) = false := by simpa using hPp
                  rw [if_neg (by rintro (h | h); cases h; exact hPp h.2)] at HL
                  clear hNm
                  go_wp2
                  refine bodyPost_ret (results_val rfl _ _ w.heap.size 26 _ (0, 0) _ rfl (heapA_old _ (set4 HBX.out _ _ _ _)) Tryz.underlying26 rfl infoVal _ rfl) rfl ⟨?_, (below_set4 HB0.out (Nat.le_refl _) _ _ _ _).alloc (by simpa using Nat.le_of_lt hwlt) _⟩
                  rw [HL.out]
                  simp [valC, noStr]
              · have hNmd : (N == 2147483647) = false := by rw [beq_eq_false_iff_ne]; exact hNm
                rw [if_neg (by rintro (h | h); cases h; exact hNm h.1)] at HL
                clear hNm
                go_wp2
                refine bodyPost_ret (results_val rfl _ _ w.heap.size 26 _ (0, 0) _ rfl (heapA_old _ (set4 HBX.out _ _ _ _)) Tryz.underlying26 rfl infoVal _ rfl) rfl ⟨?_, (below_set4 HB0.out (Nat.le_refl _) _ _ _ _).alloc (by simpa using Nat.le_of_lt hwlt) _⟩
                rw [HL.out]
                simp [valC, noStr]
            · rw [if_pos (.inl rfl)] at HL
              go_wp2
              refine bodyPost_ret (results_val rfl _ _ w.heap.size 26 _ (0, 0) _ rfl (set4 HBX.out _ _ _ _) Tryz.underlying26 rfl infoVal _ rfl) rfl ⟨?_, below_set4 HB0.out (Nat.le_refl _) _ _ _ _⟩
              rw [HL.out]
              rfl
end Go.Proofs.YtnkodejgiabamaaGreat
