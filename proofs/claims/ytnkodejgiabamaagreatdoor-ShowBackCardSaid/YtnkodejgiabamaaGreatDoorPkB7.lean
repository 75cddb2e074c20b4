/-
  Our texts NumR to LexS, in one.
-/
import Derived.Test.YtnkodejgiabamaaGreatDoorPkB6
import Derived.PlainAid
set_option maxRecDepth 8000
set_option maxHeartbeats 8000000
namespace Go.Proofs.YtnkodejgiabamaaGreatDoor
open Go.RowKit
structure PA (p : List UInt8) (N : Int) (ov : Bool) : Prop where
 dg : p.all isDg = true
 ov_ : ov = decide (2147483647 < valD p)
 n : ov = false → N = (valD p : Nat)
def PB (p : List UInt8) (i : Nat) (N P : Int) (ov : Bool) : Prop := ∃ w r, p = w ++ 46 :: r ∧ w.length = i ∧ PA w N ov ∧ r.all isDg = true ∧ P = (mil r : Nat)
theorem PA.nil : PA [] 0 false := ⟨rfl, rfl, fun _ => rfl⟩
theorem PA.over {p : List UInt8} {N : Int} (h : PA p N true) {c : UInt8} (hc : isDg c = true) : PA (p ++ [c]) N true :=
 ⟨all_snoc _ _ h.dg hc, by have := h.ov_; rw [eq_comm, decide_eq_true_iff] at this; rw [eq_comm, decide_eq_true_iff, valD_snoc]; omega, fun h => by cases h⟩
theorem PA.more {p : List UInt8} {N : Int} (h : PA p N false) {c : UInt8} (hc : isDg c = true) (M : Int) (hM : M = 10 * N + (dgV c : Nat)) (o : Bool) (ho : o = decide (2147483647 < M)) : PA (p ++ [c]) M o := by
 have h1 := h.n rfl
 have hv : M = (valD (p ++ [c]) : Nat) := by rw [valD_snoc, hM, h1]; omega
 refine ⟨all_snoc _ _ h.dg hc, ?_, fun _ => hv⟩
 rw [ho, Bool.eq_iff_iff, decide_eq_true_iff, decide_eq_true_iff]; omega
theorem PA.point {p : List UInt8} {N : Int} {ov : Bool} (h : PA p N ov) : PB (p ++ [46]) p.length N 0 ov := ⟨p, [], rfl, rfl, h, rfl, rfl⟩
theorem mil_by (r : List UInt8) (c : UInt8) (b : Nat) (hb : b = 100000 / 10 ^ (min (r.length + 1) 7 - 1)) : mil (r ++ [c]) = mil r + b * dgV c := by
 by_cases h : r.length < 6
 · rw [mil_snoc_lt r c h, hb, Nat.min_eq_left (by omega)]
   congr 2
   have : r.length = 0 ∨ r.length = 1 ∨ r.length = 2 ∨ r.length = 3 ∨ r.length = 4 ∨ r.length = 5 := by omega
   rcases this with h | h | h | h | h | h <;> rw [h]
 · rw [mil_snoc_ge r c (by omega), hb, Nat.min_eq_right (by omega)]
   simp
theorem PB.more {p : List UInt8} {i : Nat} {N P : Int} {ov : Bool} (h : PB p i N P ov) {c : UInt8} (hc : isDg c = true) (b : Nat) (hb : b = 100000 / 10 ^ (min (p.length - i) 7 - 1)) (Q : Int) (hQ : Q = P + (b : Int) * ((c.toNat : Int) - 48)) : PB (p ++ [c]) i N Q ov := by
 obtain ⟨w, r, e, hl, hA, hr, hP⟩ := h
 have hlen := congrArg List.length e
 simp only [List.length_append, List.length_cons] at hlen
 refine ⟨w, r ++ [c], by rw [e]; simp, hl, hA, all_snoc _ _ hr hc, ?_⟩
 rw [mil_by r c b (by rw [hb]; congr 3; omega), hQ, hP, ← dgV_int hc]
 push_cast
 rfl
theorem PB.bad {p : List UInt8} {i : Nat} {N P : Int} {ov : Bool} (h : PB p i N P ov) (sg : Int) (c : UInt8) (t : List UInt8) (hc : isDg c = false) : parseB sg (p ++ c :: t) = (0, 0, 11) := by
 obtain ⟨w, r, e, hl, hA, hr, hP⟩ := h
 rw [e]
 have : w ++ 46 :: r ++ c :: t = w ++ 46 :: (r ++ c :: t) := by simp
 rw [this]
 exact parseB_bad2 sg w r t c hA.dg hc
theorem PB.bd {p : List UInt8} {i : Nat} {N P : Int} {ov : Bool} (h : PB p i N P ov) : 0 ≤ P ∧ P ≤ 999999 := by
 obtain ⟨w, r, e, hl, hA, hr, rfl⟩ := h
 have := mil_lt r hr
 omega
theorem PA.fin {p : List UInt8} {N : Int} {ov : Bool} (h : PA p N ov) (sg : Int) : parseB sg p = if p.length = 0 then (0, 0, 11) else if ov = true then (0, 0, 5) else (2, sg * N, 0) := by
 rw [parseB_int sg p h.dg]
 by_cases h0 : p.length = 0
 · rw [if_pos h0, if_pos h0]
 · rw [if_neg h0, if_neg h0]
   have h1 := h.ov_
   cases ov
   · rw [eq_comm, decide_eq_false_iff_not] at h1
     rw [if_neg h1, if_neg (by decide), h.n rfl]
   · rw [eq_comm, decide_eq_true_iff] at h1
     rw [if_pos h1, if_pos rfl]
theorem PB.fin {p : List UInt8} {i : Nat} {N P : Int} {ov : Bool} (h : PB p i N P ov) (sg : Int) : parseB sg p = if p.length = 1 then (0, 0, 11) else if ov = true ∨ (N = 2147483647 ∧ 0 < P) then (0, 0, 5) else (3, sg * (1000000 * N + P), 0) := by
 obtain ⟨w, r, e, hl, hA, hr, rfl⟩ := h
 have hlen := congrArg List.length e
 simp only [List.length_append, List.length_cons] at hlen
 rw [e, parseB_real sg w r hA.dg hr, ← e]
 by_cases h0 : p.length = 1
 · rw [if_pos h0, if_pos (by omega)]
 · rw [if_neg h0, if_neg (by omega)]
   have h1 := hA.ov_
   cases ov
   · rw [eq_comm, decide_eq_false_iff_not] at h1
     have h2 := hA.n rfl
     by_cases h3 : N = 2147483647 ∧ 0 < ((mil r : Nat) : Int)
     · rw [if_pos (.inr (by omega)), if_pos (.inr h3)]
     · rw [if_neg (by rintro (h | h); exact h1 h; exact h3 (by omega)), if_neg (by rintro (h | h); cases h; exact h3 h), h2]
       rw [Int.natCast_add, Int.natCast_mul, Int.mul_comm 1000000]; rfl
   · rw [eq_comm, decide_eq_true_iff] at h1
     rw [if_pos (.inl h1), if_pos (.inl rfl)]
def St (b : List UInt8) (a K : Nat) (N P D T : Int) (ov : Bool) : Prop :=
 (T = -1 ∧ P = 0 ∧ D = (K : Int) - (a : Int) ∧ PA (b.take (K - a)) N ov) ∨ (∃ i : Nat, T = (a : Int) + (i : Int) ∧ i < K - a ∧ D = (K : Int) - (a : Int) - 1 ∧ PB (b.take (K - a)) i N P ov)
theorem at_take (s : ByteArray) (a k : Nat) (h : k < s.size) (ha : a ≤ k) : ((bl s).drop a).take (k + 1 - a) = ((bl s).drop a).take (k - a) ++ [s[k]] := by
 rw [show k + 1 - a = (k - a) + 1 from by omega, List.take_succ_eq_append_getElem (by rw [List.length_drop, bl_len]; omega), List.getElem_drop]
 congr 2
 rw [← bl_get s k h]
 congr 1
 omega
theorem at_split (s : ByteArray) (a k : Nat) (h : k < s.size) (ha : a ≤ k) : (bl s).drop a = ((bl s).drop a).take (k - a) ++ s[k] :: (bl s).drop (k + 1) := by
 have h1 := List.take_append_drop (k - a) ((bl s).drop a)
 rw [List.drop_drop, show a + (k - a) = k from by omega, bl_drop s k h] at h1
 exact h1.symm
set_option maxHeartbeats 16000000 in
theorem rparse_none (s : ByteArray) (w : World) (hs : s.size ≤ 400000) (h0 : 0 < s.size) (hn43 : PlainAid.bt s 0 ≠ 43) (hn45 : PlainAid.bt s 0 ≠ 45) :
   Calls Tryz.prog 49 #[.string s] w (ParseEnd (parseV (bl s)) w) := by
 have hbx : (w.alloc (.cells #[.int .i64 0, .int .i64 0, .string ⟨#[]⟩, .slice none 0 0] 24)).heap[w.heap.size]? = some (.cells #[.int .i64 0, .int .i64 0, .string ⟨#[]⟩, .slice none 0 0] 24 (0, 0)) := heapA_new _ rfl
 have hB0 := belowA w (.cells #[.int .i64 0, .int .i64 0, .string ⟨#[]⟩, .slice none 0 0] 24)
 have HBX := Lib.hid hbx
 have HB0 := Lib.hid hB0
 obtain ⟨V, hV⟩ : ∃ V, V = parseV (bl s) := ⟨_, rfl⟩
 rw [← hV]
 have HV := Lib.hid hV
 clear hV hbx hB0
 · have hgb := PlainAid.get_bt s
   have hx : (s[0].toNat : Int) = PlainAid.bt s 0 := hgb 0 h0
   have h43 : (PlainAid.bt s 0 == 43) = false := by rw [beq_eq_false_iff_ne]; exact hn43
   have h45 : (PlainAid.bt s 0 == 45) = false := by rw [beq_eq_false_iff_ne]; exact hn45
   have HS := Lib.hid (show V = parseB 1 ((bl s).drop 0) by
     have hb := bl_drop s 0 h0
     have a1 : s[0] ≠ 45 := fun e => hn45 (by rw [← hx, e]; rfl)
     have a2 : s[0] ≠ 43 := fun e => hn43 (by rw [← hx, e]; rfl)
     rw [List.drop_zero] at hb
     rw [HV.out, parseV, List.drop_zero]
     unfold signOf bodyOf
     rw [hb, List.head?_cons, if_neg (by simpa using a1), if_neg (by simp; exact ⟨a1, a2⟩)])
   clear hx hn43 hn45
   go_enter Tryz.func49, Tryz.ntmps49
   go_wp2
   generalize w.alloc (.cells #[.int .i64 0, .int .i64 0, .string ⟨#[]⟩, .slice none 0 0] 24) = W at *
   go_loop [5, 6, 7, 8, 9, 10] (fun n p d t o i => ∃ (K : Nat) (N P D T : Int) (ov : Bool), 0 ≤ K ∧ K ≤ s.size ∧ n = .int .i64 N ∧ p = .int .i64 P ∧ d = .int .i64 D ∧ t = .int .i64 T ∧ o = .bool ov ∧ i = .int .i64 K ∧ 0 ≤ N ∧ N ≤ 21474836479 ∧ (ov = false → N ≤ 2147483647) ∧ 0 ≤ P ∧ P ≤ 999999 ∧ 0 ≤ D ∧ D ≤ K ∧ Hid (St ((bl s).drop 0) 0 K N P D T ov))
     (fun _ _ _ _ _ i => s.size - (intOf i).toNat)
   case atStart => exact ⟨0, 0, 0, 0, -1, false, Nat.le_refl _, by omega, rfl, rfl, rfl, rfl, rfl, rfl, by omega, by omega, fun _ => by omega, by omega, by omega, by omega, by omega, Lib.hid (.inl ⟨rfl, rfl, by omega, PA.nil⟩)⟩
   case round =>
     obtain ⟨K, N, P, D, T, ov, hK0, hK1, rfl, rfl, rfl, rfl, rfl, rfl, hN0, hN1, hNo, hP0, hP1, hD0, hD1, HST⟩ := hrel
     by_cases hlt : K < s.size
     · have hgb := PlainAid.get_bt s
       have hx : (s[K].toNat : Int) = PlainAid.bt s K := hgb K hlt
       have HTK := Lib.hid (at_take s 0 K hlt hK0)
       have HSP := Lib.hid (at_split s 0 K hlt hK0)
       have hx0 := PlainAid.bt_nonneg s K
       have hx1 := PlainAid.bt_le s K
       have HX := Lib.hid hx
       clear hx
       rcases HST.out with ⟨rfl, rfl, hD, hA⟩ | ⟨i, rfl, hi, hD, hB⟩
       · have HA := Lib.hid hA
         have HD := Lib.hid hD
         clear hA hD HST
         by_cases h46 : PlainAid.bt s K = 46
         · have HB := Lib.hid (show PB (((bl s).drop 0).take (K + 1 - 0)) (K - 0) N 0 ov by
             rw [HTK.out, show s[K] = 46 from UInt8.toNat_inj.1 (by have := HX.out; rw [h46] at this; exact Int.ofNat_inj.1 this)]
             have := HA.out.point
             rwa [show (((bl s).drop 0).take (K - 0)).length = K - 0 from by rw [List.length_take, List.length_drop, bl_len]; omega] at this)
           have h46d : (PlainAid.bt s K == 46) = true := by rw [beq_iff_eq]; exact h46
           clear h46
           go_wp2
           go_round
           case rel => exact ⟨K + 1, N, 0, D, K, ov, by omega, by omega, rfl, rfl, rfl, rfl, rfl, by go_num, hN0, hN1, hNo, by omega, by omega, hD0, by omega, Lib.hid (.inr ⟨K - 0, by omega, by omega, by have := HD.out; omega, HB.out⟩)⟩
           case measure => simp [intOf]; omega
         · have h46d : (PlainAid.bt s K == 46) = false := by rw [beq_eq_false_iff_ne]; exact h46
           have HNE := Lib.hid (show s[K] ≠ 46 from fun e => h46 (by rw [← HX.out, e]; rfl))
           clear h46
           by_cases h48 : 48 ≤ PlainAid.bt s K
           · by_cases h57 : PlainAid.bt s K ≤ 57
             · have HDG := Lib.hid (show isDg s[K] = true by rw [isDg_iff]; have := HX.out; omega)
               have HDV := Lib.hid (show ((dgV s[K] : Nat) : Int) = PlainAid.bt s K - 48 by rw [dgV_int HDG.out, HX.out])
               have h48d : decide (48 ≤ PlainAid.bt s K) = true := by simpa using h48
               have h57d : decide (PlainAid.bt s K ≤ 57) = true := by simpa using h57
               cases ov
               · have hN2 := hNo rfl
                 by_cases hM : 2147483647 < 10 * N + PlainAid.bt s K - 48
                 · have HA2 := Lib.hid (show PA (((bl s).drop 0).take (K + 1 - 0)) (10 * N + PlainAid.bt s K - 48) true by
                     rw [HTK.out]; exact HA.out.more HDG.out _ (by have := HDV.out; omega) _ (by rw [eq_comm, decide_eq_true_iff]; exact hM))
                   go_wp2
                   go_round
                   case rel => exact ⟨K + 1, 10 * N + PlainAid.bt s K - 48, 0, D + 1, -1, true, by omega, by omega, rfl, rfl, rfl, rfl, rfl, by go_num, by omega, by omega, (fun h => by cases h), by omega, by omega, by omega, by omega, Lib.hid (.inl ⟨rfl, rfl, by have := HD.out; omega, HA2.out⟩)⟩
                   case measure => simp [intOf]; omega
                 · have HA2 := Lib.hid (show PA (((bl s).drop 0).take (K + 1 - 0)) (10 * N + PlainAid.bt s K - 48) false by
                     rw [HTK.out]; exact HA.out.more HDG.out _ (by have := HDV.out; omega) _ (by rw [eq_comm, decide_eq_false_iff_not]; exact hM))
                   have hMd : decide (2147483647 < 10 * N + PlainAid.bt s K - 48) = false := by simpa using hM
                   have hM2 : 10 * N + PlainAid.bt s K - 48 ≤ 2147483647 := by omega
                   clear hM
                   go_wp2
                   go_round
                   case rel => exact ⟨K + 1, 10 * N + PlainAid.bt s K - 48, 0, D + 1, -1, false, by omega, by omega, rfl, rfl, rfl, rfl, rfl, by go_num, by omega, by omega, (fun _ => hM2), by omega, by omega, by omega, by omega, Lib.hid (.inl ⟨rfl, rfl, by have := HD.out; omega, HA2.out⟩)⟩
                   case measure => simp [intOf]; omega
               · have HA2 := Lib.hid (show PA (((bl s).drop 0).take (K + 1 - 0)) N true by rw [HTK.out]; exact HA.out.over HDG.out)
                 go_wp2
                 go_round
                 case rel => exact ⟨K + 1, N, 0, D + 1, -1, true, by omega, by omega, rfl, rfl, rfl, rfl, rfl, by go_num, hN0, hN1, hNo, by omega, by omega, by omega, by omega, Lib.hid (.inl ⟨rfl, rfl, by have := HD.out; omega, HA2.out⟩)⟩
                 case measure => simp [intOf]; omega
             · have HL := Lib.hid (show V = (0, 0, 11) by
                 rw [HS.out, HSP.out]; exact parseB_bad1 _ _ _ _ HA.out.dg HNE.out (by rw [isDg_no]; have := HX.out; omega))
               have h48d : decide (48 ≤ PlainAid.bt s K) = true := by simpa using h48
               have h57d : decide (PlainAid.bt s K ≤ 57) = false := by simpa using h57
               obtain ⟨⟨k0, k1, k2, k3⟩, f0, f1, f2, f3⟩ := cells4 HBX.out
               go_wp2
               refine bodyPost_ret (results_val rfl _ _ w.heap.size 24 _ (0, 0) _ rfl (set4 HBX.out _ _ _ _) Tryz.underlying24 rfl infoVal _ rfl) rfl ⟨?_, below_set4 HB0.out (Nat.le_refl _) _ _ _ _⟩
               rw [HL.out]
               rfl
           · have HL := Lib.hid (show V = (0, 0, 11) by
               rw [HS.out, HSP.out]; exact parseB_bad1 _ _ _ _ HA.out.dg HNE.out (by rw [isDg_no]; have := HX.out; omega))
             have h48d : decide (48 ≤ PlainAid.bt s K) = false := by simpa using h48
             obtain ⟨⟨k0, k1, k2, k3⟩, f0, f1, f2, f3⟩ := cells4 HBX.out
             go_wp2
             refine bodyPost_ret (results_val rfl _ _ w.heap.size 24 _ (0, 0) _ rfl (set4 HBX.out _ _ _ _) Tryz.underlying24 rfl infoVal _ rfl) rfl ⟨?_, below_set4 HB0.out (Nat.le_refl _) _ _ _ _⟩
             rw [HL.out]
             rfl
       · have HB := Lib.hid hB
         have HD := Lib.hid hD
         clear hB hD HST
         have hpt : decide ((0 : Int) + (i : Int) < 0) = false := decide_eq_false (by omega)
         have hpt2 : decide ((i : Int) < 0) = false := decide_eq_false (by omega)
         have hpt3 : 0 ≤ (0 : Int) + (i : Int) := by omega
         by_cases h48 : 48 ≤ PlainAid.bt s K
         · have h48d : decide (48 ≤ PlainAid.bt s K) = true := by simpa using h48
           have h46d : (PlainAid.bt s K == 46) = false := by rw [beq_eq_false_iff_ne]; omega
           by_cases h57 : PlainAid.bt s K ≤ 57
           · have h57d : decide (PlainAid.bt s K ≤ 57) = true := by simpa using h57
             have HDG := Lib.hid (show isDg s[K] = true by rw [isDg_iff]; have := HX.out; omega)
             go_wp2
             go_loop [11, 12] (fun b j => ∃ (J : Nat) (B : Int), 1 ≤ J ∧ J ≤ 7 ∧ J ≤ K - 0 - i ∧ b = .int .i64 B ∧ j = .int .i64 J ∧ 0 ≤ B ∧ B ≤ 100000 ∧ Hid (B = (100000 / 10 ^ (J - 1) : Nat))) (fun _ j => 7 - (intOf j).toNat)
             case atStart => exact ⟨1, 100000, by omega, by omega, by omega, rfl, rfl, by omega, by omega, Lib.hid rfl⟩
             case round =>
               obtain ⟨J, B, hJ1, hJ7, hJL, rfl, rfl, hB0, hB1, HBJ⟩ := hrel
               by_cases hJK : (J : Int) < (K : Int) - ((i : Int))
               · have hJKd : decide ((J : Int) < (K : Int) - ((i : Int))) = true := by simpa using hJK
                 by_cases hJ7b : J < 7
                 · have hJ7d : decide ((J : Int) < 7) = true := by simp; omega
                   have HBN := Lib.hid (show B / 10 = ((100000 / 10 ^ (J + 1 - 1) : Nat) : Int) by
                     rw [HBJ.out, show J + 1 - 1 = (J - 1) + 1 from by omega, Nat.pow_succ, ← Nat.div_div_eq_div_mul]; omega)
                   go_wp2
                   go_round
                   case rel => exact ⟨J + 1, B / 10, by omega, by omega, by omega, rfl, by go_num, by omega, by omega, HBN⟩
                   case measure => simp [intOf]; omega
                 · have hJ7d : decide ((J : Int) < 7) = false := decide_eq_false (by omega)
                   have hz0 : 0 ≤ B * (PlainAid.bt s K - 48) := Int.mul_nonneg hB0 (by omega)
                   have hz1 : B * (PlainAid.bt s K - 48) ≤ 100000 * 9 := Int.mul_le_mul hB1 (by omega) (by omega) (by omega)
                   have HQ := Lib.hid (show PB (((bl s).drop 0).take (K + 1 - 0)) i N (P + B * (PlainAid.bt s K - 48)) ov by
                     rw [HTK.out]
                     refine HB.out.more HDG.out (100000 / 10 ^ (J - 1)) ?_ _ (by rw [HBJ.out, HX.out])
                     rw [List.length_take, List.length_drop, bl_len]
                     congr 3
                     omega)
                   have hq := HQ.out.bd
                   have hq0 := hq.1
                   have hq1 := hq.2
                   clear hq
                   have hwr : IntKind.i64.wrap (B * (PlainAid.bt s K - 48)) = B * (PlainAid.bt s K - 48) := IntWalk.i64_in _ (by omega)
                   clear hz1
                   go_wp2
                   go_round
                   case rel => exact ⟨K + 1, N, P + B * (PlainAid.bt s K - 48), D + 1, _, ov, by omega, by omega, rfl, rfl, rfl, by go_num, rfl, by go_num, hN0, hN1, hNo, hq0, hq1, by omega, by omega, Lib.hid (.inr ⟨i, rfl, by omega, by have := HD.out; omega, HQ.out⟩)⟩
                   case measure => simp [intOf]; omega
               · have hJKd : decide ((J : Int) < (K : Int) - ((i : Int))) = false := by simpa using hJK
                 have hz0 : 0 ≤ B * (PlainAid.bt s K - 48) := Int.mul_nonneg hB0 (by omega)
                 have hz1 : B * (PlainAid.bt s K - 48) ≤ 100000 * 9 := Int.mul_le_mul hB1 (by omega) (by omega) (by omega)
                 have HQ := Lib.hid (show PB (((bl s).drop 0).take (K + 1 - 0)) i N (P + B * (PlainAid.bt s K - 48)) ov by
                   rw [HTK.out]
                   refine HB.out.more HDG.out (100000 / 10 ^ (J - 1)) ?_ _ (by rw [HBJ.out, HX.out])
                   rw [List.length_take, List.length_drop, bl_len]
                   congr 3
                   omega)
                 have hq := HQ.out.bd
                 have hq0 := hq.1
                 have hq1 := hq.2
                 clear hq
                 have hwr : IntKind.i64.wrap (B * (PlainAid.bt s K - 48)) = B * (PlainAid.bt s K - 48) := IntWalk.i64_in _ (by omega)
                 clear hz1
                 go_wp2
                 go_round
                 case rel => exact ⟨K + 1, N, P + B * (PlainAid.bt s K - 48), D + 1, _, ov, by omega, by omega, rfl, rfl, rfl, by go_num, rfl, by go_num, hN0, hN1, hNo, hq0, hq1, by omega, by omega, Lib.hid (.inr ⟨i, rfl, by omega, by have := HD.out; omega, HQ.out⟩)⟩
                 case measure => simp [intOf]; omega
           · have HL := Lib.hid (show V = (0, 0, 11) by
               rw [HS.out, HSP.out]; exact HB.out.bad _ _ _ (by rw [isDg_no]; have := HX.out; omega))
             have h57d : decide (PlainAid.bt s K ≤ 57) = false := by simpa using h57
             obtain ⟨⟨k0, k1, k2, k3⟩, f0, f1, f2, f3⟩ := cells4 HBX.out
             go_wp2
             refine bodyPost_ret (results_val rfl _ _ w.heap.size 24 _ (0, 0) _ rfl (set4 HBX.out _ _ _ _) Tryz.underlying24 rfl infoVal _ rfl) rfl ⟨?_, below_set4 HB0.out (Nat.le_refl _) _ _ _ _⟩
             rw [HL.out]
             rfl
         · have HL := Lib.hid (show V = (0, 0, 11) by
             rw [HS.out, HSP.out]; exact HB.out.bad _ _ _ (by rw [isDg_no]; have := HX.out; omega))
           have h48d : decide (48 ≤ PlainAid.bt s K) = false := by simpa using h48
           obtain ⟨⟨k0, k1, k2, k3⟩, f0, f1, f2, f3⟩ := cells4 HBX.out
           by_cases h46 : PlainAid.bt s K = 46
           · have h46d : (PlainAid.bt s K == 46) = true := by rw [beq_iff_eq]; exact h46
             clear h46
             go_wp2
             refine bodyPost_ret (results_val rfl _ _ w.heap.size 24 _ (0, 0) _ rfl (set4 HBX.out _ _ _ _) Tryz.underlying24 rfl infoVal _ rfl) rfl ⟨?_, below_set4 HB0.out (Nat.le_refl _) _ _ _ _⟩
             rw [HL.out]
             rfl
           · have h46d : (PlainAid.bt s K == 46) = false := by rw [beq_eq_false_iff_ne]; exact h46
             clear h46
             go_wp2
             refine bodyPost_ret (results_val rfl _ _ w.heap.size 24 _ (0, 0) _ rfl (set4 HBX.out _ _ _ _) Tryz.underlying24 rfl infoVal _ rfl) rfl ⟨?_, below_set4 HB0.out (Nat.le_refl _) _ _ _ _⟩
             rw [HL.out]
             rfl
     · obtain rfl : K = s.size := by omega
       have HTK := Lib.hid (show ((bl s).drop 0).take (s.size - 0) = (bl s).drop 0 by rw [List.take_of_length_le (by rw [List.length_drop, bl_len]; omega)])
       have HLEN := Lib.hid (show ((bl s).drop 0).length = s.size - 0 by rw [List.length_drop, bl_len])
       have hwlt := (Array.getElem?_eq_some_iff.1 HBX.out).1
       obtain ⟨⟨k0, k1, k2, k3⟩, f0, f1, f2, f3⟩ := cells4 HBX.out
       rcases HST.out with ⟨rfl, rfl, hD, hA⟩ | ⟨i, rfl, hi, hD, hB⟩
       · rw [HTK.out] at hA
         have HL := Lib.hid (show V = if s.size - 0 = 0 then (0, 0, 11) else if ov = true then (0, 0, 5) else (2, 1 * N, 0) by rw [HS.out, hA.fin, HLEN.out])
         clear hA HST
         by_cases hz : s.size - 0 = 0
         · rw [if_pos hz] at HL
           have hDz : (D == 0) = true := by rw [beq_iff_eq]; omega
           clear hD hz
           go_wp2
           refine bodyPost_ret (results_val rfl _ _ w.heap.size 24 _ (0, 0) _ rfl (set4 HBX.out _ _ _ _) Tryz.underlying24 rfl infoVal _ rfl) rfl ⟨?_, below_set4 HB0.out (Nat.le_refl _) _ _ _ _⟩
           rw [HL.out]
           rfl
         · rw [if_neg hz] at HL
           have hDz : (D == 0) = false := by rw [beq_eq_false_iff_ne]; omega
           clear hD hz
           cases ov
           · rw [if_neg (by decide)] at HL
             have hNo2 := hNo rfl
             go_wp2
             refine bodyPost_ret (results_val rfl _ _ w.heap.size 24 _ (0, 0) _ rfl (heapA_old _ (set4 HBX.out _ _ _ _)) Tryz.underlying24 rfl infoVal _ rfl) rfl ⟨?_, (below_set4 HB0.out (Nat.le_refl _) _ _ _ _).alloc (by simpa using Nat.le_of_lt hwlt) _⟩
             rw [HL.out]
             simp [valC, noStr]
           · rw [if_pos rfl] at HL
             go_wp2
             refine bodyPost_ret (results_val rfl _ _ w.heap.size 24 _ (0, 0) _ rfl (set4 HBX.out _ _ _ _) Tryz.underlying24 rfl infoVal _ rfl) rfl ⟨?_, below_set4 HB0.out (Nat.le_refl _) _ _ _ _⟩
             rw [HL.out]
             rfl
       · rw [HTK.out] at hB
         have HL := Lib.hid (show V = if s.size - 0 = 1 then (0, 0, 11) else if ov = true ∨ (N = 2147483647 ∧ 0 < P) then (0, 0, 5) else (3, 1 * (1000000 * N + P), 0) by rw [HS.out, hB.fin, HLEN.out])
         clear hB HST
         have hpt : decide (0 ≤ (0 : Int) + (i : Int)) = true := decide_eq_true (by omega)
         have hpt2 : decide (0 ≤ (i : Int)) = true := decide_eq_true (by omega)
         have hpt3 : 0 ≤ (0 : Int) + (i : Int) := by omega
         by_cases hz : s.size - 0 = 1
         · rw [if_pos hz] at HL
           have hDz : (D == 0) = true := by rw [beq_iff_eq]; omega
           clear hD hz hi
           go_wp2
           refine bodyPost_ret (results_val rfl _ _ w.heap.size 24 _ (0, 0) _ rfl (set4 HBX.out _ _ _ _) Tryz.underlying24 rfl infoVal _ rfl) rfl ⟨?_, below_set4 HB0.out (Nat.le_refl _) _ _ _ _⟩
           rw [HL.out]
           rfl
         · rw [if_neg hz] at HL
           have hDz : (D == 0) = false := by rw [beq_eq_false_iff_ne]; omega
           clear hD hz hi
           cases ov
           · have hNo2 := hNo rfl
             by_cases hNm : N = 2147483647
             · have hNmd : (N == 2147483647) = true := by rw [beq_iff_eq]; exact hNm
               by_cases hPp : 0 < P
               · have hPd : decide (0 < P) = true := by simpa using hPp
                 rw [if_pos (.inr ⟨hNm, hPp⟩)] at HL
                 clear hNm
                 go_wp2
                 refine bodyPost_ret (results_val rfl _ _ w.heap.size 24 _ (0, 0) _ rfl (set4 HBX.out _ _ _ _) Tryz.underlying24 rfl infoVal _ rfl) rfl ⟨?_, below_set4 HB0.out (Nat.le_refl _) _ _ _ _⟩
                 rw [HL.out]
                 rfl
               · have hPd : decide (0 < P) = false := by simpa using hPp
                 rw [if_neg (by rintro (h | h); cases h; exact hPp h.2)] at HL
                 clear hNm
                 go_wp2
                 refine bodyPost_ret (results_val rfl _ _ w.heap.size 24 _ (0, 0) _ rfl (heapA_old _ (set4 HBX.out _ _ _ _)) Tryz.underlying24 rfl infoVal _ rfl) rfl ⟨?_, (below_set4 HB0.out (Nat.le_refl _) _ _ _ _).alloc (by simpa using Nat.le_of_lt hwlt) _⟩
                 rw [HL.out]
                 simp [valC, noStr]
             · have hNmd : (N == 2147483647) = false := by rw [beq_eq_false_iff_ne]; exact hNm
               rw [if_neg (by rintro (h | h); cases h; exact hNm h.1)] at HL
               clear hNm
               go_wp2
               refine bodyPost_ret (results_val rfl _ _ w.heap.size 24 _ (0, 0) _ rfl (heapA_old _ (set4 HBX.out _ _ _ _)) Tryz.underlying24 rfl infoVal _ rfl) rfl ⟨?_, (below_set4 HB0.out (Nat.le_refl _) _ _ _ _).alloc (by simpa using Nat.le_of_lt hwlt) _⟩
               rw [HL.out]
               simp [valC, noStr]
           · rw [if_pos (.inl rfl)] at HL
             go_wp2
             refine bodyPost_ret (results_val rfl _ _ w.heap.size 24 _ (0, 0) _ rfl (set4 HBX.out _ _ _ _) Tryz.underlying24 rfl infoVal _ rfl) rfl ⟨?_, below_set4 HB0.out (Nat.le_refl _) _ _ _ _⟩
             rw [HL.out]
             rfl
set_option maxHeartbeats 16000000 in
theorem rparse_plus (s : ByteArray) (w : World) (hs : s.size ≤ 400000) (h0 : 0 < s.size) (hc : PlainAid.bt s 0 = 43) :
   Calls Tryz.prog 49 #[.string s] w (ParseEnd (parseV (bl s)) w) := by
 have hbx : (w.alloc (.cells #[.int .i64 0, .int .i64 0, .string ⟨#[]⟩, .slice none 0 0] 24)).heap[w.heap.size]? = some (.cells #[.int .i64 0, .int .i64 0, .string ⟨#[]⟩, .slice none 0 0] 24 (0, 0)) := heapA_new _ rfl
 have hB0 := belowA w (.cells #[.int .i64 0, .int .i64 0, .string ⟨#[]⟩, .slice none 0 0] 24)
 have HBX := Lib.hid hbx
 have HB0 := Lib.hid hB0
 obtain ⟨V, hV⟩ : ∃ V, V = parseV (bl s) := ⟨_, rfl⟩
 rw [← hV]
 have HV := Lib.hid hV
 clear hV hbx hB0
 · have hgb := PlainAid.get_bt s
   have hx : (s[0].toNat : Int) = PlainAid.bt s 0 := hgb 0 h0
   have HS := Lib.hid (show V = parseB 1 ((bl s).drop 1) by
     have hb := bl_drop s 0 h0
     have a1 : s[0] = 43 := UInt8.toNat_inj.1 (Int.ofNat_inj.1 (hx.trans hc))
     rw [List.drop_zero] at hb
     rw [HV.out, parseV]
     unfold signOf bodyOf
     rw [hb, a1]; rfl)
   clear hx
   go_enter Tryz.func49, Tryz.ntmps49
   go_wp2
   generalize w.alloc (.cells #[.int .i64 0, .int .i64 0, .string ⟨#[]⟩, .slice none 0 0] 24) = W at *
   go_loop [5, 6, 7, 8, 9, 10] (fun n p d t o i => ∃ (K : Nat) (N P D T : Int) (ov : Bool), 1 ≤ K ∧ K ≤ s.size ∧ n = .int .i64 N ∧ p = .int .i64 P ∧ d = .int .i64 D ∧ t = .int .i64 T ∧ o = .bool ov ∧ i = .int .i64 K ∧ 0 ≤ N ∧ N ≤ 21474836479 ∧ (ov = false → N ≤ 2147483647) ∧ 0 ≤ P ∧ P ≤ 999999 ∧ 0 ≤ D ∧ D ≤ K ∧ Hid (St ((bl s).drop 1) 1 K N P D T ov))
     (fun _ _ _ _ _ i => s.size - (intOf i).toNat)
   case atStart => exact ⟨1, 0, 0, 0, -1, false, Nat.le_refl _, by omega, rfl, rfl, rfl, rfl, rfl, rfl, by omega, by omega, fun _ => by omega, by omega, by omega, by omega, by omega, Lib.hid (.inl ⟨rfl, rfl, by omega, PA.nil⟩)⟩
   case round =>
     obtain ⟨K, N, P, D, T, ov, hK0, hK1, rfl, rfl, rfl, rfl, rfl, rfl, hN0, hN1, hNo, hP0, hP1, hD0, hD1, HST⟩ := hrel
     by_cases hlt : K < s.size
     · have hgb := PlainAid.get_bt s
       have hx : (s[K].toNat : Int) = PlainAid.bt s K := hgb K hlt
       have HTK := Lib.hid (at_take s 1 K hlt hK0)
       have HSP := Lib.hid (at_split s 1 K hlt hK0)
       have hx0 := PlainAid.bt_nonneg s K
       have hx1 := PlainAid.bt_le s K
       have HX := Lib.hid hx
       clear hx
       rcases HST.out with ⟨rfl, rfl, hD, hA⟩ | ⟨i, rfl, hi, hD, hB⟩
       · have HA := Lib.hid hA
         have HD := Lib.hid hD
         clear hA hD HST
         by_cases h46 : PlainAid.bt s K = 46
         · have HB := Lib.hid (show PB (((bl s).drop 1).take (K + 1 - 1)) (K - 1) N 0 ov by
             rw [HTK.out, show s[K] = 46 from UInt8.toNat_inj.1 (by have := HX.out; rw [h46] at this; exact Int.ofNat_inj.1 this)]
             have := HA.out.point
             rwa [show (((bl s).drop 1).take (K - 1)).length = K - 1 from by rw [List.length_take, List.length_drop, bl_len]; omega] at this)
           have h46d : (PlainAid.bt s K == 46) = true := by rw [beq_iff_eq]; exact h46
           clear h46
           go_wp2
           go_round
           case rel => exact ⟨K + 1, N, 0, D, K, ov, by omega, by omega, rfl, rfl, rfl, rfl, rfl, by go_num, hN0, hN1, hNo, by omega, by omega, hD0, by omega, Lib.hid (.inr ⟨K - 1, by omega, by omega, by have := HD.out; omega, HB.out⟩)⟩
           case measure => simp [intOf]; omega
         · have h46d : (PlainAid.bt s K == 46) = false := by rw [beq_eq_false_iff_ne]; exact h46
           have HNE := Lib.hid (show s[K] ≠ 46 from fun e => h46 (by rw [← HX.out, e]; rfl))
           clear h46
           by_cases h48 : 48 ≤ PlainAid.bt s K
           · by_cases h57 : PlainAid.bt s K ≤ 57
             · have HDG := Lib.hid (show isDg s[K] = true by rw [isDg_iff]; have := HX.out; omega)
               have HDV := Lib.hid (show ((dgV s[K] : Nat) : Int) = PlainAid.bt s K - 48 by rw [dgV_int HDG.out, HX.out])
               have h48d : decide (48 ≤ PlainAid.bt s K) = true := by simpa using h48
               have h57d : decide (PlainAid.bt s K ≤ 57) = true := by simpa using h57
               cases ov
               · have hN2 := hNo rfl
                 by_cases hM : 2147483647 < 10 * N + PlainAid.bt s K - 48
                 · have HA2 := Lib.hid (show PA (((bl s).drop 1).take (K + 1 - 1)) (10 * N + PlainAid.bt s K - 48) true by
                     rw [HTK.out]; exact HA.out.more HDG.out _ (by have := HDV.out; omega) _ (by rw [eq_comm, decide_eq_true_iff]; exact hM))
                   go_wp2
                   go_round
                   case rel => exact ⟨K + 1, 10 * N + PlainAid.bt s K - 48, 0, D + 1, -1, true, by omega, by omega, rfl, rfl, rfl, rfl, rfl, by go_num, by omega, by omega, (fun h => by cases h), by omega, by omega, by omega, by omega, Lib.hid (.inl ⟨rfl, rfl, by have := HD.out; omega, HA2.out⟩)⟩
                   case measure => simp [intOf]; omega
                 · have HA2 := Lib.hid (show PA (((bl s).drop 1).take (K + 1 - 1)) (10 * N + PlainAid.bt s K - 48) false by
                     rw [HTK.out]; exact HA.out.more HDG.out _ (by have := HDV.out; omega) _ (by rw [eq_comm, decide_eq_false_iff_not]; exact hM))
                   have hMd : decide (2147483647 < 10 * N + PlainAid.bt s K - 48) = false := by simpa using hM
                   have hM2 : 10 * N + PlainAid.bt s K - 48 ≤ 2147483647 := by omega
                   clear hM
                   go_wp2
                   go_round
                   case rel => exact ⟨K + 1, 10 * N + PlainAid.bt s K - 48, 0, D + 1, -1, false, by omega, by omega, rfl, rfl, rfl, rfl, rfl, by go_num, by omega, by omega, (fun _ => hM2), by omega, by omega, by omega, by omega, Lib.hid (.inl ⟨rfl, rfl, by have := HD.out; omega, HA2.out⟩)⟩
                   case measure => simp [intOf]; omega
               · have HA2 := Lib.hid (show PA (((bl s).drop 1).take (K + 1 - 1)) N true by rw [HTK.out]; exact HA.out.over HDG.out)
                 go_wp2
                 go_round
                 case rel => exact ⟨K + 1, N, 0, D + 1, -1, true, by omega, by omega, rfl, rfl, rfl, rfl, rfl, by go_num, hN0, hN1, hNo, by omega, by omega, by omega, by omega, Lib.hid (.inl ⟨rfl, rfl, by have := HD.out; omega, HA2.out⟩)⟩
                 case measure => simp [intOf]; omega
             · have HL := Lib.hid (show V = (0, 0, 11) by
                 rw [HS.out, HSP.out]; exact parseB_bad1 _ _ _ _ HA.out.dg HNE.out (by rw [isDg_no]; have := HX.out; omega))
               have h48d : decide (48 ≤ PlainAid.bt s K) = true := by simpa using h48
               have h57d : decide (PlainAid.bt s K ≤ 57) = false := by simpa using h57
               obtain ⟨⟨k0, k1, k2, k3⟩, f0, f1, f2, f3⟩ := cells4 HBX.out
               go_wp2
               refine bodyPost_ret (results_val rfl _ _ w.heap.size 24 _ (0, 0) _ rfl (set4 HBX.out _ _ _ _) Tryz.underlying24 rfl infoVal _ rfl) rfl ⟨?_, below_set4 HB0.out (Nat.le_refl _) _ _ _ _⟩
               rw [HL.out]
               rfl
           · have HL := Lib.hid (show V = (0, 0, 11) by
               rw [HS.out, HSP.out]; exact parseB_bad1 _ _ _ _ HA.out.dg HNE.out (by rw [isDg_no]; have := HX.out; omega))
             have h48d : decide (48 ≤ PlainAid.bt s K) = false := by simpa using h48
             obtain ⟨⟨k0, k1, k2, k3⟩, f0, f1, f2, f3⟩ := cells4 HBX.out
             go_wp2
             refine bodyPost_ret (results_val rfl _ _ w.heap.size 24 _ (0, 0) _ rfl (set4 HBX.out _ _ _ _) Tryz.underlying24 rfl infoVal _ rfl) rfl ⟨?_, below_set4 HB0.out (Nat.le_refl _) _ _ _ _⟩
             rw [HL.out]
             rfl
       · have HB := Lib.hid hB
         have HD := Lib.hid hD
         clear hB hD HST
         have hpt : decide ((1 : Int) + (i : Int) < 0) = false := decide_eq_false (by omega)
         have hpt2 : decide ((i : Int) < 0) = false := decide_eq_false (by omega)
         have hpt3 : 0 ≤ (1 : Int) + (i : Int) := by omega
         by_cases h48 : 48 ≤ PlainAid.bt s K
         · have h48d : decide (48 ≤ PlainAid.bt s K) = true := by simpa using h48
           have h46d : (PlainAid.bt s K == 46) = false := by rw [beq_eq_false_iff_ne]; omega
           by_cases h57 : PlainAid.bt s K ≤ 57
           · have h57d : decide (PlainAid.bt s K ≤ 57) = true := by simpa using h57
             have HDG := Lib.hid (show isDg s[K] = true by rw [isDg_iff]; have := HX.out; omega)
             go_wp2
             go_loop [11, 12] (fun b j => ∃ (J : Nat) (B : Int), 1 ≤ J ∧ J ≤ 7 ∧ J ≤ K - 1 - i ∧ b = .int .i64 B ∧ j = .int .i64 J ∧ 0 ≤ B ∧ B ≤ 100000 ∧ Hid (B = (100000 / 10 ^ (J - 1) : Nat))) (fun _ j => 7 - (intOf j).toNat)
             case atStart => exact ⟨1, 100000, by omega, by omega, by omega, rfl, rfl, by omega, by omega, Lib.hid rfl⟩
             case round =>
               obtain ⟨J, B, hJ1, hJ7, hJL, rfl, rfl, hB0, hB1, HBJ⟩ := hrel
               by_cases hJK : (J : Int) < (K : Int) - (1 + (i : Int))
               · have hJKd : decide ((J : Int) < (K : Int) - (1 + (i : Int))) = true := by simpa using hJK
                 by_cases hJ7b : J < 7
                 · have hJ7d : decide ((J : Int) < 7) = true := by simp; omega
                   have HBN := Lib.hid (show B / 10 = ((100000 / 10 ^ (J + 1 - 1) : Nat) : Int) by
                     rw [HBJ.out, show J + 1 - 1 = (J - 1) + 1 from by omega, Nat.pow_succ, ← Nat.div_div_eq_div_mul]; omega)
                   go_wp2
                   go_round
                   case rel => exact ⟨J + 1, B / 10, by omega, by omega, by omega, rfl, by go_num, by omega, by omega, HBN⟩
                   case measure => simp [intOf]; omega
                 · have hJ7d : decide ((J : Int) < 7) = false := decide_eq_false (by omega)
                   have hz0 : 0 ≤ B * (PlainAid.bt s K - 48) := Int.mul_nonneg hB0 (by omega)
                   have hz1 : B * (PlainAid.bt s K - 48) ≤ 100000 * 9 := Int.mul_le_mul hB1 (by omega) (by omega) (by omega)
                   have HQ := Lib.hid (show PB (((bl s).drop 1).take (K + 1 - 1)) i N (P + B * (PlainAid.bt s K - 48)) ov by
                     rw [HTK.out]
                     refine HB.out.more HDG.out (100000 / 10 ^ (J - 1)) ?_ _ (by rw [HBJ.out, HX.out])
                     rw [List.length_take, List.length_drop, bl_len]
                     congr 3
                     omega)
                   have hq := HQ.out.bd
                   have hq0 := hq.1
                   have hq1 := hq.2
                   clear hq
                   have hwr : IntKind.i64.wrap (B * (PlainAid.bt s K - 48)) = B * (PlainAid.bt s K - 48) := IntWalk.i64_in _ (by omega)
                   clear hz1
                   go_wp2
                   go_round
                   case rel => exact ⟨K + 1, N, P + B * (PlainAid.bt s K - 48), D + 1, _, ov, by omega, by omega, rfl, rfl, rfl, rfl, rfl, by go_num, hN0, hN1, hNo, hq0, hq1, by omega, by omega, Lib.hid (.inr ⟨i, rfl, by omega, by have := HD.out; omega, HQ.out⟩)⟩
                   case measure => simp [intOf]; omega
               · have hJKd : decide ((J : Int) < (K : Int) - (1 + (i : Int))) = false := by simpa using hJK
                 have hz0 : 0 ≤ B * (PlainAid.bt s K - 48) := Int.mul_nonneg hB0 (by omega)
                 have hz1 : B * (PlainAid.bt s K - 48) ≤ 100000 * 9 := Int.mul_le_mul hB1 (by omega) (by omega) (by omega)
                 have HQ := Lib.hid (show PB (((bl s).drop 1).take (K + 1 - 1)) i N (P + B * (PlainAid.bt s K - 48)) ov by
                   rw [HTK.out]
                   refine HB.out.more HDG.out (100000 / 10 ^ (J - 1)) ?_ _ (by rw [HBJ.out, HX.out])
                   rw [List.length_take, List.length_drop, bl_len]
                   congr 3
                   omega)
                 have hq := HQ.out.bd
                 have hq0 := hq.1
                 have hq1 := hq.2
                 clear hq
                 have hwr : IntKind.i64.wrap (B * (PlainAid.bt s K - 48)) = B * (PlainAid.bt s K - 48) := IntWalk.i64_in _ (by omega)
                 clear hz1
                 go_wp2
                 go_round
                 case rel => exact ⟨K + 1, N, P + B * (PlainAid.bt s K - 48), D + 1, _, ov, by omega, by omega, rfl, rfl, rfl, rfl, rfl, by go_num, hN0, hN1, hNo, hq0, hq1, by omega, by omega, Lib.hid (.inr ⟨i, rfl, by omega, by have := HD.out; omega, HQ.out⟩)⟩
                 case measure => simp [intOf]; omega
           · have HL := Lib.hid (show V = (0, 0, 11) by
               rw [HS.out, HSP.out]; exact HB.out.bad _ _ _ (by rw [isDg_no]; have := HX.out; omega))
             have h57d : decide (PlainAid.bt s K ≤ 57) = false := by simpa using h57
             obtain ⟨⟨k0, k1, k2, k3⟩, f0, f1, f2, f3⟩ := cells4 HBX.out
             go_wp2
             refine bodyPost_ret (results_val rfl _ _ w.heap.size 24 _ (0, 0) _ rfl (set4 HBX.out _ _ _ _) Tryz.underlying24 rfl infoVal _ rfl) rfl ⟨?_, below_set4 HB0.out (Nat.le_refl _) _ _ _ _⟩
             rw [HL.out]
             rfl
         · have HL := Lib.hid (show V = (0, 0, 11) by
             rw [HS.out, HSP.out]; exact HB.out.bad _ _ _ (by rw [isDg_no]; have := HX.out; omega))
           have h48d : decide (48 ≤ PlainAid.bt s K) = false := by simpa using h48
           obtain ⟨⟨k0, k1, k2, k3⟩, f0, f1, f2, f3⟩ := cells4 HBX.out
           by_cases h46 : PlainAid.bt s K = 46
           · have h46d : (PlainAid.bt s K == 46) = true := by rw [beq_iff_eq]; exact h46
             clear h46
             go_wp2
             refine bodyPost_ret (results_val rfl _ _ w.heap.size 24 _ (0, 0) _ rfl (set4 HBX.out _ _ _ _) Tryz.underlying24 rfl infoVal _ rfl) rfl ⟨?_, below_set4 HB0.out (Nat.le_refl _) _ _ _ _⟩
             rw [HL.out]
             rfl
           · have h46d : (PlainAid.bt s K == 46) = false := by rw [beq_eq_false_iff_ne]; exact h46
             clear h46
             go_wp2
             refine bodyPost_ret (results_val rfl _ _ w.heap.size 24 _ (0, 0) _ rfl (set4 HBX.out _ _ _ _) Tryz.underlying24 rfl infoVal _ rfl) rfl ⟨?_, below_set4 HB0.out (Nat.le_refl _) _ _ _ _⟩
             rw [HL.out]
             rfl
     · obtain rfl : K = s.size := by omega
       have HTK := Lib.hid (show ((bl s).drop 1).take (s.size - 1) = (bl s).drop 1 by rw [List.take_of_length_le (by rw [List.length_drop, bl_len]; omega)])
       have HLEN := Lib.hid (show ((bl s).drop 1).length = s.size - 1 by rw [List.length_drop, bl_len])
       have hwlt := (Array.getElem?_eq_some_iff.1 HBX.out).1
       obtain ⟨⟨k0, k1, k2, k3⟩, f0, f1, f2, f3⟩ := cells4 HBX.out
       rcases HST.out with ⟨rfl, rfl, hD, hA⟩ | ⟨i, rfl, hi, hD, hB⟩
       · rw [HTK.out] at hA
         have HL := Lib.hid (show V = if s.size - 1 = 0 then (0, 0, 11) else if ov = true then (0, 0, 5) else (2, 1 * N, 0) by rw [HS.out, hA.fin, HLEN.out])
         clear hA HST
         by_cases hz : s.size - 1 = 0
         · rw [if_pos hz] at HL
           have hDz : (D == 0) = true := by rw [beq_iff_eq]; omega
           clear hD hz
           go_wp2
           refine bodyPost_ret (results_val rfl _ _ w.heap.size 24 _ (0, 0) _ rfl (set4 HBX.out _ _ _ _) Tryz.underlying24 rfl infoVal _ rfl) rfl ⟨?_, below_set4 HB0.out (Nat.le_refl _) _ _ _ _⟩
           rw [HL.out]
           rfl
         · rw [if_neg hz] at HL
           have hDz : (D == 0) = false := by rw [beq_eq_false_iff_ne]; omega
           clear hD hz
           cases ov
           · rw [if_neg (by decide)] at HL
             have hNo2 := hNo rfl
             go_wp2
             refine bodyPost_ret (results_val rfl _ _ w.heap.size 24 _ (0, 0) _ rfl (heapA_old _ (set4 HBX.out _ _ _ _)) Tryz.underlying24 rfl infoVal _ rfl) rfl ⟨?_, (below_set4 HB0.out (Nat.le_refl _) _ _ _ _).alloc (by simpa using Nat.le_of_lt hwlt) _⟩
             rw [HL.out]
             simp [valC, noStr]
           · rw [if_pos rfl] at HL
             go_wp2
             refine bodyPost_ret (results_val rfl _ _ w.heap.size 24 _ (0, 0) _ rfl (set4 HBX.out _ _ _ _) Tryz.underlying24 rfl infoVal _ rfl) rfl ⟨?_, below_set4 HB0.out (Nat.le_refl _) _ _ _ _⟩
             rw [HL.out]
             rfl
       · rw [HTK.out] at hB
         have HL := Lib.hid (show V = if s.size - 1 = 1 then (0, 0, 11) else if ov = true ∨ (N = 2147483647 ∧ 0 < P) then (0, 0, 5) else (3, 1 * (1000000 * N + P), 0) by rw [HS.out, hB.fin, HLEN.out])
         clear hB HST
         have hpt : decide (0 ≤ (1 : Int) + (i : Int)) = true := decide_eq_true (by omega)
         have hpt2 : decide (0 ≤ (i : Int)) = true := decide_eq_true (by omega)
         have hpt3 : 0 ≤ (1 : Int) + (i : Int) := by omega
         by_cases hz : s.size - 1 = 1
         · rw [if_pos hz] at HL
           have hDz : (D == 0) = true := by rw [beq_iff_eq]; omega
           clear hD hz hi
           go_wp2
           refine bodyPost_ret (results_val rfl _ _ w.heap.size 24 _ (0, 0) _ rfl (set4 HBX.out _ _ _ _) Tryz.underlying24 rfl infoVal _ rfl) rfl ⟨?_, below_set4 HB0.out (Nat.le_refl _) _ _ _ _⟩
           rw [HL.out]
           rfl
         · rw [if_neg hz] at HL
           have hDz : (D == 0) = false := by rw [beq_eq_false_iff_ne]; omega
           clear hD hz hi
           cases ov
           · have hNo2 := hNo rfl
             by_cases hNm : N = 2147483647
             · have hNmd : (N == 2147483647) = true := by rw [beq_iff_eq]; exact hNm
               by_cases hPp : 0 < P
               · have hPd : decide (0 < P) = true := by simpa using hPp
                 rw [if_pos (.inr ⟨hNm, hPp⟩)] at HL
                 clear hNm
                 go_wp2
                 refine bodyPost_ret (results_val rfl _ _ w.heap.size 24 _ (0, 0) _ rfl (set4 HBX.out _ _ _ _) Tryz.underlying24 rfl infoVal _ rfl) rfl ⟨?_, below_set4 HB0.out (Nat.le_refl _) _ _ _ _⟩
                 rw [HL.out]
                 rfl
               · have hPd : decide (0 < P) = false := by simpa using hPp
                 rw [if_neg (by rintro (h | h); cases h; exact hPp h.2)] at HL
                 clear hNm
                 go_wp2
                 refine bodyPost_ret (results_val rfl _ _ w.heap.size 24 _ (0, 0) _ rfl (heapA_old _ (set4 HBX.out _ _ _ _)) Tryz.underlying24 rfl infoVal _ rfl) rfl ⟨?_, (below_set4 HB0.out (Nat.le_refl _) _ _ _ _).alloc (by simpa using Nat.le_of_lt hwlt) _⟩
                 rw [HL.out]
                 simp [valC, noStr]
             · have hNmd : (N == 2147483647) = false := by rw [beq_eq_false_iff_ne]; exact hNm
               rw [if_neg (by rintro (h | h); cases h; exact hNm h.1)] at HL
               clear hNm
               go_wp2
               refine bodyPost_ret (results_val rfl _ _ w.heap.size 24 _ (0, 0) _ rfl (heapA_old _ (set4 HBX.out _ _ _ _)) Tryz.underlying24 rfl infoVal _ rfl) rfl ⟨?_, (below_set4 HB0.out (Nat.le_refl _) _ _ _ _).alloc (by simpa using Nat.le_of_lt hwlt) _⟩
               rw [HL.out]
               simp [valC, noStr]
           · rw [if_pos (.inl rfl)] at HL
             go_wp2
             refine bodyPost_ret (results_val rfl _ _ w.heap.size 24 _ (0, 0) _ rfl (set4 HBX.out _ _ _ _) Tryz.underlying24 rfl infoVal _ rfl) rfl ⟨?_, below_set4 HB0.out (Nat.le_refl _) _ _ _ _⟩
             rw [HL.out]
             rfl
set_option maxHeartbeats 16000000 in
theorem rparse_minus (s : ByteArray) (w : World) (hs : s.size ≤ 400000) (h0 : 0 < s.size) (hc : PlainAid.bt s 0 = 45) :
   Calls Tryz.prog 49 #[.string s] w (ParseEnd (parseV (bl s)) w) := by
 have hbx : (w.alloc (.cells #[.int .i64 0, .int .i64 0, .string ⟨#[]⟩, .slice none 0 0] 24)).heap[w.heap.size]? = some (.cells #[.int .i64 0, .int .i64 0, .string ⟨#[]⟩, .slice none 0 0] 24 (0, 0)) := heapA_new _ rfl
 have hB0 := belowA w (.cells #[.int .i64 0, .int .i64 0, .string ⟨#[]⟩, .slice none 0 0] 24)
 have HBX := Lib.hid hbx
 have HB0 := Lib.hid hB0
 obtain ⟨V, hV⟩ : ∃ V, V = parseV (bl s) := ⟨_, rfl⟩
 rw [← hV]
 have HV := Lib.hid hV
 clear hV hbx hB0
 · have hgb := PlainAid.get_bt s
   have hx : (s[0].toNat : Int) = PlainAid.bt s 0 := hgb 0 h0
   have HS := Lib.hid (show V = parseB (-1) ((bl s).drop 1) by
     have hb := bl_drop s 0 h0
     have a1 : s[0] = 45 := UInt8.toNat_inj.1 (Int.ofNat_inj.1 (hx.trans hc))
     rw [List.drop_zero] at hb
     rw [HV.out, parseV]
     unfold signOf bodyOf
     rw [hb, a1]; rfl)
   clear hx
   go_enter Tryz.func49, Tryz.ntmps49
   go_wp2
   generalize w.alloc (.cells #[.int .i64 0, .int .i64 0, .string ⟨#[]⟩, .slice none 0 0] 24) = W at *
   go_loop [5, 6, 7, 8, 9, 10] (fun n p d t o i => ∃ (K : Nat) (N P D T : Int) (ov : Bool), 1 ≤ K ∧ K ≤ s.size ∧ n = .int .i64 N ∧ p = .int .i64 P ∧ d = .int .i64 D ∧ t = .int .i64 T ∧ o = .bool ov ∧ i = .int .i64 K ∧ 0 ≤ N ∧ N ≤ 21474836479 ∧ (ov = false → N ≤ 2147483647) ∧ 0 ≤ P ∧ P ≤ 999999 ∧ 0 ≤ D ∧ D ≤ K ∧ Hid (St ((bl s).drop 1) 1 K N P D T ov))
     (fun _ _ _ _ _ i => s.size - (intOf i).toNat)
   case atStart => exact ⟨1, 0, 0, 0, -1, false, Nat.le_refl _, by omega, rfl, rfl, rfl, rfl, rfl, rfl, by omega, by omega, fun _ => by omega, by omega, by omega, by omega, by omega, Lib.hid (.inl ⟨rfl, rfl, by omega, PA.nil⟩)⟩
   case round =>
     obtain ⟨K, N, P, D, T, ov, hK0, hK1, rfl, rfl, rfl, rfl, rfl, rfl, hN0, hN1, hNo, hP0, hP1, hD0, hD1, HST⟩ := hrel
     by_cases hlt : K < s.size
     · have hgb := PlainAid.get_bt s
       have hx : (s[K].toNat : Int) = PlainAid.bt s K := hgb K hlt
       have HTK := Lib.hid (at_take s 1 K hlt hK0)
       have HSP := Lib.hid (at_split s 1 K hlt hK0)
       have hx0 := PlainAid.bt_nonneg s K
       have hx1 := PlainAid.bt_le s K
       have HX := Lib.hid hx
       clear hx
       rcases HST.out with ⟨rfl, rfl, hD, hA⟩ | ⟨i, rfl, hi, hD, hB⟩
       · have HA := Lib.hid hA
         have HD := Lib.hid hD
         clear hA hD HST
         by_cases h46 : PlainAid.bt s K = 46
         · have HB := Lib.hid (show PB (((bl s).drop 1).take (K + 1 - 1)) (K - 1) N 0 ov by
             rw [HTK.out, show s[K] = 46 from UInt8.toNat_inj.1 (by have := HX.out; rw [h46] at this; exact Int.ofNat_inj.1 this)]
             have := HA.out.point
             rwa [show (((bl s).drop 1).take (K - 1)).length = K - 1 from by rw [List.length_take, List.length_drop, bl_len]; omega] at this)
           have h46d : (PlainAid.bt s K == 46) = true := by rw [beq_iff_eq]; exact h46
           clear h46
           go_wp2
           go_round
           case rel => exact ⟨K + 1, N, 0, D, K, ov, by omega, by omega, rfl, rfl, rfl, rfl, rfl, by go_num, hN0, hN1, hNo, by omega, by omega, hD0, by omega, Lib.hid (.inr ⟨K - 1, by omega, by omega, by have := HD.out; omega, HB.out⟩)⟩
           case measure => simp [intOf]; omega
         · have h46d : (PlainAid.bt s K == 46) = false := by rw [beq_eq_false_iff_ne]; exact h46
           have HNE := Lib.hid (show s[K] ≠ 46 from fun e => h46 (by rw [← HX.out, e]; rfl))
           clear h46
           by_cases h48 : 48 ≤ PlainAid.bt s K
           · by_cases h57 : PlainAid.bt s K ≤ 57
             · have HDG := Lib.hid (show isDg s[K] = true by rw [isDg_iff]; have := HX.out; omega)
               have HDV := Lib.hid (show ((dgV s[K] : Nat) : Int) = PlainAid.bt s K - 48 by rw [dgV_int HDG.out, HX.out])
               have h48d : decide (48 ≤ PlainAid.bt s K) = true := by simpa using h48
               have h57d : decide (PlainAid.bt s K ≤ 57) = true := by simpa using h57
               cases ov
               · have hN2 := hNo rfl
                 by_cases hM : 2147483647 < 10 * N + PlainAid.bt s K - 48
                 · have HA2 := Lib.hid (show PA (((bl s).drop 1).take (K + 1 - 1)) (10 * N + PlainAid.bt s K - 48) true by
                     rw [HTK.out]; exact HA.out.more HDG.out _ (by have := HDV.out; omega) _ (by rw [eq_comm, decide_eq_true_iff]; exact hM))
                   go_wp2
                   go_round
                   case rel => exact ⟨K + 1, 10 * N + PlainAid.bt s K - 48, 0, D + 1, -1, true, by omega, by omega, rfl, rfl, rfl, rfl, rfl, by go_num, by omega, by omega, (fun h => by cases h), by omega, by omega, by omega, by omega, Lib.hid (.inl ⟨rfl, rfl, by have := HD.out; omega, HA2.out⟩)⟩
                   case measure => simp [intOf]; omega
                 · have HA2 := Lib.hid (show PA (((bl s).drop 1).take (K + 1 - 1)) (10 * N + PlainAid.bt s K - 48) false by
                     rw [HTK.out]; exact HA.out.more HDG.out _ (by have := HDV.out; omega) _ (by rw [eq_comm, decide_eq_false_iff_not]; exact hM))
                   have hMd : decide (2147483647 < 10 * N + PlainAid.bt s K - 48) = false := by simpa using hM
                   have hM2 : 10 * N + PlainAid.bt s K - 48 ≤ 2147483647 := by omega
                   clear hM
                   go_wp2
                   go_round
                   case rel => exact ⟨K + 1, 10 * N + PlainAid.bt s K - 48, 0, D + 1, -1, false, by omega, by omega, rfl, rfl, rfl, rfl, rfl, by go_num, by omega, by omega, (fun _ => hM2), by omega, by omega, by omega, by omega, Lib.hid (.inl ⟨rfl, rfl, by have := HD.out; omega, HA2.out⟩)⟩
                   case measure => simp [intOf]; omega
               · have HA2 := Lib.hid (show PA (((bl s).drop 1).take (K + 1 - 1)) N true by rw [HTK.out]; exact HA.out.over HDG.out)
                 go_wp2
                 go_round
                 case rel => exact ⟨K + 1, N, 0, D + 1, -1, true, by omega, by omega, rfl, rfl, rfl, rfl, rfl, by go_num, hN0, hN1, hNo, by omega, by omega, by omega, by omega, Lib.hid (.inl ⟨rfl, rfl, by have := HD.out; omega, HA2.out⟩)⟩
                 case measure => simp [intOf]; omega
             · have HL := Lib.hid (show V = (0, 0, 11) by
                 rw [HS.out, HSP.out]; exact parseB_bad1 _ _ _ _ HA.out.dg HNE.out (by rw [isDg_no]; have := HX.out; omega))
               have h48d : decide (48 ≤ PlainAid.bt s K) = true := by simpa using h48
               have h57d : decide (PlainAid.bt s K ≤ 57) = false := by simpa using h57
               obtain ⟨⟨k0, k1, k2, k3⟩, f0, f1, f2, f3⟩ := cells4 HBX.out
               go_wp2
               refine bodyPost_ret (results_val rfl _ _ w.heap.size 24 _ (0, 0) _ rfl (set4 HBX.out _ _ _ _) Tryz.underlying24 rfl infoVal _ rfl) rfl ⟨?_, below_set4 HB0.out (Nat.le_refl _) _ _ _ _⟩
               rw [HL.out]
               rfl
           · have HL := Lib.hid (show V = (0, 0, 11) by
               rw [HS.out, HSP.out]; exact parseB_bad1 _ _ _ _ HA.out.dg HNE.out (by rw [isDg_no]; have := HX.out; omega))
             have h48d : decide (48 ≤ PlainAid.bt s K) = false := by simpa using h48
             obtain ⟨⟨k0, k1, k2, k3⟩, f0, f1, f2, f3⟩ := cells4 HBX.out
             go_wp2
             refine bodyPost_ret (results_val rfl _ _ w.heap.size 24 _ (0, 0) _ rfl (set4 HBX.out _ _ _ _) Tryz.underlying24 rfl infoVal _ rfl) rfl ⟨?_, below_set4 HB0.out (Nat.le_refl _) _ _ _ _⟩
             rw [HL.out]
             rfl
       · have HB := Lib.hid hB
         have HD := Lib.hid hD
         clear hB hD HST
         have hpt : decide ((1 : Int) + (i : Int) < 0) = false := decide_eq_false (by omega)
         have hpt2 : decide ((i : Int) < 0) = false := decide_eq_false (by omega)
         have hpt3 : 0 ≤ (1 : Int) + (i : Int) := by omega
         by_cases h48 : 48 ≤ PlainAid.bt s K
         · have h48d : decide (48 ≤ PlainAid.bt s K) = true := by simpa using h48
           have h46d : (PlainAid.bt s K == 46) = false := by rw [beq_eq_false_iff_ne]; omega
           by_cases h57 : PlainAid.bt s K ≤ 57
           · have h57d : decide (PlainAid.bt s K ≤ 57) = true := by simpa using h57
             have HDG := Lib.hid (show isDg s[K] = true by rw [isDg_iff]; have := HX.out; omega)
             go_wp2
             go_loop [11, 12] (fun b j => ∃ (J : Nat) (B : Int), 1 ≤ J ∧ J ≤ 7 ∧ J ≤ K - 1 - i ∧ b = .int .i64 B ∧ j = .int .i64 J ∧ 0 ≤ B ∧ B ≤ 100000 ∧ Hid (B = (100000 / 10 ^ (J - 1) : Nat))) (fun _ j => 7 - (intOf j).toNat)
             case atStart => exact ⟨1, 100000, by omega, by omega, by omega, rfl, rfl, by omega, by omega, Lib.hid rfl⟩
             case round =>
               obtain ⟨J, B, hJ1, hJ7, hJL, rfl, rfl, hB0, hB1, HBJ⟩ := hrel
               by_cases hJK : (J : Int) < (K : Int) - (1 + (i : Int))
               · have hJKd : decide ((J : Int) < (K : Int) - (1 + (i : Int))) = true := by simpa using hJK
                 by_cases hJ7b : J < 7
                 · have hJ7d : decide ((J : Int) < 7) = true := by simp; omega
                   have HBN := Lib.hid (show B / 10 = ((100000 / 10 ^ (J + 1 - 1) : Nat) : Int) by
                     rw [HBJ.out, show J + 1 - 1 = (J - 1) + 1 from by omega, Nat.pow_succ, ← Nat.div_div_eq_div_mul]; omega)
                   go_wp2
                   go_round
                   case rel => exact ⟨J + 1, B / 10, by omega, by omega, by omega, rfl, by go_num, by omega, by omega, HBN⟩
                   case measure => simp [intOf]; omega
                 · have hJ7d : decide ((J : Int) < 7) = false := decide_eq_false (by omega)
                   have hz0 : 0 ≤ B * (PlainAid.bt s K - 48) := Int.mul_nonneg hB0 (by omega)
                   have hz1 : B * (PlainAid.bt s K - 48) ≤ 100000 * 9 := Int.mul_le_mul hB1 (by omega) (by omega) (by omega)
                   have HQ := Lib.hid (show PB (((bl s).drop 1).take (K + 1 - 1)) i N (P + B * (PlainAid.bt s K - 48)) ov by
                     rw [HTK.out]
                     refine HB.out.more HDG.out (100000 / 10 ^ (J - 1)) ?_ _ (by rw [HBJ.out, HX.out])
                     rw [List.length_take, List.length_drop, bl_len]
                     congr 3
                     omega)
                   have hq := HQ.out.bd
                   have hq0 := hq.1
                   have hq1 := hq.2
                   clear hq
                   have hwr : IntKind.i64.wrap (B * (PlainAid.bt s K - 48)) = B * (PlainAid.bt s K - 48) := IntWalk.i64_in _ (by omega)
                   clear hz1
                   go_wp2
                   go_round
                   case rel => exact ⟨K + 1, N, P + B * (PlainAid.bt s K - 48), D + 1, _, ov, by omega, by omega, rfl, rfl, rfl, rfl, rfl, by go_num, hN0, hN1, hNo, hq0, hq1, by omega, by omega, Lib.hid (.inr ⟨i, rfl, by omega, by have := HD.out; omega, HQ.out⟩)⟩
                   case measure => simp [intOf]; omega
               · have hJKd : decide ((J : Int) < (K : Int) - (1 + (i : Int))) = false := by simpa using hJK
                 have hz0 : 0 ≤ B * (PlainAid.bt s K - 48) := Int.mul_nonneg hB0 (by omega)
                 have hz1 : B * (PlainAid.bt s K - 48) ≤ 100000 * 9 := Int.mul_le_mul hB1 (by omega) (by omega) (by omega)
                 have HQ := Lib.hid (show PB (((bl s).drop 1).take (K + 1 - 1)) i N (P + B * (PlainAid.bt s K - 48)) ov by
                   rw [HTK.out]
                   refine HB.out.more HDG.out (100000 / 10 ^ (J - 1)) ?_ _ (by rw [HBJ.out, HX.out])
                   rw [List.length_take, List.length_drop, bl_len]
                   congr 3
                   omega)
                 have hq := HQ.out.bd
                 have hq0 := hq.1
                 have hq1 := hq.2
                 clear hq
                 have hwr : IntKind.i64.wrap (B * (PlainAid.bt s K - 48)) = B * (PlainAid.bt s K - 48) := IntWalk.i64_in _ (by omega)
                 clear hz1
                 go_wp2
                 go_round
                 case rel => exact ⟨K + 1, N, P + B * (PlainAid.bt s K - 48), D + 1, _, ov, by omega, by omega, rfl, rfl, rfl, rfl, rfl, by go_num, hN0, hN1, hNo, hq0, hq1, by omega, by omega, Lib.hid (.inr ⟨i, rfl, by omega, by have := HD.out; omega, HQ.out⟩)⟩
                 case measure => simp [intOf]; omega
           · have HL := Lib.hid (show V = (0, 0, 11) by
               rw [HS.out, HSP.out]; exact HB.out.bad _ _ _ (by rw [isDg_no]; have := HX.out; omega))
             have h57d : decide (PlainAid.bt s K ≤ 57) = false := by simpa using h57
             obtain ⟨⟨k0, k1, k2, k3⟩, f0, f1, f2, f3⟩ := cells4 HBX.out
             go_wp2
             refine bodyPost_ret (results_val rfl _ _ w.heap.size 24 _ (0, 0) _ rfl (set4 HBX.out _ _ _ _) Tryz.underlying24 rfl infoVal _ rfl) rfl ⟨?_, below_set4 HB0.out (Nat.le_refl _) _ _ _ _⟩
             rw [HL.out]
             rfl
         · have HL := Lib.hid (show V = (0, 0, 11) by
             rw [HS.out, HSP.out]; exact HB.out.bad _ _ _ (by rw [isDg_no]; have := HX.out; omega))
           have h48d : decide (48 ≤ PlainAid.bt s K) = false := by simpa using h48
           obtain ⟨⟨k0, k1, k2, k3⟩, f0, f1, f2, f3⟩ := cells4 HBX.out
           by_cases h46 : PlainAid.bt s K = 46
           · have h46d : (PlainAid.bt s K == 46) = true := by rw [beq_iff_eq]; exact h46
             clear h46
             go_wp2
             refine bodyPost_ret (results_val rfl _ _ w.heap.size 24 _ (0, 0) _ rfl (set4 HBX.out _ _ _ _) Tryz.underlying24 rfl infoVal _ rfl) rfl ⟨?_, below_set4 HB0.out (Nat.le_refl _) _ _ _ _⟩
             rw [HL.out]
             rfl
           · have h46d : (PlainAid.bt s K == 46) = false := by rw [beq_eq_false_iff_ne]; exact h46
             clear h46
             go_wp2
             refine bodyPost_ret (results_val rfl _ _ w.heap.size 24 _ (0, 0) _ rfl (set4 HBX.out _ _ _ _) Tryz.underlying24 rfl infoVal _ rfl) rfl ⟨?_, below_set4 HB0.out (Nat.le_refl _) _ _ _ _⟩
             rw [HL.out]
             rfl
     · obtain rfl : K = s.size := by omega
       have HTK := Lib.hid (show ((bl s).drop 1).take (s.size - 1) = (bl s).drop 1 by rw [List.take_of_length_le (by rw [List.length_drop, bl_len]; omega)])
       have HLEN := Lib.hid (show ((bl s).drop 1).length = s.size - 1 by rw [List.length_drop, bl_len])
       have hwlt := (Array.getElem?_eq_some_iff.1 HBX.out).1
       obtain ⟨⟨k0, k1, k2, k3⟩, f0, f1, f2, f3⟩ := cells4 HBX.out
       rcases HST.out with ⟨rfl, rfl, hD, hA⟩ | ⟨i, rfl, hi, hD, hB⟩
       · rw [HTK.out] at hA
         have HL := Lib.hid (show V = if s.size - 1 = 0 then (0, 0, 11) else if ov = true then (0, 0, 5) else (2, (-1) * N, 0) by rw [HS.out, hA.fin, HLEN.out])
         clear hA HST
         by_cases hz : s.size - 1 = 0
         · rw [if_pos hz] at HL
           have hDz : (D == 0) = true := by rw [beq_iff_eq]; omega
           clear hD hz
           go_wp2
           refine bodyPost_ret (results_val rfl _ _ w.heap.size 24 _ (0, 0) _ rfl (set4 HBX.out _ _ _ _) Tryz.underlying24 rfl infoVal _ rfl) rfl ⟨?_, below_set4 HB0.out (Nat.le_refl _) _ _ _ _⟩
           rw [HL.out]
           rfl
         · rw [if_neg hz] at HL
           have hDz : (D == 0) = false := by rw [beq_eq_false_iff_ne]; omega
           clear hD hz
           cases ov
           · rw [if_neg (by decide)] at HL
             have hNo2 := hNo rfl
             go_wp2
             refine bodyPost_ret (results_val rfl _ _ w.heap.size 24 _ (0, 0) _ rfl (heapA_old _ (set4 HBX.out _ _ _ _)) Tryz.underlying24 rfl infoVal _ rfl) rfl ⟨?_, (below_set4 HB0.out (Nat.le_refl _) _ _ _ _).alloc (by simpa using Nat.le_of_lt hwlt) _⟩
             rw [HL.out]
             simp [valC, noStr]
           · rw [if_pos rfl] at HL
             go_wp2
             refine bodyPost_ret (results_val rfl _ _ w.heap.size 24 _ (0, 0) _ rfl (set4 HBX.out _ _ _ _) Tryz.underlying24 rfl infoVal _ rfl) rfl ⟨?_, below_set4 HB0.out (Nat.le_refl _) _ _ _ _⟩
             rw [HL.out]
             rfl
       · rw [HTK.out] at hB
         have HL := Lib.hid (show V = if s.size - 1 = 1 then (0, 0, 11) else if ov = true ∨ (N = 2147483647 ∧ 0 < P) then (0, 0, 5) else (3, (-1) * (1000000 * N + P), 0) by rw [HS.out, hB.fin, HLEN.out])
         clear hB HST
         have hpt : decide (0 ≤ (1 : Int) + (i : Int)) = true := decide_eq_true (by omega)
         have hpt2 : decide (0 ≤ (i : Int)) = true := decide_eq_true (by omega)
         have hpt3 : 0 ≤ (1 : Int) + (i : Int) := by omega
         by_cases hz : s.size - 1 = 1
         · rw [if_pos hz] at HL
           have hDz : (D == 0) = true := by rw [beq_iff_eq]; omega
           clear hD hz hi
           go_wp2
           refine bodyPost_ret (results_val rfl _ _ w.heap.size 24 _ (0, 0) _ rfl (set4 HBX.out _ _ _ _) Tryz.underlying24 rfl infoVal _ rfl) rfl ⟨?_, below_set4 HB0.out (Nat.le_refl _) _ _ _ _⟩
           rw [HL.out]
           rfl
         · rw [if_neg hz] at HL
           have hDz : (D == 0) = false := by rw [beq_eq_false_iff_ne]; omega
           clear hD hz hi
           cases ov
           · have hNo2 := hNo rfl
             by_cases hNm : N = 2147483647
             · have hNmd : (N == 2147483647) = true := by rw [beq_iff_eq]; exact hNm
               by_cases hPp : 0 < P
               · have hPd : decide (0 < P) = true := by simpa using hPp
                 rw [if_pos (.inr ⟨hNm, hPp⟩)] at HL
                 clear hNm
                 go_wp2
                 refine bodyPost_ret (results_val rfl _ _ w.heap.size 24 _ (0, 0) _ rfl (set4 HBX.out _ _ _ _) Tryz.underlying24 rfl infoVal _ rfl) rfl ⟨?_, below_set4 HB0.out (Nat.le_refl _) _ _ _ _⟩
                 rw [HL.out]
                 rfl
               · have hPd : decide (0 < P) = false := by simpa using hPp
                 rw [if_neg (by rintro (h | h); cases h; exact hPp h.2)] at HL
                 clear hNm
                 go_wp2
                 refine bodyPost_ret (results_val rfl _ _ w.heap.size 24 _ (0, 0) _ rfl (heapA_old _ (set4 HBX.out _ _ _ _)) Tryz.underlying24 rfl infoVal _ rfl) rfl ⟨?_, (below_set4 HB0.out (Nat.le_refl _) _ _ _ _).alloc (by simpa using Nat.le_of_lt hwlt) _⟩
                 rw [HL.out]
                 simp [valC, noStr]
             · have hNmd : (N == 2147483647) = false := by rw [beq_eq_false_iff_ne]; exact hNm
               rw [if_neg (by rintro (h | h); cases h; exact hNm h.1)] at HL
               clear hNm
               go_wp2
               refine bodyPost_ret (results_val rfl _ _ w.heap.size 24 _ (0, 0) _ rfl (heapA_old _ (set4 HBX.out _ _ _ _)) Tryz.underlying24 rfl infoVal _ rfl) rfl ⟨?_, (below_set4 HB0.out (Nat.le_refl _) _ _ _ _).alloc (by simpa using Nat.le_of_lt hwlt) _⟩
               rw [HL.out]
               simp [valC, noStr]
           · rw [if_pos (.inl rfl)] at HL
             go_wp2
             refine bodyPost_ret (results_val rfl _ _ w.heap.size 24 _ (0, 0) _ rfl (set4 HBX.out _ _ _ _) Tryz.underlying24 rfl infoVal _ rfl) rfl ⟨?_, below_set4 HB0.out (Nat.le_refl _) _ _ _ _⟩
             rw [HL.out]
             rfl
theorem rparse_empty (s : ByteArray) (w : World) (h0 : s.size = 0) :
   Calls Tryz.prog 49 #[.string s] w (ParseEnd (parseV (bl s)) w) := by
 have hbx : (w.alloc (.cells #[.int .i64 0, .int .i64 0, .string ⟨#[]⟩, .slice none 0 0] 24)).heap[w.heap.size]? = some (.cells #[.int .i64 0, .int .i64 0, .string ⟨#[]⟩, .slice none 0 0] 24 (0, 0)) := heapA_new _ rfl
 have hB0 := belowA w (.cells #[.int .i64 0, .int .i64 0, .string ⟨#[]⟩, .slice none 0 0] 24)
 have HBX := Lib.hid hbx
 have HB0 := Lib.hid hB0
 obtain ⟨V, hV⟩ : ∃ V, V = parseV (bl s) := ⟨_, rfl⟩
 rw [← hV]
 have HV := Lib.hid hV
 clear hV hbx hB0
 have HL := Lib.hid (show V = (0, 0, 11) by rw [HV.out, show bl s = [] from List.eq_nil_of_length_eq_zero (by rw [bl_len]; exact h0)]; rfl)
 have hz : ¬ 0 < s.size := by omega
 have hzd : decide (0 < s.size) = false := decide_eq_false hz
 have hzi : decide ((0 : Int) < s.size) = false := decide_eq_false (by omega)
 clear h0
 go_enter Tryz.func49, Tryz.ntmps49
 go_wp2
 generalize w.alloc (.cells #[.int .i64 0, .int .i64 0, .string ⟨#[]⟩, .slice none 0 0] 24) = W at *
 go_loop [7, 10] (fun d i => d = .int .i64 0 ∧ i = .int .i64 0) (fun _ _ => 0)
 case atStart => exact ⟨rfl, rfl⟩
 case round =>
   obtain ⟨rfl, rfl⟩ := hrel
   obtain ⟨⟨k0, k1, k2, k3⟩, f0, f1, f2, f3⟩ := cells4 HBX.out
   go_wp2
   refine bodyPost_ret (results_val rfl _ _ w.heap.size 24 _ (0, 0) _ rfl (set4 HBX.out _ _ _ _) Tryz.underlying24 rfl infoVal _ rfl) rfl ⟨?_, below_set4 HB0.out (Nat.le_refl _) _ _ _ _⟩
   rw [HL.out]
   rfl
theorem rparse_any (s : ByteArray) (w : World) (hs : s.size ≤ 400000) :
   Calls Tryz.prog 49 #[.string s] w (ParseEnd (parseV (bl s)) w) := by
 by_cases h0 : 0 < s.size
 · by_cases h1 : PlainAid.bt s 0 = 43
   · exact rparse_plus s w hs h0 h1
   · by_cases h2 : PlainAid.bt s 0 = 45
     · exact rparse_minus s w hs h0 h2
     · exact rparse_none s w hs h0 h1 h2
 · exact rparse_empty s w (by omega)
structure Rx (w : World) (r n : Nat) (f : Nat) (W : World) : Prop where
 blk : W.heap[r]? = some (.cells #[.int .i64 0, .int .i64 0, .int .i64 0, .int .i64 0, .int .i64 0, .string ⟨#[]⟩, .slice none 0 0, .string ⟨#[]⟩] 59 (0, 0))
 no : W.heap[n]? = some (.cells #[.int .i64 0, .int .i64 f, .int .i64 f, .int .i64 0, .int .i64 0, .string ⟨#[]⟩, .slice none 0 0, .string ⟨#[]⟩] 59 (0, 0))
 bel : Below w.heap.size w W
 wr : w.heap.size ≤ r
theorem Rx.on {w W W' : World} {r n f : Nat} (h : Rx w r n f W) (hb : Below W.heap.size W W') : Rx w r n f W' := ⟨block_keep hb h.blk, block_keep hb h.no, h.bel.trans (hb.mono h.bel.size), h.wr⟩
theorem Rx.alloc {w W : World} {r n f : Nat} (h : Rx w r n f W) (o : Obj) : Rx w r n f (W.alloc o) := h.on (belowA W o)
theorem next_fin {w W : World} {r : Nat} {V : Tk × Int × Int × Int} {x : Tk} {f t er : Int} (hb : Below w.heap.size w W) (hr : w.heap.size ≤ r) (hV : V = (x, f, t, er)) (y0 y1 y2 y3 y4 y5 y6 y7 : Value) :
   NextEnd w V (.returned (.tuple #[.agg (tokN x f t), .int .i64 er]))
     ((((((((W.setCell ⟨r, 0, none⟩ y0).setCell ⟨r, 1, none⟩ y1).setCell ⟨r, 2, none⟩ y2).setCell ⟨r, 3, none⟩ y3).setCell ⟨r, 4, none⟩ y4).setCell ⟨r, 5, none⟩ y5).setCell ⟨r, 6, none⟩ y6).setCell ⟨r, 7, none⟩ y7) := by
 subst hV; exact ⟨rfl, below_set8 hb hr _ _ _ _ _ _ _ _⟩
theorem nextF_at {bs : List UInt8} {f : Nat} (last : Bool) (h : f < bs.length) : nextF bs f last = if (tokV last (bs.getD f 0) (bs.drop (f + 1))).1 = 0 then ((tokV last (bs.getD f 0) (bs.drop (f + 1))).2.1, (f : Int), (bs.length : Int) - ((tokV last (bs.getD f 0) (bs.drop (f + 1))).2.2.length : Int), 0) else ({ kind := 0 }, (f : Int), (f : Int), (tokV last (bs.getD f 0) (bs.drop (f + 1))).1) := nextF_cons last (drop_cons h)
theorem nextF_ok {bs : List UInt8} {f j : Nat} {last : Bool} (h : f < bs.length) {c : UInt8} (hc : bs.getD f 0 = c) {x : Tk} (ht : tokV last c (bs.drop (f + 1)) = (0, x, bs.drop j)) (hj : j ≤ bs.length) : nextF bs f last = (x, (f : Int), (j : Int), 0) := by
 rw [nextF_at last h, hc, ht, if_pos rfl]
 simp only [List.length_drop]
 congr 3; omega
theorem nextF_len {bs : List UInt8} {f : Nat} {last : Bool} (h : f < bs.length) {c : UInt8} (hc : bs.getD f 0 = c) {x : Tk} {r : List UInt8} (ht : tokV last c (bs.drop (f + 1)) = (0, x, r)) (hj : r.length ≤ bs.length) : nextF bs f last = (x, (f : Int), ((bs.length - r.length : Nat) : Int), 0) := by
 rw [nextF_at last h, hc, ht, if_pos rfl]
 simp only
 congr 3; omega
theorem nextF_no {bs : List UInt8} {f : Nat} {last : Bool} (h : f < bs.length) {c : UInt8} (hc : bs.getD f 0 = c) {e : Int} (ht : (tokV last c (bs.drop (f + 1))).1 = e) (he : e ≠ 0) : nextF bs f last = ({ kind := 0 }, (f : Int), (f : Int), e) := by
 rw [nextF_at last h, hc, if_neg (by rw [ht]; exact he), ht]
theorem tokV_62 (last : Bool) (t : List UInt8) : tokV last 62 t = match t with
     | [] => (if last then 11 else 6, { kind := 0 }, [])
     | d :: u => if d = 62 then (0, { kind := 5 }, u) else (11, { kind := 0 }, []) := by
 unfold tokV
 rw [if_neg (by decide), if_neg (by decide), if_neg (by decide), if_neg (by decide), if_pos rfl]
 cases t <;> rfl
theorem tokV_60 (last : Bool) (t : List UInt8) (h : ∀ u, t ≠ 60 :: u) : tokV last 60 t = hexK last (hexV [] (-1) t) := by
 have := tokV_open ⟨none, 0, t, last⟩ 0
 rw [List.drop_zero] at this
 rw [this]
 cases t with
 | nil => rfl
 | cons d u =>
   rw [opV_in (X := ⟨none, 0, d :: u, last⟩) (k := 0) (by simp), if_neg (by simp; intro e; subst e; exact h u rfl)]
   rfl
theorem skip_here {bs : List UInt8} {k : Int} {f : Nat} (h0 : 0 ≤ k) (h1 : k ≤ bs.length) (hf : skipV bs k = f) (hl : f < bs.length) : bs.getD f 0 ≠ 37 ∧ isSp (bs.getD f 0) = false := by
 have hi := skipV_idem h0 h1
 rw [hf] at hi
 have h2 : f + skipN false (bs.drop f) = f := by
   have : skipV bs (f : Int) = f + skipN false (bs.drop f) := by
     unfold skipV; rw [if_neg (by omega), if_neg (by omega), Int.toNat_natCast]
   rw [← this]; exact hi
 rw [drop_cons hl] at h2
 refine ⟨fun e => ?_, ?_⟩
 · rw [skipN, if_pos e] at h2; omega
 · by_cases e : bs.getD f 0 = 37
   · rw [skipN, if_pos e] at h2; omega
   · cases hs : isSp (bs.getD f 0) with
     | false => rfl
     | true => rw [skipN, if_neg e, if_pos hs] at h2; omega
theorem HexREnd.some_end {bs : List UInt8} {last : Bool} {V : Int × List UInt8 × List UInt8} {w w' : World} {e : Ending} (h : HexREnd bs last V w e w') : ∃ v n er, e = .returned (.tuple #[v, .int .i64 n, .int .i64 er]) ∧ Below w.heap.size w w' := by
 obtain ⟨hb, ⟨-, h⟩ | ⟨-, h⟩ | ⟨-, v, h, -, -⟩⟩ := h
 · exact ⟨_, _, _, h, hb⟩
 · exact ⟨_, _, _, h, hb⟩
 · exact ⟨_, _, _, h, hb⟩
theorem rnext_pre {w : World} {a : Option Addr} {cap : Nat} {bs : List UInt8} (hr : Row w 1 a bs.length cap (bs.map u8C)) (hn : bs.length ≤ 400000) {k : Int} (hk0 : 0 ≤ k) (hk1 : k ≤ bs.length) {f : Nat} (hf : skipV bs k = f) (hfl : f < bs.length) :
   ∃ (b off R r : Nat) (x : Nat), a = some ⟨b, off, none⟩ ∧ b < w.heap.size ∧ (bs.getD f 0).toNat = x ∧ R = f + runN (bs.drop f) ∧ R ≤ bs.length ∧ r = w.heap.size ∧ bs.length ≤ cap ∧ (cap : Int) ≤ 9223372036854775807 ∧ decide (k < 0) = false ∧
     decide ((bs.length : Int) < k) = false ∧ ((f : Int) == (bs.length : Int)) = false ∧ decide (f = bs.length) = false ∧ (f : Int) < bs.length ∧ f ≤ 399999 ∧ runN (bs.drop f) ≤ bs.length - f ∧
     (∀ W : World, Below w.heap.size w W → Calls Tryz.prog 43 #[.slice a bs.length cap, .int .i64 k] W fun e w' => e = .returned (.int .i64 (f : Nat)) ∧ W = w') ∧
     (∀ W : World, Below w.heap.size w W → Calls Tryz.prog 44 #[.slice a bs.length cap, .int .i64 f] W fun e w' => e = .returned (.int .i64 (R : Nat)) ∧ W = w') ∧
     (∀ j, j < bs.length → w.cell? ⟨b, off + j, none⟩ = some (.int .u8 (bs.getD j 0).toNat)) ∧ w.cell? ⟨b, off + f, none⟩ = some (.int .u8 x) ∧
     (w.alloc (.cells #[.int .i64 0, .int .i64 0, .int .i64 0, .int .i64 0, .int .i64 0, .string ⟨#[]⟩, .slice none 0 0, .string ⟨#[]⟩] 59)).heap[r]? = some (.cells #[.int .i64 0, .int .i64 0, .int .i64 0, .int .i64 0, .int .i64 0, .string ⟨#[]⟩, .slice none 0 0, .string ⟨#[]⟩] 59 (0, 0)) ∧ Below w.heap.size w (w.alloc (.cells #[.int .i64 0, .int .i64 0, .int .i64 0, .int .i64 0, .int .i64 0, .string ⟨#[]⟩, .slice none 0 0, .string ⟨#[]⟩] 59)) := by
 obtain ⟨b, off, ha, hbW, hc⟩ := hr.at 0 f hfl
 have hrl := runN_le (bs.drop f)
 rw [List.length_drop] at hrl
 refine ⟨b, off, _, _, _, ha, hbW, rfl, rfl, by omega, rfl, hr.2.1, hr.i64c, decide_eq_false (by omega), decide_eq_false (by omega), by rw [beq_eq_false_iff_ne]; omega, decide_eq_false (by omega), by omega, by omega, hrl, fun W h => ?_,
   fun W h => rrun_any (hr.mono h) hn f (by omega), hc, hc f hfl, heapA_new _ rfl, belowA w _⟩
 have := rskip_any (hr.mono h) hn k
 rw [hf] at this
 exact this
theorem rnext_pre2 {w : World} {b off f r x : Nat} (hbW : b < w.heap.size) (hrr : r = w.heap.size) {W1 : World} (hB : Below w.heap.size w W1) (hc : w.cell? ⟨b, off + f, none⟩ = some (.int .u8 x)) (hZ : W1.heap[r]? = some (.cells #[.int .i64 0, .int .i64 0, .int .i64 0, .int .i64 0, .int .i64 0, .string ⟨#[]⟩, .slice none 0 0, .string ⟨#[]⟩] 59 (0, 0))) :
   W1.cell? ⟨b, off + f, none⟩ = some (.int .u8 x) ∧ (W1.alloc (.cells #[.int .i64 0, .int .i64 f, .int .i64 f, .int .i64 0, .int .i64 0, .string ⟨#[]⟩, .slice none 0 0, .string ⟨#[]⟩] 59)).cell? ⟨b, off + f, none⟩ = some (.int .u8 x) ∧ ¬ b = W1.heap.size ∧ b < W1.heap.size ∧ Rx w r W1.heap.size f (W1.alloc (.cells #[.int .i64 0, .int .i64 f, .int .i64 f, .int .i64 0, .int .i64 0, .string ⟨#[]⟩, .slice none 0 0, .string ⟨#[]⟩] 59)) :=
 ⟨cell?_keep hB hc, cell?_keep (hB.alloc hB.size _) hc, by have := hB.size; omega, by have := hB.size; omega, heapA_old _ hZ, heapA_new _ rfl, hB.alloc hB.size _, by rw [hrr]; exact Nat.le_refl _⟩
end Go.Proofs.YtnkodejgiabamaaGreatDoor
