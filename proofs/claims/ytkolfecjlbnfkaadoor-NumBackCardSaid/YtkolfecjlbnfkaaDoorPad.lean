/-
  Walks of layer 9: a number's digits; digits with zeros ahead.
-/
import Derived.Test.YtkolfecjlbnfkaaDoorNum4
import Derived.PlainAid
namespace Go.Proofs.YtkolfecjlbnfkaaDoor
open Go.RowKit

theorem quiet_eq9 {P : Program} {f : FuncId} {args : Array Value} {w : World} {n : Nat} {v : Value}
    (h : Calls P f args (w.drewN n) fun e w' => e = .returned v ∧ w.drewN n = w') : Calls P f args (w.drewN n) fun e w'' => e = .returned v ∧ ∃ m, w'' = w.drewN m :=
  h.mono fun _ _ ⟨he, hm⟩ => ⟨he, n, hm.symm⟩

def mkS (l : List UInt8) : ByteArray := ⟨l.toArray⟩
theorem bl_mkS (l : List UInt8) : bl (mkS l) = l := rfl
theorem mkS_bl (s : ByteArray) : mkS (bl s) = s := rfl
theorem mkS_size (l : List UInt8) : (mkS l).size = l.length := by unfold mkS; simp [ByteArray.size]
theorem mkS_app (a b : List UInt8) : mkS a ++ mkS b = mkS (a ++ b) := ByteArray.mk_append_mk a b
theorem mkS_ext {a b : ByteArray} (h : bl a = bl b) : a = b := by rw [← mkS_bl a, ← mkS_bl b, h]
theorem ret_str {a b : ByteArray} (h : a = b) : Ending.returned (.string a) = .returned (.string b) := by rw [h]
theorem ret_str2 {a b : ByteArray} {x y : Int} (h : a = b) (h2 : x = y) : Ending.returned (.tuple #[.string a, .int .i64 x]) = .returned (.tuple #[.string b, .int .i64 y]) := by rw [h, h2]
theorem dig_ext (d : Nat) (h : d < 10) : (⟨#[48, 49, 50, 51, 52, 53, 54, 55, 56, 57]⟩ : ByteArray).extract d (d + 1) = mkS [UInt8.ofNat (48 + d)] := by
  have : d = 0 ∨ d = 1 ∨ d = 2 ∨ d = 3 ∨ d = 4 ∨ d = 5 ∨ d = 6 ∨ d = 7 ∨ d = 8 ∨ d = 9 := by omega
  rcases this with rfl | rfl | rfl | rfl | rfl | rfl | rfl | rfl | rfl | rfl <;> rfl

def TextEnd (n : Nat) (w : World) (e : Ending) (w' : World) : Prop := e = .returned (.string (mkS (decL n))) ∧ ∃ q, w' = w.drewN q

theorem text_any (n : Nat) (hn : n < 18446744073709551616) (w : World) : Calls Tryd.prog 24 #[.int .u64 n] w (TextEnd n w) := by
  induction n using Nat.strongRecOn generalizing w with
  | ind n ih =>
    by_cases h : n < 10
    · have HV := Lib.hid (show (⟨#[48, 49, 50, 51, 52, 53, 54, 55, 56, 57]⟩ : ByteArray).extract n (n + 1) = mkS (decL n) by rw [dig_ext n h, decL_small h])
      clear ih
      go_enter Tryd.func24, Tryd.ntmps24
      go_wp2
      go_ret
      exact ⟨ret_str HV.out, 0, rfl⟩
    · have hm : n % 10 < 10 := by omega
      have hd : n / 10 < n := by omega
      have hlen := decL_len 19 (n / 10) (by omega)
      have HV := Lib.hid (show mkS (decL (n / 10)) ++ (⟨#[48, 49, 50, 51, 52, 53, 54, 55, 56, 57]⟩ : ByteArray).extract (n % 10) (n % 10 + 1) = mkS (decL n) by
        rw [dig_ext _ hm, mkS_app, decL_big (n := n) (by omega)])
      have HI := Lib.hid (fun W => ih (n / 10) hd (by omega) W)
      have hsz : (mkS (decL (n / 10))).size ≤ 20 := by rw [mkS_size]; exact hlen
      have hdc : decide ((n : Int) < 10) = false := decide_eq_false (by omega)
      have h10 : (10 : Int) ≤ n := by omega
      clear ih hlen h
      unfold TextEnd at HI
      generalize mkS (decL (n / 10)) = T at *
      go_enter Tryd.func24, Tryd.ntmps24
      go_wp2
      go_quiet ((go_at_call 24; exact Calls.quiet_of (HI.out _)))
      go_wp2
      go_ret
      exact ⟨ret_str HV.out, _, rfl⟩

set_option maxHeartbeats 1000000 in
theorem rtext_any (N : Nat) (L : Int) (w : World) (hN : N < 9223372036854775808) (hL1 : 1 ≤ L) (hL2 : L ≤ 20) :
    Calls Tryd.prog 26 #[.int .i64 N, .int .i64 L] w fun e w' => e = .returned (.string (mkS (padL N L.toNat))) ∧ w = w' := by
  obtain ⟨V, hV⟩ : ∃ V, V = mkS (padL N L.toNat) := ⟨_, rfl⟩
  rw [← hV]
  have HV := Lib.hid hV
  have HNN := Lib.hid hN
  clear hV
  go_enter Tryd.func26, Tryd.ntmps26
  go_wp2
  go_loop [0, 5, 6] (fun n s i => ∃ (k M : Nat) (S : ByteArray), k ≤ 20 ∧ n = .int .i64 M ∧ s = .string S ∧ i = .int .i64 k ∧ M < 9223372036854775808 ∧ Hid (M = N / 10 ^ k) ∧ Hid (S = mkS (fixD N k)) ∧ Hid (L.toNat < k → N / 10 ^ (k - 1) ≠ 0)) (fun _ _ i => 20 - (intOf i).toNat)
  case atStart => exact ⟨0, N, ⟨#[]⟩, by omega, rfl, rfl, rfl, hN, Lib.hid (by simp), Lib.hid rfl, Lib.hid (fun h => by omega)⟩
  case round =>
    obtain ⟨k, M, S, hk, rfl, rfl, rfl, hM, HM, HS, HL⟩ := hrel
    have hsz : S.size = k := by rw [HS.out, mkS_size, fixD_len]
    have HNEXT := Lib.hid (show (⟨#[48, 49, 50, 51, 52, 53, 54, 55, 56, 57]⟩ : ByteArray).extract (M % 10) (M % 10 + 1) ++ S = mkS (fixD N (k + 1)) by
      rw [dig_ext _ (by omega), HS.out, mkS_app, HM.out]; rfl)
    have HM2 := Lib.hid (show M / 10 = N / 10 ^ (k + 1) by rw [HM.out, Nat.div_div_eq_div_mul, Nat.pow_succ])
    clear hN
    by_cases hk20 : k < 20
    · have d1 : decide ((k : Int) < 20) = true := by simp; omega
      by_cases hM0 : 0 < M
      · have d2 : decide ((0 : Int) < M) = true := by simp; omega
        have HL2 := Lib.hid (show L.toNat < k + 1 → N / 10 ^ (k + 1 - 1) ≠ 0 from fun _ => by rw [show k + 1 - 1 = k from rfl, ← HM.out]; omega)
        go_wp2
        go_round
        case rel => exact ⟨k + 1, M / 10, _, by omega, by go_num, rfl, by go_num, by omega, HM2, HNEXT, HL2⟩
        case measure => simp [intOf]; omega
      · have d2 : decide ((0 : Int) < M) = false := decide_eq_false (by omega)
        have d2' : M = 0 := by omega
        by_cases hkL : (k : Int) < L
        · have d3 : decide ((k : Int) < L) = true := by simpa using hkL
          have HL2 := Lib.hid (show L.toNat < k + 1 → N / 10 ^ (k + 1 - 1) ≠ 0 from fun h => by omega)
          subst d2'
          go_wp2
          go_round
          case rel => exact ⟨k + 1, 0, _, by omega, by go_num, rfl, by go_num, by omega, HM2, HNEXT, HL2⟩
          case measure => simp [intOf]; omega
        · have d3 : decide ((k : Int) < L) = false := by simpa using hkL
          have HE := Lib.hid (show S = V by rw [HV.out, HS.out, fixD_end N L.toNat k (by omega) (by omega) (by rw [← HM.out]; exact d2') HL.out])
          subst d2'
          go_wp2
          go_ret
          exact ⟨ret_str HE.out, rfl⟩
    · obtain rfl : k = 20 := by omega
      have HE := Lib.hid (show S = V by
        rw [HV.out, HS.out, fixD_end N L.toNat 20 (by omega) (by omega) (Nat.div_eq_of_lt (by have := HNN.out; omega)) HL.out])
      go_wp2
      go_ret
      exact ⟨ret_str HE.out, rfl⟩

def strLen : Value → Nat | .string t => t.size | _ => 0
set_option maxHeartbeats 1000000 in
theorem trimByte_any (s : ByteArray) (w : World) (hs : s.size ≤ 100000) :
    Calls Tryd.prog 30 #[.string s, .int .u8 48] w fun e w' => e = .returned (.string (mkS (trimR (bl s)))) ∧ w = w' := by
  obtain ⟨V, hV⟩ : ∃ V, V = trimR (bl s) := ⟨_, rfl⟩
  rw [← hV]
  have HV := Lib.hid hV
  clear hV
  go_enter Tryd.func30, Tryd.ntmps30
  go_wp2
  go_loop [0] (fun v => ∃ T : ByteArray, v = .string T ∧ T.size ≤ 100000 ∧ Hid (V = trimR (bl T))) (fun v => strLen v)
  case atStart => exact ⟨s, rfl, hs, HV⟩
  case round =>
    obtain ⟨T, rfl, hT, HT⟩ := hrel
    by_cases h0 : T.size = 0
    · have HE := Lib.hid (show T = mkS V by
        apply mkS_ext
        have : bl T = [] := List.eq_nil_of_length_eq_zero (by rw [bl_len]; exact h0)
        rw [HT.out, this]; rfl)
      go_wp2
      go_ret
      exact ⟨ret_str HE.out, rfl⟩
    · obtain ⟨m, hm⟩ : ∃ m, T.size = m + 1 := ⟨T.size - 1, by omega⟩
      have hgb := PlainAid.get_bt T
      have hlt : m < T.size := by omega
      have hx : (T[m].toNat : Int) = PlainAid.bt T m := hgb m hlt
      have hsp := bl_take T m hlt
      rw [List.take_of_length_le (by rw [bl_len]; omega)] at hsp
      have HSP := Lib.hid hsp
      have HX := Lib.hid hx
      clear hsp hx h0
      by_cases h48 : PlainAid.bt T m = 48
      · have h48d : (PlainAid.bt T m == 48) = true := by rw [beq_iff_eq]; exact h48
        have HN := Lib.hid (show V = trimR (bl (T.extract 0 m)) by
          rw [HT.out, HSP.out, bl_to, show T[m] = 48 from UInt8.toNat_inj.1 (Int.ofNat_inj.1 (HX.out.trans h48)), trimR_snoc])
        clear h48
        go_wp2
        go_round
        case rel => exact ⟨_, rfl, by rw [ByteArray.size_extract]; omega, HN⟩
        case measure => simp [strLen, ByteArray.size_extract]; omega
      · have h48d : (PlainAid.bt T m == 48) = false := by rw [beq_eq_false_iff_ne]; exact h48
        have HE := Lib.hid (show T = mkS V by
          apply mkS_ext
          rw [bl_mkS, HT.out, HSP.out, trimR_stop]
          intro e; exact h48 (by rw [← HX.out, e]; rfl))
        clear h48
        go_wp2
        go_ret
        exact ⟨ret_str HE.out, rfl⟩
set_option maxRecDepth 8000 in
set_option maxHeartbeats 1000000 in
theorem trimRight_any (s : ByteArray) (w : World) (hs : s.size ≤ 100000) :
    Calls Tryd.prog 25 #[.string s, .string ⟨#[48]⟩] w fun e w' => e = .returned (.string (mkS (trimR (bl s)))) ∧ w = w' := by
  have HT := Lib.hid (fun W => trimByte_any s W hs)
  by_cases he : s.toList = []
  · have HE := Lib.hid (show s = mkS (trimR (bl s)) by apply mkS_ext; rw [bl_mkS, ← toL, he]; rfl)
    generalize mkS (trimR (bl s)) = V at *
    go_enter Tryd.func25, Tryd.ntmps25
    go_wp2
    go_ret
    exact ⟨ret_str HE.out, rfl⟩
  · have he2 : s.toList.isEmpty = false := by simpa using he
    generalize mkS (trimR (bl s)) = V at *
    clear he
    go_enter Tryd.func25, Tryd.ntmps25
    go_wp2_with (go_at_call 30; refine (HT.out _).mono ?_; rintro e w' ⟨rfl, rfl⟩)
    go_ret
    exact ⟨rfl, rfl⟩

theorem zeros_ext (k : Nat) (h : k ≤ 64) : (mkS (List.replicate 64 48)).extract 0 k = mkS (List.replicate k 48) := by
  apply mkS_ext
  rw [bl_to, bl_mkS, bl_mkS, List.take_replicate, Nat.min_eq_left h]
end Go.Proofs.YtkolfecjlbnfkaaDoor
