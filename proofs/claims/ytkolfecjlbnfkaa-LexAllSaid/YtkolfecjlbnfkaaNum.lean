/-
  Walks of layer 9: digits' number; are all digits; may a number be.
-/
import Derived.Test.YtkolfecjlbnfkaaProg
import Derived.Test.YtkolfecjlbnfkaaBase
import Derived.Test.YtkolfecjlbnfkaaNumP
import Derived.BigQuiet
import Derived.Deep.QuietTactic
import Derived.Laws.RangeAny
import Derived.IntWalk
namespace Go.Proofs.Ytkolfecjlbnfkaa
open Go.RowKit

def digitI (r : Int) : Int := if r < 48 ∨ 57 < r then -1 else r - 48

theorem digit_any (r : Int) (w : World) (h0 : 0 ≤ r) (h1 : r ≤ 2147483647) :
    Calls Try.prog 60 #[.int .i32 r] w fun e w' => e = .returned (.int .i64 (digitI r)) ∧ w = w' := by
  obtain ⟨V, hV⟩ : ∃ V, V = digitI r := ⟨_, rfl⟩
  rw [← hV]
  unfold digitI at hV
  by_cases h2 : r < 48
  · rw [if_pos (.inl h2)] at hV
    have HV := Lib.hid hV
    clear hV
    go_enter Try.func60, Try.ntmps60
    go_wp2
    go_ret
    exact ⟨ret_int HV.out.symm, rfl⟩
  · have h2d : decide (r < 48) = false := by simpa using h2
    by_cases h3 : 57 < r
    · rw [if_pos (.inr h3)] at hV
      have HV := Lib.hid hV
      clear hV
      go_enter Try.func60, Try.ntmps60
      go_wp2
      go_ret
      exact ⟨ret_int HV.out.symm, rfl⟩
    · rw [if_neg (by omega)] at hV
      have HV := Lib.hid hV
      have h3d : decide (57 < r) = false := by simpa using h3
      have h2' : 48 ≤ r := by omega
      have h3' : r ≤ 57 := by omega
      clear hV h2 h3
      go_enter Try.func60, Try.ntmps60
      go_wp2
      go_ret
      exact ⟨ret_int HV.out.symm, rfl⟩

/-- A string's bytes. -/
abbrev bl (s : ByteArray) : List UInt8 := s.data.toList
theorem bl_len (s : ByteArray) : (bl s).length = s.size := Array.length_toList
theorem bl_get (s : ByteArray) (k : Nat) (h : k < s.size) : (bl s)[k]'(by rw [bl_len]; exact h) = s[k] := rfl
theorem bl_take (s : ByteArray) (k : Nat) (h : k < s.size) : (bl s).take (k + 1) = (bl s).take k ++ [s[k]] := by
  rw [List.take_succ_eq_append_getElem (by rw [bl_len]; exact h)]; rfl
theorem bl_drop (s : ByteArray) (k : Nat) (h : k < s.size) : (bl s).drop k = s[k] :: (bl s).drop (k + 1) := by
  rw [List.drop_eq_getElem_cons (by rw [bl_len]; exact h)]; rfl
theorem bl_mem (s : ByteArray) (k : Nat) (h : k < s.size) : s[k] ∈ bl s := by rw [← bl_get s k h]; exact List.getElem_mem _
theorem toL (s : ByteArray) : s.toList = bl s := ByteArray.toList_eq s

theorem dec_yes (s : ByteArray) (k : Nat) (h : k < s.size) (hd : isDg s[k] = true) : Utf8.decode s k = (s[k].toNat, 1) := by
  rw [isDg_iff] at hd; exact decode_ascii s k h (by omega)
theorem dec_no (s : ByteArray) (k : Nat) (h : k < s.size) (hd : isDg s[k] = false) : digitI (Utf8.decode s k).1 = -1 := by
  rw [isDg_no] at hd
  unfold digitI
  by_cases h2 : s[k].toNat < 128
  · rw [decode_ascii s k h h2, if_pos]
    simp only; omega
  · have := (decode_high s k h (by omega)).1
    rw [if_pos]; omega

theorem iterPos_of (w : World) (s : ByteArray) (k : Nat) : (w.iter s k).iterPos w.heap.size = k := World.iterPos_iter w s k
theorem below_iter (w : World) (s : ByteArray) (k : Nat) : Below w.heap.size w (w.iter s k) := belowA w _

def DigEnd (V : Int × Int) (w : World) (e : Ending) (w' : World) : Prop := e = .returned (.tuple #[.int .i64 V.1, .int .i64 V.2]) ∧ Below w.heap.size w w'

set_option maxHeartbeats 1000000 in
theorem digits_any (s : ByteArray) (w : World) :
    Calls Try.prog 52 #[.string s] w (DigEnd (digitsV (bl s)) w) := by
  obtain ⟨V, hV⟩ : ∃ V, V = digitsV (bl s) := ⟨_, rfl⟩
  rw [← hV]
  have HV := Lib.hid hV
  clear hV
  by_cases he : s.toList = []
  · have HE := Lib.hid (show V = (0, 11) by rw [HV.out, ← toL, he]; exact digitsV_nil)
    go_enter Try.func52, Try.ntmps52
    go_wp2
    go_ret2
    exact ⟨by rw [HE.out]; rfl, Below.refl _ _⟩
  have he2 : s.toList.isEmpty = false := by simpa using he
  have hne : bl s ≠ [] := by rw [← toL]; exact he
  have HNE := Lib.hid hne
  clear he hne
  go_enter Try.func52, Try.ntmps52
  go_wp2
  go_loopw [4, 5] (fun n o wr => ∃ (k : Nat) (N : Int) (ov : Bool), k ≤ s.size ∧ n = .int .i64 N ∧ o = .bool ov ∧ wr = w.iter s k ∧ 0 ≤ N ∧ N ≤ 2147483647 ∧ Hid (((bl s).take k).all isDg = true) ∧ Hid (ov = decide (2147483647 < valD ((bl s).take k))) ∧ Hid (ov = false → N = (valD ((bl s).take k) : Nat)))
    (fun _ _ wr => s.size - wr.iterPos w.heap.size)
  case atStart => exact ⟨0, 0, false, Nat.zero_le _, rfl, rfl, rfl, by omega, by omega, Lib.hid rfl, Lib.hid rfl, Lib.hid fun _ => rfl⟩
  case round =>
    obtain ⟨k, N, ov, hk, rfl, rfl, rfl, hN0, hN1, HA, HO, HN⟩ := hrel
    by_cases hlt : k < s.size
    · have hnx := fun ty => run_next_any (P := Try.prog) w s k ty hlt
      have hle := decode_le s k
      by_cases hd : isDg s[k] = true
      · rw [dec_yes s k hlt hd] at hnx hle
        have hd1 := isDg_iff.1 hd
        have HDV := Lib.hid (dgV_int hd)
        have HD9 := dgV_le hd
        have HTA := Lib.hid (show ((bl s).take (k + 1)).all isDg = true by rw [bl_take s k hlt]; exact all_snoc _ _ HA.out hd)
        have HTV := Lib.hid (show valD ((bl s).take (k + 1)) = 10 * valD ((bl s).take k) + dgV s[k] by rw [bl_take s k hlt]; exact valD_snoc _ _)
        have HDI := Lib.hid (show digitI ((s[k].toNat : Nat) : Int) = (dgV s[k] : Nat) by unfold digitI; rw [if_neg (by omega), dgV_int hd])
        generalize dgV s[k] = d at *
        generalize s[k].toNat = c at *
        clear hd
        simp only at hnx hle
        cases ov
        · have hval := HN.out rfl
          have HVAL := Lib.hid hval
          clear hval
          by_cases hov : (2147483647 - (d : Int)) / 10 < N
          · have HOV2 := Lib.hid (show true = decide (2147483647 < valD ((bl s).take (k + 1))) by
              have h1 := HVAL.out
              rw [HTV.out, eq_comm, decide_eq_true_iff]; omega)
            go_wp2_with (go_at_call 60; refine (digit_any _ _ (by omega) (by omega)).mono ?_; rintro e w' ⟨rfl, rfl⟩; rw [HDI.out])
            go_roundw
            case rel => exact ⟨k + 1, N, true, by omega, rfl, rfl, rfl, hN0, hN1, HTA, HOV2, Lib.hid (fun h => by cases h)⟩
            case measure => simp; omega
          · have HOV2 := Lib.hid (show false = decide (2147483647 < valD ((bl s).take (k + 1))) by
              have h1 := HVAL.out
              rw [HTV.out, eq_comm, decide_eq_false_iff_not]; omega)
            have HVL2 := Lib.hid (show 10 * N + (d : Int) = ((valD ((bl s).take (k + 1)) : Nat) : Int) by rw [HTV.out, HVAL.out]; omega)
            have hovd : decide ((2147483647 - (d : Int)) / 10 < N) = false := by simpa using hov
            go_wp2_with (go_at_call 60; refine (digit_any _ _ (by omega) (by omega)).mono ?_; rintro e w' ⟨rfl, rfl⟩; rw [HDI.out])
            go_roundw
            case rel => exact ⟨k + 1, 10 * N + d, false, by omega, rfl, rfl, rfl, by omega, by omega, HTA, HOV2, Lib.hid (fun _ => HVL2.out)⟩
            case measure => simp; omega
        · have HOV2 := Lib.hid (show true = decide (2147483647 < valD ((bl s).take (k + 1))) by
            have h1 := HO.out
            rw [eq_comm, decide_eq_true_iff] at h1
            rw [HTV.out, eq_comm, decide_eq_true_iff]; omega)
          go_wp2_with (go_at_call 60; refine (digit_any _ _ (by omega) (by omega)).mono ?_; rintro e w' ⟨rfl, rfl⟩; rw [HDI.out])
          go_roundw
          case rel => exact ⟨k + 1, N, true, by omega, rfl, rfl, rfl, hN0, hN1, HTA, HOV2, Lib.hid (fun h => by cases h)⟩
          case measure => simp; omega
      · have hd2 : isDg s[k] = false := by simpa using hd
        have HDI := Lib.hid (dec_no s k hlt hd2)
        have h128 : 0 ≤ (Utf8.decode s k).1 := by omega
        have HF := Lib.hid (show V = (0, 11) by rw [HV.out]; exact digitsV_form (all_false (bl_mem s k hlt) hd2))
        clear hd hd2
        go_wp2_with (go_at_call 60; refine (digit_any _ _ (by omega) (by omega)).mono ?_; rintro e w' ⟨rfl, rfl⟩; rw [HDI.out])
        go_ret2
        exact ⟨by rw [HF.out]; rfl, below_iter _ _ _⟩
    · obtain rfl : k = s.size := by omega
      have hnx := fun ty => run_next_end (P := Try.prog) w s s.size ty hlt
      have htk : (bl s).take s.size = bl s := by rw [← bl_len]; exact List.take_length
      have HT := Lib.hid htk
      clear htk
      cases ov
      · have HR := Lib.hid (show V = (N, 0) by
          have h1 := HA.out; have h2 := HO.out; have h3 := HN.out rfl
          rw [HT.out] at h1 h2 h3
          rw [eq_comm, decide_eq_false_iff_not] at h2
          rw [HV.out, digitsV_ok HNE.out h1 (by omega), h3])
        go_wp2
        go_ret2
        exact ⟨by rw [HR.out]; rfl, below_iter _ _ _⟩
      · have HR := Lib.hid (show V = (0, 5) by
          have h1 := HA.out; have h2 := HO.out
          rw [HT.out] at h1 h2
          rw [eq_comm, decide_eq_true_iff] at h2
          rw [HV.out, digitsV_over HNE.out h1 h2])
        go_wp2
        go_ret2
        exact ⟨by rw [HR.out]; rfl, below_iter _ _ _⟩

set_option maxHeartbeats 1000000 in
theorem all_any (s : ByteArray) (w : World) :
    Calls Try.prog 51 #[.string s] w fun e w' => e = .returned (.bool ((bl s).all isDg)) ∧ Below w.heap.size w w' := by
  obtain ⟨V, hV⟩ : ∃ V, V = (bl s).all isDg := ⟨_, rfl⟩
  rw [← hV]
  have HV := Lib.hid hV
  clear hV
  go_enter Try.func51, Try.ntmps51
  go_wp2
  go_loopw [] (fun wr => ∃ k : Nat, k ≤ s.size ∧ wr = w.iter s k ∧ Hid (((bl s).take k).all isDg = true)) (fun wr => s.size - wr.iterPos w.heap.size)
  case atStart => exact ⟨0, Nat.zero_le _, rfl, Lib.hid rfl⟩
  case round =>
    obtain ⟨k, hk, rfl, HA⟩ := hrel
    by_cases hlt : k < s.size
    · have hnx := fun ty => run_next_any (P := Try.prog) w s k ty hlt
      have hle := decode_le s k
      by_cases hd : isDg s[k] = true
      · rw [dec_yes s k hlt hd] at hnx hle
        have hd1 := isDg_iff.1 hd
        have hd9 := dgV_le hd
        have HTA := Lib.hid (show ((bl s).take (k + 1)).all isDg = true by rw [bl_take s k hlt]; exact all_snoc _ _ HA.out hd)
        have HDI := Lib.hid (show digitI ((s[k].toNat : Nat) : Int) = (dgV s[k] : Nat) by unfold digitI; rw [if_neg (by omega), dgV_int hd])
        generalize dgV s[k] = d at *
        generalize s[k].toNat = c at *
        clear hd
        simp only at hnx hle
        go_wp2_with (go_at_call 60; refine (digit_any _ _ (by omega) (by omega)).mono ?_; rintro e w' ⟨rfl, rfl⟩; rw [HDI.out])
        go_roundw
        case rel => exact ⟨k + 1, by omega, rfl, HTA⟩
        case measure => simp; omega
      · have hd2 : isDg s[k] = false := by simpa using hd
        have HDI := Lib.hid (dec_no s k hlt hd2)
        have HF := Lib.hid (show V = false by rw [HV.out]; exact all_false (bl_mem s k hlt) hd2)
        clear hd hd2
        go_wp2_with (go_at_call 60; refine (digit_any _ _ (by omega) (by omega)).mono ?_; rintro e w' ⟨rfl, rfl⟩; rw [HDI.out])
        go_ret
        exact ⟨ret_bool (HF.out).symm, below_iter _ _ _⟩
    · obtain rfl : k = s.size := by omega
      have hnx := fun ty => run_next_end (P := Try.prog) w s s.size ty hlt
      have htk : (bl s).take s.size = bl s := by rw [← bl_len]; exact List.take_length
      have HR := Lib.hid (show V = true by rw [HV.out, ← htk]; exact HA.out)
      clear htk
      go_wp2
      go_ret
      exact ⟨ret_bool (HR.out).symm, below_iter _ _ _⟩
end Go.Proofs.Ytkolfecjlbnfkaa
