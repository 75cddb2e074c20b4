/-
  Walks of layer 10: bytes' kinds, in the program and in the reference.
-/
import Derived.Test.YtkolfecjlbnfkaaNum2
import Derived.Test.YtkolfecjlbnfkaaLexP
namespace Go.Proofs.Ytkolfecjlbnfkaa
open Go.RowKit

def spI (x : Int) : Bool := decide (x = 0 ∨ x = 9 ∨ x = 10 ∨ x = 12 ∨ x = 13 ∨ x = 32)
def dlI (x : Int) : Bool := decide (x = 40 ∨ x = 41 ∨ x = 60 ∨ x = 62 ∨ x = 91 ∨ x = 93 ∨ x = 123 ∨ x = 125 ∨ x = 47 ∨ x = 37)
theorem u8_eq (c : UInt8) (n : Nat) (hn : n < 256) : c = UInt8.ofNat n ↔ (c.toNat : Int) = (n : Int) := by
  constructor
  · rintro rfl; rw [UInt8.toNat_ofNat']; omega
  · intro h; apply UInt8.toNat_inj.1; rw [UInt8.toNat_ofNat']; omega
theorem spI_eq (c : UInt8) : isSp c = spI c.toNat := by
  unfold isSp spI
  rw [Bool.eq_iff_iff]
  simp only [Bool.or_eq_true, beq_iff_eq, decide_eq_true_iff, or_assoc]
  rw [show c = 0 ↔ _ from u8_eq c 0 (by omega), show c = 9 ↔ _ from u8_eq c 9 (by omega), show c = 10 ↔ _ from u8_eq c 10 (by omega), show c = 12 ↔ _ from u8_eq c 12 (by omega), show c = 13 ↔ _ from u8_eq c 13 (by omega), show c = 32 ↔ _ from u8_eq c 32 (by omega)]
  rfl
theorem dlI_eq (c : UInt8) : isDl c = dlI c.toNat := by
  unfold isDl dlI
  rw [Bool.eq_iff_iff]
  simp only [Bool.or_eq_true, beq_iff_eq, decide_eq_true_iff, or_assoc]
  rw [show c = 40 ↔ _ from u8_eq c 40 (by omega), show c = 41 ↔ _ from u8_eq c 41 (by omega), show c = 60 ↔ _ from u8_eq c 60 (by omega), show c = 62 ↔ _ from u8_eq c 62 (by omega), show c = 91 ↔ _ from u8_eq c 91 (by omega), show c = 93 ↔ _ from u8_eq c 93 (by omega), show c = 123 ↔ _ from u8_eq c 123 (by omega), show c = 125 ↔ _ from u8_eq c 125 (by omega), show c = 47 ↔ _ from u8_eq c 47 (by omega), show c = 37 ↔ _ from u8_eq c 37 (by omega)]
  rfl
def rgI (x : Int) : Bool := !spI x && !dlI x
theorem rgI_eq (c : UInt8) : isRg c = rgI c.toNat := by unfold isRg rgI; rw [spI_eq, dlI_eq]
def hexI (x : Int) : Int := if 48 ≤ x ∧ x ≤ 57 then x - 48 else if 97 ≤ x ∧ x ≤ 102 then x - 87 else if 65 ≤ x ∧ x ≤ 70 then x - 55 else -1
theorem hexI_eq (c : UInt8) : hexD c = hexI c.toNat := by
  unfold hexD hexI
  repeat' split
  all_goals omega

set_option maxHeartbeats 1000000 in
theorem sp_13 (x : Int) (w : World) : Calls Try.prog 13 #[.int .u8 x] w fun e w' => e = .returned (.bool (spI x)) ∧ w = w' := by
  obtain ⟨V, hV⟩ : ∃ V, V = spI x := ⟨_, rfl⟩
  rw [← hV]
  have HV := Lib.hid hV
  clear hV
  by_cases h : x = 0 ∨ x = 9 ∨ x = 10 ∨ x = 12 ∨ x = 13 ∨ x = 32
  · have HL := Lib.hid (show V = true by rw [HV.out]; exact decide_eq_true h)
    rcases h with rfl | rfl | rfl | rfl | rfl | rfl
    all_goals
      go_enter Try.func13, Try.ntmps13
      go_wp2
      go_ret
      exact ⟨ret_bool HL.out.symm, rfl⟩
  · have HL := Lib.hid (show V = false by rw [HV.out]; exact decide_eq_false h)
    have e0 : (x == 0) = false := by rw [beq_eq_false_iff_ne]; omega
    have e1 : (x == 9) = false := by rw [beq_eq_false_iff_ne]; omega
    have e2 : (x == 10) = false := by rw [beq_eq_false_iff_ne]; omega
    have e3 : (x == 12) = false := by rw [beq_eq_false_iff_ne]; omega
    have e4 : (x == 13) = false := by rw [beq_eq_false_iff_ne]; omega
    have e5 : (x == 32) = false := by rw [beq_eq_false_iff_ne]; omega
    clear h
    go_enter Try.func13, Try.ntmps13
    go_wp2
    go_ret
    exact ⟨ret_bool HL.out.symm, rfl⟩
set_option maxHeartbeats 1000000 in
theorem sp_14 (x : Int) (w : World) : Calls Try.prog 14 #[.int .u8 x] w fun e w' => e = .returned (.bool (spI x)) ∧ w = w' := by
  obtain ⟨V, hV⟩ : ∃ V, V = spI x := ⟨_, rfl⟩
  rw [← hV]
  have HV := Lib.hid hV
  clear hV
  by_cases h : x = 0 ∨ x = 9 ∨ x = 10 ∨ x = 12 ∨ x = 13 ∨ x = 32
  · have HL := Lib.hid (show V = true by rw [HV.out]; exact decide_eq_true h)
    rcases h with rfl | rfl | rfl | rfl | rfl | rfl
    all_goals
      go_enter Try.func14, Try.ntmps14
      go_wp2
      go_ret
      exact ⟨ret_bool HL.out.symm, rfl⟩
  · have HL := Lib.hid (show V = false by rw [HV.out]; exact decide_eq_false h)
    have e0 : (x == 0) = false := by rw [beq_eq_false_iff_ne]; omega
    have e1 : (x == 9) = false := by rw [beq_eq_false_iff_ne]; omega
    have e2 : (x == 10) = false := by rw [beq_eq_false_iff_ne]; omega
    have e3 : (x == 12) = false := by rw [beq_eq_false_iff_ne]; omega
    have e4 : (x == 13) = false := by rw [beq_eq_false_iff_ne]; omega
    have e5 : (x == 32) = false := by rw [beq_eq_false_iff_ne]; omega
    clear h
    go_enter Try.func14, Try.ntmps14
    go_wp2
    go_ret
    exact ⟨ret_bool HL.out.symm, rfl⟩
theorem space_any (x : Int) (w : World) : Calls Try.prog 13 #[.int .u8 x] w fun e w' => e = .returned (.bool (spI x)) ∧ w = w' := sp_13 x w
theorem rspace_any (x : Int) (w : World) : Calls Try.prog 14 #[.int .u8 x] w fun e w' => e = .returned (.bool (spI x)) ∧ w = w' := sp_14 x w

set_option maxHeartbeats 1000000 in
theorem rdelim_any (x : Int) (w : World) : Calls Try.prog 16 #[.int .u8 x] w fun e w' => e = .returned (.bool (dlI x)) ∧ w = w' := by
  obtain ⟨V, hV⟩ : ∃ V, V = dlI x := ⟨_, rfl⟩
  rw [← hV]
  have HV := Lib.hid hV
  clear hV
  by_cases h : x = 40 ∨ x = 41 ∨ x = 60 ∨ x = 62 ∨ x = 91 ∨ x = 93 ∨ x = 123 ∨ x = 125 ∨ x = 47 ∨ x = 37
  · have HL := Lib.hid (show V = true by rw [HV.out]; exact decide_eq_true h)
    rcases h with rfl | rfl | rfl | rfl | rfl | rfl | rfl | rfl | rfl | rfl
    all_goals
      go_enter Try.func16, Try.ntmps16
      go_wp2
      go_ret
      exact ⟨ret_bool HL.out.symm, rfl⟩
  · have HL := Lib.hid (show V = false by rw [HV.out]; exact decide_eq_false h)
    have e0 : (x == 40) = false := by rw [beq_eq_false_iff_ne]; omega
    have e1 : (x == 41) = false := by rw [beq_eq_false_iff_ne]; omega
    have e2 : (x == 60) = false := by rw [beq_eq_false_iff_ne]; omega
    have e3 : (x == 62) = false := by rw [beq_eq_false_iff_ne]; omega
    have e4 : (x == 91) = false := by rw [beq_eq_false_iff_ne]; omega
    have e5 : (x == 93) = false := by rw [beq_eq_false_iff_ne]; omega
    have e6 : (x == 123) = false := by rw [beq_eq_false_iff_ne]; omega
    have e7 : (x == 125) = false := by rw [beq_eq_false_iff_ne]; omega
    have e8 : (x == 47) = false := by rw [beq_eq_false_iff_ne]; omega
    have e9 : (x == 37) = false := by rw [beq_eq_false_iff_ne]; omega
    clear h
    go_enter Try.func16, Try.ntmps16
    go_wp2
    go_ret
    exact ⟨ret_bool HL.out.symm, rfl⟩

theorem dl_idx (c : UInt8) : decide (0 ≤ Lib.indexByte [40, 41, 60, 62, 91, 93, 123, 125, 47, 37] c) = dlI c.toNat := by
  rw [← dlI_eq]
  have hg := Lib.indexByte_ge [40, 41, 60, 62, 91, 93, 123, 125, 47, 37] c
  by_cases h : Lib.indexByte [40, 41, 60, 62, 91, 93, 123, 125, 47, 37] c = -1
  · have := idx_none _ _ h
    rw [h]
    simp at this
    simp [isDl, this]
  · obtain ⟨i, hi⟩ := Int.eq_ofNat_of_zero_le (show 0 ≤ Lib.indexByte [40, 41, 60, 62, 91, 93, 123, 125, 47, 37] c by omega)
    obtain ⟨a, t, e, -, -⟩ := idx_some _ _ _ hi
    have hm : c ∈ ([40, 41, 60, 62, 91, 93, 123, 125, 47, 37] : List UInt8) := by rw [e]; simp
    rw [hi, decide_eq_true (by omega)]
    simp at hm
    rcases hm with rfl | rfl | rfl | rfl | rfl | rfl | rfl | rfl | rfl | rfl <;> rfl
theorem u8_back (c : UInt8) : ((c.toNat : Int)).toNat.toUInt8 = c := by simp

set_option maxHeartbeats 1000000 in
theorem delim_any (c : UInt8) (w : World) : Calls Try.prog 15 #[.int .u8 c.toNat] w fun e w' => e = .returned (.bool (dlI c.toNat)) ∧ w = w' := by
  have HV := Lib.hid (dl_idx c)
  have hS := fun W => sidx2_any ⟨#[40, 41, 60, 62, 91, 93, 123, 125, 47, 37]⟩ (c.toNat : Int) W
  rw [u8_back] at hS
  have hS2 : ∀ W, Calls Try.prog 26 #[.string ⟨#[40, 41, 60, 62, 91, 93, 123, 125, 47, 37]⟩, .int .u8 c.toNat] W fun e w' => e = .returned (.int .i64 (Lib.indexByte [40, 41, 60, 62, 91, 93, 123, 125, 47, 37] c)) ∧ W = w' := hS
  have HS := Lib.hid hS2
  clear hS hS2
  generalize dlI c.toNat = V at *
  generalize Lib.indexByte [40, 41, 60, 62, 91, 93, 123, 125, 47, 37] c = I at *
  go_enter Try.func15, Try.ntmps15
  go_wp2_with (go_at_call 26; refine (HS.out _).mono ?_; rintro e w' ⟨rfl, rfl⟩)
  go_ret
  exact ⟨ret_bool HV.out, rfl⟩

set_option maxHeartbeats 1000000 in
theorem regular_any (c : UInt8) (w : World) : Calls Try.prog 27 #[.int .u8 c.toNat] w fun e w' => e = .returned (.bool (rgI c.toNat)) ∧ w = w' := by
  have HV := Lib.hid (show rgI c.toNat = (!spI c.toNat && !dlI c.toNat) from rfl)
  have HS := Lib.hid (fun W => space_any c.toNat W)
  have HD := Lib.hid (fun W => delim_any c W)
  generalize dlI c.toNat = b at *
  generalize spI c.toNat = a at *
  generalize rgI c.toNat = V at *
  cases a
  all_goals
    go_enter Try.func27, Try.ntmps27
    go_wp2_with (first
      | (go_at_call 13; refine (HS.out _).mono ?_; rintro e w' ⟨rfl, rfl⟩)
      | (go_at_call 15; refine (HD.out _).mono ?_; rintro e w' ⟨rfl, rfl⟩))
    go_ret
    exact ⟨ret_bool (by rw [HV.out]; rfl), rfl⟩

set_option maxHeartbeats 1000000 in
theorem hx_46 (x : Int) (w : World) (h0 : 0 ≤ x) (h1 : x ≤ 255) : Calls Try.prog 46 #[.int .u8 x] w fun e w' => e = .returned (.int .i64 (hexI x)) ∧ w = w' := by
  obtain ⟨V, hV⟩ : ∃ V, V = hexI x := ⟨_, rfl⟩
  rw [← hV]
  unfold hexI at hV
  have d48 : ∀ b, decide (48 ≤ x) = b → decide (48 ≤ x) = b := fun _ h => h
  by_cases ha : 48 ≤ x
  · by_cases hb : x ≤ 57
    · rw [if_pos ⟨ha, hb⟩] at hV
      have HV := Lib.hid hV
      clear hV
      go_enter Try.func46, Try.ntmps46
      go_wp2
      go_ret
      exact ⟨ret_int (by rw [HV.out]), rfl⟩
    · rw [if_neg (by omega)] at hV
      have hbd : decide (x ≤ 57) = false := by simpa using hb
      by_cases hc : 97 ≤ x
      · by_cases hd : x ≤ 102
        · rw [if_pos ⟨hc, hd⟩] at hV
          have HV := Lib.hid hV
          clear hV hb
          go_enter Try.func46, Try.ntmps46
          go_wp2
          go_ret
          exact ⟨ret_int (by have := HV.out; omega), rfl⟩
        · rw [if_neg (by omega), if_neg (by omega)] at hV
          have hdd : decide (x ≤ 102) = false := by simpa using hd
          have he : 65 ≤ x := by omega
          have hfd : decide (x ≤ 70) = false := by simp; omega
          have HV := Lib.hid hV
          clear hV hb hd
          go_enter Try.func46, Try.ntmps46
          go_wp2
          go_ret
          exact ⟨ret_int (by rw [HV.out]), rfl⟩
      · rw [if_neg (by omega)] at hV
        have hcd : decide (97 ≤ x) = false := by simpa using hc
        by_cases he : 65 ≤ x
        · by_cases hf : x ≤ 70
          · rw [if_pos ⟨he, hf⟩] at hV
            have HV := Lib.hid hV
            clear hV hb hc
            go_enter Try.func46, Try.ntmps46
            go_wp2
            go_ret
            exact ⟨ret_int (by have := HV.out; omega), rfl⟩
          · rw [if_neg (by omega)] at hV
            have hfd : decide (x ≤ 70) = false := by simpa using hf
            have HV := Lib.hid hV
            clear hV hb hc hf
            go_enter Try.func46, Try.ntmps46
            go_wp2
            go_ret
            exact ⟨ret_int (by rw [HV.out]), rfl⟩
        · rw [if_neg (by omega)] at hV
          have hed : decide (65 ≤ x) = false := by simpa using he
          have HV := Lib.hid hV
          clear hV hb hc he
          go_enter Try.func46, Try.ntmps46
          go_wp2
          go_ret
          exact ⟨ret_int (by rw [HV.out]), rfl⟩
  · rw [if_neg (by omega), if_neg (by omega), if_neg (by omega)] at hV
    have had : decide (48 ≤ x) = false := by simpa using ha
    have hcd : decide (97 ≤ x) = false := decide_eq_false (by omega)
    have hed : decide (65 ≤ x) = false := decide_eq_false (by omega)
    have HV := Lib.hid hV
    clear hV ha d48
    go_enter Try.func46, Try.ntmps46
    go_wp2
    go_ret
    exact ⟨ret_int (by rw [HV.out]), rfl⟩
set_option maxHeartbeats 1000000 in
theorem hx_34 (x : Int) (w : World) (h0 : 0 ≤ x) (h1 : x ≤ 255) : Calls Try.prog 34 #[.int .u8 x] w fun e w' => e = .returned (.int .i64 (hexI x)) ∧ w = w' := by
  obtain ⟨V, hV⟩ : ∃ V, V = hexI x := ⟨_, rfl⟩
  rw [← hV]
  unfold hexI at hV
  have d48 : ∀ b, decide (48 ≤ x) = b → decide (48 ≤ x) = b := fun _ h => h
  by_cases ha : 48 ≤ x
  · by_cases hb : x ≤ 57
    · rw [if_pos ⟨ha, hb⟩] at hV
      have HV := Lib.hid hV
      clear hV
      go_enter Try.func34, Try.ntmps34
      go_wp2
      go_ret
      exact ⟨ret_int (by rw [HV.out]), rfl⟩
    · rw [if_neg (by omega)] at hV
      have hbd : decide (x ≤ 57) = false := by simpa using hb
      by_cases hc : 97 ≤ x
      · by_cases hd : x ≤ 102
        · rw [if_pos ⟨hc, hd⟩] at hV
          have HV := Lib.hid hV
          clear hV hb
          go_enter Try.func34, Try.ntmps34
          go_wp2
          go_ret
          exact ⟨ret_int (by have := HV.out; omega), rfl⟩
        · rw [if_neg (by omega), if_neg (by omega)] at hV
          have hdd : decide (x ≤ 102) = false := by simpa using hd
          have he : 65 ≤ x := by omega
          have hfd : decide (x ≤ 70) = false := by simp; omega
          have HV := Lib.hid hV
          clear hV hb hd
          go_enter Try.func34, Try.ntmps34
          go_wp2
          go_ret
          exact ⟨ret_int (by rw [HV.out]), rfl⟩
      · rw [if_neg (by omega)] at hV
        have hcd : decide (97 ≤ x) = false := by simpa using hc
        by_cases he : 65 ≤ x
        · by_cases hf : x ≤ 70
          · rw [if_pos ⟨he, hf⟩] at hV
            have HV := Lib.hid hV
            clear hV hb hc
            go_enter Try.func34, Try.ntmps34
            go_wp2
            go_ret
            exact ⟨ret_int (by have := HV.out; omega), rfl⟩
          · rw [if_neg (by omega)] at hV
            have hfd : decide (x ≤ 70) = false := by simpa using hf
            have HV := Lib.hid hV
            clear hV hb hc hf
            go_enter Try.func34, Try.ntmps34
            go_wp2
            go_ret
            exact ⟨ret_int (by rw [HV.out]), rfl⟩
        · rw [if_neg (by omega)] at hV
          have hed : decide (65 ≤ x) = false := by simpa using he
          have HV := Lib.hid hV
          clear hV hb hc he
          go_enter Try.func34, Try.ntmps34
          go_wp2
          go_ret
          exact ⟨ret_int (by rw [HV.out]), rfl⟩
  · rw [if_neg (by omega), if_neg (by omega), if_neg (by omega)] at hV
    have had : decide (48 ≤ x) = false := by simpa using ha
    have hcd : decide (97 ≤ x) = false := decide_eq_false (by omega)
    have hed : decide (65 ≤ x) = false := decide_eq_false (by omega)
    have HV := Lib.hid hV
    clear hV ha d48
    go_enter Try.func34, Try.ntmps34
    go_wp2
    go_ret
    exact ⟨ret_int (by rw [HV.out]), rfl⟩
theorem hex_any (c : UInt8) (w : World) : Calls Try.prog 46 #[.int .u8 c.toNat] w fun e w' => e = .returned (.int .i64 (hexD c)) ∧ w = w' := by
  rw [hexI_eq]; exact hx_46 _ w (by omega) (by have := c.toNat_lt; omega)
theorem rhex_any (c : UInt8) (w : World) : Calls Try.prog 34 #[.int .u8 c.toNat] w fun e w' => e = .returned (.int .i64 (hexD c)) ∧ w = w' := by
  rw [hexI_eq]; exact hx_34 _ w (by omega) (by have := c.toNat_lt; omega)
theorem rcut_any (last : Bool) (w : World) : Calls Try.prog 35 #[.bool last] w fun e w' => e = .returned (.int .i64 (openE last)) ∧ w = w' := by
  have HV := Lib.hid (show openE last = if last = true then 10 else 6 by unfold openE; cases last <;> rfl)
  generalize openE last = V at *
  cases last
  all_goals
    go_enter Try.func35, Try.ntmps35
    go_wp2
    go_ret
    exact ⟨ret_int (by rw [HV.out]; rfl), rfl⟩
end Go.Proofs.Ytkolfecjlbnfkaa
