/-
  Our texts Sr1 to Sr2, in one.
-/
import Derived.Test.YtnkodejgiabamaaDoorPkV11
/-
  The reference's side of a value's check, whatever the value: holds, Depth, dict.
-/
namespace Go.Proofs.YtnkodejgiabamaaDoor
open Go.RowKit

theorem nameC_is (s : List UInt8) (x : Int) : (if 127 < s.length ∨ (0 : UInt8) ∈ s then 17 else x) = if nameC s = false then 17 else x := by
  unfold nameC
  by_cases h1 : 127 < s.length
  · rw [if_pos (.inl h1)]; simp [h1]
  · by_cases h2 : (0 : UInt8) ∈ s
    · rw [if_pos (.inr h2)]; simp [h2]
    · rw [if_neg (by rintro (h | h); exact h1 h; exact h2 h)]; simp [h1, h2]

set_option maxRecDepth 8000 in
set_option maxHeartbeats 4000000 in
theorem rholds_any (v : PV) (sl : Value) (w : World) : Calls Tryd.prog 60 #[pvA v sl] w fun e w' => e = .returned (.bool (v.kind == 6 || v.kind == 7)) ∧ Below w.heap.size w w' := by
  unfold pvA
  generalize v.kind = k at *
  by_cases h : k = 6
  · subst h
    go_enter Tryd.func60, Tryd.ntmps60
    go_wp2
    go_ret
    exact ⟨rfl, belowA w _⟩
  · have h1 : (k == 6) = false := by rw [beq_eq_false_iff_ne]; exact h
    rw [h1, Bool.false_or]
    clear h
    go_enter Tryd.func60, Tryd.ntmps60
    go_wp2
    go_ret
    exact ⟨rfl, belowA w _⟩

set_option maxRecDepth 8000 in
set_option maxHeartbeats 4000000 in
theorem rdepth_any : ∀ (N : Nat) (v : PV) (sl : Value) (w : World), SizeOf.sizeOf v ≤ N → depthV v ≤ 1000 → IsV w anyF v sl →
    Calls Tryd.prog 42 #[pvA v sl] w fun e w' => e = .returned (.int .i64 (depthV v : Nat)) ∧ Below w.heap.size w w' := by
  intro N
  induction N with
  | zero => intro v sl w h; obtain ⟨_, _, _, _⟩ := v; simp at h
  | succ N ih =>
  intro v sl w hN hd hv
  obtain ⟨a1, cap1, e1, g1, g2, g3⟩ := hv.len
  subst e1
  have HA := Lib.hid hv
  have HIH := Lib.hid ih
  have HN := Lib.hid hN
  have HSA := Lib.hid (fun (k : Nat) (x : PV) (h : v.l[k]? = some x) => sizeOf_mem h)
  have HD := Lib.hid hd
  have m1 : (v.l.length : Int) ≤ 9223372036854775807 := by unfold maxLen at g2; omega
  have HH := Lib.hid (fun W => rholds_any v (.slice a1 v.l.length cap1) W)
  have hdv : depthV v = if v.kind = 6 ∨ v.kind = 7 then 1 + depthL v.l else 1 := by obtain ⟨_, _, _, _⟩ := v; rfl
  have HDM := Lib.hid (fun (h : v.kind = 6 ∨ v.kind = 7) (k : Nat) (x : PV) (hx : v.l[k]? = some x) => show depthV x + 1 ≤ depthV v by rw [depthV_is v, if_pos h]; have := depthL_memS _ _ hx; omega)
  unfold pvA at HH ⊢
  clear ih hN hd hv
  by_cases hk : v.kind = 6 ∨ v.kind = 7
  case neg =>
    rw [if_neg hk] at hdv
    have hb : (v.kind == 6 || v.kind == 7) = false := by
      simp only [Bool.or_eq_false_iff, beq_eq_false_iff_ne]; omega
    rw [hb] at HH
    rw [hdv]
    clear hk hb hdv HA HIH HDM HD HN HSA
    generalize v.kind = k0 at *
    generalize v.n = n0 at *
    generalize mkB v.s = s0 at *
    generalize v.l.length = l0 at *
    go_enter Tryd.func42, Tryd.ntmps42
    go_wp2_with (go_at_call 60; refine (HH.out _).mono ?_; rintro e w1 ⟨rfl, hb1⟩)
    go_ret
    exact ⟨rfl, (belowA w _).trans (hb1.mono (by rw [sizeA]; omega))⟩
  rw [if_pos hk] at hdv
  have hb : (v.kind == 6 || v.kind == 7) = true := by
    rcases hk with h | h <;> rw [h] <;> rfl
  rw [hb] at HH
  have HDV := Lib.hid hdv
  have HDL := Lib.hid (show depthL v.l ≤ 999 by have := HD.out; omega)
  have HDM2 := Lib.hid (fun (k : Nat) (x : PV) (hx : v.l[k]? = some x) => HDM.out hk k x hx)
  clear hk hb hdv HDM
  obtain ⟨la, hla⟩ : ∃ la, la = v.l := ⟨_, rfl⟩
  have HLA := Lib.hid hla
  rw [← hla] at HH HDV HDL HDM2 HA m1 g1 ⊢
  clear hla
  generalize v.kind = k0 at *
  generalize v.n = n0 at *
  generalize v.s = s0 at *
  go_enter Tryd.func42, Tryd.ntmps42
  obtain ⟨B, hB⟩ : ∃ B, B = w.heap.size := ⟨_, rfl⟩
  have HX1 := Lib.hid (heapA_new (w := w) (b := B) (.cells #[.int .i64 k0, .int .i64 n0, .string (mkB s0), .slice a1 la.length cap1] 24) hB)
  have HW := Lib.hid (belowA w (.cells #[.int .i64 k0, .int .i64 n0, .string (mkB s0), .slice a1 la.length cap1] 24))
  have HBB := Lib.hid hB
  go_wp2_with (go_at_call 60; refine (HH.out _).mono ?_; rintro e w1 ⟨rfl, hb1⟩)
  rw [← hB]
  have HX2 := Lib.hid (block_keep hb1 HX1.out)
  have HW1 := Lib.hid (HW.out.trans (hb1.mono HW.out.size))
  clear hb1 HX1 HW hB
  go_loopw [3, 4] (fun vn vk wr => ∃ (k n : Nat), vk = .int .i64 k ∧ vn = .int .i64 n ∧ n ≤ 1000 ∧ k ≤ la.length ∧ Hid (Below w.heap.size w wr) ∧ Hid (Below w1.heap.size w1 wr) ∧ Hid (n = 1 + depthL (la.take k))) (fun _ vk _ => la.length - (intOf vk).toNat)
  case atStart => exact ⟨0, 1, rfl, rfl, by omega, Nat.zero_le _, HW1, Below.refl _ _, rfl⟩
  case round =>
    obtain ⟨k, n, rfl, rfl, hn, hk, HWR, HWR1, HV⟩ := hrel
    obtain ⟨⟨c0, c1, c2, c3⟩, -⟩ := cells4 (block_keep HWR1.out HX2.out)
    by_cases q1 : k < la.length
    case neg =>
      have hkl : k = la.length := by omega
      subst hkl
      have hv := HV.out
      rw [List.take_length] at hv
      have hv2 := HDV.out.trans hv.symm
      have HV9 := Lib.hid hv2
      clear hv hv2 HDV HV HDL HA HIH HDM2
      go_wp2
      go_ret
      exact ⟨by rw [HV9.out]; rfl, HWR.out⟩
    obtain ⟨x, hx⟩ : ∃ x, la[k]? = some x := ⟨_, List.getElem?_eq_getElem q1⟩
    obtain ⟨-, -, -, b1, o1, rfl, -, -, hax⟩ := (HA.out.below HWR.out).at (by omega)
    rw [← HLA.out] at hax
    obtain ⟨sx, hsx, x0, x1, x2, x3⟩ := hax k x hx
    have hlt : SizeOf.sizeOf x < SizeOf.sizeOf v := HSA.out k x (by rw [← HLA.out]; exact hx)
    have hN := HN.out
    have hdx := HDM2.out k x hx
    have hcall := HIH.out x sx wr (by omega) (by have := HD.out; omega) hsx
    have hv : max n (depthV x + 1) = 1 + depthL (la.take (k + 1)) := by rw [depthL_takeS hx]; have := HV.out; omega
    have HV2 := Lib.hid hv
    have hdx2 : depthV x ≤ 999 := by have := HD.out; omega
    unfold pvA at hcall
    obtain ⟨sa', sc', rfl, -, -, -⟩ := hsx.len
    generalize depthV x = d at *
    have HCALL := Lib.hid hcall
    clear hcall hv hsx hlt hN hax hx HA HIH HV HSA HLA HN HDV HDM2 HD hdx
    have hkl : (0 : Int) ≤ (k : Int) := by omega
    have hki : (k : Int) < (la.length : Int) := by omega
    go_wp2_with fail
    refine HCALL.out.mono ?_
    rintro e w4 ⟨rfl, hb4⟩
    have HW4 := Lib.hid (HWR.out.trans (hb4.mono HWR.out.size))
    have HW5 := Lib.hid (HWR1.out.trans (hb4.mono HWR1.out.size))
    clear hb4 x0 x1 x2 x3 c0 c1 c2 c3 HCALL
    by_cases hc : n < d + 1
    · have hm : max n (d + 1) = d + 1 := by omega
      rw [hm] at HV2
      have hd1 : decide ((n : Int) < (d : Int) + 1) = true := decide_eq_true (by omega)
      go_wp2
      go_roundw
      case rel => exact ⟨k + 1, d + 1, by go_num, by go_num, by omega, by omega, HW4, HW5, HV2⟩
      case measure => simp [intOf]; omega
    · have hm : max n (d + 1) = n := by omega
      rw [hm] at HV2
      have hd1 : decide ((n : Int) < (d : Int) + 1) = false := decide_eq_false (by omega)
      go_wp2
      go_roundw
      case rel => exact ⟨k + 1, n, by go_num, rfl, by omega, by omega, HW4, HW5, HV2⟩
      case measure => simp [intOf]; omega

set_option maxRecDepth 8000 in
set_option maxHeartbeats 4000000 in
theorem rdict_bad {n : Int} {s : List UInt8} {a1 : Option Addr} {m cap1 : Nat} {w : World} (h : n ≠ 0 ∨ s ≠ []) :
    Calls Tryd.prog 74 #[.agg #[.int .i64 7, .int .i64 n, .string (mkB s), .slice a1 m cap1]] w fun e w' => e = .returned (.int .i64 2) ∧ Below w.heap.size w w' := by
  have HB := Lib.hid (belowA w (.cells #[.int .i64 7, .int .i64 n, .string (mkB s), .slice a1 m cap1] 24))
  by_cases hn0 : n = 0
  · have en0 : (n == 0) = true := by rw [beq_iff_eq]; exact hn0
    have en0' : (n != 0) = false := by simp only [bne, en0, Bool.not_true]
    have hs0 : s ≠ [] := by rcases h with h | h; exact absurd hn0 h; exact h
    have es0b : ((mkB s).toList == []) = false := by rw [beq_eq_false_iff_ne, toList_mkB]; exact hs0
    have es0c : ((mkB s).toList != []) = true := by simp only [bne, es0b, Bool.not_false]
    clear hn0 h hs0
    generalize mkB s = S at *
    go_enter Tryd.func74, Tryd.ntmps74
    go_wp2
    go_ret
    exact ⟨rfl, HB.out⟩
  · have en0 : (n == 0) = false := by rw [beq_eq_false_iff_ne]; exact hn0
    have en0' : (n != 0) = true := by simp only [bne, en0, Bool.not_false]
    clear hn0 h
    generalize mkB s = S at *
    go_enter Tryd.func74, Tryd.ntmps74
    go_wp2
    go_ret
    exact ⟨rfl, HB.out⟩
theorem rdictA {n : Int} {s : List UInt8} {l : List PV} {a1 : Option Addr} {cap1 : Nat} {w : World} (hv : IsV w anyF (.mk 7 n s l) (.slice a1 l.length cap1)) :
    Calls Tryd.prog 74 #[pvA (.mk 7 n s l) (.slice a1 l.length cap1)] w fun e w' => e = .returned (.int .i64 (if n = 0 ∧ s = [] then dictC l else 2)) ∧ Below w.heap.size w w' := by
  by_cases h : n = 0 ∧ s = []
  · rw [if_pos h]
    exact rdict_any hv h.1 h.2
  · rw [if_neg h]
    exact rdict_bad (by by_cases hn : n = 0; exact .inr fun e => h ⟨hn, e⟩; exact .inl hn)
end Go.Proofs.YtnkodejgiabamaaDoor
/-
  The walk of ref11.own, of anything whose text is short. (Printed by genrown.py.)
-/
namespace Go.Proofs.YtnkodejgiabamaaDoor
open Go.RowKit
set_option linter.unusedSimpArgs false
set_option linter.unusedVariables false

set_option maxRecDepth 8000 in
set_option maxHeartbeats 4000000 in
theorem rown_k0 {n : Int} {s : List UInt8} {l : List PV} {a1 : Option Addr} {cap1 : Nat} {w : World} (_m1 : (l.length : Int) ≤ 9223372036854775807) :
    Calls Tryd.prog 61 #[.agg #[.int .i64 0, .int .i64 n, .string (mkB s), .slice a1 l.length cap1]] w fun e w' => e = .returned (.int .i64 (if n = 0 ∧ s = [] ∧ l = [] then 0 else 2)) ∧ Below w.heap.size w w' := by
  obtain ⟨R, hR⟩ : ∃ R, R = (if n = 0 ∧ s = [] ∧ l = [] then 0 else 2 : Int) := ⟨_, rfl⟩
  rw [← hR]
  have HR := Lib.hid hR
  have HB := Lib.hid (belowA w (.cells #[.int .i64 0, .int .i64 n, .string (mkB s), .slice a1 l.length cap1] 24))
  clear hR
  by_cases hs0 : s = []
  · have es0 : (mkB s).toList = [] := by rw [toList_mkB]; exact hs0
    have es0b : ((mkB s).toList == []) = true := by rw [beq_iff_eq]; exact es0
    have es0c : ((mkB s).toList != []) = false := by simp only [bne, es0b, Bool.not_true]
    by_cases hm0 : l = []
    · have em0 : (l.length == 0) = true := by rw [hm0]; rfl
      have em0' : ((l.length : Int) == 0) = true := by rw [hm0]; rfl
      by_cases hn0 : n = 0
      · have en0 : (n == 0) = true := by rw [beq_iff_eq]; exact hn0
        have en0' : (n != 0) = false := by simp only [bne, en0, Bool.not_true]
        have hr := HR.out
        obtain rfl : R = 0 := by rw [hr]; simp [hs0, hm0, hn0]
        clear HR hr hs0 hm0 hn0
        generalize l.length = m at *
        generalize mkB s = S at *
        go_enter Tryd.func61, Tryd.ntmps61
        go_wp2
        go_ret
        exact ⟨rfl, HB.out⟩
      · have en0 : (n == 0) = false := by rw [beq_eq_false_iff_ne]; exact hn0
        have en0' : (n != 0) = true := by simp only [bne, en0, Bool.not_false]
        have hr := HR.out
        obtain rfl : R = 2 := by rw [hr]; simp [hs0, hm0, hn0]
        clear HR hr hs0 hm0 hn0
        generalize l.length = m at *
        generalize mkB s = S at *
        go_enter Tryd.func61, Tryd.ntmps61
        go_wp2
        go_ret
        exact ⟨rfl, HB.out⟩
    · have em0 : (l.length == 0) = false := by rw [beq_eq_false_iff_ne]; exact fun e => hm0 (List.eq_nil_of_length_eq_zero e)
      have em0' : ((l.length : Int) == 0) = false := by rw [beq_eq_false_iff_ne]; exact fun e => hm0 (List.eq_nil_of_length_eq_zero (by omega))
      have hr := HR.out
      obtain rfl : R = 2 := by rw [hr]; simp [hs0, hm0]
      clear HR hr hs0 hm0
      generalize l.length = m at *
      generalize mkB s = S at *
      go_enter Tryd.func61, Tryd.ntmps61
      go_wp2
      go_ret
      exact ⟨rfl, HB.out⟩
  · have es0b : ((mkB s).toList == []) = false := by rw [beq_eq_false_iff_ne, toList_mkB]; exact hs0
    have es0c : ((mkB s).toList != []) = true := by simp only [bne, es0b, Bool.not_false]
    have hr := HR.out
    obtain rfl : R = 2 := by rw [hr]; simp [hs0]
    clear HR hr hs0
    generalize l.length = m at *
    generalize mkB s = S at *
    go_enter Tryd.func61, Tryd.ntmps61
    go_wp2
    go_ret
    exact ⟨rfl, HB.out⟩

set_option maxRecDepth 8000 in
set_option maxHeartbeats 4000000 in
theorem rown_k1 {n : Int} {s : List UInt8} {l : List PV} {a1 : Option Addr} {cap1 : Nat} {w : World} (_m1 : (l.length : Int) ≤ 9223372036854775807) :
    Calls Tryd.prog 61 #[.agg #[.int .i64 1, .int .i64 n, .string (mkB s), .slice a1 l.length cap1]] w fun e w' => e = .returned (.int .i64 (if (n = 0 ∨ n = 1) ∧ s = [] ∧ l = [] then 0 else 2)) ∧ Below w.heap.size w w' := by
  obtain ⟨R, hR⟩ : ∃ R, R = (if (n = 0 ∨ n = 1) ∧ s = [] ∧ l = [] then 0 else 2 : Int) := ⟨_, rfl⟩
  rw [← hR]
  have HR := Lib.hid hR
  have HB := Lib.hid (belowA w (.cells #[.int .i64 1, .int .i64 n, .string (mkB s), .slice a1 l.length cap1] 24))
  clear hR
  by_cases hs0 : s = []
  · have es0 : (mkB s).toList = [] := by rw [toList_mkB]; exact hs0
    have es0b : ((mkB s).toList == []) = true := by rw [beq_iff_eq]; exact es0
    have es0c : ((mkB s).toList != []) = false := by simp only [bne, es0b, Bool.not_true]
    by_cases hm0 : l = []
    · have em0 : (l.length == 0) = true := by rw [hm0]; rfl
      have em0' : ((l.length : Int) == 0) = true := by rw [hm0]; rfl
      by_cases hn0 : n = 0
      · have en0 : (n == 0) = true := by rw [beq_iff_eq]; exact hn0
        have en0' : (n != 0) = false := by simp only [bne, en0, Bool.not_true]
        have hr := HR.out
        obtain rfl : R = 0 := by rw [hr]; simp [hs0, hm0, hn0]
        clear HR hr hs0 hm0 hn0
        generalize l.length = m at *
        generalize mkB s = S at *
        go_enter Tryd.func61, Tryd.ntmps61
        go_wp2
        go_ret
        exact ⟨rfl, HB.out⟩
      · have en0 : (n == 0) = false := by rw [beq_eq_false_iff_ne]; exact hn0
        have en0' : (n != 0) = true := by simp only [bne, en0, Bool.not_false]
        by_cases hn1 : n = 1
        · have en1 : (n == 1) = true := by rw [beq_iff_eq]; exact hn1
          have hr := HR.out
          obtain rfl : R = 0 := by rw [hr]; simp [hs0, hm0, hn1]
          clear HR hr hs0 hm0 hn0 hn1
          generalize l.length = m at *
          generalize mkB s = S at *
          go_enter Tryd.func61, Tryd.ntmps61
          go_wp2
          go_ret
          exact ⟨rfl, HB.out⟩
        · have en1 : (n == 1) = false := by rw [beq_eq_false_iff_ne]; exact hn1
          have hr := HR.out
          obtain rfl : R = 2 := by rw [hr]; simp [hs0, hm0, hn0, hn1]
          clear HR hr hs0 hm0 hn0 hn1
          generalize l.length = m at *
          generalize mkB s = S at *
          go_enter Tryd.func61, Tryd.ntmps61
          go_wp2
          go_ret
          exact ⟨rfl, HB.out⟩
    · have em0 : (l.length == 0) = false := by rw [beq_eq_false_iff_ne]; exact fun e => hm0 (List.eq_nil_of_length_eq_zero e)
      have em0' : ((l.length : Int) == 0) = false := by rw [beq_eq_false_iff_ne]; exact fun e => hm0 (List.eq_nil_of_length_eq_zero (by omega))
      have hr := HR.out
      obtain rfl : R = 2 := by rw [hr]; simp [hs0, hm0]
      clear HR hr hs0 hm0
      generalize l.length = m at *
      generalize mkB s = S at *
      go_enter Tryd.func61, Tryd.ntmps61
      go_wp2
      go_ret
      exact ⟨rfl, HB.out⟩
  · have es0b : ((mkB s).toList == []) = false := by rw [beq_eq_false_iff_ne, toList_mkB]; exact hs0
    have es0c : ((mkB s).toList != []) = true := by simp only [bne, es0b, Bool.not_false]
    have hr := HR.out
    obtain rfl : R = 2 := by rw [hr]; simp [hs0]
    clear HR hr hs0
    generalize l.length = m at *
    generalize mkB s = S at *
    go_enter Tryd.func61, Tryd.ntmps61
    go_wp2
    go_ret
    exact ⟨rfl, HB.out⟩

set_option maxRecDepth 8000 in
set_option maxHeartbeats 4000000 in
theorem rown_k4 {n : Int} {s : List UInt8} {l : List PV} {a1 : Option Addr} {cap1 : Nat} {w : World} (_m1 : (l.length : Int) ≤ 9223372036854775807) :
    Calls Tryd.prog 61 #[.agg #[.int .i64 4, .int .i64 n, .string (mkB s), .slice a1 l.length cap1]] w fun e w' => e = .returned (.int .i64 (if n = 0 ∧ l = [] then 0 else 2)) ∧ Below w.heap.size w w' := by
  obtain ⟨R, hR⟩ : ∃ R, R = (if n = 0 ∧ l = [] then 0 else 2 : Int) := ⟨_, rfl⟩
  rw [← hR]
  have HR := Lib.hid hR
  have HB := Lib.hid (belowA w (.cells #[.int .i64 4, .int .i64 n, .string (mkB s), .slice a1 l.length cap1] 24))
  clear hR
  by_cases hs0 : s = []
  · have es0 : (mkB s).toList = [] := by rw [toList_mkB]; exact hs0
    have es0b : ((mkB s).toList == []) = true := by rw [beq_iff_eq]; exact es0
    have es0c : ((mkB s).toList != []) = false := by simp only [bne, es0b, Bool.not_true]
    by_cases hm0 : l = []
    · have em0 : (l.length == 0) = true := by rw [hm0]; rfl
      have em0' : ((l.length : Int) == 0) = true := by rw [hm0]; rfl
      by_cases hn0 : n = 0
      · have en0 : (n == 0) = true := by rw [beq_iff_eq]; exact hn0
        have en0' : (n != 0) = false := by simp only [bne, en0, Bool.not_true]
        have hr := HR.out
        obtain rfl : R = 0 := by rw [hr]; simp [hs0, hm0, hn0]
        clear HR hr hs0 hm0 hn0
        generalize l.length = m at *
        generalize mkB s = S at *
        go_enter Tryd.func61, Tryd.ntmps61
        go_wp2
        go_ret
        exact ⟨rfl, HB.out⟩
      · have en0 : (n == 0) = false := by rw [beq_eq_false_iff_ne]; exact hn0
        have en0' : (n != 0) = true := by simp only [bne, en0, Bool.not_false]
        have hr := HR.out
        obtain rfl : R = 2 := by rw [hr]; simp [hs0, hm0, hn0]
        clear HR hr hs0 hm0 hn0
        generalize l.length = m at *
        generalize mkB s = S at *
        go_enter Tryd.func61, Tryd.ntmps61
        go_wp2
        go_ret
        exact ⟨rfl, HB.out⟩
    · have em0 : (l.length == 0) = false := by rw [beq_eq_false_iff_ne]; exact fun e => hm0 (List.eq_nil_of_length_eq_zero e)
      have em0' : ((l.length : Int) == 0) = false := by rw [beq_eq_false_iff_ne]; exact fun e => hm0 (List.eq_nil_of_length_eq_zero (by omega))
      by_cases hn0 : n = 0
      · have en0 : (n == 0) = true := by rw [beq_iff_eq]; exact hn0
        have en0' : (n != 0) = false := by simp only [bne, en0, Bool.not_true]
        have hr := HR.out
        obtain rfl : R = 2 := by rw [hr]; simp [hs0, hm0, hn0]
        clear HR hr hs0 hm0 hn0
        generalize l.length = m at *
        generalize mkB s = S at *
        go_enter Tryd.func61, Tryd.ntmps61
        go_wp2
        go_ret
        exact ⟨rfl, HB.out⟩
      · have en0 : (n == 0) = false := by rw [beq_eq_false_iff_ne]; exact hn0
        have en0' : (n != 0) = true := by simp only [bne, en0, Bool.not_false]
        have hr := HR.out
        obtain rfl : R = 2 := by rw [hr]; simp [hs0, hm0, hn0]
        clear HR hr hs0 hm0 hn0
        generalize l.length = m at *
        generalize mkB s = S at *
        go_enter Tryd.func61, Tryd.ntmps61
        go_wp2
        go_ret
        exact ⟨rfl, HB.out⟩
  · have es0b : ((mkB s).toList == []) = false := by rw [beq_eq_false_iff_ne, toList_mkB]; exact hs0
    have es0c : ((mkB s).toList != []) = true := by simp only [bne, es0b, Bool.not_false]
    by_cases hn0 : n = 0
    · have en0 : (n == 0) = true := by rw [beq_iff_eq]; exact hn0
      have en0' : (n != 0) = false := by simp only [bne, en0, Bool.not_true]
      by_cases hm0 : l = []
      · have em0 : (l.length == 0) = true := by rw [hm0]; rfl
        have em0' : ((l.length : Int) == 0) = true := by rw [hm0]; rfl
        have hr := HR.out
        obtain rfl : R = 0 := by rw [hr]; simp [hs0, hn0, hm0]
        clear HR hr hs0 hn0 hm0
        generalize l.length = m at *
        generalize mkB s = S at *
        go_enter Tryd.func61, Tryd.ntmps61
        go_wp2
        go_ret
        exact ⟨rfl, HB.out⟩
      · have em0 : (l.length == 0) = false := by rw [beq_eq_false_iff_ne]; exact fun e => hm0 (List.eq_nil_of_length_eq_zero e)
        have em0' : ((l.length : Int) == 0) = false := by rw [beq_eq_false_iff_ne]; exact fun e => hm0 (List.eq_nil_of_length_eq_zero (by omega))
        have hr := HR.out
        obtain rfl : R = 2 := by rw [hr]; simp [hs0, hn0, hm0]
        clear HR hr hs0 hn0 hm0
        generalize l.length = m at *
        generalize mkB s = S at *
        go_enter Tryd.func61, Tryd.ntmps61
        go_wp2
        go_ret
        exact ⟨rfl, HB.out⟩
    · have en0 : (n == 0) = false := by rw [beq_eq_false_iff_ne]; exact hn0
      have en0' : (n != 0) = true := by simp only [bne, en0, Bool.not_false]
      have hr := HR.out
      obtain rfl : R = 2 := by rw [hr]; simp [hs0, hn0]
      clear HR hr hs0 hn0
      generalize l.length = m at *
      generalize mkB s = S at *
      go_enter Tryd.func61, Tryd.ntmps61
      go_wp2
      go_ret
      exact ⟨rfl, HB.out⟩

set_option maxRecDepth 8000 in
set_option maxHeartbeats 4000000 in
theorem rown_k6 {n : Int} {s : List UInt8} {l : List PV} {a1 : Option Addr} {cap1 : Nat} {w : World} (_m1 : (l.length : Int) ≤ 9223372036854775807) :
    Calls Tryd.prog 61 #[.agg #[.int .i64 6, .int .i64 n, .string (mkB s), .slice a1 l.length cap1]] w fun e w' => e = .returned (.int .i64 (if n = 0 ∧ s = [] then 0 else 2)) ∧ Below w.heap.size w w' := by
  obtain ⟨R, hR⟩ : ∃ R, R = (if n = 0 ∧ s = [] then 0 else 2 : Int) := ⟨_, rfl⟩
  rw [← hR]
  have HR := Lib.hid hR
  have HB := Lib.hid (belowA w (.cells #[.int .i64 6, .int .i64 n, .string (mkB s), .slice a1 l.length cap1] 24))
  clear hR
  by_cases hs0 : s = []
  · have es0 : (mkB s).toList = [] := by rw [toList_mkB]; exact hs0
    have es0b : ((mkB s).toList == []) = true := by rw [beq_iff_eq]; exact es0
    have es0c : ((mkB s).toList != []) = false := by simp only [bne, es0b, Bool.not_true]
    by_cases hm0 : l = []
    · have em0 : (l.length == 0) = true := by rw [hm0]; rfl
      have em0' : ((l.length : Int) == 0) = true := by rw [hm0]; rfl
      by_cases hn0 : n = 0
      · have en0 : (n == 0) = true := by rw [beq_iff_eq]; exact hn0
        have en0' : (n != 0) = false := by simp only [bne, en0, Bool.not_true]
        have hr := HR.out
        obtain rfl : R = 0 := by rw [hr]; simp [hs0, hm0, hn0]
        clear HR hr hs0 hm0 hn0
        generalize l.length = m at *
        generalize mkB s = S at *
        go_enter Tryd.func61, Tryd.ntmps61
        go_wp2
        go_ret
        exact ⟨rfl, HB.out⟩
      · have en0 : (n == 0) = false := by rw [beq_eq_false_iff_ne]; exact hn0
        have en0' : (n != 0) = true := by simp only [bne, en0, Bool.not_false]
        have hr := HR.out
        obtain rfl : R = 2 := by rw [hr]; simp [hs0, hm0, hn0]
        clear HR hr hs0 hm0 hn0
        generalize l.length = m at *
        generalize mkB s = S at *
        go_enter Tryd.func61, Tryd.ntmps61
        go_wp2
        go_ret
        exact ⟨rfl, HB.out⟩
    · have em0 : (l.length == 0) = false := by rw [beq_eq_false_iff_ne]; exact fun e => hm0 (List.eq_nil_of_length_eq_zero e)
      have em0' : ((l.length : Int) == 0) = false := by rw [beq_eq_false_iff_ne]; exact fun e => hm0 (List.eq_nil_of_length_eq_zero (by omega))
      by_cases hn0 : n = 0
      · have en0 : (n == 0) = true := by rw [beq_iff_eq]; exact hn0
        have en0' : (n != 0) = false := by simp only [bne, en0, Bool.not_true]
        have hr := HR.out
        obtain rfl : R = 0 := by rw [hr]; simp [hs0, hm0, hn0]
        clear HR hr hs0 hm0 hn0
        generalize l.length = m at *
        generalize mkB s = S at *
        go_enter Tryd.func61, Tryd.ntmps61
        go_wp2
        go_ret
        exact ⟨rfl, HB.out⟩
      · have en0 : (n == 0) = false := by rw [beq_eq_false_iff_ne]; exact hn0
        have en0' : (n != 0) = true := by simp only [bne, en0, Bool.not_false]
        have hr := HR.out
        obtain rfl : R = 2 := by rw [hr]; simp [hs0, hm0, hn0]
        clear HR hr hs0 hm0 hn0
        generalize l.length = m at *
        generalize mkB s = S at *
        go_enter Tryd.func61, Tryd.ntmps61
        go_wp2
        go_ret
        exact ⟨rfl, HB.out⟩
  · have es0b : ((mkB s).toList == []) = false := by rw [beq_eq_false_iff_ne, toList_mkB]; exact hs0
    have es0c : ((mkB s).toList != []) = true := by simp only [bne, es0b, Bool.not_false]
    by_cases hn0 : n = 0
    · have en0 : (n == 0) = true := by rw [beq_iff_eq]; exact hn0
      have en0' : (n != 0) = false := by simp only [bne, en0, Bool.not_true]
      have hr := HR.out
      obtain rfl : R = 2 := by rw [hr]; simp [hs0, hn0]
      clear HR hr hs0 hn0
      generalize l.length = m at *
      generalize mkB s = S at *
      go_enter Tryd.func61, Tryd.ntmps61
      go_wp2
      go_ret
      exact ⟨rfl, HB.out⟩
    · have en0 : (n == 0) = false := by rw [beq_eq_false_iff_ne]; exact hn0
      have en0' : (n != 0) = true := by simp only [bne, en0, Bool.not_false]
      have hr := HR.out
      obtain rfl : R = 2 := by rw [hr]; simp [hs0, hn0]
      clear HR hr hs0 hn0
      generalize l.length = m at *
      generalize mkB s = S at *
      go_enter Tryd.func61, Tryd.ntmps61
      go_wp2
      go_ret
      exact ⟨rfl, HB.out⟩

set_option maxRecDepth 8000 in
set_option maxHeartbeats 4000000 in
theorem rown_k8 {n : Int} {s : List UInt8} {l : List PV} {a1 : Option Addr} {cap1 : Nat} {w : World} (_m1 : (l.length : Int) ≤ 9223372036854775807) :
    Calls Tryd.prog 61 #[.agg #[.int .i64 8, .int .i64 n, .string (mkB s), .slice a1 l.length cap1]] w fun e w' => e = .returned (.int .i64 (if 1 ≤ n ∧ n ≤ 4096 ∧ s = [] ∧ l = [] then 0 else 2)) ∧ Below w.heap.size w w' := by
  obtain ⟨R, hR⟩ : ∃ R, R = (if 1 ≤ n ∧ n ≤ 4096 ∧ s = [] ∧ l = [] then 0 else 2 : Int) := ⟨_, rfl⟩
  rw [← hR]
  have HR := Lib.hid hR
  have HB := Lib.hid (belowA w (.cells #[.int .i64 8, .int .i64 n, .string (mkB s), .slice a1 l.length cap1] 24))
  clear hR
  by_cases hs0 : s = []
  · have es0 : (mkB s).toList = [] := by rw [toList_mkB]; exact hs0
    have es0b : ((mkB s).toList == []) = true := by rw [beq_iff_eq]; exact es0
    have es0c : ((mkB s).toList != []) = false := by simp only [bne, es0b, Bool.not_true]
    by_cases hm0 : l = []
    · have em0 : (l.length == 0) = true := by rw [hm0]; rfl
      have em0' : ((l.length : Int) == 0) = true := by rw [hm0]; rfl
      by_cases hg1 : 1 ≤ n
      · have eg1 : decide (1 ≤ n) = true := decide_eq_true hg1
        by_cases hle : n ≤ 4096
        · have ele : decide (n ≤ 4096) = true := decide_eq_true hle
          have hr := HR.out
          obtain rfl : R = 0 := by rw [hr]; simp [hs0, hm0, hg1, hle]
          clear HR hr hs0 hm0 hg1 hle
          generalize l.length = m at *
          generalize mkB s = S at *
          go_enter Tryd.func61, Tryd.ntmps61
          go_wp2
          go_ret
          exact ⟨rfl, HB.out⟩
        · have ele : decide (n ≤ 4096) = false := decide_eq_false hle
          have hr := HR.out
          obtain rfl : R = 2 := by rw [hr]; simp [hs0, hm0, hg1, hle]
          clear HR hr hs0 hm0 hg1 hle
          generalize l.length = m at *
          generalize mkB s = S at *
          go_enter Tryd.func61, Tryd.ntmps61
          go_wp2
          go_ret
          exact ⟨rfl, HB.out⟩
      · have eg1 : decide (1 ≤ n) = false := decide_eq_false hg1
        have hr := HR.out
        obtain rfl : R = 2 := by rw [hr]; simp [hs0, hm0, hg1]
        clear HR hr hs0 hm0 hg1
        generalize l.length = m at *
        generalize mkB s = S at *
        go_enter Tryd.func61, Tryd.ntmps61
        go_wp2
        go_ret
        exact ⟨rfl, HB.out⟩
    · have em0 : (l.length == 0) = false := by rw [beq_eq_false_iff_ne]; exact fun e => hm0 (List.eq_nil_of_length_eq_zero e)
      have em0' : ((l.length : Int) == 0) = false := by rw [beq_eq_false_iff_ne]; exact fun e => hm0 (List.eq_nil_of_length_eq_zero (by omega))
      have hr := HR.out
      obtain rfl : R = 2 := by rw [hr]; simp [hs0, hm0]
      clear HR hr hs0 hm0
      generalize l.length = m at *
      generalize mkB s = S at *
      go_enter Tryd.func61, Tryd.ntmps61
      go_wp2
      go_ret
      exact ⟨rfl, HB.out⟩
  · have es0b : ((mkB s).toList == []) = false := by rw [beq_eq_false_iff_ne, toList_mkB]; exact hs0
    have es0c : ((mkB s).toList != []) = true := by simp only [bne, es0b, Bool.not_false]
    have hr := HR.out
    obtain rfl : R = 2 := by rw [hr]; simp [hs0]
    clear HR hr hs0
    generalize l.length = m at *
    generalize mkB s = S at *
    go_enter Tryd.func61, Tryd.ntmps61
    go_wp2
    go_ret
    exact ⟨rfl, HB.out⟩

set_option maxRecDepth 8000 in
set_option maxHeartbeats 4000000 in
theorem rown_k2 {n : Int} {s : List UInt8} {l : List PV} {a1 : Option Addr} {cap1 : Nat} {w : World} (_m1 : (l.length : Int) ≤ 9223372036854775807) :
    Calls Tryd.prog 61 #[.agg #[.int .i64 2, .int .i64 n, .string (mkB s), .slice a1 l.length cap1]] w fun e w' => e = .returned (.int .i64 (checkV 2 n (bareV (mkB s) l.length))) ∧ Below w.heap.size w w' := by
  obtain ⟨R, hR⟩ : ∃ R, R = (checkV 2 n (bareV (mkB s) l.length) : Int) := ⟨_, rfl⟩
  rw [← hR]
  have HR := Lib.hid hR
  have HB := Lib.hid (belowA w (.cells #[.int .i64 2, .int .i64 n, .string (mkB s), .slice a1 l.length cap1] 24))
  clear hR
  have HP := Lib.hid (fun W => rcheck_any 2 n (mkB s) a1 l.length cap1 W _m1)
  rw [← HR.out] at HP
  clear HR
  by_cases hs0 : s = []
  · have es0 : (mkB s).toList = [] := by rw [toList_mkB]; exact hs0
    have es0b : ((mkB s).toList == []) = true := by rw [beq_iff_eq]; exact es0
    have es0c : ((mkB s).toList != []) = false := by simp only [bne, es0b, Bool.not_true]
    by_cases hm0 : l = []
    · have em0 : (l.length == 0) = true := by rw [hm0]; rfl
      have em0' : ((l.length : Int) == 0) = true := by rw [hm0]; rfl
      clear hs0 hm0
      generalize l.length = m at *
      generalize mkB s = S at *
      go_enter Tryd.func61, Tryd.ntmps61
      go_wp2_with (go_at_call 62; refine (HP.out _).mono ?_; rintro e w1 ⟨rfl, hb1⟩)
      go_ret
      exact ⟨rfl, HB.out.trans (hb1.mono HB.out.size)⟩
    · have em0 : (l.length == 0) = false := by rw [beq_eq_false_iff_ne]; exact fun e => hm0 (List.eq_nil_of_length_eq_zero e)
      have em0' : ((l.length : Int) == 0) = false := by rw [beq_eq_false_iff_ne]; exact fun e => hm0 (List.eq_nil_of_length_eq_zero (by omega))
      clear hs0 hm0
      generalize l.length = m at *
      generalize mkB s = S at *
      go_enter Tryd.func61, Tryd.ntmps61
      go_wp2_with (go_at_call 62; refine (HP.out _).mono ?_; rintro e w1 ⟨rfl, hb1⟩)
      go_ret
      exact ⟨rfl, HB.out.trans (hb1.mono HB.out.size)⟩
  · have es0b : ((mkB s).toList == []) = false := by rw [beq_eq_false_iff_ne, toList_mkB]; exact hs0
    have es0c : ((mkB s).toList != []) = true := by simp only [bne, es0b, Bool.not_false]
    clear hs0
    generalize l.length = m at *
    generalize mkB s = S at *
    go_enter Tryd.func61, Tryd.ntmps61
    go_wp2_with (go_at_call 62; refine (HP.out _).mono ?_; rintro e w1 ⟨rfl, hb1⟩)
    go_ret
    exact ⟨rfl, HB.out.trans (hb1.mono HB.out.size)⟩

set_option maxRecDepth 8000 in
set_option maxHeartbeats 4000000 in
theorem rown_k3 {n : Int} {s : List UInt8} {l : List PV} {a1 : Option Addr} {cap1 : Nat} {w : World} (_m1 : (l.length : Int) ≤ 9223372036854775807) :
    Calls Tryd.prog 61 #[.agg #[.int .i64 3, .int .i64 n, .string (mkB s), .slice a1 l.length cap1]] w fun e w' => e = .returned (.int .i64 (checkV 3 n (bareV (mkB s) l.length))) ∧ Below w.heap.size w w' := by
  obtain ⟨R, hR⟩ : ∃ R, R = (checkV 3 n (bareV (mkB s) l.length) : Int) := ⟨_, rfl⟩
  rw [← hR]
  have HR := Lib.hid hR
  have HB := Lib.hid (belowA w (.cells #[.int .i64 3, .int .i64 n, .string (mkB s), .slice a1 l.length cap1] 24))
  clear hR
  have HP := Lib.hid (fun W => rcheck_any 3 n (mkB s) a1 l.length cap1 W _m1)
  rw [← HR.out] at HP
  clear HR
  by_cases hs0 : s = []
  · have es0 : (mkB s).toList = [] := by rw [toList_mkB]; exact hs0
    have es0b : ((mkB s).toList == []) = true := by rw [beq_iff_eq]; exact es0
    have es0c : ((mkB s).toList != []) = false := by simp only [bne, es0b, Bool.not_true]
    by_cases hm0 : l = []
    · have em0 : (l.length == 0) = true := by rw [hm0]; rfl
      have em0' : ((l.length : Int) == 0) = true := by rw [hm0]; rfl
      clear hs0 hm0
      generalize l.length = m at *
      generalize mkB s = S at *
      go_enter Tryd.func61, Tryd.ntmps61
      go_wp2_with (go_at_call 62; refine (HP.out _).mono ?_; rintro e w1 ⟨rfl, hb1⟩)
      go_ret
      exact ⟨rfl, HB.out.trans (hb1.mono HB.out.size)⟩
    · have em0 : (l.length == 0) = false := by rw [beq_eq_false_iff_ne]; exact fun e => hm0 (List.eq_nil_of_length_eq_zero e)
      have em0' : ((l.length : Int) == 0) = false := by rw [beq_eq_false_iff_ne]; exact fun e => hm0 (List.eq_nil_of_length_eq_zero (by omega))
      clear hs0 hm0
      generalize l.length = m at *
      generalize mkB s = S at *
      go_enter Tryd.func61, Tryd.ntmps61
      go_wp2_with (go_at_call 62; refine (HP.out _).mono ?_; rintro e w1 ⟨rfl, hb1⟩)
      go_ret
      exact ⟨rfl, HB.out.trans (hb1.mono HB.out.size)⟩
  · have es0b : ((mkB s).toList == []) = false := by rw [beq_eq_false_iff_ne, toList_mkB]; exact hs0
    have es0c : ((mkB s).toList != []) = true := by simp only [bne, es0b, Bool.not_false]
    clear hs0
    generalize l.length = m at *
    generalize mkB s = S at *
    go_enter Tryd.func61, Tryd.ntmps61
    go_wp2_with (go_at_call 62; refine (HP.out _).mono ?_; rintro e w1 ⟨rfl, hb1⟩)
    go_ret
    exact ⟨rfl, HB.out.trans (hb1.mono HB.out.size)⟩

set_option maxRecDepth 8000 in
set_option maxHeartbeats 4000000 in
theorem rown_k5 {n : Int} {s : List UInt8} {l : List PV} {a1 : Option Addr} {cap1 : Nat} {w : World} (hsl : s.length ≤ 300) (_m1 : (l.length : Int) ≤ 9223372036854775807) :
    Calls Tryd.prog 61 #[.agg #[.int .i64 5, .int .i64 n, .string (mkB s), .slice a1 l.length cap1]] w fun e w' => e = .returned (.int .i64 (if 127 < s.length ∨ (0 : UInt8) ∈ s then 17 else if n = 0 ∧ l = [] then 0 else 2)) ∧ Below w.heap.size w w' := by
  obtain ⟨R, hR⟩ : ∃ R, R = (if 127 < s.length ∨ (0 : UInt8) ∈ s then 17 else if n = 0 ∧ l = [] then 0 else 2 : Int) := ⟨_, rfl⟩
  rw [← hR]
  have HR := Lib.hid hR
  have HB := Lib.hid (belowA w (.cells #[.int .i64 5, .int .i64 n, .string (mkB s), .slice a1 l.length cap1] 24))
  clear hR
  have HT := Lib.hid (fun W => rtext11 s W (by omega))
  have hq : R = if nameC s = false then 17 else if n = 0 ∧ l = [] then 0 else 2 := by
    rw [HR.out, nameC_is]
  have HX1 := Lib.hid (heapA_new (w := w) (.cells #[.int .i64 5, .int .i64 n, .string (mkB s), .slice a1 l.length cap1] 24) rfl)
  clear HR
  generalize nameC s = nc at *
  have HR := Lib.hid hq
  clear hq hsl
  cases nc
  · by_cases hs0 : s = []
    · have es0 : (mkB s).toList = [] := by rw [toList_mkB]; exact hs0
      have es0b : ((mkB s).toList == []) = true := by rw [beq_iff_eq]; exact es0
      have es0c : ((mkB s).toList != []) = false := by simp only [bne, es0b, Bool.not_true]
      by_cases hm0 : l = []
      · have em0 : (l.length == 0) = true := by rw [hm0]; rfl
        have em0' : ((l.length : Int) == 0) = true := by rw [hm0]; rfl
        have hr := HR.out
        obtain rfl : R = 17 := by rw [hr]; simp [hs0, hm0]
        clear HR hr hs0 hm0
        generalize l.length = m at *
        generalize mkB s = S at *
        go_enter Tryd.func61, Tryd.ntmps61
        go_wp2_with (go_at_call 28; refine (HT.out _).mono ?_; rintro e w1 ⟨rfl, rfl⟩)
        go_ret
        exact ⟨rfl, HB.out⟩
      · have em0 : (l.length == 0) = false := by rw [beq_eq_false_iff_ne]; exact fun e => hm0 (List.eq_nil_of_length_eq_zero e)
        have em0' : ((l.length : Int) == 0) = false := by rw [beq_eq_false_iff_ne]; exact fun e => hm0 (List.eq_nil_of_length_eq_zero (by omega))
        have hr := HR.out
        obtain rfl : R = 17 := by rw [hr]; simp [hs0, hm0]
        clear HR hr hs0 hm0
        generalize l.length = m at *
        generalize mkB s = S at *
        go_enter Tryd.func61, Tryd.ntmps61
        go_wp2_with (go_at_call 28; refine (HT.out _).mono ?_; rintro e w1 ⟨rfl, rfl⟩)
        go_ret
        exact ⟨rfl, HB.out⟩
    · have es0b : ((mkB s).toList == []) = false := by rw [beq_eq_false_iff_ne, toList_mkB]; exact hs0
      have es0c : ((mkB s).toList != []) = true := by simp only [bne, es0b, Bool.not_false]
      have hr := HR.out
      obtain rfl : R = 17 := by rw [hr]; simp [hs0]
      clear HR hr hs0
      generalize l.length = m at *
      generalize mkB s = S at *
      go_enter Tryd.func61, Tryd.ntmps61
      go_wp2_with (go_at_call 28; refine (HT.out _).mono ?_; rintro e w1 ⟨rfl, rfl⟩)
      go_ret
      exact ⟨rfl, HB.out⟩
  · by_cases hs0 : s = []
    · have es0 : (mkB s).toList = [] := by rw [toList_mkB]; exact hs0
      have es0b : ((mkB s).toList == []) = true := by rw [beq_iff_eq]; exact es0
      have es0c : ((mkB s).toList != []) = false := by simp only [bne, es0b, Bool.not_true]
      by_cases hm0 : l = []
      · have em0 : (l.length == 0) = true := by rw [hm0]; rfl
        have em0' : ((l.length : Int) == 0) = true := by rw [hm0]; rfl
        by_cases hn0 : n = 0
        · have en0 : (n == 0) = true := by rw [beq_iff_eq]; exact hn0
          have en0' : (n != 0) = false := by simp only [bne, en0, Bool.not_true]
          have hr := HR.out
          obtain rfl : R = 0 := by rw [hr]; simp [hs0, hm0, hn0]
          clear HR hr hs0 hm0 hn0
          generalize l.length = m at *
          generalize mkB s = S at *
          go_enter Tryd.func61, Tryd.ntmps61
          go_wp2_with (go_at_call 28; refine (HT.out _).mono ?_; rintro e w1 ⟨rfl, rfl⟩)
          go_ret
          exact ⟨rfl, HB.out⟩
        · have en0 : (n == 0) = false := by rw [beq_eq_false_iff_ne]; exact hn0
          have en0' : (n != 0) = true := by simp only [bne, en0, Bool.not_false]
          have hr := HR.out
          obtain rfl : R = 2 := by rw [hr]; simp [hs0, hm0, hn0]
          clear HR hr hs0 hm0 hn0
          generalize l.length = m at *
          generalize mkB s = S at *
          go_enter Tryd.func61, Tryd.ntmps61
          go_wp2_with (go_at_call 28; refine (HT.out _).mono ?_; rintro e w1 ⟨rfl, rfl⟩)
          go_ret
          exact ⟨rfl, HB.out⟩
      · have em0 : (l.length == 0) = false := by rw [beq_eq_false_iff_ne]; exact fun e => hm0 (List.eq_nil_of_length_eq_zero e)
        have em0' : ((l.length : Int) == 0) = false := by rw [beq_eq_false_iff_ne]; exact fun e => hm0 (List.eq_nil_of_length_eq_zero (by omega))
        by_cases hn0 : n = 0
        · have en0 : (n == 0) = true := by rw [beq_iff_eq]; exact hn0
          have en0' : (n != 0) = false := by simp only [bne, en0, Bool.not_true]
          have hr := HR.out
          obtain rfl : R = 2 := by rw [hr]; simp [hs0, hm0, hn0]
          clear HR hr hs0 hm0 hn0
          generalize l.length = m at *
          generalize mkB s = S at *
          go_enter Tryd.func61, Tryd.ntmps61
          go_wp2_with (go_at_call 28; refine (HT.out _).mono ?_; rintro e w1 ⟨rfl, rfl⟩)
          go_ret
          exact ⟨rfl, HB.out⟩
        · have en0 : (n == 0) = false := by rw [beq_eq_false_iff_ne]; exact hn0
          have en0' : (n != 0) = true := by simp only [bne, en0, Bool.not_false]
          have hr := HR.out
          obtain rfl : R = 2 := by rw [hr]; simp [hs0, hm0, hn0]
          clear HR hr hs0 hm0 hn0
          generalize l.length = m at *
          generalize mkB s = S at *
          go_enter Tryd.func61, Tryd.ntmps61
          go_wp2_with (go_at_call 28; refine (HT.out _).mono ?_; rintro e w1 ⟨rfl, rfl⟩)
          go_ret
          exact ⟨rfl, HB.out⟩
    · have es0b : ((mkB s).toList == []) = false := by rw [beq_eq_false_iff_ne, toList_mkB]; exact hs0
      have es0c : ((mkB s).toList != []) = true := by simp only [bne, es0b, Bool.not_false]
      by_cases hn0 : n = 0
      · have en0 : (n == 0) = true := by rw [beq_iff_eq]; exact hn0
        have en0' : (n != 0) = false := by simp only [bne, en0, Bool.not_true]
        by_cases hm0 : l = []
        · have em0 : (l.length == 0) = true := by rw [hm0]; rfl
          have em0' : ((l.length : Int) == 0) = true := by rw [hm0]; rfl
          have hr := HR.out
          obtain rfl : R = 0 := by rw [hr]; simp [hs0, hn0, hm0]
          clear HR hr hs0 hn0 hm0
          generalize l.length = m at *
          generalize mkB s = S at *
          go_enter Tryd.func61, Tryd.ntmps61
          go_wp2_with (go_at_call 28; refine (HT.out _).mono ?_; rintro e w1 ⟨rfl, rfl⟩)
          go_ret
          exact ⟨rfl, HB.out⟩
        · have em0 : (l.length == 0) = false := by rw [beq_eq_false_iff_ne]; exact fun e => hm0 (List.eq_nil_of_length_eq_zero e)
          have em0' : ((l.length : Int) == 0) = false := by rw [beq_eq_false_iff_ne]; exact fun e => hm0 (List.eq_nil_of_length_eq_zero (by omega))
          have hr := HR.out
          obtain rfl : R = 2 := by rw [hr]; simp [hs0, hn0, hm0]
          clear HR hr hs0 hn0 hm0
          generalize l.length = m at *
          generalize mkB s = S at *
          go_enter Tryd.func61, Tryd.ntmps61
          go_wp2_with (go_at_call 28; refine (HT.out _).mono ?_; rintro e w1 ⟨rfl, rfl⟩)
          go_ret
          exact ⟨rfl, HB.out⟩
      · have en0 : (n == 0) = false := by rw [beq_eq_false_iff_ne]; exact hn0
        have en0' : (n != 0) = true := by simp only [bne, en0, Bool.not_false]
        have hr := HR.out
        obtain rfl : R = 2 := by rw [hr]; simp [hs0, hn0]
        clear HR hr hs0 hn0
        generalize l.length = m at *
        generalize mkB s = S at *
        go_enter Tryd.func61, Tryd.ntmps61
        go_wp2_with (go_at_call 28; refine (HT.out _).mono ?_; rintro e w1 ⟨rfl, rfl⟩)
        go_ret
        exact ⟨rfl, HB.out⟩

set_option maxRecDepth 8000 in
set_option maxHeartbeats 4000000 in
theorem rown_k7 {n : Int} {s : List UInt8} {l : List PV} {a1 : Option Addr} {cap1 : Nat} {w : World} (hv : IsV w anyF (.mk 7 n s l) (.slice a1 l.length cap1)) :
    Calls Tryd.prog 61 #[.agg #[.int .i64 7, .int .i64 n, .string (mkB s), .slice a1 l.length cap1]] w fun e w' => e = .returned (.int .i64 (if n = 0 ∧ s = [] then dictC l else 2)) ∧ Below w.heap.size w w' := by
  have HB := Lib.hid (belowA w (.cells #[.int .i64 7, .int .i64 n, .string (mkB s), .slice a1 l.length cap1] 24))
  have HD := Lib.hid (fun (W : World) (h : Below w.heap.size w W) => rdictA (hv.below h))
  clear hv
  simp only [pvA, PV.kind, PV.n, PV.s, PV.l] at HD
  generalize (if n = 0 ∧ s = [] then dictC l else 2 : Int) = R at *
  by_cases hs0 : s = []
  · have es0 : (mkB s).toList = [] := by rw [toList_mkB]; exact hs0
    have es0b : ((mkB s).toList == []) = true := by rw [beq_iff_eq]; exact es0
    have es0c : ((mkB s).toList != []) = false := by simp only [bne, es0b, Bool.not_true]
    by_cases hm0 : l = []
    · have em0 : (l.length == 0) = true := by rw [hm0]; rfl
      have em0' : ((l.length : Int) == 0) = true := by rw [hm0]; rfl
      clear hs0 hm0
      generalize l.length = m at *
      generalize mkB s = S at *
      go_enter Tryd.func61, Tryd.ntmps61
      go_wp2_with (go_at_call 74; refine (HD.out _ HB.out).mono ?_; rintro e w1 ⟨rfl, hb1⟩)
      go_ret
      exact ⟨rfl, HB.out.trans (hb1.mono HB.out.size)⟩
    · have em0 : (l.length == 0) = false := by rw [beq_eq_false_iff_ne]; exact fun e => hm0 (List.eq_nil_of_length_eq_zero e)
      have em0' : ((l.length : Int) == 0) = false := by rw [beq_eq_false_iff_ne]; exact fun e => hm0 (List.eq_nil_of_length_eq_zero (by omega))
      clear hs0 hm0
      generalize l.length = m at *
      generalize mkB s = S at *
      go_enter Tryd.func61, Tryd.ntmps61
      go_wp2_with (go_at_call 74; refine (HD.out _ HB.out).mono ?_; rintro e w1 ⟨rfl, hb1⟩)
      go_ret
      exact ⟨rfl, HB.out.trans (hb1.mono HB.out.size)⟩
  · have es0b : ((mkB s).toList == []) = false := by rw [beq_eq_false_iff_ne, toList_mkB]; exact hs0
    have es0c : ((mkB s).toList != []) = true := by simp only [bne, es0b, Bool.not_false]
    clear hs0
    generalize l.length = m at *
    generalize mkB s = S at *
    go_enter Tryd.func61, Tryd.ntmps61
    go_wp2_with (go_at_call 74; refine (HD.out _ HB.out).mono ?_; rintro e w1 ⟨rfl, hb1⟩)
    go_ret
    exact ⟨rfl, HB.out.trans (hb1.mono HB.out.size)⟩

set_option maxRecDepth 8000 in
set_option maxHeartbeats 4000000 in
theorem rown_kx {k n : Int} {s : List UInt8} {l : List PV} {a1 : Option Addr} {cap1 : Nat} {w : World} (_m1 : (l.length : Int) ≤ 9223372036854775807) (hk : k ≠ 0 ∧ k ≠ 1 ∧ k ≠ 2 ∧ k ≠ 3 ∧ k ≠ 4 ∧ k ≠ 5 ∧ k ≠ 6 ∧ k ≠ 7 ∧ k ≠ 8) :
    Calls Tryd.prog 61 #[.agg #[.int .i64 k, .int .i64 n, .string (mkB s), .slice a1 l.length cap1]] w fun e w' => e = .returned (.int .i64 2) ∧ Below w.heap.size w w' := by
  obtain ⟨h0, h1, h2, h3, h4, h5, h6, h7, h8⟩ := hk
  have e0 : (k == 0) = false := by rw [beq_eq_false_iff_ne]; exact h0
  have e1 : (k == 1) = false := by rw [beq_eq_false_iff_ne]; exact h1
  have e2 : (k == 2) = false := by rw [beq_eq_false_iff_ne]; exact h2
  have e3 : (k == 3) = false := by rw [beq_eq_false_iff_ne]; exact h3
  have e4 : (k == 4) = false := by rw [beq_eq_false_iff_ne]; exact h4
  have e5 : (k == 5) = false := by rw [beq_eq_false_iff_ne]; exact h5
  have e6 : (k == 6) = false := by rw [beq_eq_false_iff_ne]; exact h6
  have e7 : (k == 7) = false := by rw [beq_eq_false_iff_ne]; exact h7
  have e8 : (k == 8) = false := by rw [beq_eq_false_iff_ne]; exact h8
  have HB := Lib.hid (belowA w (.cells #[.int .i64 k, .int .i64 n, .string (mkB s), .slice a1 l.length cap1] 24))
  clear h0 h1 h2 h3 h4 h5 h6 h7 h8
  by_cases hs0 : s = []
  · have es0 : (mkB s).toList = [] := by rw [toList_mkB]; exact hs0
    have es0b : ((mkB s).toList == []) = true := by rw [beq_iff_eq]; exact es0
    have es0c : ((mkB s).toList != []) = false := by simp only [bne, es0b, Bool.not_true]
    by_cases hm0 : l = []
    · have em0 : (l.length == 0) = true := by rw [hm0]; rfl
      have em0' : ((l.length : Int) == 0) = true := by rw [hm0]; rfl
      clear hs0 hm0
      generalize l.length = m at *
      generalize mkB s = S at *
      go_enter Tryd.func61, Tryd.ntmps61
      go_wp2
      go_ret
      exact ⟨rfl, HB.out⟩
    · have em0 : (l.length == 0) = false := by rw [beq_eq_false_iff_ne]; exact fun e => hm0 (List.eq_nil_of_length_eq_zero e)
      have em0' : ((l.length : Int) == 0) = false := by rw [beq_eq_false_iff_ne]; exact fun e => hm0 (List.eq_nil_of_length_eq_zero (by omega))
      clear hs0 hm0
      generalize l.length = m at *
      generalize mkB s = S at *
      go_enter Tryd.func61, Tryd.ntmps61
      go_wp2
      go_ret
      exact ⟨rfl, HB.out⟩
  · have es0b : ((mkB s).toList == []) = false := by rw [beq_eq_false_iff_ne, toList_mkB]; exact hs0
    have es0c : ((mkB s).toList != []) = true := by simp only [bne, es0b, Bool.not_false]
    clear hs0
    generalize l.length = m at *
    generalize mkB s = S at *
    go_enter Tryd.func61, Tryd.ntmps61
    go_wp2
    go_ret
    exact ⟨rfl, HB.out⟩
/-- Whether a value may be, by itself. -/
theorem rown_any {v : PV} {sl : Value} {w : World} (hv : IsV w anyF v sl) (hsl : v.s.length ≤ 300) :
    Calls Tryd.prog 61 #[pvA v sl] w fun e w' => e = .returned (.int .i64 (ownC v)) ∧ Below w.heap.size w w' := by
  obtain ⟨a1, cap1, e1, g1, g2, -⟩ := hv.len
  subst e1
  have m1 : (v.l.length : Int) ≤ 9223372036854775807 := by unfold maxLen at g2; omega
  obtain ⟨k, n, s, l⟩ := v
  simp only [pvA, PV.kind, PV.n, PV.s, PV.l] at m1 g1 hv hsl ⊢
  simp only [ownC]
  by_cases h0 : k = 0
  · subst h0; rw [if_pos rfl]; exact rown_k0 m1
  rw [if_neg h0]
  by_cases h1 : k = 1
  · subst h1; rw [if_pos rfl]; exact rown_k1 m1
  rw [if_neg h1]
  by_cases h2 : k = 2
  · subst h2; rw [if_pos (.inl rfl), ← own_numS]; exact rown_k2 m1
  by_cases h3 : k = 3
  · subst h3; rw [if_pos (.inr rfl), ← own_numS]; exact rown_k3 m1
  rw [if_neg (by omega)]
  by_cases h4 : k = 4
  · subst h4; rw [if_pos rfl]; exact rown_k4 m1
  rw [if_neg h4]
  by_cases h5 : k = 5
  · subst h5; rw [if_pos rfl]; exact rown_k5 hsl m1
  rw [if_neg h5]
  by_cases h6 : k = 6
  · subst h6; rw [if_pos rfl]; exact rown_k6 m1
  rw [if_neg h6]
  by_cases h7 : k = 7
  · subst h7
    rw [if_pos rfl]
    have e : (if n ≠ 0 ∨ s ≠ [] ∨ l.length % 2 ≠ 0 then 2 else if evenN l = false then 2 else if ascV (twoV l) = true then 0 else 16 : Int) = if n = 0 ∧ s = [] then dictC l else 2 := by
      unfold dictC
      by_cases hn : n = 0
      · by_cases hs : s = []
        · by_cases hl : l.length % 2 = 0
          · rw [if_neg (show ¬ (n ≠ 0 ∨ s ≠ [] ∨ l.length % 2 ≠ 0) from by simp [hn, hs, hl]), if_pos (show n = 0 ∧ s = [] from ⟨hn, hs⟩), if_neg (show ¬ l.length % 2 ≠ 0 from by simp [hl])]
          · rw [if_pos (.inr (.inr hl)), if_pos (show n = 0 ∧ s = [] from ⟨hn, hs⟩), if_pos hl]
        · rw [if_pos (.inr (.inl hs)), if_neg (fun h => hs h.2)]
      · rw [if_pos (.inl hn), if_neg (fun h => hn h.1)]
    rw [e]
    exact rown_k7 hv
  rw [if_neg h7]
  by_cases h8 : k = 8
  · subst h8; rw [if_pos rfl]; exact rown_k8 m1
  rw [if_neg h8]
  exact rown_kx m1 ⟨h0, h1, by omega, by omega, h4, h5, h6, h7, h8⟩
end Go.Proofs.YtnkodejgiabamaaDoor
