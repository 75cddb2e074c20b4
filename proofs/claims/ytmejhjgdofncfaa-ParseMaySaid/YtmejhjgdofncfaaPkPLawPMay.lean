/-
  Our texts Chk1 to Chk5, in one.
-/
import Derived.Test.YtmejhjgdofncfaaPkP21
/-
  The walk of ref11.holds, Text and Depth.
-/
namespace Go.Proofs.Ytmejhjgdofncfaa
open Go.RowKit

set_option maxRecDepth 8000 in
set_option maxHeartbeats 4000000 in
theorem holds_any (v : PV) (sl : Value) (w : World) : Calls Try.prog 19 #[pvA v sl] w fun e w' => e = .returned (.bool (v.kind == 6 || v.kind == 7)) ∧ Below w.heap.size w w' := by
  unfold pvA
  generalize v.kind = k at *
  by_cases h : k = 6
  · subst h
    go_enter Try.func19, Try.ntmps19
    go_wp2
    go_ret
    exact ⟨rfl, belowA w _⟩
  · have h1 : (k == 6) = false := by rw [beq_eq_false_iff_ne]; exact h
    rw [h1, Bool.false_or]
    clear h
    go_enter Try.func19, Try.ntmps19
    go_wp2
    go_ret
    exact ⟨rfl, belowA w _⟩

theorem depth_mem {v : PV} (h : v.kind = 6 ∨ v.kind = 7) {k : Nat} {x : PV} (hx : v.l[k]? = some x) : depthV x + 1 ≤ depthV v := by
  obtain ⟨a, b, c, l⟩ := v
  have h2 : ∀ (l : List PV) (k : Nat), l[k]? = some x → depthV x ≤ depthL l := by
    intro l
    induction l with
    | nil => intro k h; cases h
    | cons y l ih =>
      intro k h
      simp only [depthL]
      cases k with
      | zero =>
        have : y = x := by simpa using h
        subst this; omega
      | succ k => have := ih k (by simpa using h); omega
  have := h2 l k hx
  have h : a = 6 ∨ a = 7 := h
  simp only [depthV]
  rw [if_pos h]; omega
theorem depthL_take {l : List PV} {k : Nat} {x : PV} (hx : l[k]? = some x) : depthL (l.take (k + 1)) = max (depthL (l.take k)) (depthV x) := by
  induction l generalizing k with
  | nil => cases hx
  | cons y l ih =>
    cases k with
    | zero =>
      have : y = x := by simpa using hx
      subst this
      simp [depthL]
    | succ k =>
      rw [List.take_succ_cons, List.take_succ_cons]
      simp only [depthL]
      rw [ih (by simpa using hx)]; omega

set_option maxRecDepth 8000 in
set_option maxHeartbeats 4000000 in
theorem depth_any : ∀ (N : Nat) (v : PV) (sl : Value) (w : World), SizeOf.sizeOf v ≤ N → depthV v ≤ 64 → IsV w anyF v sl →
    Calls Try.prog 13 #[pvA v sl] w fun e w' => e = .returned (.int .i64 (depthV v : Nat)) ∧ Below w.heap.size w w' := by
  intro N
  induction N with
  | zero => intro v sl w h; obtain ⟨_, _, _, _⟩ := v; simp at h
  | succ N ih =>
  intro v sl w hN hd hv
  obtain ⟨a1, cap1, e1, g1, g2, g3⟩ := hv.len
  subst e1
  have HA := Lib.hid hv
  have HIH := Lib.hid ih
  have HN := Lib.hid hN
  have HSA := Lib.hid (fun (k : Nat) (x : PV) (h : v.l[k]? = some x) => sizeOf_mem h)
  have HD := Lib.hid hd
  have m1 : (v.l.length : Int) ≤ 9223372036854775807 := by unfold maxLen at g2; omega
  have HH := Lib.hid (fun W => holds_any v (.slice a1 v.l.length cap1) W)
  have hdv : depthV v = if v.kind = 6 ∨ v.kind = 7 then 1 + depthL v.l else 1 := by obtain ⟨_, _, _, _⟩ := v; rfl
  have HDM := Lib.hid (fun (h : v.kind = 6 ∨ v.kind = 7) (k : Nat) (x : PV) (hx : v.l[k]? = some x) => depth_mem h hx)
  unfold pvA at HH ⊢
  clear ih hN hd hv
  by_cases hk : v.kind = 6 ∨ v.kind = 7
  case neg =>
    rw [if_neg hk] at hdv
    have hb : (v.kind == 6 || v.kind == 7) = false := by
      simp only [Bool.or_eq_false_iff, beq_eq_false_iff_ne]; omega
    rw [hb] at HH
    rw [hdv]
    clear hk hb hdv HA HIH HDM HD HN HSA
    generalize v.kind = k0 at *
    generalize v.n = n0 at *
    generalize mkB v.s = s0 at *
    generalize v.l.length = l0 at *
    go_enter Try.func13, Try.ntmps13
    go_wp2_with (go_at_call 19; refine (HH.out _).mono ?_; rintro e w1 ⟨rfl, hb1⟩)
    go_ret
    exact ⟨rfl, (belowA w _).trans (hb1.mono (by rw [sizeA]; omega))⟩
  rw [if_pos hk] at hdv
  have hb : (v.kind == 6 || v.kind == 7) = true := by
    rcases hk with h | h <;> rw [h] <;> rfl
  rw [hb] at HH
  have HDV := Lib.hid hdv
  have HDL := Lib.hid (show depthL v.l ≤ 63 by have := HD.out; omega)
  have HDM2 := Lib.hid (fun (k : Nat) (x : PV) (hx : v.l[k]? = some x) => HDM.out hk k x hx)
  clear hk hb hdv HDM
  obtain ⟨la, hla⟩ : ∃ la, la = v.l := ⟨_, rfl⟩
  have HLA := Lib.hid hla
  rw [← hla] at HH HDV HDL HDM2 HA m1 g1 ⊢
  clear hla
  generalize v.kind = k0 at *
  generalize v.n = n0 at *
  generalize v.s = s0 at *
  go_enter Try.func13, Try.ntmps13
  obtain ⟨B, hB⟩ : ∃ B, B = w.heap.size := ⟨_, rfl⟩
  have HX1 := Lib.hid (heapA_new (w := w) (b := B) (.cells #[.int .i64 k0, .int .i64 n0, .string (mkB s0), .slice a1 la.length cap1] 27) hB)
  have HW := Lib.hid (belowA w (.cells #[.int .i64 k0, .int .i64 n0, .string (mkB s0), .slice a1 la.length cap1] 27))
  have HBB := Lib.hid hB
  go_wp2_with (go_at_call 19; refine (HH.out _).mono ?_; rintro e w1 ⟨rfl, hb1⟩)
  rw [← hB]
  have HX2 := Lib.hid (block_keep hb1 HX1.out)
  have HW1 := Lib.hid (HW.out.trans (hb1.mono HW.out.size))
  clear hb1 HX1 HW hB
  go_loopw [3, 4] (fun vn vk wr => ∃ (k n : Nat), vk = .int .i64 k ∧ vn = .int .i64 n ∧ n ≤ 64 ∧ k ≤ la.length ∧ Hid (Below w.heap.size w wr) ∧ Hid (Below w1.heap.size w1 wr) ∧ Hid (n = 1 + depthL (la.take k))) (fun _ vk _ => la.length - (intOf vk).toNat)
  case atStart => exact ⟨0, 1, rfl, rfl, by omega, Nat.zero_le _, HW1, Below.refl _ _, rfl⟩
  case round =>
    obtain ⟨k, n, rfl, rfl, hn, hk, HWR, HWR1, HV⟩ := hrel
    obtain ⟨⟨c0, c1, c2, c3⟩, -⟩ := cells4 (block_keep HWR1.out HX2.out)
    by_cases q1 : k < la.length
    case neg =>
      have hkl : k = la.length := by omega
      subst hkl
      have hv := HV.out
      rw [List.take_length] at hv
      have hv2 := HDV.out.trans hv.symm
      have HV9 := Lib.hid hv2
      clear hv hv2 HDV HV HDL HA HIH HDM2
      go_wp2
      go_ret
      exact ⟨by rw [HV9.out]; rfl, HWR.out⟩
    obtain ⟨x, hx⟩ : ∃ x, la[k]? = some x := ⟨_, List.getElem?_eq_getElem q1⟩
    obtain ⟨-, -, -, b1, o1, rfl, -, -, hax⟩ := (HA.out.below HWR.out).at (by omega)
    rw [← HLA.out] at hax
    obtain ⟨sx, hsx, x0, x1, x2, x3⟩ := hax k x hx
    have hlt : SizeOf.sizeOf x < SizeOf.sizeOf v := HSA.out k x (by rw [← HLA.out]; exact hx)
    have hN := HN.out
    have hdx := HDM2.out k x hx
    have hcall := HIH.out x sx wr (by omega) (by have := HD.out; omega) hsx
    have hv : max n (depthV x + 1) = 1 + depthL (la.take (k + 1)) := by rw [depthL_take hx]; have := HV.out; omega
    have HV2 := Lib.hid hv
    have hdx2 : depthV x ≤ 63 := by have := HD.out; omega
    unfold pvA at hcall
    obtain ⟨sa', sc', rfl, -, -, -⟩ := hsx.len
    generalize depthV x = d at *
    have HCALL := Lib.hid hcall
    clear hcall hv hsx hlt hN hax hx HA HIH HV HSA HLA HN HDV HDM2 HD hdx
    have hkl : (0 : Int) ≤ (k : Int) := by omega
    have hki : (k : Int) < (la.length : Int) := by omega
    go_wp2_with fail
    refine HCALL.out.mono ?_
    rintro e w4 ⟨rfl, hb4⟩
    have HW4 := Lib.hid (HWR.out.trans (hb4.mono HWR.out.size))
    have HW5 := Lib.hid (HWR1.out.trans (hb4.mono HWR1.out.size))
    clear hb4 x0 x1 x2 x3 c0 c1 c2 c3 HCALL
    by_cases hc : n < d + 1
    · have hm : max n (d + 1) = d + 1 := by omega
      rw [hm] at HV2
      have hd1 : decide ((n : Int) < (d : Int) + 1) = true := decide_eq_true (by omega)
      go_wp2
      go_roundw
      case rel => exact ⟨k + 1, d + 1, by go_num, by go_num, by omega, by omega, HW4, HW5, HV2⟩
      case measure => simp [intOf]; omega
    · have hm : max n (d + 1) = n := by omega
      rw [hm] at HV2
      have hd1 : decide ((n : Int) < (d : Int) + 1) = false := decide_eq_false (by omega)
      go_wp2
      go_roundw
      case rel => exact ⟨k + 1, n, by go_num, rfl, by omega, by omega, HW4, HW5, HV2⟩
      case measure => simp [intOf]; omega
end Go.Proofs.Ytmejhjgdofncfaa
/-
  The walk of ref09.Check, ref11.Text: where nothing is wrong.
-/
namespace Go.Proofs.Ytmejhjgdofncfaa
open Go.RowKit

set_option maxRecDepth 8000 in
set_option maxHeartbeats 4000000 in
theorem num_ok (k n : Int) (a1 : Option Addr) (cap1 : Nat) (w : World) (h : (k = 2 ∧ -2147483647 ≤ n ∧ n ≤ 2147483647) ∨ (k = 3 ∧ -2147483647000000 ≤ n ∧ n ≤ 2147483647000000)) :
    Calls Try.prog 28 #[.agg #[.int .i64 k, .int .i64 n, .string ⟨#[]⟩, .slice a1 0 cap1]] w fun e w' => e = .returned (.int .i64 0) ∧ Below w.heap.size w w' := by
  rcases h with ⟨rfl, h1, h2⟩ | ⟨rfl, h1, h2⟩
  · have d1 : decide (-2147483647 ≤ n) = true := decide_eq_true h1
    have d2 : decide (n ≤ 2147483647) = true := decide_eq_true h2
    clear h1 h2
    go_enter Try.func28, Try.ntmps28
    go_wp2
    go_ret
    exact ⟨rfl, belowA w _⟩
  · have d1 : decide (-2147483647000000 ≤ n) = true := decide_eq_true h1
    have d2 : decide (n ≤ 2147483647000000) = true := decide_eq_true h2
    clear h1 h2
    go_enter Try.func28, Try.ntmps28
    go_wp2
    go_ret
    exact ⟨rfl, belowA w _⟩

set_option maxRecDepth 8000 in
set_option maxHeartbeats 4000000 in
theorem text_ok (s : List UInt8) (w : World) (h : s.length ≤ 127) (h0 : (0 : UInt8) ∉ s) :
    Calls Try.prog 29 #[.string (mkB s)] w fun e w' => e = .returned (.bool true) ∧ Below w.heap.size w w' := by
  obtain ⟨W, hW⟩ : ∃ W, W = w := ⟨_, rfl⟩
  have hl : (mkB s).size = s.length := by unfold mkB; simp [ByteArray.size]
  have HLs := Lib.hid hl
  have HH := Lib.hid h0
  have h' : (s.length : Int) ≤ 127 := by omega
  go_enter Try.func29, Try.ntmps29
  go_wp2
  go_loopw [3] (fun vk wr => ∃ k : Nat, vk = .int .i64 k ∧ k ≤ s.length ∧ wr = w) (fun vk _ => s.length - (intOf vk).toNat)
  case atStart => exact ⟨0, rfl, Nat.zero_le _, rfl⟩
  case round =>
    obtain ⟨k, rfl, hk, rfl⟩ := hrel
    by_cases q1 : k < s.length
    case neg =>
      have hks : k = s.length := by omega
      subst hks
      clear HH q1
      go_wp2
      go_ret
      exact ⟨rfl, Below.refl _ _⟩
    have hk0 : (0 : Int) ≤ (k : Int) := by omega
    have hk1 : (k : Int) < (s.length : Int) := by omega
    have hk2 : k < (mkB s).size := by omega
    obtain ⟨c, hc⟩ : ∃ c, c = ((mkB s)[k]'hk2).toNat := ⟨_, rfl⟩
    have hc0 : c ≠ 0 := by
      intro e
      rw [e] at hc
      apply HH.out
      have h1 : (mkB s)[k]'hk2 = s[k] := rfl
      rw [h1] at hc
      have h2 : s[k] = 0 := UInt8.toNat_inj.1 hc.symm
      exact h2 ▸ List.getElem_mem q1
    have hc1 : ((c : Int) == 0) = false := by rw [beq_eq_false_iff_ne]; omega
    have hc2 : ((c : Int) != 0) = true := by simp [bne, hc1]
    clear hc0
    go_wp2
    go_roundw
    case rel => exact ⟨k + 1, by go_num, by omega, trivial⟩
    case measure => simp [intOf]; omega
end Go.Proofs.Ytmejhjgdofncfaa
/-
  The walk of ref11.dict: where nothing is wrong.
-/
namespace Go.Proofs.Ytmejhjgdofncfaa
open Go.RowKit

/-- The keys of a row that is taken in pairs. -/
theorem evenN_get {l : List PV} (h : evenN l = true) {k : Nat} (hk : k * 2 < l.length) : ∃ x, l[k * 2]? = some x ∧ x.kind = 5 := by
  induction k generalizing l with
  | zero =>
    match l, h with
    | [a], h => exact ⟨a, rfl, by simpa [evenN] using h⟩
    | a :: b :: l, h => exact ⟨a, rfl, by simp [evenN] at h; exact h.1⟩
    | [], _ => simp at hk
  | succ k ih =>
    match l, h with
    | [], _ => simp at hk
    | [a], _ => simp at hk
    | a :: b :: l, h =>
      have h2 : evenN l = true := by simp [evenN] at h; exact h.2
      obtain ⟨x, hx, h5⟩ := ih h2 (by simp at hk; omega)
      exact ⟨x, by rw [show (k + 1) * 2 = k * 2 + 2 by omega]; simpa using hx, h5⟩
theorem asc_get {l : List PV} (h : ascV (twoV l) = true) (he : l.length % 2 = 0) {k : Nat} {x y : PV} (hx : l[k * 2]? = some x) (hy : l[k * 2 + 2]? = some y) : sLt x.s y.s = true := by
  induction k generalizing l with
  | zero =>
    match l, h with
    | [], _ => cases hx
    | [a], _ => cases hy
    | [a, b], _ => cases hy
    | [a, b, c], _ => simp at he
    | a :: b :: c :: d :: l, h =>
      have e1 : a = x := by simpa using hx
      have e2 : c = y := by simpa using hy
      subst e1 e2
      simp [twoV, ascV] at h
      exact h.1
  | succ k ih =>
    match l, h with
    | [], _ => cases hx
    | [a], _ => simp at he
    | a :: b :: l, h =>
      refine ih (l := l) ?_ (by simp at he; omega) (by rw [show (k + 1) * 2 = k * 2 + 2 by omega] at hx; simpa using hx) (by rw [show (k + 1) * 2 + 2 = (k * 2 + 2) + 2 by omega] at hy; simpa using hy)
      match l, h with
      | [], _ => rfl
      | [c], _ => rfl
      | c :: d :: l, h => simp [twoV, ascV] at h ⊢; exact h.2

set_option maxRecDepth 8000 in
set_option maxHeartbeats 4000000 in
theorem dict_ok {v : PV} {sl : Value} {w : World} (hv : IsV w anyF v sl) (hn : v.n = 0) (hs : v.s = []) (he : v.l.length % 2 = 0) (hk : evenN v.l = true) (ha : ascV (twoV v.l) = true) :
    Calls Try.prog 30 #[pvA v sl] w fun e w' => e = .returned (.int .i64 0) ∧ Below w.heap.size w w' := by
  obtain ⟨a1, cap1, e1, g1, g2, g3⟩ := hv.len
  subst e1
  have HA := Lib.hid hv
  have m1 : (v.l.length : Int) ≤ 9223372036854775807 := by unfold maxLen at g2; omega
  unfold pvA
  rw [hn, hs, show mkB [] = ⟨#[]⟩ from rfl]
  have HE := Lib.hid (fun (k : Nat) (h : k * 2 < v.l.length) => evenN_get hk h)
  have HC := Lib.hid (fun (k : Nat) (x y : PV) (hx : v.l[k * 2]? = some x) (hy : v.l[k * 2 + 2]? = some y) => asc_get ha he hx hy)
  clear hv hn hs hk ha
  obtain ⟨la, hla⟩ : ∃ la, la = v.l := ⟨_, rfl⟩
  have HLA := Lib.hid hla
  rw [← hla] at m1 g1 HE HC HA he ⊢
  clear hla
  have he2 : (la.length : Int) % 2 = 0 := by omega
  generalize v.kind = k0 at *
  go_enter Try.func30, Try.ntmps30
  obtain ⟨B, hB⟩ : ∃ B, B = w.heap.size := ⟨_, rfl⟩
  have HX1 := Lib.hid (heapA_new (w := w) (b := B) (.cells #[.int .i64 k0, .int .i64 0, .string ⟨#[]⟩, .slice a1 la.length cap1] 27) hB)
  have HW := Lib.hid (belowA w (.cells #[.int .i64 k0, .int .i64 0, .string ⟨#[]⟩, .slice a1 la.length cap1] 27))
  go_wp2
  rw [← hB]
  clear hB
  generalize w.alloc _ = W1 at *
  obtain ⟨⟨c0, c1, c2, c3⟩, -⟩ := cells4 HX1.out
  go_loopw [3] (fun vk wr => ∃ j : Nat, vk = .int .i64 ((j * 2 : Nat) : Int) ∧ j * 2 ≤ la.length + 1 ∧ wr = W1) (fun vk _ => la.length + 2 - (intOf vk).toNat)
  case atStart => exact ⟨0, rfl, by omega, rfl⟩
  case round =>
    obtain ⟨j, rfl, hj, hwr⟩ := hrel
    rw [hwr]
    clear hwr
    obtain ⟨k, hkk⟩ : ∃ k, k = j * 2 := ⟨_, rfl⟩
    have hj2 : k % 2 = 0 := by omega
    rw [← hkk] at hj ⊢
    have HK := Lib.hid hkk
    clear hkk
    by_cases q1 : k < la.length
    case pos =>
      obtain ⟨x, hx, hx5⟩ := HE.out j (by rw [← HK.out]; exact q1)
      rw [← HK.out] at hx
      obtain ⟨-, -, -, b1, o1, rfl, -, -, hax⟩ := (HA.out.below HW.out).at (by omega)
      rw [← HLA.out] at hax
      obtain ⟨sx, -, x0, -⟩ := hax k x hx
      rw [hx5] at x0
      have hkl : (0 : Int) ≤ (k : Int) := by omega
      have hki : (k : Int) < (la.length : Int) := by omega
      clear hax hx hx5 HE HC
      go_wp2
      go_roundw
      case rel => exact ⟨j + 1, by rw [HK.out]; go_num, by have := HK.out; omega, trivial⟩
      case measure => simp [intOf]; omega
    have hd1 : decide (k < la.length) = false := decide_eq_false q1
    have hd2 : decide ((k : Int) < (la.length : Int)) = false := decide_eq_false (by omega)
    have hq2 : ¬ (k : Int) < (la.length : Int) := by omega
    clear HE HK hj hj2
    go_wp2
    clear hd1 hd2 hq2 q1
    clear c0 c1 c2 c3
    go_loopw [4] (fun vk wr => ∃ m : Nat, vk = .int .i64 ((m : Int) + 2) ∧ m % 2 = 0 ∧ m ≤ la.length ∧ Hid (Below W1.heap.size W1 wr)) (fun vk _ => la.length + 4 - (intOf vk).toNat)
    case atStart => exact ⟨0, by go_num, rfl, by omega, Below.refl _ _⟩
    case round =>
      obtain ⟨m, rfl, hm, hm2, HWR⟩ := hrel
      have HW2 := Lib.hid (HW.out.trans (HWR.out.mono HW.out.size))
      obtain ⟨⟨c0, c1, c2, c3⟩, -⟩ := cells4 (block_keep HWR.out HX1.out)
      by_cases q2 : m + 2 < la.length
      case neg =>
        have hd1 : decide ((m : Int) + 2 < (la.length : Int)) = false := decide_eq_false (by omega)
        have hq2 : ¬ (m : Int) + 2 < (la.length : Int) := by omega
        clear HC HA
        go_wp2
        go_ret
        exact ⟨rfl, HW2.out⟩
      obtain ⟨x, hx⟩ : ∃ x, la[m]? = some x := ⟨_, List.getElem?_eq_getElem (by omega)⟩
      obtain ⟨y, hy⟩ : ∃ y, la[m + 2]? = some y := ⟨_, List.getElem?_eq_getElem q2⟩
      have hlt := HC.out (m / 2) x y (by rw [show m / 2 * 2 = m by omega]; exact hx) (by rw [show m / 2 * 2 = m by omega]; exact hy)
      have hl2 : Op.bytesLess (mkB y.s).toList (mkB x.s).toList = false := by rw [toList_mkB, toList_mkB, less_mkB]; exact sLt_as _ _ hlt
      have hl3 : ((mkB y.s).toList == (mkB x.s).toList) = false := by
        rw [toList_mkB, toList_mkB, beq_eq_false_iff_ne]; intro e; rw [e, sLt_ir] at hlt; cases hlt
      obtain ⟨-, -, -, b1, o1, rfl, -, -, hax⟩ := (HA.out.below HW2.out).at (by omega)
      rw [← HLA.out] at hax
      obtain ⟨sx, -, -, -, x2, -⟩ := hax m x hx
      obtain ⟨sy, -, -, -, y2, -⟩ := hax (m + 2) y hy
      have u3 := BelowW.cell c3
      have e2 := BelowW.cell x2
      have r2 := BelowW.cell y2
      have hd1 : decide ((m : Int) + 2 < (la.length : Int)) = true := decide_eq_true (by omega)
      have hkl : (0 : Int) ≤ (m : Int) := by omega
      have hki : (m : Int) < (la.length : Int) := by omega
      have hkl2 : (0 : Int) ≤ (m : Int) + 2 := by omega
      have hki2 : (m : Int) + 2 < (la.length : Int) := by omega
      have hkm : (m : Int) + 2 - 2 = (m : Int) := by omega
      have hkw : IntKind.i64.wrap (m : Int) = (m : Int) := IntWalk.i64_in _ (by omega)
      have hkn : ((m : Int) + 2).toNat = m + 2 := by omega
      clear hax hx hy HC HA hlt x2 y2
      generalize mkB x.s = sX at *
      generalize mkB y.s = sY at *
      go_wp2
      refine wp_region_below (by kernel_rfl) (by kernel_rfl) ?_
      repeat (quiet_step (fail))
      refine wpQuiet_nil ?_
      rintro _ ⟨⟨w4, hb4⟩, rfl⟩
      have HW4 := Lib.hid (HWR.out.trans (hb4.mono HWR.out.size))
      clear u3 e2 r2 c0 c1 c2 c3 hb4
      go_wp2
      exact ⟨⟨m + 2, by go_num, by omega, by omega, HW4⟩, by simp [intOf]; omega⟩
end Go.Proofs.Ytmejhjgdofncfaa
/-
  The walk of ref11.own, first and Check: where nothing is wrong.
-/
namespace Go.Proofs.Ytmejhjgdofncfaa
open Go.RowKit

theorem own_cases {v : PV} (h : ownC v = 0) :
    (v.kind = 0 ∧ v.n = 0 ∧ v.s = [] ∧ v.l = []) ∨ (v.kind = 1 ∧ (v.n = 0 ∨ v.n = 1) ∧ v.s = [] ∧ v.l = []) ∨
    ((v.kind = 2 ∨ v.kind = 3) ∧ ((v.kind = 2 ∧ -2147483647 ≤ v.n ∧ v.n ≤ 2147483647) ∨ (v.kind = 3 ∧ -2147483647000000 ≤ v.n ∧ v.n ≤ 2147483647000000)) ∧ v.s = [] ∧ v.l = []) ∨
    (v.kind = 4 ∧ v.n = 0 ∧ v.l = []) ∨ (v.kind = 5 ∧ (v.s.length ≤ 127 ∧ (0 : UInt8) ∉ v.s) ∧ v.n = 0 ∧ v.l = []) ∨ (v.kind = 6 ∧ v.n = 0 ∧ v.s = []) ∨
    (v.kind = 7 ∧ (v.n = 0 ∧ v.s = [] ∧ v.l.length % 2 = 0) ∧ evenN v.l = true ∧ ascV (twoV v.l) = true) ∨ (v.kind = 8 ∧ (1 ≤ v.n ∧ v.n ≤ 4096) ∧ v.s = [] ∧ v.l = []) := by
  obtain ⟨k, n, s, l⟩ := v
  simp only [PV.kind, PV.n, PV.s, PV.l]
  simp only [ownC] at h
  split at h
  · rename_i e; split at h
    · exact .inl ⟨e, by assumption⟩
    · cases h
  split at h
  · rename_i e; split at h
    · rename_i g; exact .inr (.inl ⟨e, g⟩)
    · cases h
  split at h
  · rename_i e; split at h
    · rename_i g
      unfold checkV at h
      split at h
      · rename_i q; exact .inr (.inr (.inl ⟨e, q.2, g⟩))
      · cases h
    · cases h
  split at h
  · rename_i e; split at h
    · rename_i g; exact .inr (.inr (.inr (.inl ⟨e, g⟩)))
    · cases h
  split at h
  · rename_i e; split at h
    · cases h
    · rename_i q; split at h
      · rename_i g; exact .inr (.inr (.inr (.inr (.inl ⟨e, by rw [not_or] at q; exact ⟨by omega, q.2⟩, g⟩))))
      · cases h
  split at h
  · rename_i e; split at h
    · rename_i g; exact .inr (.inr (.inr (.inr (.inr (.inl ⟨e, g⟩)))))
    · cases h
  split at h
  · rename_i e; split at h
    · cases h
    · rename_i q; split at h
      · cases h
      · rename_i g; split at h
        · rename_i u
          refine .inr (.inr (.inr (.inr (.inr (.inr (.inl ⟨e, ?_, by simpa using g, u⟩))))))
          simp only [not_or, Decidable.not_not, ne_eq] at q
          exact q
        · cases h
  split at h
  · rename_i e; split at h
    · rename_i g; exact .inr (.inr (.inr (.inr (.inr (.inr (.inr ⟨e, ⟨g.1, g.2.1⟩, g.2.2⟩))))))
    · cases h
  cases h

set_option maxRecDepth 8000 in
set_option maxHeartbeats 8000000 in
theorem own_ok {v : PV} {sl : Value} {w : World} (hv : IsV w anyF v sl) (h : ownC v = 0) :
    Calls Try.prog 20 #[pvA v sl] w fun e w' => e = .returned (.int .i64 0) ∧ Below w.heap.size w w' := by
  obtain ⟨a1, cap1, e1, g1, g2, g3⟩ := hv.len
  subst e1
  have m1 : (v.l.length : Int) ≤ 9223372036854775807 := by unfold maxLen at g2; omega
  have HB := Lib.hid (belowA w (.cells #[.int .i64 v.kind, .int .i64 v.n, .string (mkB v.s), .slice a1 v.l.length cap1] 27))
  have HC := Lib.hid (own_cases h)
  have HV0 := Lib.hid hv
  clear h hv
  have HDI := Lib.hid (fun (W : World) (h : Below w.heap.size w W) (h1 : v.n = 0) (h2 : v.s = []) (h3 : v.l.length % 2 = 0) (h4 : evenN v.l = true) (h5 : ascV (twoV v.l) = true) => dict_ok (HV0.out.below h) h1 h2 h3 h4 h5)
  clear HV0
  obtain ⟨k, n, s, l⟩ := v
  have hc := HC.out
  simp only [PV.kind, PV.n, PV.s, PV.l, pvA] at hc m1 HB HDI ⊢
  clear HC
  rcases hc with ⟨rfl, rfl, rfl, rfl⟩ | ⟨rfl, hn, rfl, rfl⟩ | ⟨hk, hn, rfl, rfl⟩ | ⟨rfl, rfl, rfl⟩ | ⟨rfl, ⟨hs1, hs2⟩, rfl, rfl⟩ | ⟨rfl, rfl, rfl⟩ | ⟨rfl, ⟨rfl, rfl, he⟩, hev, has⟩ | ⟨rfl, ⟨hn1, hn2⟩, rfl, rfl⟩
  · clear HDI
    simp only [List.length_nil, show mkB [] = ⟨#[]⟩ from rfl] at *
    go_enter Try.func20, Try.ntmps20
    go_wp2
    go_ret
    exact ⟨rfl, HB.out⟩
  · clear HDI
    simp only [List.length_nil, show mkB [] = ⟨#[]⟩ from rfl] at *
    rcases hn with rfl | rfl
    · go_enter Try.func20, Try.ntmps20
      go_wp2
      go_ret
      exact ⟨rfl, HB.out⟩
    · go_enter Try.func20, Try.ntmps20
      go_wp2
      go_ret
      exact ⟨rfl, HB.out⟩
  · clear HDI
    simp only [List.length_nil, show mkB [] = ⟨#[]⟩ from rfl] at *
    have HN := Lib.hid (fun W => num_ok k n a1 cap1 W hn)
    clear hn
    rcases hk with rfl | rfl
    · go_enter Try.func20, Try.ntmps20
      go_wp2_with (go_at_call 28; refine (HN.out _).mono ?_; rintro e w1 ⟨rfl, hb1⟩)
      go_ret
      exact ⟨rfl, HB.out.trans (hb1.mono HB.out.size)⟩
    · go_enter Try.func20, Try.ntmps20
      go_wp2_with (go_at_call 28; refine (HN.out _).mono ?_; rintro e w1 ⟨rfl, hb1⟩)
      go_ret
      exact ⟨rfl, HB.out.trans (hb1.mono HB.out.size)⟩
  · clear HDI
    have hsz : (mkB s).size ≤ 9223372036854775807 ∨ True := .inr trivial
    simp only [List.length_nil] at *
    generalize mkB s = S at *
    go_enter Try.func20, Try.ntmps20
    by_cases hS : S.toList = []
    · go_wp2
      go_ret
      exact ⟨rfl, HB.out⟩
    · go_wp2
      go_ret
      exact ⟨rfl, HB.out⟩
  · clear HDI
    simp only [List.length_nil] at *
    have HT := Lib.hid (fun W => text_ok s W hs1 hs2)
    clear hs1 hs2
    generalize mkB s = S at *
    go_enter Try.func20, Try.ntmps20
    go_wp2_with (go_at_call 29; refine (HT.out _).mono ?_; rintro e w1 ⟨rfl, hb1⟩; have HB1 := Lib.hid hb1; have hk1 := block_keep hb1 (heapA_new (w := w) (.cells #[.int .i64 5, .int .i64 0, .string S, .slice a1 0 cap1] 27) rfl); obtain ⟨⟨c0, c1, c2, c3⟩, -⟩ := cells4 hk1)
    all_goals
      go_ret
      exact ⟨rfl, HB.out.trans (HB1.out.mono HB.out.size)⟩
  · clear HDI
    simp only [show mkB [] = ⟨#[]⟩ from rfl] at *
    generalize l.length = m at *
    go_enter Try.func20, Try.ntmps20
    by_cases hm : m = 0
    · subst hm
      go_wp2
      go_ret
      exact ⟨rfl, HB.out⟩
    · have hm1 : ((m : Int) == 0) = false := by rw [beq_eq_false_iff_ne]; omega
      have hm2 : (m == 0) = false := by rw [beq_eq_false_iff_ne]; omega
      go_wp2
      go_ret
      exact ⟨rfl, HB.out⟩
  · have HD := Lib.hid (fun W h => HDI.out W h rfl rfl he hev has)
    clear HDI hev has he
    simp only [show mkB [] = ⟨#[]⟩ from rfl] at *
    generalize l.length = m at *
    go_enter Try.func20, Try.ntmps20
    by_cases hm : m = 0
    · subst hm
      go_wp2_with (go_at_call 30; refine (HD.out _ HB.out).mono ?_; rintro e w1 ⟨rfl, hb1⟩)
      go_ret
      exact ⟨rfl, HB.out.trans (hb1.mono HB.out.size)⟩
    · have hm1 : ((m : Int) == 0) = false := by rw [beq_eq_false_iff_ne]; omega
      have hm2 : (m == 0) = false := by rw [beq_eq_false_iff_ne]; omega
      go_wp2_with (go_at_call 30; refine (HD.out _ HB.out).mono ?_; rintro e w1 ⟨rfl, hb1⟩)
      go_ret
      exact ⟨rfl, HB.out.trans (hb1.mono HB.out.size)⟩
  · clear HDI
    simp only [List.length_nil, show mkB [] = ⟨#[]⟩ from rfl] at *
    have hd1 : decide (1 ≤ n) = true := decide_eq_true hn1
    have hd2 : decide (n ≤ 4096) = true := decide_eq_true hn2
    go_enter Try.func20, Try.ntmps20
    go_wp2
    go_ret
    exact ⟨rfl, HB.out⟩
end Go.Proofs.Ytmejhjgdofncfaa
/-
  The walk of ref11.first and Check: where nothing is wrong.
-/
namespace Go.Proofs.Ytmejhjgdofncfaa
open Go.RowKit

theorem firstC_own {v : PV} (h : firstC v = 0) : ownC v = 0 := by
  obtain ⟨k, n, s, l⟩ := v
  simp only [firstC] at h
  by_cases e : ownC (.mk k n s l) = 0
  · exact e
  · rw [if_pos e] at h; exact h
theorem first_mem {v : PV} (h : firstC v = 0) (hk : v.kind = 6 ∨ v.kind = 7) {k : Nat} {x : PV} (hx : v.l[k]? = some x) : firstC x = 0 := by
  have ho := firstC_own h
  obtain ⟨a, n, s, l⟩ := v
  have hk : a = 6 ∨ a = 7 := hk
  simp only [firstC] at h
  rw [if_neg (by simp [ho]), if_pos hk] at h
  have : ∀ (l : List PV) (k : Nat), firstL l = 0 → l[k]? = some x → firstC x = 0 := by
    intro l
    induction l with
    | nil => intro k _ hx; cases hx
    | cons y l ih =>
      intro k h hx
      simp only [firstL] at h
      split at h
      · rename_i e; exact absurd h e
      · rename_i e
        cases k with
        | zero =>
          have : y = x := by simpa using hx
          subst this; omega
        | succ k => exact ih k h (by simpa using hx)
  exact this l k h hx

set_option maxRecDepth 8000 in
set_option maxHeartbeats 4000000 in
theorem first_ok : ∀ (N : Nat) (v : PV) (sl : Value) (w : World), SizeOf.sizeOf v ≤ N → firstC v = 0 → IsV w anyF v sl →
    Calls Try.prog 14 #[pvA v sl] w fun e w' => e = .returned (.int .i64 0) ∧ Below w.heap.size w w' := by
  intro N
  induction N with
  | zero => intro v sl w h; obtain ⟨_, _, _, _⟩ := v; simp at h
  | succ N ih =>
  intro v sl w hN hd hv
  obtain ⟨a1, cap1, e1, g1, g2, g3⟩ := hv.len
  subst e1
  have HA := Lib.hid hv
  have HIH := Lib.hid ih
  have HN := Lib.hid hN
  have HSA := Lib.hid (fun (k : Nat) (x : PV) (h : v.l[k]? = some x) => sizeOf_mem h)
  have m1 : (v.l.length : Int) ≤ 9223372036854775807 := by unfold maxLen at g2; omega
  have HO := Lib.hid (fun (W : World) (h : Below w.heap.size w W) => own_ok (hv.below h) (firstC_own hd))
  have HH := Lib.hid (fun W => holds_any v (.slice a1 v.l.length cap1) W)
  have HDM := Lib.hid (fun (h : v.kind = 6 ∨ v.kind = 7) (k : Nat) (x : PV) (hx : v.l[k]? = some x) => first_mem hd h hx)
  unfold pvA at HH HO ⊢
  clear ih hN hd hv
  obtain ⟨B, hB⟩ : ∃ B, B = w.heap.size := ⟨_, rfl⟩
  have HX1 := Lib.hid (heapA_new (w := w) (b := B) (.cells #[.int .i64 v.kind, .int .i64 v.n, .string (mkB v.s), .slice a1 v.l.length cap1] 27) hB)
  have HW := Lib.hid (belowA w (.cells #[.int .i64 v.kind, .int .i64 v.n, .string (mkB v.s), .slice a1 v.l.length cap1] 27))
  have HBB := Lib.hid hB
  clear hB
  by_cases hk : v.kind = 6 ∨ v.kind = 7
  case neg =>
    have hb : (v.kind == 6 || v.kind == 7) = false := by
      simp only [Bool.or_eq_false_iff, beq_eq_false_iff_ne]; omega
    rw [hb] at HH
    clear hk hb HA HIH HDM HN HSA
    generalize v.kind = k0 at *
    generalize v.n = n0 at *
    generalize mkB v.s = s0 at *
    generalize v.l.length = l0 at *
    go_enter Try.func14, Try.ntmps14
    go_wp2_with (first | (go_at_call 20; refine (HO.out _ HW.out).mono ?_; rintro e w1 ⟨rfl, hb1⟩; have HB1 := Lib.hid hb1; obtain ⟨⟨c0, c1, c2, c3⟩, -⟩ := cells4 (block_keep hb1 HX1.out); rw [HBB.out] at c0 c1 c2 c3) | (go_at_call 19; refine (HH.out _).mono ?_; rintro e w2 ⟨rfl, hb2⟩))
    all_goals
      go_ret
      exact ⟨rfl, HW.out.trans ((HB1.out.trans (hb2.mono HB1.out.size)).mono HW.out.size)⟩
  have hb : (v.kind == 6 || v.kind == 7) = true := by
    rcases hk with h | h <;> rw [h] <;> rfl
  rw [hb] at HH
  have HDM2 := Lib.hid (fun (k : Nat) (x : PV) (hx : v.l[k]? = some x) => HDM.out hk k x hx)
  clear hk hb HDM
  obtain ⟨la, hla⟩ : ∃ la, la = v.l := ⟨_, rfl⟩
  have HLA := Lib.hid hla
  rw [← hla] at HH HO HDM2 HA HX1 HW m1 g1 ⊢
  clear hla
  generalize v.kind = k0 at *
  generalize v.n = n0 at *
  generalize mkB v.s = s0 at *
  go_enter Try.func14, Try.ntmps14
  go_wp2_with (first | (go_at_call 20; refine (HO.out _ HW.out).mono ?_; rintro e w1 ⟨rfl, hb1⟩; have HB1 := Lib.hid hb1; have HX2 := Lib.hid (block_keep hb1 HX1.out); obtain ⟨⟨c0, c1, c2, c3⟩, -⟩ := cells4 HX2.out; rw [HBB.out] at c0 c1 c2 c3) | (go_at_call 19; refine (HH.out _).mono ?_; rintro e w2 ⟨rfl, hb2⟩))
  have HX3 := Lib.hid (block_keep hb2 HX2.out)
  have HW2 := Lib.hid (HW.out.trans ((HB1.out.trans (hb2.mono HB1.out.size)).mono HW.out.size))
  rw [← HBB.out]
  clear c0 c1 c2 c3 hb1 hb2 HB1 HW HX1 HX2 HO HH
  go_loopw [3, 4] (fun ve vk wr => ∃ (k : Nat), vk = .int .i64 k ∧ ve = .int .i64 0 ∧ k ≤ la.length ∧ Hid (Below w.heap.size w wr) ∧ Hid (Below w2.heap.size w2 wr)) (fun _ vk _ => la.length - (intOf vk).toNat)
  case atStart => exact ⟨0, rfl, rfl, Nat.zero_le _, HW2, Below.refl _ _⟩
  case round =>
    obtain ⟨k, rfl, rfl, hk, HWR, HWR1⟩ := hrel
    obtain ⟨⟨c0, c1, c2, c3⟩, -⟩ := cells4 (block_keep HWR1.out HX3.out)
    by_cases q1 : k < la.length
    case neg =>
      have hd1 : decide (k < la.length) = false := decide_eq_false q1
      have hq2 : ¬ (k : Int) < (la.length : Int) := by omega
      clear HA HIH HDM2
      go_wp2
      go_ret
      exact ⟨rfl, HWR.out⟩
    obtain ⟨x, hx⟩ : ∃ x, la[k]? = some x := ⟨_, List.getElem?_eq_getElem q1⟩
    obtain ⟨-, -, -, b1, o1, rfl, -, -, hax⟩ := (HA.out.below HWR.out).at (by omega)
    rw [← HLA.out] at hax
    obtain ⟨sx, hsx, x0, x1, x2, x3⟩ := hax k x hx
    have hlt : SizeOf.sizeOf x < SizeOf.sizeOf v := HSA.out k x (by rw [← HLA.out]; exact hx)
    have hN := HN.out
    have hcall := HIH.out x sx wr (by omega) (HDM2.out k x hx) hsx
    unfold pvA at hcall
    obtain ⟨sa', sc', rfl, -, -, -⟩ := hsx.len
    have HCALL := Lib.hid hcall
    clear hcall hsx hlt hN hax hx HA HIH HSA HLA HN HDM2
    have hkl : (0 : Int) ≤ (k : Int) := by omega
    have hki : (k : Int) < (la.length : Int) := by omega
    go_wp2_with fail
    refine HCALL.out.mono ?_
    rintro e w4 ⟨rfl, hb4⟩
    have HW4 := Lib.hid (HWR.out.trans (hb4.mono HWR.out.size))
    have HW5 := Lib.hid (HWR1.out.trans (hb4.mono HWR1.out.size))
    clear hb4 x0 x1 x2 x3 c0 c1 c2 c3 HCALL
    go_wp2
    go_roundw
    case rel => exact ⟨k + 1, by go_num, rfl, by omega, HW4, HW5⟩
    case measure => simp [intOf]; omega

set_option maxRecDepth 8000 in
set_option maxHeartbeats 4000000 in
theorem check_ok {v : PV} {sl : Value} {w : World} {F : Nat → Prop} (hv0 : IsV w F v sl) (h : firstC v = 0) (hd : depthV v ≤ 64) :
    Calls Try.prog 8 #[pvA v sl] w fun e w' => e = .returned (.int .i64 0) ∧ Below w.heap.size w w' := by
  have hv := hv0.any
  have HD := Lib.hid (fun (W : World) (h : Below w.heap.size w W) => depth_any _ v sl W (Nat.le_refl _) hd (hv.below h))
  have HF := Lib.hid (fun (W : World) (h1 : Below w.heap.size w W) => first_ok _ v sl W (Nat.le_refl _) h (hv.below h1))
  obtain ⟨a1, cap1, rfl, g1, g2, g3⟩ := hv.len
  unfold pvA at HD HF ⊢
  have HW := Lib.hid (belowA w (.cells #[.int .i64 v.kind, .int .i64 v.n, .string (mkB v.s), .slice a1 v.l.length cap1] 27))
  have HX1 := Lib.hid (heapA_new (w := w) (.cells #[.int .i64 v.kind, .int .i64 v.n, .string (mkB v.s), .slice a1 v.l.length cap1] 27) rfl)
  clear hv0 hv h
  generalize v.kind = k0 at *
  generalize v.n = n0 at *
  generalize mkB v.s = s0 at *
  generalize v.l.length = l0 at *
  generalize depthV v = d at *
  have hdd : decide (64 < (d : Int)) = false := decide_eq_false (by omega)
  have hdd2 : ¬ (64 : Int) < (d : Int) := by omega
  go_enter Try.func8, Try.ntmps8
  go_wp2_with (first | (go_at_call 13; refine (HD.out _ HW.out).mono ?_; rintro e w1 ⟨rfl, hb1⟩; have HB1 := Lib.hid (HW.out.trans (hb1.mono HW.out.size)); obtain ⟨⟨c0, c1, c2, c3⟩, -⟩ := cells4 (block_keep hb1 HX1.out)) | (go_at_call 14; refine (HF.out _ HB1.out).mono ?_; rintro e w2 ⟨rfl, hb2⟩))
  go_ret
  exact ⟨rfl, HB1.out.trans (hb2.mono HB1.out.size)⟩
end Go.Proofs.Ytmejhjgdofncfaa
