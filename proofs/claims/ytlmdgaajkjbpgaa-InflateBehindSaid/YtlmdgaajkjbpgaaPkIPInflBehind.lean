/-
  Our texts LawBehind to LawBehind, in one.
-/
import Derived.Test.YtlmdgaajkjbpgaaPkI13
/-
  The walk of the law InflateBehind.
-/
namespace Go.Proofs.Ytlmdgaajkjbpgaa
open Go.RowKit Go.Sort

theorem resN_le (bs : List UInt8) (most : Nat) : resN (endI bs most) ≤ bs.length := by
  have := (endI_is bs most).2
  unfold resN
  split
  · omega
  · exact Nat.zero_le _
/-- What comes behind the bytes that were looked at changes nothing. -/
theorem inflate_same (bs ms : List UInt8) (q : Nat) (he : (endI bs q).e = 0) (W : World) (a : Option Addr) (cap k : Nat) (hk : k = resN (endI bs q) + ms.length) (hr : Row W 1 a k cap ((bs.take (resN (endI bs q)) ++ ms).map u8C)) (hb : k ≤ 1000) (hm : q ≤ 16777216) :
    Calls Try.prog 8 #[.slice a k cap, .int .i64 q] W (InfRes (endI bs q) W) := by
  have hl : (bs.take (resN (endI bs q)) ++ ms).length = k := by
    have := resN_le bs q
    simp; omega
  have hN : resN (endI bs q) = ((endI bs q).at_ + 7) / 8 := if_pos he
  have hf := far_take bs ms (resN (endI bs q)) (resN_le bs q) (endI bs q).at_ (by omega)
  have hg := (infl_same hf _ _ _ (endI_is bs q).1 he (Nat.le_refl _)).1
  rw [← hl] at hr hb ⊢
  exact (inflate_any W a cap q _ hr hb hm (fuelI bs) (fuelI bs) hg).mono fun _ _ h => h.res
theorem one_u8 (l : List UInt8) : ∀ u ∈ l.map u8C, u.oneCell' = true := fun u hu => by
  obtain ⟨x, -, rfl⟩ := List.mem_map.1 hu
  rfl
theorem row_pre {w : World} {a : Option Addr} {n cap : Nat} {xs : List Value} (h : Row w 1 a n cap xs) (q : Nat) (hq : q ≤ n) : Row w 1 a q cap (xs.take q) := Row.takeN h q hq

set_option maxRecDepth 20000 in
set_option maxHeartbeats 4000000 in
theorem law_behind (x : Nat) (hx : x < 65536) (a a2 : Option Addr) (cap cap2 : Nat) (bs ms : List UInt8) (w : World) (hr : Row w 1 a bs.length cap (bs.map u8C)) (hr2 : Row w 1 a2 ms.length cap2 (ms.map u8C)) :
    Calls Try.prog 5 #[.slice a bs.length cap, .slice a2 ms.length cap2, .int .u16 x] w fun e w' => e = .returned (.bool true) ∧ Below w.heap.size w w' := by
  have HW := Lib.hid (fun W => works_any W)
  have HR := Lib.hid hr
  have HR2 := Lib.hid hr2
  by_cases hl : 300 < bs.length
  · have hd : decide ((300 : Int) < (bs.length : Int)) = true := decide_eq_true (by omega)
    have hdn : decide (300 < bs.length) = true := decide_eq_true (by omega)
    clear hr hr2
    go_enter Try.func5, Try.ntmps5
    go_wp2_with fail
    refine (HW.out w).mono ?_
    rintro e w1 ⟨rfl, hb⟩
    go_wp2
    go_ret
    exact ⟨rfl, hb⟩
  · have hd : decide ((300 : Int) < (bs.length : Int)) = false := decide_eq_false (by omega)
    have hdn : decide (300 < bs.length) = false := decide_eq_false (by omega)
    by_cases hl2 : 300 < ms.length
    · have hd2 : decide ((300 : Int) < (ms.length : Int)) = true := decide_eq_true (by omega)
      have hd2n : decide (300 < ms.length) = true := decide_eq_true (by omega)
      clear hr hr2
      go_enter Try.func5, Try.ntmps5
      go_wp2_with fail
      refine (HW.out w).mono ?_
      rintro e w1 ⟨rfl, hb⟩
      go_wp2
      go_ret
      exact ⟨rfl, hb⟩
    · have hd2 : decide ((300 : Int) < (ms.length : Int)) = false := decide_eq_false (by omega)
      have hd2n : decide (300 < ms.length) = false := decide_eq_false (by omega)
      obtain ⟨q, hq⟩ : ∃ q, q = x % 2001 := ⟨_, rfl⟩
      have hq0 : q ≤ 2000 := by omega
      have hq1 : (x : Int).tmod 2001 = (q : Int) := by rw [Int.tmod_eq_emod_of_nonneg (by omega)]; omega
      have hq2 : (x : Int) % 2001 = (q : Int) := by omega
      have hq3 : IntKind.u16.wrap (q : Int) = (q : Int) := by
        rw [show IntKind.u16.wrap (q : Int) = (q : Int) % 65536 from rfl]; omega
      have hq4 : IntKind.i64.wrap (q : Int) = (q : Int) := IntWalk.i64_in _ (by omega)
      have HA := Lib.hid (inflate_res w a cap q bs hr (by omega) (by omega))
      have hN := resN_le bs q
      obtain ⟨S, hS⟩ : ∃ S, S = endI bs q := ⟨_, rfl⟩
      have HB := Lib.hid (fun (he : S.e = 0) => inflate_same bs ms q (by rw [← hS]; exact he))
      rw [← hS] at HA HB hN
      obtain ⟨N, hNN⟩ : ∃ N, N = resN S := ⟨_, rfl⟩
      rw [← hNN] at hN HB
      have HNN := Lib.hid hNN
      have HIR := Lib.hid (show ∀ W e W', InfRes S W e W' → ∃ v B, e = .returned (.tuple #[v, .int .i64 (N : Nat), .int .i64 S.e]) ∧ W'.ownsRow B 5 1 v (resO S).length ((resO S).map u8C) ∧ Below W.heap.size W W' from fun W e W' h => by rw [hNN]; exact h)
      have hd3 : decide ((N : Int) < 0) = false := decide_eq_false (by omega)
      have hd4 : decide ((bs.length : Int) < (N : Int)) = false := decide_eq_false (by omega)
      have hd4n : decide (bs.length < N) = false := decide_eq_false (by omega)
      clear hr hr2 hS hq hNN
      go_enter Try.func5, Try.ntmps5
      go_wp2_with fail
      refine HA.out.mono ?_
      intro e w1 hres
      obtain ⟨v1, B1, rfl, hO1, hb1⟩ := HIR.out _ _ _ hres
      obtain ⟨a1, c1, rfl, -, -⟩ := Row.of_owns hO1
      have HO1 := Lib.hid hO1
      have HB1 := Lib.hid hb1
      clear hO1 hb1 hres
      by_cases he : S.e = 0
      · have HE := Lib.hid he
        have HP := Lib.hid (show Row w1 1 a N cap ((bs.take N).map u8C) from by rw [List.map_take]; exact (row_pre HR.out N hN).mono HB1.out)
        have HM := Lib.hid (HR2.out.mono HB1.out)
        have hNc : N ≤ cap := Nat.le_trans hN HR.out.2.1
        have HO := Lib.hid (World.ownsRow_lit (base := w1.heap.size) (e := 5) (size := 1) w1 #[] 0 (Nat.le_refl _) (by simp [maxLen]) (by simp))
        have hcase : (a = none ∧ bs = [] ∧ cap = 0 ∧ N = 0) ∨ ∃ ad, a = some ad := by
          cases a with
          | none =>
            have h1 := HR.out.2.2.2.1 rfl
            have h2 := HR.out.2.1
            have h3 : bs.length = 0 := by omega
            exact .inl ⟨rfl, List.eq_nil_of_length_eq_zero h3, h1, by omega⟩
          | some ad => exact .inr ⟨ad, rfl⟩
        have hN3 : N ≤ 300 := by omega
        rcases hcase with ⟨rfl, rfl, rfl, rfl⟩ | ⟨ad, rfl⟩
        · go_wp2_with (first
            | (at_builtin; refine append_row EByte rfl (.tmp 49) (.tmp 50) rfl w1.heap.size (.slice a5 0 c5) 0 _ rfl HO2.out a2 ms.length cap2 (ms.map u8C) rfl (HM.out.mono HB2.out) (one_u8 _) (by unfold maxLen; omega) (by omega) HB2.out.size ?_; intro v3 w3 hO3 hg3 hn3; obtain ⟨a6, c6, hv6, -, -⟩ := Row.of_owns hO3; subst hv6; obtain ⟨K, hK⟩ : ∃ K, K = 0 + ms.length := ⟨_, rfl⟩; rw [← hK] at hO3 ⊢; have HO3 := Lib.hid hO3; have HK := Lib.hid hK; have HB3 := Lib.hid (below_grown HB2.out hg3 HB2.out.size (fun k hk => (HO2.out.lt k hk).1)); clear hO3 hg3 hn3 hK)
            | (at_builtin; refine append_row EByte rfl (.tmp 45) (.tmp 48) rfl w1.heap.size (.slice (some ⟨w1.heap.size, 0, none⟩) 0 0) 0 _ rfl HO.out _ 0 _ _ rfl (HP.out.mono (belowA w1 _)) (one_u8 _) (by unfold maxLen; omega) (by omega) (by rw [sizeA]; omega) ?_; intro v2 w2 hO2 hg2 hn2; rw [Nat.zero_add, List.nil_append] at hO2; obtain ⟨a5, c5, hv5, -, -⟩ := Row.of_owns hO2; subst hv5; have HO2 := Lib.hid hO2; have HB2 := Lib.hid (below_grown (belowA w1 _) hg2 (by rw [sizeA]; omega) (fun k hk => by simp [Value.ownBlock] at hk; omega)); clear hO2 hg2 hn2))
          refine (HB.out HE.out w3 a6 c6 K HK.out (by have h := (Row.of_own HO3.out).2; rwa [← List.map_append] at h) (by have := HK.out; omega) (by omega)).mono ?_
          intro e w4 hres
          obtain ⟨v4, B4, rfl, hO4, hb4⟩ := HIR.out _ _ _ hres
          obtain ⟨a7, c7, rfl, -, -⟩ := Row.of_owns hO4
          have hcx := conv_own (ownsRow_keep HO1.out (HB3.out.trans (hb4.mono HB3.out.size)))
          have hcy := conv_own hO4
          have HB4 := Lib.hid (HB1.out.trans ((HB3.out.trans (hb4.mono HB3.out.size)).mono HB1.out.size))
          clear hO4 hb4 hres
          go_wp2_with fail
          refine (HW.out w4).mono ?_
          rintro e w5 ⟨rfl, hb⟩
          have HB5 := Lib.hid (HB4.out.trans (hb.mono HB4.out.size))
          clear hb
          go_wp2
          go_ret
          exact ⟨rfl, HB5.out⟩
        · go_wp2_with (first
            | (at_builtin; refine append_row EByte rfl (.tmp 49) (.tmp 50) rfl w1.heap.size (.slice a5 N c5) N _ rfl HO2.out a2 ms.length cap2 (ms.map u8C) rfl (HM.out.mono HB2.out) (one_u8 _) (by unfold maxLen; omega) (by omega) HB2.out.size ?_; intro v3 w3 hO3 hg3 hn3; obtain ⟨a6, c6, hv6, -, -⟩ := Row.of_owns hO3; subst hv6; obtain ⟨K, hK⟩ : ∃ K, K = N + ms.length := ⟨_, rfl⟩; rw [← hK] at hO3 ⊢; have HO3 := Lib.hid hO3; have HK := Lib.hid hK; have HB3 := Lib.hid (below_grown HB2.out hg3 HB2.out.size (fun k hk => (HO2.out.lt k hk).1)); clear hO3 hg3 hn3 hK)
            | (at_builtin; refine append_row EByte rfl (.tmp 45) (.tmp 48) rfl w1.heap.size (.slice (some ⟨w1.heap.size, 0, none⟩) 0 0) 0 _ rfl HO.out _ N _ _ rfl (HP.out.mono (belowA w1 _)) (one_u8 _) (by unfold maxLen; omega) (by omega) (by rw [sizeA]; omega) ?_; intro v2 w2 hO2 hg2 hn2; rw [Nat.zero_add, List.nil_append] at hO2; obtain ⟨a5, c5, hv5, -, -⟩ := Row.of_owns hO2; subst hv5; have HO2 := Lib.hid hO2; have HB2 := Lib.hid (below_grown (belowA w1 _) hg2 (by rw [sizeA]; omega) (fun k hk => by simp [Value.ownBlock] at hk; omega)); clear hO2 hg2 hn2))
          refine (HB.out HE.out w3 a6 c6 K HK.out (by have h := (Row.of_own HO3.out).2; rwa [← List.map_append] at h) (by have := HK.out; omega) (by omega)).mono ?_
          intro e w4 hres
          obtain ⟨v4, B4, rfl, hO4, hb4⟩ := HIR.out _ _ _ hres
          obtain ⟨a7, c7, rfl, -, -⟩ := Row.of_owns hO4
          have hcx := conv_own (ownsRow_keep HO1.out (HB3.out.trans (hb4.mono HB3.out.size)))
          have hcy := conv_own hO4
          have HB4 := Lib.hid (HB1.out.trans ((HB3.out.trans (hb4.mono HB3.out.size)).mono HB1.out.size))
          clear hO4 hb4 hres
          go_wp2_with fail
          refine (HW.out w4).mono ?_
          rintro e w5 ⟨rfl, hb⟩
          have HB5 := Lib.hid (HB4.out.trans (hb.mono HB4.out.size))
          clear hb
          go_wp2
          go_ret
          exact ⟨rfl, HB5.out⟩
      · have heb : (S.e == 0) = false := by rw [beq_eq_false_iff_ne]; exact he
        go_wp2_with fail
        refine (HW.out w1).mono ?_
        rintro e w3 ⟨rfl, hb⟩
        have HB3 := Lib.hid (HB1.out.trans (hb.mono HB1.out.size))
        clear hb
        go_wp2
        go_ret
        exact ⟨rfl, HB3.out⟩
end Go.Proofs.Ytlmdgaajkjbpgaa
