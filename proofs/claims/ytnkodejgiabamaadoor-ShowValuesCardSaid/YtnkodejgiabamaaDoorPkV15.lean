/-
  Our texts Sr4 to LawSApart, in one.
-/
import Derived.Test.YtnkodejgiabamaaDoorPkV14
import Derived.Deep.RegionHeld3
/-
  The document's form of a value that may be.
-/
namespace Go.Proofs.YtnkodejgiabamaaDoor
open Go.RowKit

def FormW (v : PV) : Prop := ∀ (sl : Value) (w : World), IsV w anyF v sl → Calls Tryd.prog 26 #[pvA v sl] w fun e w' => e = .returned (.string (mkB (formV v))) ∧ Below w.heap.size w w'

set_option maxRecDepth 8000 in
set_option maxHeartbeats 4000000 in
theorem rform_rowS {k : Int} {l : List PV} (hk : k = 6 ∨ k = 7) (hx : ∀ (j : Nat) (x : PV), l[j]? = some x → FormW x) (hl : (formV (.mk k 0 [] l)).length ≤ 1000000) : FormW (.mk k 0 [] l) := by
  intro sl w hv
  obtain ⟨a1, cap1, e1, g1, g2, g3⟩ := hv.len
  subst e1
  have HA := Lib.hid hv
  have HX := Lib.hid hx
  have m1 : (l.length : Int) ≤ 9223372036854775807 := by have g1' : l.length ≤ cap1 := g1; unfold maxLen at g2; omega
  obtain ⟨R, hR⟩ : ∃ R, R = mkB (formV (.mk k 0 [] l)) := ⟨_, rfl⟩
  rw [← hR]
  have hrow : (rowF l).length ≤ 1000000 := by
    rcases hk with rfl | rfl
    · simp [formV] at hl; omega
    · simp [formV] at hl; omega
  have HLE := Lib.hid (fun (j : Nat) => Nat.le_trans (rowF_le (l := l) (k := j)) hrow)
  have h6 : k = 6 → R = ⟨#[91]⟩ ++ mkB (rowF l) ++ ⟨#[93]⟩ := by
    rintro rfl
    rw [hR, show (⟨#[91]⟩ : ByteArray) = mkB [91] from rfl, show (⟨#[93]⟩ : ByteArray) = mkB [93] from rfl, mkB_app, mkB_app]
    simp [formV]
  have h7 : k = 7 → R = ⟨#[60, 60]⟩ ++ mkB (rowF l) ++ ⟨#[62, 62]⟩ := by
    rintro rfl
    rw [hR, show (⟨#[60, 60]⟩ : ByteArray) = mkB [60, 60] from rfl, show (⟨#[62, 62]⟩ : ByteArray) = mkB [62, 62] from rfl, mkB_app, mkB_app]
    simp [formV]
  have H6 := Lib.hid h6
  have H7 := Lib.hid h7
  simp only [PV.l] at g1
  simp only [pvA, PV.kind, PV.n, PV.s, PV.l, show mkB [] = ⟨#[]⟩ from rfl]
  have HKK := Lib.hid hk
  have e0 : (k == 0) = false := by rw [beq_eq_false_iff_ne]; omega
  have e1 : (k == 1) = false := by rw [beq_eq_false_iff_ne]; omega
  have e2 : (k == 2) = false := by rw [beq_eq_false_iff_ne]; omega
  have e3 : (k == 3) = false := by rw [beq_eq_false_iff_ne]; omega
  have e4 : (k == 4) = false := by rw [beq_eq_false_iff_ne]; omega
  have e5 : (k == 5) = false := by rw [beq_eq_false_iff_ne]; omega
  have e8 : (k == 8) = false := by rw [beq_eq_false_iff_ne]; omega
  clear hv hx hR hl hrow h6 h7 g2 g3 hk
  go_enter Tryd.func26, Tryd.ntmps26
  obtain ⟨B, hB⟩ : ∃ B, B = w.heap.size := ⟨_, rfl⟩
  have HX1 := Lib.hid (heapA_new (w := w) (b := B) (.cells #[.int .i64 k, .int .i64 0, .string ⟨#[]⟩, .slice a1 l.length cap1] 24) hB)
  have HW := Lib.hid (belowA w (.cells #[.int .i64 k, .int .i64 0, .string ⟨#[]⟩, .slice a1 l.length cap1] 24))
  go_upto_region 1 with fail
  rw [← hB]
  clear hB
  generalize w.alloc _ = W1 at *
  obtain ⟨⟨c0, c1, c2, c3⟩, -⟩ := cells4 HX1.out
  go_wp2
  clear c0 c1 c2 c3
  go_loopw [9, 10] (fun vo vj wr => ∃ (j : Nat) (O : ByteArray), vj = .int .i64 j ∧ vo = .string O ∧ j ≤ l.length ∧ O.size ≤ 1000000 ∧ Hid (O = mkB (rowF (l.take j))) ∧ Hid (Below W1.heap.size W1 wr)) (fun _ vj _ => l.length - (intOf vj).toNat)
  case atStart => exact ⟨0, _, rfl, rfl, Nat.zero_le _, by decide, Lib.hid rfl, Below.refl _ _⟩
  case round =>
    obtain ⟨j, O, rfl, rfl, hj, hO, HO, HWR1⟩ := hrel
    have HWR := Lib.hid (HW.out.trans (HWR1.out.mono HW.out.size))
    obtain ⟨⟨c0, c1, c2, c3⟩, -⟩ := cells4 (block_keep HWR1.out HX1.out)
    by_cases q1 : j < l.length
    case neg =>
      have hd1 : decide (j < l.length) = false := decide_eq_false q1
      have hd2 : decide ((j : Int) < (l.length : Int)) = false := decide_eq_false (by omega)
      have hq2 : ¬ (j : Int) < (l.length : Int) := by omega
      have hoo : O = mkB (rowF l) := by rw [HO.out, List.take_of_length_le (by omega)]
      have hO2 : 2 + O.size ≤ 9223372036854775807 := by omega
      by_cases hk : k = 6
      · have HE := Lib.hid ((H6.out hk).trans (by rw [← hoo]))
        have e6 : (k == 6) = true := by rw [beq_iff_eq]; exact hk
        clear H6 H7 HA HX HO hoo HLE HKK hk
        go_wp2
        go_ret
        exact ⟨by rw [HE.out]; rfl, HWR.out⟩
      · have hk7 : k = 7 := by have := HKK.out; omega
        have HE := Lib.hid ((H7.out hk7).trans (by rw [← hoo]))
        have e6 : (k == 6) = false := by rw [beq_eq_false_iff_ne]; exact hk
        clear H6 H7 HA HX HO hoo HLE HKK hk hk7
        go_wp2
        go_ret
        exact ⟨by rw [HE.out]; rfl, HWR.out⟩
    have hd1 : decide (j < l.length) = true := decide_eq_true q1
    have hd2 : decide ((j : Int) < (l.length : Int)) = true := decide_eq_true (by omega)
    obtain ⟨x, hx⟩ : ∃ x, l[j]? = some x := ⟨_, List.getElem?_eq_getElem q1⟩
    obtain ⟨-, -, -, b1, o1, rfl, -, -, hax⟩ := (HA.out.below HWR.out).at (by simp only [PV.l]; omega)
    simp only [PV.l] at hax
    obtain ⟨sx, hsx, x0, x1, x2, x3⟩ := hax j x hx
    obtain ⟨sa', sc', rfl, -, -, -⟩ := hsx.len
    have HCALL := Lib.hid (HX.out j x hx _ wr hsx)
    simp only [pvA] at HCALL
    have hT := rowF_take hx
    have HL2 := Lib.hid (HLE.out (j + 1))
    have hfx : (mkB (formV x)).size ≤ 1000000 := by
      rw [mkB_size]
      have := HL2.out
      rw [hT, List.length_append] at this
      split at this
      · omega
      · simp at this; omega
    have HT := Lib.hid hT
    clear hsx hax hx HA HX HLE hT
    have hjl : (0 : Int) ≤ (j : Int) := by omega
    have hji : (j : Int) < (l.length : Int) := by omega
    have hjw : IntKind.i64.wrap ((j : Int) + 1) = (j : Int) + 1 := IntWalk.i64_in _ (by omega)
    obtain ⟨fx, hfxe⟩ : ∃ fx, fx = mkB (formV x) := ⟨_, rfl⟩
    rw [← hfxe] at HCALL hfx
    have HFX := Lib.hid hfxe
    clear hfxe
    have hos : O.size + 1 + fx.size ≤ 9223372036854775807 := by omega
    generalize x.kind = xk at *
    generalize x.n = xn at *
    generalize mkB x.s = xs at *
    generalize x.l.length = xl at *
    by_cases j0 : j = 0
    · have hn := HT.out
      rw [if_pos j0] at hn
      have hj3 : decide (0 < j) = false := decide_eq_false (by omega)
      have hj4 : decide ((0 : Int) < (j : Int)) = false := decide_eq_false (by omega)
      have HN := Lib.hid (show O ++ fx = mkB (rowF (l.take (j + 1))) by rw [hn, HO.out, HFX.out, mkB_app])
      have HNL := Lib.hid (show (O ++ fx).size ≤ 1000000 by rw [HN.out, mkB_size]; exact HL2.out)
      clear HT HO HFX HL2 hn H6 H7 HKK j0
      go_wp2_with fail
      refine HCALL.out.mono ?_
      rintro e w5 ⟨rfl, hb5⟩
      have HW5 := Lib.hid (HWR1.out.trans (hb5.mono HWR1.out.size))
      clear hb5 x0 x1 x2 x3 HCALL c0 c1 c2 c3
      go_wp2
      go_roundw
      case rel => exact ⟨j + 1, _, by go_num, rfl, by omega, HNL.out, HN, HW5⟩
      case measure => simp [intOf]; omega
    · have hn := HT.out
      rw [if_neg j0] at hn
      have HN := Lib.hid (show O ++ ⟨#[32]⟩ ++ fx = mkB (rowF (l.take (j + 1))) by
        rw [hn, HO.out, HFX.out, show (⟨#[32]⟩ : ByteArray) = mkB [32] from rfl, mkB_app, mkB_app]; simp)
      have HNL := Lib.hid (show (O ++ ⟨#[32]⟩ ++ fx).size ≤ 1000000 by rw [HN.out, mkB_size]; exact HL2.out)
      have hj3 : decide (0 < j) = true := decide_eq_true (by omega)
      have hj4 : decide ((0 : Int) < (j : Int)) = true := decide_eq_true (by omega)
      clear HT HO HFX HL2 hn H6 H7 HKK
      go_wp2_with fail
      refine HCALL.out.mono ?_
      rintro e w5 ⟨rfl, hb5⟩
      have HW5 := Lib.hid (HWR1.out.trans (hb5.mono HWR1.out.size))
      clear hb5 x0 x1 x2 x3 HCALL c0 c1 c2 c3
      go_wp2
      go_roundw
      case rel => exact ⟨j + 1, _, by go_num, rfl, by omega, HNL.out, HN, HW5⟩
      case measure => simp [intOf]; omega

set_option maxRecDepth 8000 in
set_option maxHeartbeats 4000000 in
theorem rform_leaf {v : PV} (hf : ownC v = 0) (hk : ¬ (v.kind = 6 ∨ v.kind = 7)) (ht : v.s.length ≤ 300) : FormW v := by
  intro sl w hv
  obtain ⟨a1, cap1, e1, g1, g2, g3⟩ := hv.len
  subst e1
  have m1 : (v.l.length : Int) ≤ 9223372036854775807 := by unfold maxLen at g2; omega
  have HB := Lib.hid (belowA w (.cells #[.int .i64 v.kind, .int .i64 v.n, .string (mkB v.s), .slice a1 v.l.length cap1] 24))
  have HX1 := Lib.hid (heapA_new (w := w) (.cells #[.int .i64 v.kind, .int .i64 v.n, .string (mkB v.s), .slice a1 v.l.length cap1] 24) rfl)
  have hc := own_casesS hf
  clear hv hf g1 g2 g3
  obtain ⟨k, n, s, l⟩ := v
  simp only [PV.kind, PV.n, PV.s, PV.l, pvA] at hc m1 HB HX1 ht hk ⊢
  rcases hc with ⟨rfl, rfl, rfl, rfl⟩ | ⟨rfl, hn, rfl, rfl⟩ | ⟨hk2, hn, rfl, rfl⟩ | ⟨rfl, rfl, rfl⟩ | ⟨rfl, hs, rfl, rfl⟩ | ⟨rfl, rfl, rfl⟩ | ⟨rfl, rfl, rfl⟩ | ⟨rfl, ⟨hn1, hn2⟩, rfl, rfl⟩
  · simp only [List.length_nil, show mkB [] = ⟨#[]⟩ from rfl] at *
    rw [show mkB (formV (.mk 0 0 [] [])) = ⟨#[110, 117, 108, 108]⟩ by simp [formV, mkB]]
    clear hk m1 ht
    go_enter Tryd.func26, Tryd.ntmps26
    go_wp2
    go_ret
    exact ⟨rfl, HB.out⟩
  · simp only [List.length_nil, show mkB [] = ⟨#[]⟩ from rfl] at *
    clear hk m1 ht
    rcases hn with rfl | rfl
    · rw [show mkB (formV (.mk 1 0 [] [])) = ⟨#[102, 97, 108, 115, 101]⟩ by simp [formV, mkB]]
      go_enter Tryd.func26, Tryd.ntmps26
      go_wp2
      go_ret
      exact ⟨rfl, HB.out⟩
    · rw [show mkB (formV (.mk 1 1 [] [])) = ⟨#[116, 114, 117, 101]⟩ by simp [formV, mkB]]
      go_enter Tryd.func26, Tryd.ntmps26
      go_wp2
      go_ret
      exact ⟨rfl, HB.out⟩
  · have hfv : mkB (formV (.mk k n [] [])) = mkB (printV k n true).1 := by
      simp only [formV]
      rw [if_neg (by omega), if_neg (by omega), if_pos hk2]
    rw [hfv]
    have HP := Lib.hid (fun W => rprint_any k n ⟨#[]⟩ a1 0 cap1 W (by decide))
    unfold PrintEnd at HP
    rw [show bareV ⟨#[]⟩ 0 = true from rfl] at HP
    simp only [List.length_nil, show mkB [] = ⟨#[]⟩ from rfl] at *
    clear hk m1 ht hfv hn
    generalize hpv : printV k n true = p at *
    clear hpv
    obtain ⟨t, er⟩ := p
    rcases hk2 with rfl | rfl
    · go_enter Tryd.func26, Tryd.ntmps26
      go_wp2_with (go_at_call 44; refine (HP.out _).mono ?_; rintro e w1 ⟨rfl, hb1⟩)
      go_ret
      exact ⟨rfl, HB.out.trans (hb1.mono HB.out.size)⟩
    · go_enter Tryd.func26, Tryd.ntmps26
      go_wp2_with (go_at_call 44; refine (HP.out _).mono ?_; rintro e w1 ⟨rfl, hb1⟩)
      go_ret
      exact ⟨rfl, HB.out.trans (hb1.mono HB.out.size)⟩
  · have HT := Lib.hid (fun W => rtext13 s W (by omega))
    rw [show formV (.mk 4 0 s []) = textF s by simp [formV]]
    simp only [List.length_nil] at *
    clear hk m1 ht
    generalize mkB (textF s) = T at *
    generalize mkB s = S at *
    go_enter Tryd.func26, Tryd.ntmps26
    go_wp2_with (go_at_call 15; refine (HT.out _).mono ?_; rintro e w1 ⟨rfl, hb1⟩)
    go_ret
    exact ⟨rfl, HB.out.trans (hb1.mono HB.out.size)⟩
  · have HT := Lib.hid (fun W => rname13 s W (by omega))
    have hnc : nameC s = true := by unfold nameC; simp [hs.2]; omega
    rw [showV_name, if_pos hnc] at HT
    rw [show formV (.mk 5 0 s []) = 47 :: nameF s by simp [formV]]
    simp only [List.length_nil] at *
    clear hk m1 ht hs hnc
    generalize mkB (47 :: nameF s) = T at *
    generalize mkB s = S at *
    go_enter Tryd.func26, Tryd.ntmps26
    go_wp2_with (go_at_call 13; refine (HT.out _).mono ?_; rintro e w1 ⟨rfl, hb1⟩)
    go_ret
    exact ⟨rfl, HB.out.trans (hb1.mono HB.out.size)⟩
  · exact absurd (.inl rfl) hk
  · exact absurd (.inr rfl) hk
  · have HP := Lib.hid (fun W => rprint_any 2 n ⟨#[]⟩ none 0 0 W (by decide))
    unfold PrintEnd at HP
    rw [show bareV ⟨#[]⟩ 0 = true from rfl] at HP
    have hpl := print_lenS 2 n true
    have hfv : mkB (formV (.mk 8 n [] [])) = mkB (printV 2 n true).1 ++ ⟨#[32, 48, 32, 82]⟩ := by
      rw [show (⟨#[32, 48, 32, 82]⟩ : ByteArray) = mkB [32, 48, 32, 82] from rfl, mkB_app]
      simp [formV]
    rw [hfv]
    simp only [List.length_nil, show mkB [] = ⟨#[]⟩ from rfl] at *
    generalize hpv : printV 2 n true = p at *
    obtain ⟨t, er⟩ := p
    simp only at hpl
    clear hk m1 ht hfv hn1 hn2 hpv
    have hsz : (mkB t).size ≤ 40 := by rw [mkB_size]; exact hpl
    have HP2 : Hid (∀ W : World, Calls Tryd.prog 44 #[.agg #[.int .i64 2, .int .i64 n, .string ⟨#[]⟩, .slice none 0 0]] W fun e w' => e = .returned (.tuple #[.string (mkB t), .int .i64 er]) ∧ Below W.heap.size W w') := HP
    clear HP hpl
    generalize mkB t = T at *
    go_enter Tryd.func26, Tryd.ntmps26
    go_wp2_with (go_at_call 44; refine (HP2.out _).mono ?_; rintro e w1 ⟨rfl, hb1⟩)
    go_ret
    exact ⟨rfl, HB.out.trans (hb1.mono HB.out.size)⟩

theorem rform_any : ∀ (N : Nat) (v : PV), SizeOf.sizeOf v ≤ N → firstC v = 0 → txV v = true → (formV v).length ≤ 1000000 → FormW v := by
  intro N
  induction N with
  | zero => intro v h; obtain ⟨_, _, _, _⟩ := v; simp at h
  | succ N ih =>
  intro v hN hf ht hl
  by_cases hk : v.kind = 6 ∨ v.kind = 7
  · have hx : ∀ (j : Nat) (x : PV), v.l[j]? = some x → FormW x := fun j x hx =>
      ih x (by have := sizeOf_mem hx; omega) (first_memS hf hk hx) (tx_subS ht hx) (by
        have h1 := rowF_take hx
        have h2 : (rowF (v.l.take (j + 1))).length ≤ (rowF v.l).length := rowF_le
        have h3 : (rowF v.l).length ≤ (formV v).length := by
          obtain ⟨k, n, s, l⟩ := v
          simp only [PV.kind] at hk
          simp only [PV.l]
          rcases hk with rfl | rfl
          · simp [formV]; omega
          · simp [formV]; omega
        rw [h1, List.length_append] at h2
        split at h2
        · omega
        · simp at h2; omega)
    have hc := own_casesS (firstC_ownS hf)
    obtain ⟨k, n, s, l⟩ := v
    simp only [PV.kind, PV.n, PV.s, PV.l] at hc hk hx
    have hns : n = 0 ∧ s = [] := by
      rcases hc with ⟨h, -⟩ | ⟨h, -⟩ | ⟨h, -⟩ | ⟨h, -⟩ | ⟨h, -⟩ | ⟨h, h2, h3⟩ | ⟨h, h2, h3⟩ | ⟨h, -⟩
      · omega
      · omega
      · omega
      · omega
      · omega
      · exact ⟨h2, h3⟩
      · exact ⟨h2, h3⟩
      · omega
    obtain ⟨rfl, rfl⟩ := hns
    exact rform_rowS hk hx hl
  · exact rform_leaf (firstC_ownS hf) hk (tx_sS ht)

set_option maxRecDepth 8000 in
set_option maxHeartbeats 4000000 in
theorem rvalue13 {v : PV} {sl : Value} {w : World} (hv : IsV w anyF v sl) (ht : txV v = true) (hd : depthV v ≤ 1000) (hl : (formV v).length ≤ 1000000) :
    Calls Tryd.prog 9 #[pvA v sl] w fun e w' => e = .returned (.tuple #[.string (mkB (showV v).1), .int .i64 (showV v).2]) ∧ Below w.heap.size w w' := by
  have HC := Lib.hid (fun (W : World) (h : Below w.heap.size w W) => rcheck11_any (hv.below h) ht hd)
  have HF := Lib.hid (fun (h0 : checkC v = 0) (W : World) (h : Below w.heap.size w W) => rform_any _ v (Nat.le_refl _) (by unfold checkC at h0; split at h0; cases h0; exact h0) ht hl sl W (hv.below h))
  obtain ⟨R, hR⟩ : ∃ R, R = showV v := ⟨_, rfl⟩
  rw [← hR]
  unfold showV at hR
  obtain ⟨a1, cap1, rfl, -, -, -⟩ := hv.len
  unfold pvA at HC HF ⊢
  have HB := Lib.hid (belowA w (.cells #[.int .i64 v.kind, .int .i64 v.n, .string (mkB v.s), .slice a1 v.l.length cap1] 24))
  have HX1 := Lib.hid (heapA_new (w := w) (.cells #[.int .i64 v.kind, .int .i64 v.n, .string (mkB v.s), .slice a1 v.l.length cap1] 24) rfl)
  clear hv ht hd hl
  generalize checkC v = cc at *
  generalize formV v = fv at *
  generalize v.kind = k0 at *
  generalize v.n = n0 at *
  generalize mkB v.s = s0 at *
  generalize v.l.length = l0 at *
  by_cases hc : cc = 0
  · subst hc
    rw [if_neg (by simp)] at hR
    subst hR
    simp only
    have HF2 := Lib.hid (HF.out rfl)
    clear HF
    generalize mkB fv = F at *
    go_enter Tryd.func9, Tryd.ntmps9
    go_wp2_with (first | (go_at_call 25; refine (HC.out _ HB.out).mono ?_; rintro e w1 ⟨rfl, hb1⟩; have HB1 := Lib.hid (HB.out.trans (hb1.mono HB.out.size)); obtain ⟨⟨c0, c1, c2, c3⟩, -⟩ := cells4 (block_keep hb1 HX1.out)) | (go_at_call 26; refine (HF2.out _ HB1.out).mono ?_; rintro e w2 ⟨rfl, hb2⟩))
    go_ret2
    exact ⟨rfl, HB1.out.trans (hb2.mono HB1.out.size)⟩
  · have en : (cc == 0) = false := by rw [beq_eq_false_iff_ne]; exact hc
    have en' : (cc != 0) = true := by simp only [bne, en, Bool.not_false]
    rw [if_pos hc] at hR
    subst hR
    simp only
    clear hc HF
    go_enter Tryd.func9, Tryd.ntmps9
    go_wp2_with (go_at_call 25; refine (HC.out _ HB.out).mono ?_; rintro e w1 ⟨rfl, hb1⟩; have HB1 := Lib.hid (HB.out.trans (hb1.mono HB.out.size)); obtain ⟨⟨c0, c1, c2, c3⟩, -⟩ := cells4 (block_keep hb1 HX1.out))
    go_ret2
    exact ⟨rfl, HB1.out⟩
end Go.Proofs.YtnkodejgiabamaaDoor
/-
  Is a value small? Walked.
-/
namespace Go.Proofs.YtnkodejgiabamaaDoor
open Go.RowKit

set_option maxRecDepth 8000 in
set_option maxHeartbeats 4000000 in
theorem small_any {v : PV} {sl : Value} {w : World} (hv : IsV w anyF v sl) :
    Calls Tryd.prog 6 #[pvA v sl] w fun e w' => e = .returned (.bool (smallV v)) ∧ Below w.heap.size w w' := by
  have HF := Lib.hid (fun (W : World) (h : Below w.heap.size w W) => few_any _ v sl W 300 (Nat.le_refl _) (by decide) (by decide) (hv.below h))
  have HT := Lib.hid (fun (W : World) (h : Below w.heap.size w W) => texts_any _ v sl W (Nat.le_refl _) (hv.below h))
  obtain ⟨R, hR⟩ : ∃ R, R = smallV v := ⟨_, rfl⟩
  rw [← hR]
  unfold smallV at hR
  obtain ⟨a1, cap1, rfl, -, -, -⟩ := hv.len
  unfold pvA at *
  have hb := (fewV_bd v 300 (by decide))
  have hb1 : -1 ≤ fewV v 300 := hb.1
  have hb2 : fewV v 300 ≤ 300 := hb.2.1
  clear hv hb
  generalize txV v = tx at *
  generalize fewV v 300 = m2 at *
  generalize v.kind = k0 at *
  generalize v.n = n0 at *
  generalize mkB v.s = s0 at *
  generalize v.l.length = l0 at *
  go_enter Tryd.func6, Tryd.ntmps6
  obtain ⟨B, hB⟩ : ∃ B, B = w.heap.size := ⟨_, rfl⟩
  have HX1 := Lib.hid (heapA_new (w := w) (b := B) (.cells #[.int .i64 k0, .int .i64 n0, .string s0, .slice a1 l0 cap1] 24) hB)
  have HW := Lib.hid (belowA w (.cells #[.int .i64 k0, .int .i64 n0, .string s0, .slice a1 l0 cap1] 24))
  go_upto_region 1 with fail
  rw [← hB]
  clear hB
  generalize w.alloc _ = W1 at *
  obtain ⟨⟨c0, c1, c2, c3⟩, -⟩ := cells4 HX1.out
  have HC1 := Lib.hid (HF.out W1 HW.out)
  go_wp2_with fail
  refine HC1.out.mono ?_
  rintro e w2 ⟨rfl, hb⟩
  have HW2 := Lib.hid (HW.out.trans (hb.mono HW.out.size))
  obtain ⟨⟨d0, d1, d2, d3⟩, -⟩ := cells4 (block_keep hb HX1.out)
  have HC2 := Lib.hid (HT.out w2 HW2.out)
  clear hb c0 c1 c2 c3 HF HT HC1 HX1
  by_cases q : 0 ≤ m2
  · have hd : decide (0 ≤ m2) = true := decide_eq_true q
    rw [hd, Bool.true_and] at hR
    subst hR
    go_wp2_with fail
    refine HC2.out.mono ?_
    rintro e w3 ⟨rfl, hb⟩
    have HW3 := Lib.hid (HW2.out.trans (hb.mono HW2.out.size))
    clear hb d0 d1 d2 d3 HC2
    go_wp2
    go_ret
    exact ⟨rfl, HW3.out⟩
  · have hd : decide (0 ≤ m2) = false := decide_eq_false q
    rw [hd, Bool.false_and] at hR
    subst hR
    clear HC2
    go_wp2
    go_ret
    exact ⟨rfl, HW2.out⟩
end Go.Proofs.YtnkodejgiabamaaDoor
/-
  A dictionary of one name, put together: what works asks for.
-/
namespace Go.Proofs.YtnkodejgiabamaaDoor
open Go.RowKit

theorem EPVs : ElemT Tryd.prog 22 24 (.agg #[.int .i64 0, .int .i64 0, .string ⟨#[]⟩, .slice none 0 0]) 4 56 := ⟨Tryd.underlying22, by kernel_rfl, rfl, by omega⟩
set_option maxRecDepth 8000 in
set_option maxHeartbeats 4000000 in
theorem vfind_nil (key : ByteArray) (w : World) : Calls Tryd.prog 49 #[.agg #[.int .i64 7, .int .i64 0, .string ⟨#[]⟩, .slice none 0 0], .string key] w fun e w' => e = .returned (.int .i64 (-1)) ∧ Below w.heap.size w w' := by
  have HW := Lib.hid (belowA w (.cells #[.int .i64 7, .int .i64 0, .string ⟨#[]⟩, .slice none 0 0] 24))
  have HX := Lib.hid (heapA_new (w := w) (b := w.heap.size) (.cells #[.int .i64 7, .int .i64 0, .string ⟨#[]⟩, .slice none 0 0] 24) rfl)
  go_enter Tryd.func49, Tryd.ntmps49
  go_upto_region 1 with fail
  obtain ⟨B, hB⟩ : ∃ B, B = w.heap.size := ⟨_, rfl⟩
  rw [← hB] at HX ⊢
  clear hB
  generalize w.alloc _ = W1 at *
  obtain ⟨⟨c0, c1, c2, c3⟩, -⟩ := cells4 HX.out
  go_wp2
  go_loopw [5] (fun vk wr => vk = .int .i64 0 ∧ wr = W1) (fun _ _ => 0)
  case atStart => exact ⟨rfl, rfl⟩
  case round =>
    obtain ⟨rfl, hwr⟩ := hrel
    rw [hwr]
    clear hwr
    go_wp2
    go_ret
    exact ⟨rfl, HW.out⟩
set_option maxRecDepth 8000 in
set_option maxHeartbeats 4000000 in
theorem clone_nilS (w : World) : Calls Tryd.prog 48 #[.slice none 0 0] w fun e w' => e = .returned (.slice none 0 0) ∧ w = w' := by
  have hnil := fun W : World => Lib.run_eql_slice_nil (P := Tryd.prog) W 22 24 none 0 0 0 0 Tryd.underlying22
  go_enter Tryd.func48, Tryd.ntmps48
  go_wp2
  go_ret
  exact ⟨rfl, rfl⟩
set_option maxRecDepth 8000 in
set_option maxHeartbeats 4000000 in
theorem insert_nilS {w : World} {a : Option Addr} {cs : List Value} (hr : Row w 4 a 2 2 cs) (h1 : ∀ u ∈ cs, u.oneCell' = true) :
    Calls Tryd.prog 51 #[.slice none 0 0, .int .i64 0, .slice a 2 2] w fun e w' => ∃ v, e = .returned v ∧ w'.ownsRow w.heap.size 24 4 v 2 cs ∧ Below w.heap.size w w' := by
  have HR := Lib.hid hr
  have H1 := Lib.hid h1
  clear hr h1
  go_enter Tryd.func51, Tryd.ntmps51
  go_wp2_with (at_builtin; refine append_row EPVs rfl _ _ rfl w.heap.size _ 0 [] rfl (World.ownsRow_nil _ _ _ _) a 2 2 cs rfl HR.out H1.out (by unfold maxLen; omega) (by omega) (Nat.le_refl _) ?_; intro v' w5 hO5 hg5 _; have HO5 := Lib.hid hO5; have HB5 := Lib.hid ((Below.refl w.heap.size w).grown hg5 (Nat.le_refl _) (fun q hq => (by cases hq))); clear hO5 hg5)
  go_ret
  exact ⟨_, rfl, HO5.out, HB5.out⟩
/-- What works puts together. -/
def dict1 : PV := .mk 7 0 [] [.mk 5 0 [65] [], .mk 2 7 [] []]
def cs1 : List Value := [.int .i64 5, .int .i64 0, .string ⟨#[65]⟩, .slice none 0 0, .int .i64 2, .int .i64 7, .string ⟨#[]⟩, .slice none 0 0]
theorem cs1_one : ∀ u ∈ cs1, u.oneCell' = true := by
  intro u hu
  simp [cs1] at hu
  rcases hu with rfl | rfl | rfl | rfl | rfl | rfl | rfl | rfl <;> rfl
theorem cs1_vals (w : World) (F : Nat → Prop) : IsVs w F dict1.l cs1 :=
  ⟨.slice none 0 0, _, rfl, IsV.leaf _ _ _ rfl, .slice none 0 0, [], rfl, IsV.leaf _ _ _ rfl, rfl⟩
theorem row_two (w : World) (cs : Array Value) (e : TypeId) (hn : cs.size = 8) {b : Nat} (hb : b = w.heap.size) : Row (w.alloc (.cells cs e)) 4 (some ⟨b, 0, none⟩) 2 2 cs.toList := by
  subst hb
  exact ⟨by simp [hn], Nat.le_refl _, by simp [maxLen], fun h => (by cases h), fun _ => ⟨w.heap.size, 0, rfl, by rw [sizeA]; omega, fun j u hj => by
    rw [Nat.zero_add, cell_of_row _ _ _ _ _ _ (heapA_new _ rfl)]; simpa using hj⟩⟩

/-- What the last statement of Put reads. -/
def SP (w : World) (B : Nat) : Prop := w.cell? ⟨B, 3, none⟩ = some (.slice none 0 0) ∧ w.cell? ⟨B + 1, 0, none⟩ = some (.int .i64 2) ∧ w.cell? ⟨B + 1, 1, none⟩ = some (.int .i64 7) ∧ w.cell? ⟨B + 1, 2, none⟩ = some (.string ⟨#[]⟩) ∧ w.cell? ⟨B + 1, 3, none⟩ = some (.slice none 0 0)
theorem SP.below {w w' : World} {B : Nat} (h : SP w B) (hb : Below w.heap.size w w') : SP w' B := ⟨cell?_keep hb h.1, cell?_keep hb h.2.1, cell?_keep hb h.2.2.1, cell?_keep hb h.2.2.2.1, cell?_keep hb h.2.2.2.2⟩
theorem SP.drew {w : World} {B : Nat} (h : SP w B) : SP w.drew B := h
theorem SP.alloc {w : World} {B : Nat} (h : SP w B) (o : Obj) : SP (w.alloc o) B := h.below (belowA w o)
theorem set4_otherS {W : World} {b r : Nat} (hb : b ≠ r) (y0 y1 y2 y3 : Value) : ((((W.setCell ⟨r, 0, none⟩ y0).setCell ⟨r, 1, none⟩ y1).setCell ⟨r, 2, none⟩ y2).setCell ⟨r, 3, none⟩ y3).heap[b]? = W.heap[b]? := by
  rw [heap_setCell_other _ _ _ _ hb, heap_setCell_other _ _ _ _ hb, heap_setCell_other _ _ _ _ hb, heap_setCell_other _ _ _ _ hb]
theorem set4_sizeS (w : World) (r : Nat) (y0 y1 y2 y3 : Value) : ((((w.setCell ⟨r, 0, none⟩ y0).setCell ⟨r, 1, none⟩ y1).setCell ⟨r, 2, none⟩ y2).setCell ⟨r, 3, none⟩ y3).heap.size = w.heap.size := by simp [World.setCell]
theorem put1_fin {w wI : World} {B Q : Nat} {v : Value} (hO : wI.ownsRow Q 24 4 v 2 cs1) (hQ : B + 3 ≤ Q) (hb : Below w.heap.size w wI) (hB : w.heap.size ≤ B) (y0 y1 y2 y3 : Value) :
    IsV (((((wI.setCell ⟨B, 3, none⟩ v).setCell ⟨B + 1 + 1, 0, none⟩ y0).setCell ⟨B + 1 + 1, 1, none⟩ y1).setCell ⟨B + 1 + 1, 2, none⟩ y2).setCell ⟨B + 1 + 1, 3, none⟩ y3) (fun b => w.heap.size ≤ b) dict1 v ∧
    Below w.heap.size w (((((wI.setCell ⟨B, 3, none⟩ v).setCell ⟨B + 1 + 1, 0, none⟩ y0).setCell ⟨B + 1 + 1, 1, none⟩ y1).setCell ⟨B + 1 + 1, 2, none⟩ y2).setCell ⟨B + 1 + 1, 3, none⟩ y3) := by
  refine ⟨?_, below_set4 (hb.setCell (by show w.heap.size ≤ B; omega) _) (by omega) _ _ _ _⟩
  obtain ⟨a, cap, rfl, hr, hbase⟩ := Row.of_owns hO
  have hst : Stays (fun b => Q ≤ b) wI (((((wI.setCell ⟨B, 3, none⟩ (.slice a 2 cap)).setCell ⟨B + 1 + 1, 0, none⟩ y0).setCell ⟨B + 1 + 1, 1, none⟩ y1).setCell ⟨B + 1 + 1, 2, none⟩ y2).setCell ⟨B + 1 + 1, 3, none⟩ y3) :=
    ⟨by rw [set4_sizeS]; simp [World.setCell], fun b _ hF => by
      have hF : Q ≤ b := hF
      rw [set4_otherS (by omega), heap_setCell_other _ _ _ _ (by show b ≠ B; omega)]⟩
  exact IsV.mk (v := dict1) (hr.stays hst (fun _ x hx => hbase x hx)) (fun _ x hx => by have := hbase x hx; show w.heap.size ≤ x.block; omega) (cs1_vals _ _)
set_option maxRecDepth 8000 in
set_option maxHeartbeats 4000000 in
theorem vput1 (w : World) : Calls Tryd.prog 32 #[.agg #[.int .i64 7, .int .i64 0, .string ⟨#[]⟩, .slice none 0 0], .string ⟨#[65]⟩, .agg #[.int .i64 2, .int .i64 7, .string ⟨#[]⟩, .slice none 0 0]] w fun e w' =>
    ∃ sl, e = .returned (pvA dict1 sl) ∧ IsV w' (fun b => w.heap.size ≤ b) dict1 sl ∧ Below w.heap.size w w' := by
  have HF := Lib.hid (fun W => vfind_nil ⟨#[65]⟩ W)
  have HC := Lib.hid (fun W => clone_nilS W)
  have HN := Lib.hid (fun W => nameOf_any ⟨#[65]⟩ W)
  have HI := Lib.hid (fun (W : World) (a : Option Addr) (h : Row W 4 a 2 2 cs1) => insert_nilS h cs1_one)
  obtain ⟨B, hB⟩ : ∃ B, B = w.heap.size := ⟨_, rfl⟩
  have HX1 := Lib.hid (show (((w.alloc (.cells #[.int .i64 7, .int .i64 0, .string ⟨#[]⟩, .slice none 0 0] 24)).alloc (.cells #[.int .i64 2, .int .i64 7, .string ⟨#[]⟩, .slice none 0 0] 24)).alloc (.cells #[.int .i64 0, .int .i64 0, .string ⟨#[]⟩, .slice none 0 0] 24)).heap[B]? = some (.cells #[.int .i64 7, .int .i64 0, .string ⟨#[]⟩, .slice none 0 0] 24 (0, 0)) from heapA_old _ (heapA_old _ (heapA_new _ hB)))
  have HX2 := Lib.hid (show (((w.alloc (.cells #[.int .i64 7, .int .i64 0, .string ⟨#[]⟩, .slice none 0 0] 24)).alloc (.cells #[.int .i64 2, .int .i64 7, .string ⟨#[]⟩, .slice none 0 0] 24)).alloc (.cells #[.int .i64 0, .int .i64 0, .string ⟨#[]⟩, .slice none 0 0] 24)).heap[B + 1]? = some (.cells #[.int .i64 2, .int .i64 7, .string ⟨#[]⟩, .slice none 0 0] 24 (0, 0)) from heapA_old _ (heapA_new _ (by rw [sizeA, hB])))
  have HX3 := Lib.hid (show (((w.alloc (.cells #[.int .i64 7, .int .i64 0, .string ⟨#[]⟩, .slice none 0 0] 24)).alloc (.cells #[.int .i64 2, .int .i64 7, .string ⟨#[]⟩, .slice none 0 0] 24)).alloc (.cells #[.int .i64 0, .int .i64 0, .string ⟨#[]⟩, .slice none 0 0] 24)).heap[B + 1 + 1]? = some (.cells #[.int .i64 0, .int .i64 0, .string ⟨#[]⟩, .slice none 0 0] 24 (0, 0)) from heapA_new _ (by rw [sizeA, sizeA, hB]))
  have HW := Lib.hid (belowA3 w (.cells #[.int .i64 7, .int .i64 0, .string ⟨#[]⟩, .slice none 0 0] 24) (.cells #[.int .i64 2, .int .i64 7, .string ⟨#[]⟩, .slice none 0 0] 24) (.cells #[.int .i64 0, .int .i64 0, .string ⟨#[]⟩, .slice none 0 0] 24))
  have HBB := Lib.hid (Nat.le_of_eq hB.symm)
  go_enter Tryd.func32, Tryd.ntmps32
  go_upto_region 1 with fail
  rw [← hB]
  clear hB
  generalize ((w.alloc _).alloc _).alloc _ = W1 at *
  obtain ⟨⟨c0, c1, c2, c3⟩, f0, f1, f2, f3⟩ := cells4 HX1.out
  obtain ⟨⟨d0, d1, d2, d3⟩, -⟩ := cells4 HX2.out
  go_wp2_with (go_at_call 48; refine (HC.out _).mono ?_; rintro e w' ⟨rfl, rfl⟩)
  have HX1b := Lib.hid (show (W1.setCell ⟨B, 3, none⟩ (.slice none 0 0)).heap[B]? = some (.cells #[.int .i64 7, .int .i64 0, .string ⟨#[]⟩, .slice none 0 0] 24 (0, 0)) by rw [heap_setCell_same W1 B 3 _ _ _ HX1.out]; rfl)
  have HX2b := Lib.hid (show (W1.setCell ⟨B, 3, none⟩ (.slice none 0 0)).heap[B + 1]? = some (.cells #[.int .i64 2, .int .i64 7, .string ⟨#[]⟩, .slice none 0 0] 24 (0, 0)) from (heap_setCell_other _ _ _ _ (by show B + 1 ≠ B; omega)).trans HX2.out)
  have HX3b := Lib.hid (show (W1.setCell ⟨B, 3, none⟩ (.slice none 0 0)).heap[B + 1 + 1]? = some (.cells #[.int .i64 0, .int .i64 0, .string ⟨#[]⟩, .slice none 0 0] 24 (0, 0)) from (heap_setCell_other _ _ _ _ (by show B + 1 + 1 ≠ B; omega)).trans HX3.out)
  have HWb := Lib.hid (show Below w.heap.size w (W1.setCell ⟨B, 3, none⟩ (.slice none 0 0)) from HW.out.setCell (by show w.heap.size ≤ B; exact HBB.out) _)
  refine (HF.out _).mono ?_
  rintro e W2 ⟨rfl, hb2⟩
  have HY1 := Lib.hid (block_keep hb2 HX1b.out)
  have HY2 := Lib.hid (block_keep hb2 HX2b.out)
  have HY3 := Lib.hid (block_keep hb2 HX3b.out)
  have HW2 := Lib.hid (HWb.out.trans (hb2.mono HWb.out.size))
  clear hb2 c0 c1 c2 c3 f0 f1 f2 f3 d0 d1 d2 d3 HX1 HX2 HX3 HX1b HX2b HX3b HW HWb HF HC
  obtain ⟨⟨c0, c1, c2, c3⟩, f0, f1, f2, f3⟩ := cells4 HY1.out
  obtain ⟨⟨d0, d1, d2, d3⟩, -⟩ := cells4 HY2.out
  go_wp2
  go_loopw [8, 9] (fun va vk wr => va = .int .i64 0 ∧ vk = .int .i64 0 ∧ wr = W2) (fun _ _ _ => 0)
  case atStart => exact ⟨rfl, rfl, rfl⟩
  case round =>
    obtain ⟨rfl, rfl, hwr⟩ := hrel
    rw [hwr]
    clear hwr
    go_upto_region 14 with fail
    have HS0 := Lib.hid (show SP W2 B from ⟨c3, d0, d1, d2, d3⟩)
    go_region_with ((first
        | (go_at_call 19; refine (HN.out _).mono ?_; rintro e wN ⟨rfl, hbN⟩; have HBN := Lib.hid (show Below W2.heap.size W2 wN from (Below.refl _ _).drew.trans hbN); have HSN := Lib.hid (HS0.out.below HBN.out); obtain ⟨n3, x0, x1, x2, x3⟩ := HSN.out; obtain ⟨m3, -⟩ := HSN.out.alloc (.cells #[.int .i64 5, .int .i64 0, .string ⟨#[65]⟩, .slice none 0 0, .int .i64 2, .int .i64 7, .string ⟨#[]⟩, .slice none 0 0] 24); clear hbN)
        | (go_at_call 51; refine (HI.out _ _ (row_two wN #[.int .i64 5, .int .i64 0, .string ⟨#[65]⟩, .slice none 0 0, .int .i64 2, .int .i64 7, .string ⟨#[]⟩, .slice none 0 0] 24 rfl rfl)).mono ?_; rintro e wI ⟨vI, rfl, hOI, hbI⟩; obtain ⟨aI, cI, hvI, -, -⟩ := Row.of_owns hOI; subst hvI; have HBI := Lib.hid (HBN.out.trans ((belowA wN _).trans (hbI.mono (by rw [sizeA]; omega)) |>.mono HBN.out.size)); have HSI := Lib.hid (HS0.out.below HBI.out); have hcI := HSI.out.1; have hfI : wI.frozen? ⟨B, 3, none⟩ = false := frozen_of_row wI B 3 _ _ (block_keep HBI.out HY1.out); have HOI := Lib.hid hOI; have HQI := Lib.hid (show W2.heap.size ≤ (wN.alloc (.cells #[.int .i64 5, .int .i64 0, .string ⟨#[65]⟩, .slice none 0 0, .int .i64 2, .int .i64 7, .string ⟨#[]⟩, .slice none 0 0] 24)).heap.size by rw [sizeA]; have := HBN.out.size; omega); clear hOI hbI)))
    all_goals
      have HFIN := Lib.hid (fun y0 y1 y2 y3 => put1_fin (B := B) HOI.out (by have h1 := HQI.out; have h2 := lt_of_heapS HY3.out; omega) (HW2.out.trans (HBI.out.mono HW2.out.size)) HBB.out y0 y1 y2 y3)
      have HYI := Lib.hid (show (wI.setCell ⟨B, 3, none⟩ (.slice aI 2 cI)).heap[B]? = some (.cells #[.int .i64 7, .int .i64 0, .string ⟨#[]⟩, .slice aI 2 cI] 24 (0, 0)) by rw [heap_setCell_same wI B 3 _ _ _ (block_keep HBI.out HY1.out)]; rfl)
      have HYR := Lib.hid (show (wI.setCell ⟨B, 3, none⟩ (.slice aI 2 cI)).heap[B + 1 + 1]? = some (.cells #[.int .i64 0, .int .i64 0, .string ⟨#[]⟩, .slice none 0 0] 24 (0, 0)) from (heap_setCell_other _ _ _ _ (by show B + 1 + 1 ≠ B; omega)).trans (block_keep HBI.out HY3.out))
      clear HN HI HS0 HSN HBN HBI HSI hcI hfI HOI HQI n3 x0 x1 x2 x3 m3 c0 c1 c2 c3 f0 f1 f2 f3 d0 d1 d2 d3 HY1 HY2 HY3
      generalize wI.setCell _ _ = WX at *
      obtain ⟨⟨c0, c1, c2, c3⟩, -⟩ := cells4 HYI.out
      obtain ⟨⟨r0, r1, r2, r3⟩, rf0, rf1, rf2, rf3⟩ := cells4 HYR.out
      go_wp2
      refine bodyPost_ret (results_cell_row rfl _ _ (B + 1 + 1) 24 _ (0, 0) _ rfl (by exact set4 HYR.out _ _ _ _) Tryd.underlying24 rfl (by kernel_rfl)) rfl ?_
      exact ⟨_, rfl, (HFIN.out _ _ _ _).1, (HFIN.out _ _ _ _).2⟩
end Go.Proofs.YtnkodejgiabamaaDoor
/-
  What works asks for: a dictionary of one name; the whole of it.
-/
namespace Go.Proofs.YtnkodejgiabamaaDoor
open Go.RowKit

/-- What the loop of DictOf knows. -/
structure DoM (w wr : World) (B : Nat) (sl : Value) (l : List PV) : Prop where
  b0 : wr.heap[B]? = some (.cells #[.int .i64 0, .int .i64 0, .string ⟨#[]⟩, .slice none 0 0] 24 (0, 0))
  b1 : wr.heap[B + 1]? = some (.cells #[.int .i64 7, .int .i64 0, .string ⟨#[]⟩, sl] 24 (0, 0))
  val : IsV wr (fun b => B + 1 < b) (.mk 7 0 [] l) sl
  bel : Below w.heap.size w wr
  hB : w.heap.size ≤ B
theorem DoM.start (w : World) {B : Nat} (hB : B = w.heap.size) : DoM w ((w.alloc (.cells #[.int .i64 0, .int .i64 0, .string ⟨#[]⟩, .slice none 0 0] 24)).alloc (.cells #[.int .i64 7, .int .i64 0, .string ⟨#[]⟩, .slice none 0 0] 24)) B (.slice none 0 0) [] :=
  ⟨heapA_old _ (heapA_new _ hB), heapA_new _ (by rw [sizeA, hB]), IsV.leaf _ _ _ rfl, belowA2 _ _ _, Nat.le_of_eq hB.symm⟩
theorem DoM.put {w wr W : World} {B : Nat} {sl s' : Value} {l l' : List PV} (h : DoM w wr B sl l) (hv : IsV W (fun b => wr.heap.size ≤ b) (.mk 7 0 [] l') s') (hb : Below wr.heap.size wr W) :
    DoM w ((((W.setCell ⟨B + 1, 0, none⟩ (.int .i64 7)).setCell ⟨B + 1, 1, none⟩ (.int .i64 0)).setCell ⟨B + 1, 2, none⟩ (.string ⟨#[]⟩)).setCell ⟨B + 1, 3, none⟩ s') B s' l' := by
  have hl := lt_of_heapS h.b1
  have hB := h.hB
  exact ⟨(set4_otherS (by omega) _ _ _ _).trans (block_keep hb h.b0), set4 (block_keep hb h.b1) _ _ _ _, IsV.keep (F := fun b => wr.heap.size ≤ b) ⟨by rw [set4_sizeS]; exact Nat.le_refl _, fun b _ hF => set4_otherS (by have hF : wr.heap.size ≤ b := hF; omega) _ _ _ _⟩ (fun b hF => by show B + 1 < b; omega) _ hv, below_set4 (h.bel.trans (hb.mono h.bel.size)) (by omega) _ _ _ _, h.hB⟩

section
variable {w : World} {b : Nat} {x0 x1 x2 x3 : Value} {t : TypeId} (h : w.heap[b]? = some (.cells #[x0, x1, x2, x3] t (0, 0)))
include h
theorem st1 (y0 : Value) : (w.setCell ⟨b, 0, none⟩ y0).heap[b]? = some (.cells #[y0, x1, x2, x3] t (0, 0)) := by rw [heap_setCell_same w b 0 _ _ _ h]; rfl
theorem st2 (y0 y1 : Value) : ((w.setCell ⟨b, 0, none⟩ y0).setCell ⟨b, 1, none⟩ y1).heap[b]? = some (.cells #[y0, y1, x2, x3] t (0, 0)) := by rw [heap_setCell_same _ b 1 _ _ _ (st1 h y0)]; rfl
theorem st3 (y0 y1 y2 : Value) : (((w.setCell ⟨b, 0, none⟩ y0).setCell ⟨b, 1, none⟩ y1).setCell ⟨b, 2, none⟩ y2).heap[b]? = some (.cells #[y0, y1, y2, x3] t (0, 0)) := by rw [heap_setCell_same _ b 2 _ _ _ (st2 h y0 y1)]; rfl
end
set_option maxRecDepth 8000 in
set_option maxHeartbeats 4000000 in
theorem dictOf1 {w : World} {g : Nat} (hr : Row w 4 (some ⟨g, 0, none⟩) 2 2 cs1) :
    Calls Tryd.prog 18 #[.slice (some ⟨g, 0, none⟩) 2 2] w fun e w' => ∃ sl, e = .returned (pvA dict1 sl) ∧ IsV w' anyF dict1 sl ∧ Below w.heap.size w w' := by
  have HR := Lib.hid (fun (W : World) (h : Below w.heap.size w W) => hr.mono h)
  have HP := Lib.hid (fun W => vput1 W)
  clear hr
  obtain ⟨B, hB⟩ : ∃ B, B = w.heap.size := ⟨_, rfl⟩
  have HM0 := Lib.hid (DoM.start w hB)
  go_enter Tryd.func18, Tryd.ntmps18
  go_upto_region 2 with fail
  rw [← hB]
  clear hB
  generalize (w.alloc _).alloc _ = W1 at *
  go_wp2
  go_loopw [4] (fun vi wr => (vi = .int .i64 0 ∧ wr = W1) ∨ (vi = .int .i64 2 ∧ ∃ sl, Hid (DoM w wr B sl dict1.l))) (fun vi _ => 2 - (intOf vi).toNat)
  case atStart => exact .inl ⟨rfl, rfl⟩
  case round =>
    rcases hrel with ⟨rfl, hwr⟩ | ⟨rfl, sl, HM⟩
    · rw [hwr]
      clear hwr
      obtain ⟨⟨c0, c1, c2, c3⟩, f0, f1, f2, f3⟩ := cells4 HM0.out.b1
      obtain ⟨bb, off, hbo, hbl, hc⟩ := (HR.out _ HM0.out.bel).2.2.2.2 (by omega)
      cases hbo
      have y2 := hc 2 (.string ⟨#[65]⟩) rfl
      have z0 := hc 4 (.int .i64 2) rfl
      have z1 := hc 5 (.int .i64 7) rfl
      have z2 := hc 6 (.string ⟨#[]⟩) rfl
      have z3 := hc 7 (.slice none 0 0) rfl
      simp only [Nat.zero_add] at y2 z0 z1 z2 z3
      clear hc
      go_wp2
      go_region_with ((go_at_call 32; refine (HP.out _).mono ?_; rintro e wP ⟨sP, rfl, hvP, hbP⟩; obtain ⟨aP, cP, hsP, -, -, -⟩ := hvP.len; subst hsP; simp only [pvA, show dict1.kind = 7 from rfl, show dict1.n = 0 from rfl, show mkB dict1.s = ⟨#[]⟩ from rfl]; have HBP := Lib.hid (show Below W1.heap.size W1 wP from (Below.refl _ _).drew.trans hbP); have HVP := Lib.hid (show IsV wP (fun b => W1.heap.size ≤ b) dict1 _ from hvP); obtain ⟨⟨p0, p1, p2, p3⟩, q0, q1, q2, q3⟩ := cells4 (block_keep HBP.out HM0.out.b1); obtain ⟨⟨a0, a1, a2, a3⟩, a4, a5, a6, a7⟩ := cells4 (st1 (block_keep HBP.out HM0.out.b1) (.int .i64 7)); obtain ⟨⟨b0, b1, b2, b3⟩, b4, b5, b6, b7⟩ := cells4 (st2 (block_keep HBP.out HM0.out.b1) (.int .i64 7) (.int .i64 0)); obtain ⟨⟨e0, e1, e2, e3⟩, e4, e5, e6, e7⟩ := cells4 (st3 (block_keep HBP.out HM0.out.b1) (.int .i64 7) (.int .i64 0) (.string ⟨#[]⟩)); clear hvP hbP))
      all_goals
        have HM2 := Lib.hid (HM0.out.put HVP.out HBP.out)
        clear HVP HBP p0 p1 p2 p3 q0 q1 q2 q3 HP HR a0 a1 a2 a3 a4 a5 a6 a7 b0 b1 b2 b3 b4 b5 b6 b7 e0 e1 e2 e3 e4 e5 e6 e7
        go_wp2
        go_roundw
        case rel => exact .inr ⟨by go_num, _, HM2⟩
        case measure => simp [intOf]
    · obtain ⟨a1, cap1, hs1, -, -, -⟩ := HM.out.val.len
      subst hs1
      obtain ⟨⟨c0, c1, c2, c3⟩, f0, f1, f2, f3⟩ := cells4 HM.out.b1
      obtain ⟨⟨r0, r1, r2, r3⟩, rf0, rf1, rf2, rf3⟩ := cells4 HM.out.b0
      clear HM0 HP HR
      go_wp2
      refine bodyPost_ret (results_cell_row rfl _ _ B 24 _ (0, 0) _ rfl (by exact set4 HM.out.b0 _ _ _ _) Tryd.underlying24 rfl (by kernel_rfl)) rfl ?_
      exact ⟨_, rfl, IsV.keep (F := fun b => B + 1 < b) ⟨by rw [set4_sizeS]; exact Nat.le_refl _, fun b _ hF => set4_otherS (by have hF : B + 1 < b := hF; omega) _ _ _ _⟩ (fun _ _ => trivial) _ HM.out.val, below_set4 HM.out.bel HM.out.hB _ _ _ _⟩

end Go.Proofs.YtnkodejgiabamaaDoor
/-
  The walk of law13.works.
-/
namespace Go.Proofs.YtnkodejgiabamaaDoor
open Go.RowKit

theorem form_d1 : formV dict1 = [60, 60, 47, 65, 32, 55, 62, 62] := by
  unfold dict1
  simp only [formV, rowF, moreF, nameF]
  decide +kernel
theorem check_d1 : checkC dict1 = 0 := by
  unfold dict1 checkC
  simp only [depthV, depthL, firstC, firstL, ownC]
  decide +kernel
theorem depth_d1 : depthV dict1 ≤ 1000 := by
  unfold dict1
  simp only [depthV, depthL]
  decide +kernel
theorem form_r3 : formV (.mk 8 3 [] []) = [51, 32, 48, 32, 82] := by
  simp only [formV]
  decide +kernel
theorem check_r3 : checkC (.mk 8 3 [] []) = 0 := by
  unfold checkC
  simp only [depthV, depthL, firstC, firstL, ownC]
  decide +kernel
theorem show_d1 : showV dict1 = ([60, 60, 47, 65, 32, 55, 62, 62], 0) := by unfold showV; rw [check_d1, form_d1]; rfl
theorem show_r3 : showV (.mk 8 3 [] []) = ([51, 32, 48, 32, 82], 0) := by unfold showV; rw [check_r3, form_r3]; rfl
theorem text_ab : textF [97, 40, 98] = [40, 97, 92, 40, 98, 41] := by decide +kernel

set_option maxRecDepth 8000 in
set_option maxHeartbeats 4000000 in
theorem works13 (w : World) : Calls Tryd.prog 7 #[] w fun e w' => e = .returned (.bool true) ∧ Below w.heap.size w w' := by
  have HN := Lib.hid (fun W => nameOf_any ⟨#[65]⟩ W)
  have HI := Lib.hid (fun W => intOf_any 7 W)
  have HD := Lib.hid (fun (W : World) (g : Nat) (h : Row W 4 (some ⟨g, 0, none⟩) 2 2 cs1) => dictOf1 h)
  have HV := Lib.hid (fun (W : World) (sl : Value) (h : IsV W anyF dict1 sl) => showValue_any h depth_d1 (by rw [form_d1]; decide))
  rw [show_d1] at HV
  have HT := Lib.hid (fun W => showText_any [97, 40, 98] W (by decide))
  rw [text_ab] at HT
  have HR := Lib.hid (fun W => refTo_any 3 W)
  have HL := Lib.hid (fun W => showLen_any (v := .mk 8 3 [] []) (sl := .slice none 0 0) (w := W) (IsV.leaf W anyF _ rfl) (by rw [depthV_is]; decide) (by rw [form_r3]; decide))
  rw [show_r3] at HL
  simp only [pvA, PV.kind, PV.n, PV.s] at HL
  rw [show mkB [] = ⟨#[]⟩ from rfl] at HL
  rw [show mkB [97, 40, 98] = ⟨#[97, 40, 98]⟩ from rfl, show mkB [40, 97, 92, 40, 98, 41] = ⟨#[40, 97, 92, 40, 98, 41]⟩ from rfl] at HT
  simp only [show mkB [60, 60, 47, 65, 32, 55, 62, 62] = ⟨#[60, 60, 47, 65, 32, 55, 62, 62]⟩ from rfl] at HV
  go_enter Tryd.func7, Tryd.ntmps7
  go_wp2_with fail
  refine (HN.out _).mono ?_
  rintro e w1 ⟨rfl, hb1⟩
  have HB1 := Lib.hid hb1
  clear hb1
  go_wp2_with fail
  refine (HI.out _).mono ?_
  rintro e w2 ⟨rfl, hb2⟩
  have HB2 := Lib.hid (HB1.out.trans (hb2.mono HB1.out.size))
  clear hb2
  have HB3 := Lib.hid (HB2.out.alloc HB2.out.size (.cells #[.int .i64 5, .int .i64 0, .string ⟨#[65]⟩, .slice none 0 0, .int .i64 2, .int .i64 7, .string ⟨#[]⟩, .slice none 0 0] 24))
  go_wp2_with fail
  refine (HD.out _ _ (row_two w2 #[.int .i64 5, .int .i64 0, .string ⟨#[65]⟩, .slice none 0 0, .int .i64 2, .int .i64 7, .string ⟨#[]⟩, .slice none 0 0] 24 rfl rfl)).mono ?_
  rintro e w3 ⟨sl, rfl, hv3, hb3⟩
  have HB4 := Lib.hid (HB3.out.trans (hb3.mono HB3.out.size))
  clear hb3 HN HI HD
  have HV3 := Lib.hid (HV.out _ _ hv3)
  obtain ⟨sa, sc, rfl, -, -, -⟩ := hv3.len
  simp only [pvA] at HV3 ⊢
  clear hv3 HV
  go_wp2_with fail
  refine HV3.out.mono ?_
  rintro e w4 ⟨rfl, hb4⟩
  have HB5 := Lib.hid (HB4.out.trans (hb4.mono HB4.out.size))
  clear hb4 HV3
  go_wp2_with (first | (go_at_call 14; refine (HT.out _).mono ?_; rintro e w5 ⟨rfl, hb5⟩; have HB6 := Lib.hid (HB5.out.trans (hb5.mono HB5.out.size)); clear hb5) | (go_at_call 21; refine (HR.out _).mono ?_; rintro e w6 ⟨rfl, hb6⟩; have HB7 := Lib.hid (HB6.out.trans (hb6.mono HB6.out.size)); clear hb6) | (go_at_call 10; refine (HL.out _).mono ?_; rintro e w7 ⟨rfl, hb7⟩; have HB8 := Lib.hid (HB7.out.trans (hb7.mono HB7.out.size)); clear hb7))
  go_ret
  exact ⟨rfl, HB8.out⟩
end Go.Proofs.YtnkodejgiabamaaDoor
/-
  The law ShowValues, walked.
-/
namespace Go.Proofs.YtnkodejgiabamaaDoor
open Go.RowKit

set_option maxRecDepth 8000 in
set_option maxHeartbeats 4000000 in
theorem law_svalues {v : PV} {sl : Value} {w : World} (hv : IsV w anyF v sl) : Calls Tryd.prog 3 #[pvA v sl] w fun e w' => e = .returned (.bool true) ∧ Below w.heap.size w w' := by
  have HS := Lib.hid (fun (W : World) (h : Below w.heap.size w W) => small_any (hv.below h))
  have HV := Lib.hid (fun (hs : smallV v = true) (W : World) (h : Below w.heap.size w W) => showValue_any (hv.below h) (by have := (small_bd hs).1; omega) (by have := (small_bd hs).2.1; omega))
  have HR := Lib.hid (fun (hs : smallV v = true) (W : World) (h : Below w.heap.size w W) => rvalue13 (hv.below h) (small_bd hs).2.2.2 (by have := (small_bd hs).1; omega) (by have := (small_bd hs).2.1; omega))
  have HL := Lib.hid (fun (hs : smallV v = true) (W : World) (h : Below w.heap.size w W) => showLen_any (hv.below h) (by have := (small_bd hs).1; omega) (by have := (small_bd hs).2.1; omega))
  have HW := Lib.hid (fun W => works13 W)
  obtain ⟨a1, cap1, rfl, -, -, -⟩ := hv.len
  unfold pvA at HS HV HR HL ⊢
  have HB := Lib.hid (belowA w (.cells #[.int .i64 v.kind, .int .i64 v.n, .string (mkB v.s), .slice a1 v.l.length cap1] 24))
  have HX1 := Lib.hid (heapA_new (w := w) (.cells #[.int .i64 v.kind, .int .i64 v.n, .string (mkB v.s), .slice a1 v.l.length cap1] 24) rfl)
  clear hv
  have hsz : (mkB (showV v).1).size = (showV v).1.length := mkB_size _
  have hszi : ((mkB (showV v).1).size : Int) = (showV v).1.length := by rw [hsz]
  generalize (showV v).1.length = tl at *
  generalize showV v = R at *
  obtain ⟨t, er⟩ := R
  simp only at HV HR HL hsz hszi
  generalize mkB t = T at *
  generalize v.kind = k0 at *
  generalize v.n = n0 at *
  generalize mkB v.s = s0 at *
  generalize v.l.length = l0 at *
  have h1 : (T.toList == T.toList) = true := beq_self_eq_true _
  cases hsm : smallV v with
  | false =>
    rw [hsm] at HS
    clear HV HR HL hsm hsz hszi h1
    go_enter Tryd.func3, Tryd.ntmps3
    go_wp2_with (first
      | (go_at_call 6; refine (HS.out _ HB.out).mono ?_; rintro e w1 ⟨rfl, hb1⟩; have HB1 := Lib.hid (HB.out.trans (hb1.mono HB.out.size)))
      | (go_at_call 7; refine (HW.out _).mono ?_; rintro e w5 ⟨rfl, hb5'⟩; have HB5 := Lib.hid (HB1.out.trans (hb5'.mono HB1.out.size))))
    go_ret
    exact ⟨rfl, HB5.out⟩
  | true =>
    rw [hsm] at HS
    have HV2 := Lib.hid (HV.out hsm)
    have HR2 := Lib.hid (HR.out hsm)
    have HL2 := Lib.hid (HL.out hsm)
    clear HV HR HL hsm
    go_enter Tryd.func3, Tryd.ntmps3
    go_wp2_with (first
      | (go_at_call 6; refine (HS.out _ HB.out).mono ?_; rintro e w1 ⟨rfl, hb1⟩; have HB1 := Lib.hid (HB.out.trans (hb1.mono HB.out.size)); have HX2 := Lib.hid (block_keep hb1 HX1.out); obtain ⟨⟨c0, c1, c2, c3⟩, -⟩ := cells4 HX2.out)
      | (go_at_call 8; refine (HV2.out _ HB1.out).mono ?_; rintro e w2 ⟨rfl, hb2⟩; have HB2 := Lib.hid (HB1.out.trans (hb2.mono HB1.out.size)); have HX3 := Lib.hid (block_keep hb2 HX2.out); obtain ⟨⟨d0, d1, d2, d3⟩, -⟩ := cells4 HX3.out)
      | (go_at_call 9; refine (HR2.out _ HB2.out).mono ?_; rintro e w3 ⟨rfl, hb3⟩; have HB3 := Lib.hid (HB2.out.trans (hb3.mono HB2.out.size)); have HX4 := Lib.hid (block_keep hb3 HX3.out); obtain ⟨⟨g0, g1, g2, g3⟩, -⟩ := cells4 HX4.out)
      | (go_at_call 10; refine (HL2.out _ HB3.out).mono ?_; rintro e w4 ⟨rfl, hb4⟩; have HB4 := Lib.hid (HB3.out.trans (hb4.mono HB3.out.size)))
      | (go_at_call 7; refine (HW.out _).mono ?_; rintro e w5 ⟨rfl, hb5'⟩; have HB5 := Lib.hid (HB4.out.trans (hb5'.mono HB4.out.size))))
    go_ret
    exact ⟨rfl, HB5.out⟩
end Go.Proofs.YtnkodejgiabamaaDoor
/-
  The law ShowApart, walked.
-/
namespace Go.Proofs.YtnkodejgiabamaaDoor
open Go.RowKit

theorem showV_cases (v : PV) : (checkC v = 0 ∧ showV v = (formV v, 0)) ∨ (checkC v ≠ 0 ∧ showV v = ([], checkC v)) := by
  unfold showV
  by_cases h : checkC v = 0
  · exact .inl ⟨h, by rw [if_neg (by simp [h])]⟩
  · exact .inr ⟨h, by rw [if_pos h]⟩
theorem forms_apart {u v : PV} (hu : checkC u = 0) (hv : checkC v = 0) : ((mkB (formV u)).toList == (mkB (formV v)).toList) = (compareC u v == 0) := by
  rw [toList_mkB, toList_mkB]
  by_cases h : u = v
  · subst h
    rw [compare_self]
    simp
  · have h1 : compareC u v ≠ 0 := fun e => h (compare_zero u v e)
    have h2 : formV u ≠ formV v := fun e => h (show_apart hu hv e)
    rw [beq_eq_false_iff_ne.2 h1, beq_eq_false_iff_ne.2 h2]

set_option maxRecDepth 8000 in
set_option maxHeartbeats 4000000 in
theorem law_sapart {u v : PV} {su sv : Value} {w : World} (hu : IsV w anyF u su) (hv : IsV w anyF v sv) : Calls Tryd.prog 4 #[pvA u su, pvA v sv] w fun e w' => e = .returned (.bool true) ∧ Below w.heap.size w w' := by
  have HSu := Lib.hid (fun (W : World) (h : Below w.heap.size w W) => small_any (hu.below h))
  have HSv := Lib.hid (fun (W : World) (h : Below w.heap.size w W) => small_any (hv.below h))
  have HVu := Lib.hid (fun (hs : smallV u = true) (W : World) (h : Below w.heap.size w W) => showValue_any (hu.below h) (by have := (small_bd hs).1; omega) (by have := (small_bd hs).2.1; omega))
  have HVv := Lib.hid (fun (hs : smallV v = true) (W : World) (h : Below w.heap.size w W) => showValue_any (hv.below h) (by have := (small_bd hs).1; omega) (by have := (small_bd hs).2.1; omega))
  have HSA := Lib.hid (fun (W : World) (h : Below w.heap.size w W) => same_any (hu.below h) (hv.below h))
  have HW := Lib.hid (fun W => works13 W)
  have HCu := Lib.hid (showV_cases u)
  have HCv := Lib.hid (showV_cases v)
  have HFA := Lib.hid (fun (h1 : checkC u = 0) (h2 : checkC v = 0) => forms_apart h1 h2)
  obtain ⟨au, capu, rfl, -, -, -⟩ := hu.len
  obtain ⟨av, capv, rfl, -, -, -⟩ := hv.len
  unfold pvA at HSu HSv HVu HVv HSA ⊢
  have HB := Lib.hid (belowA2 w (.cells #[.int .i64 u.kind, .int .i64 u.n, .string (mkB u.s), .slice au u.l.length capu] 24) (.cells #[.int .i64 v.kind, .int .i64 v.n, .string (mkB v.s), .slice av v.l.length capv] 24))
  clear hu hv
  obtain ⟨B, hB⟩ : ∃ B, B = w.heap.size := ⟨_, rfl⟩
  have HX1 := Lib.hid (heapA_old (w := w.alloc (.cells #[.int .i64 u.kind, .int .i64 u.n, .string (mkB u.s), .slice au u.l.length capu] 24)) (.cells #[.int .i64 v.kind, .int .i64 v.n, .string (mkB v.s), .slice av v.l.length capv] 24) (heapA_new (w := w) (b := B) (.cells #[.int .i64 u.kind, .int .i64 u.n, .string (mkB u.s), .slice au u.l.length capu] 24) hB))
  have HX2 := Lib.hid (heapA_new (w := w.alloc (.cells #[.int .i64 u.kind, .int .i64 u.n, .string (mkB u.s), .slice au u.l.length capu] 24)) (b := B + 1) (.cells #[.int .i64 v.kind, .int .i64 v.n, .string (mkB v.s), .slice av v.l.length capv] 24) (by rw [sizeA, hB]))
  generalize u.kind = k0 at *
  generalize u.n = n0 at *
  generalize mkB u.s = s0 at *
  generalize u.l.length = l0 at *
  generalize v.kind = k1 at *
  generalize v.n = n1 at *
  generalize mkB v.s = s1 at *
  generalize v.l.length = l1 at *
  go_enter Tryd.func4, Tryd.ntmps4
  go_upto_region 1 with fail
  try rw [← hB]
  generalize World.alloc _ _ = W1 at *
  clear hB
  obtain ⟨⟨a0, a1, a2, a3⟩, -⟩ := cells4 HX1.out
  obtain ⟨⟨b0, b1, b2, b3⟩, -⟩ := cells4 HX2.out
  go_wp2_with fail
  refine (HSu.out _ HB.out).mono ?_
  rintro e w1 ⟨rfl, hb1⟩
  have HB1 := Lib.hid (HB.out.trans (hb1.mono HB.out.size))
  have HY1 := Lib.hid (block_keep hb1 HX1.out)
  have HY2 := Lib.hid (block_keep hb1 HX2.out)
  clear HX1 HX2 HSu HB hb1 a0 a1 a2 a3 b0 b1 b2 b3
  obtain ⟨⟨a0, a1, a2, a3⟩, -⟩ := cells4 HY1.out
  obtain ⟨⟨b0, b1, b2, b3⟩, -⟩ := cells4 HY2.out
  cases hsu : smallV u with
  | false =>
    clear HVu HVv HSA HFA HSv hsu
    go_wp2_with (go_at_call 7; refine (HW.out _).mono ?_; rintro e w5 ⟨rfl, hb5'⟩; have HB5 := Lib.hid (HB1.out.trans (hb5'.mono HB1.out.size)))
    go_ret
    exact ⟨rfl, HB5.out⟩
  | true =>
  have HVu2 := Lib.hid (HVu.out hsu)
  clear HVu hsu
  go_wp2_with fail
  refine (HSv.out _ HB1.out).mono ?_
  rintro e w2 ⟨rfl, hb2⟩
  have HB2 := Lib.hid (HB1.out.trans (hb2.mono HB1.out.size))
  have HX1 := Lib.hid (block_keep hb2 HY1.out)
  have HX2 := Lib.hid (block_keep hb2 HY2.out)
  clear HY1 HY2 HSv HB1 hb2 a0 a1 a2 a3 b0 b1 b2 b3
  obtain ⟨⟨a0, a1, a2, a3⟩, -⟩ := cells4 HX1.out
  obtain ⟨⟨b0, b1, b2, b3⟩, -⟩ := cells4 HX2.out
  cases hsv : smallV v with
  | false =>
    clear HVu2 HVv HSA HFA hsv
    go_wp2_with (go_at_call 7; refine (HW.out _).mono ?_; rintro e w5 ⟨rfl, hb5'⟩; have HB5 := Lib.hid (HB2.out.trans (hb5'.mono HB2.out.size)))
    go_ret
    exact ⟨rfl, HB5.out⟩
  | true =>
  have HVv2 := Lib.hid (HVv.out hsv)
  clear HVv hsv
  go_wp2_with fail
  refine (HVu2.out _ HB2.out).mono ?_
  rintro e w3 ⟨rfl, hb3⟩
  have HB3 := Lib.hid (HB2.out.trans (hb3.mono HB2.out.size))
  have HY1 := Lib.hid (block_keep hb3 HX1.out)
  have HY2 := Lib.hid (block_keep hb3 HX2.out)
  clear HX1 HX2 HVu2 HB2 hb3 a0 a1 a2 a3 b0 b1 b2 b3
  obtain ⟨⟨a0, a1, a2, a3⟩, -⟩ := cells4 HY1.out
  obtain ⟨⟨b0, b1, b2, b3⟩, -⟩ := cells4 HY2.out
  go_wp2_with fail
  refine (HVv2.out _ HB3.out).mono ?_
  rintro e w4 ⟨rfl, hb4⟩
  have HB4 := Lib.hid (HB3.out.trans (hb4.mono HB3.out.size))
  have HX1 := Lib.hid (block_keep hb4 HY1.out)
  have HX2 := Lib.hid (block_keep hb4 HY2.out)
  clear HY1 HY2 HVv2 HB3 hb4 a0 a1 a2 a3 b0 b1 b2 b3
  obtain ⟨⟨a0, a1, a2, a3⟩, -⟩ := cells4 HX1.out
  obtain ⟨⟨b0, b1, b2, b3⟩, -⟩ := cells4 HX2.out
  have hcu := HCu.out
  have hcv := HCv.out
  clear HCu HCv
  rcases hcu with ⟨hu0, hsu⟩ | ⟨hu0, hsu⟩
  case inr =>
    have en : (checkC u == 0) = false := by rw [beq_eq_false_iff_ne]; exact hu0
    have en' : (checkC u != 0) = true := by simp only [bne, en, Bool.not_false]
    rw [hsu]
    simp only
    clear hcv HFA hu0 hsu
    generalize checkC u = cu at *
    go_wp2_with (go_at_call 7; refine (HW.out _).mono ?_; rintro e w5 ⟨rfl, hb5'⟩; have HB5 := Lib.hid (HB4.out.trans (hb5'.mono HB4.out.size)))
    go_ret
    exact ⟨rfl, HB5.out⟩
  rcases hcv with ⟨hv0, hsv⟩ | ⟨hv0, hsv⟩
  case inr =>
    have en : (checkC v == 0) = false := by rw [beq_eq_false_iff_ne]; exact hv0
    have en' : (checkC v != 0) = true := by simp only [bne, en, Bool.not_false]
    rw [hsu, hsv]
    simp only
    clear HFA hu0 hsu hv0 hsv
    generalize checkC v = cv at *
    go_wp2_with (go_at_call 7; refine (HW.out _).mono ?_; rintro e w5 ⟨rfl, hb5'⟩; have HB5 := Lib.hid (HB4.out.trans (hb5'.mono HB4.out.size)))
    go_ret
    exact ⟨rfl, HB5.out⟩
  have hfa := HFA.out hu0 hv0
  rw [hsu, hsv]
  simp only
  clear HFA hu0 hsu hv0 hsv
  generalize mkB (formV u) = FU at *
  generalize mkB (formV v) = FV at *
  generalize (compareC u v == 0) = cb at *
  have hcc : (cb == cb) = true := beq_self_eq_true _
  go_wp2_with (first
    | (go_at_call 11; refine (HSA.out _ HB4.out).mono ?_; rintro e w5 ⟨rfl, hb5⟩; have HB5 := Lib.hid (HB4.out.trans (hb5.mono HB4.out.size)))
    | (go_at_call 7; refine (HW.out _).mono ?_; rintro e w6 ⟨rfl, hb6⟩; have HB6 := Lib.hid (HB5.out.trans (hb6.mono HB5.out.size))))
  go_ret
  exact ⟨rfl, HB6.out⟩
end Go.Proofs.YtnkodejgiabamaaDoor
