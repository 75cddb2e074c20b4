/-
  Our texts Sv6 to Sw7, in one.
-/
import Derived.Test.YtnkodejgiabamaaDoorPkV12
import Derived.Shelf.Abstract
/-
  Walks of layer 11: a value, and all in it, is gone through by what Check asks.
-/
namespace Go.Proofs.YtnkodejgiabamaaDoor
open Go.RowKit

mutual
theorem IsV.ltS {w : World} {F : Nat → Prop} : ∀ (v : PV) {sl : Value}, IsV w F v sl → IsV w (fun b => F b ∧ b < w.heap.size) v sl
  | .mk _ _ _ l, _, ⟨a, cap, cs, h, hr, hF, hs⟩ => ⟨a, cap, cs, h, hr, fun h0 x hx => ⟨hF h0 x hx, by
      obtain ⟨b, off, ha, hb, _⟩ := hr.2.2.2.2 h0
      rw [ha] at hx
      cases hx
      exact hb⟩, IsVs.ltS l hs⟩
theorem IsVs.ltS {w : World} {F : Nat → Prop} : ∀ (l : List PV) {cs : List Value}, IsVs w F l cs → IsVs w (fun b => F b ∧ b < w.heap.size) l cs
  | [], _, h => h
  | v :: l, _, ⟨sl, t, h, hv, ht⟩ => ⟨sl, t, h, IsV.ltS v hv, IsVs.ltS l ht⟩
end
theorem firstL_take {l : List PV} {k : Nat} {x : PV} (hx : l[k]? = some x) (h : firstL (l.take k) = 0) : firstL (l.take (k + 1)) = firstC x := by
  induction l generalizing k with
  | nil => cases hx
  | cons y l ih =>
    cases k with
    | zero =>
      have : y = x := by simpa using hx
      subst this
      simp only [List.take_succ_cons, List.take_zero, firstL]
      split
      · rfl
      · rename_i e
        have e2 : firstC y = 0 := by simpa using e
        rw [e2]
    | succ k =>
      rw [List.take_succ_cons] at h ⊢
      simp only [firstL] at h ⊢
      by_cases e : firstC y = 0
      · rw [if_neg (by simpa using e)] at h ⊢
        exact ih (by simpa using hx) h
      · rw [if_pos e] at h; exact absurd h e
theorem firstL_bad {l : List PV} {k : Nat} {x : PV} (hx : l[k]? = some x) (h : firstL (l.take k) = 0) (he : firstC x ≠ 0) : firstL l = firstC x := by
  induction l generalizing k with
  | nil => cases hx
  | cons y l ih =>
    cases k with
    | zero =>
      have : y = x := by simpa using hx
      subst this
      simp only [firstL]
      rw [if_pos he]
    | succ k =>
      rw [List.take_succ_cons] at h
      simp only [firstL] at h ⊢
      by_cases e : firstC y = 0
      · rw [if_neg (by simpa using e)] at h ⊢
        exact ih (by simpa using hx) h
      · rw [if_pos e] at h; exact absurd h e
theorem firstC_is (v : PV) : firstC v = if ownC v ≠ 0 then ownC v else if v.kind = 6 ∨ v.kind = 7 then firstL v.l else 0 := by obtain ⟨k, n, s, l⟩ := v; simp only [firstC]; rfl
theorem lt_of_heapS {w : World} {b : Nat} {o : Obj} (h : w.heap[b]? = some o) : b < w.heap.size := (Array.getElem?_eq_some_iff.1 h).1
theorem keepsB {w w' : World} {S : Nat → Prop} (h : Below w.heap.size w w') : Keeps S w w' := ⟨h.os, h.tape, h.output, h.size, fun b hb _ => h.block b hb⟩
/-- The error's own block turns alone. -/
structure ErrM (w w' : World) (p : Nat) (e : Int) : Prop where
  blk : w'.heap[p]? = some (.cells #[.int .i64 e] 27 (0, 0))
  keeps : Keeps (fun b => b = p) w w'
theorem Stays.of_err {F : Nat → Prop} {w w' : World} {p : Nat} {e : Int} (h : ErrM w w' p e) (hF : ∀ b, F b → b ≠ p) : Stays F w w' := ⟨h.keeps.size, fun b hb hf => h.keeps.block b hb (hF b hf)⟩

set_option maxRecDepth 8000 in
set_option maxHeartbeats 4000000 in
theorem check1_any {v : PV} {sl : Value} {w : World} {p : Nat} {e0 : Int} (hv : IsV w (fun b => b ≠ p) v sl) (hb : w.heap[p]? = some (.cells #[.int .i64 e0] 27 (0, 0))) :
    Calls Tryd.prog 35 #[pvA v sl, .pointer (some ⟨p, 0, none⟩)] w fun e w' => e = .returned (.bool (ownC v == 0)) ∧ ErrM w w' p (ownC v) := by
  have HO := Lib.hid (fun (W : World) (h : Below w.heap.size w W) => vown_any (hv.any.below h))
  obtain ⟨a1, cap1, e1, -, -, -⟩ := hv.len
  subst e1
  unfold pvA at HO ⊢
  generalize ownC v = oc at *
  generalize v.kind = k0 at *
  generalize v.n = n0 at *
  generalize mkB v.s = s0 at *
  generalize v.l.length = m at *
  clear hv
  go_enter Tryd.func35, Tryd.ntmps35
  obtain ⟨B, hB⟩ : ∃ B, B = w.heap.size := ⟨_, rfl⟩
  have hbw := belowA w (.cells #[.int .i64 k0, .int .i64 n0, .string s0, .slice a1 m cap1] 24)
  have HX1 := Lib.hid (heapA_new (w := w) (b := B) (.cells #[.int .i64 k0, .int .i64 n0, .string s0, .slice a1 m cap1] 24) hB)
  have HP1 := Lib.hid (block_keep hbw hb)
  have HW := Lib.hid hbw
  clear hbw hb
  go_upto_region 1 with fail
  rw [← hB]
  clear hB
  generalize w.alloc _ = W1 at *
  obtain ⟨⟨c0, c1, c2, c3⟩, -⟩ := cells4 HX1.out
  go_wp2_with fail
  refine (HO.out _ HW.out).mono ?_
  rintro e w2 ⟨rfl, hb2⟩
  have HP2 := Lib.hid (block_keep hb2 HP1.out)
  have HW2 := Lib.hid (HW.out.trans (hb2.mono HW.out.size))
  clear hb2 c0 c1 c2 c3
  have p0 : w2.cell? ⟨p, 0, none⟩ = some (.int .i64 e0) := by rw [cell_of_row w2 p 0 _ _ _ HP2.out]; rfl
  have pf : w2.frozen? ⟨p, 0, none⟩ = false := frozen_of_row w2 p 0 _ _ HP2.out
  have HE := Lib.hid (show ErrM w (w2.setCell ⟨p, 0, none⟩ (.int .i64 oc)) p oc from ⟨by rw [heap_setCell_same w2 p 0 _ _ _ HP2.out]; rfl, (keepsB (S := fun b => b = p) HW2.out).setCell (a := ⟨p, 0, none⟩) (.inl rfl) _⟩)
  go_upto_region 2 with fail
  have q0 : (w2.setCell ⟨p, 0, none⟩ (.int .i64 oc)).cell? ⟨p, 0, none⟩ = some (.int .i64 oc) := by rw [cell_of_row _ p 0 _ _ _ HE.out.blk]; rfl
  clear p0 pf
  generalize w2.setCell _ _ = W3 at *
  go_wp2
  go_ret
  exact ⟨rfl, HE.out⟩
theorem ErrM.trans {w w1 w2 : World} {p : Nat} {e2 : Int} (h : Keeps (fun b => b = p) w w1) (k : ErrM w1 w2 p e2) : ErrM w w2 p e2 := ⟨k.blk, h.trans k.keeps fun _ hb => .inl hb⟩
theorem IsV.err {w w' : World} {p : Nat} {v : PV} {sl : Value} (h : IsV w (fun b => b ≠ p) v sl) (k : Keeps (fun b => b = p) w w') : IsV w' (fun b => b ≠ p) v sl := IsV.keep ⟨k.size, fun b hb hf => k.block b hb hf⟩ (fun _ h => h) v h

set_option maxRecDepth 8000 in
set_option maxHeartbeats 4000000 in
theorem walk_any (p : Nat) : ∀ (N : Nat) (v : PV) (sl : Value) (w : World), SizeOf.sizeOf v ≤ N → IsV w (fun b => b ≠ p) v sl → w.heap[p]? = some (.cells #[.int .i64 0] 27 (0, 0)) →
    Calls Tryd.prog 34 #[pvA v sl, .func (.func 35) #[] #[.pointer (some ⟨p, 0, none⟩)]] w fun e w' => e = .returned (.bool (firstC v == 0)) ∧ ErrM w w' p (firstC v) := by
  intro N
  induction N with
  | zero => intro v sl w h; obtain ⟨_, _, _, _⟩ := v; simp at h
  | succ N ih =>
  intro v sl w hN hv hb
  have eg := enters_of Tryd.func35 (by kernel_rfl) rfl
  obtain ⟨a1, cap1, e1, g1, g2, g3⟩ := hv.len
  subst e1
  have HA := Lib.hid hv
  have HIH := Lib.hid ih
  have HN := Lib.hid hN
  have HSA := Lib.hid (fun (k : Nat) (x : PV) (h : v.l[k]? = some x) => sizeOf_mem h)
  have m1 : (v.l.length : Int) ≤ 9223372036854775807 := by unfold maxLen at g2; omega
  have HCH := Lib.hid (fun (W : World) (h : Below w.heap.size w W) => check1_any (hv.below h) (block_keep h hb))
  have hfc := firstC_is v
  have hpl : p < w.heap.size := (Array.getElem?_eq_some_iff.1 hb).1
  unfold pvA at HCH ⊢
  clear ih hN hv hb g2 g3
  obtain ⟨FC, hFC⟩ : ∃ FC, FC = firstC v := ⟨_, rfl⟩
  rw [← hFC] at hfc ⊢
  clear hFC
  obtain ⟨la, hla⟩ : ∃ la, la = v.l := ⟨_, rfl⟩
  have HLA := Lib.hid hla
  rw [← hla] at hfc HA HSA m1 g1 HCH ⊢
  clear hla
  obtain ⟨k0, hk0⟩ : ∃ k, k = v.kind := ⟨_, rfl⟩
  rw [← hk0] at hfc HCH ⊢
  clear hk0
  have HFC := Lib.hid hfc
  clear hfc
  generalize ownC v = oc at *
  generalize v.n = n0 at *
  generalize mkB v.s = s0 at *
  go_enter Tryd.func34, Tryd.ntmps34
  obtain ⟨B, hB⟩ : ∃ B, B = w.heap.size := ⟨_, rfl⟩
  have HX1 := Lib.hid (heapA_new (w := w) (b := B) (.cells #[.int .i64 k0, .int .i64 n0, .string s0, .slice a1 la.length cap1] 24) hB)
  have HW := Lib.hid (belowA w (.cells #[.int .i64 k0, .int .i64 n0, .string s0, .slice a1 la.length cap1] 24))
  have HPL := Lib.hid hpl
  have hBp : B ≠ p := by omega
  go_upto_region 1 with fail
  rw [← hB]
  clear hB hpl
  generalize w.alloc _ = W1 at *
  obtain ⟨⟨c0, c1, c2, c3⟩, -⟩ := cells4 HX1.out
  have HBP := Lib.hid hBp
  clear hBp
  go_wp2_with fail
  refine (HCH.out _ HW.out).mono ?_
  rintro e w2 ⟨rfl, he2⟩
  have HX2 := Lib.hid ((he2.keeps.block B (lt_of_heapS HX1.out) HBP.out).trans HX1.out)
  have HE2 := Lib.hid (ErrM.trans (keepsB HW.out) he2)
  clear he2 c0 c1 c2 c3 HX1 HW HCH
  obtain ⟨⟨c0, c1, c2, c3⟩, -⟩ := cells4 HX2.out
  have hfc := HFC.out
  by_cases ho : oc = 0
  case neg =>
    have eo : (oc == 0) = false := by rw [beq_eq_false_iff_ne]; exact ho
    rw [if_pos ho] at hfc
    subst hfc
    clear HFC HA HIH HN HSA HLA ho
    have HEO := Lib.hid eo
    go_wp2
    go_ret
    exact ⟨by rw [HEO.out]; rfl, HE2.out⟩
  subst ho
  rw [if_neg (by simp)] at hfc
  clear HFC
  by_cases hk : k0 = 6 ∨ k0 = 7
  case neg =>
    have hk6 : (k0 == 6) = false := by rw [beq_eq_false_iff_ne]; omega
    have hk7 : (k0 == 7) = false := by rw [beq_eq_false_iff_ne]; omega
    have hk6' : (k0 != 6) = true := by simp only [bne, hk6, Bool.not_false]
    have hk7' : (k0 != 7) = true := by simp only [bne, hk7, Bool.not_false]
    rw [if_neg hk] at hfc
    subst hfc
    clear hk HA HIH HN HSA HLA
    go_wp2
    go_ret
    exact ⟨rfl, HE2.out⟩
  rw [if_pos hk] at hfc
  have HFC := Lib.hid hfc
  clear hfc
  have hor : ∀ {Q : Prop}, (k0 = 6 → Q) → (k0 = 7 → Q) → Q := fun h6 h7 => hk.elim h6 h7
  clear hk
  refine hor (fun e6 => ?_) (fun e7 => ?_)
  all_goals
    first | subst e6 | subst e7
    clear hor
    go_wp2
    clear c0 c1 c2 c3
    go_loopw [22] (fun vk wr => ∃ (k : Nat), vk = .int .i64 k ∧ k ≤ la.length ∧ Hid (ErrM w wr p 0) ∧ Hid (firstL (la.take k) = 0)) (fun vk _ => la.length - (intOf vk).toNat)
    case atStart => exact ⟨0, rfl, Nat.zero_le _, HE2, Lib.hid rfl⟩
    case round =>
      obtain ⟨k, rfl, hk, HER, HV⟩ := hrel
      by_cases q1 : k < la.length
      case neg =>
        have hkl : k = la.length := by omega
        subst hkl
        have hv := HV.out
        rw [List.take_length] at hv
        have hf := HFC.out
        rw [hv] at hf
        subst hf
        clear hv HFC HV HA HIH HN HSA HLA
        go_wp2
        go_ret
        exact ⟨rfl, HER.out⟩
      obtain ⟨x, hx⟩ : ∃ x, la[k]? = some x := ⟨_, List.getElem?_eq_getElem q1⟩
      obtain ⟨-, -, -, b1, o1, rfl, -, -, hax⟩ := (HA.out.err HER.out.keeps).at (by omega)
      rw [← HLA.out] at hax
      obtain ⟨sx, hsx, x0, x1, x2, x3⟩ := hax k x hx
      have hlt : SizeOf.sizeOf x < SizeOf.sizeOf v := HSA.out k x hx
      have hN := HN.out
      obtain ⟨sa', sc', rfl, -, -, -⟩ := hsx.len
      have HCALL := Lib.hid (fun (W : World) (hb : Below wr.heap.size wr W) => HIH.out x _ W (by omega) (hsx.below hb) (block_keep hb HER.out.blk))
      simp only [pvA] at HCALL
      have HT0 := Lib.hid (fun (h : firstC x = 0) => (firstL_take hx HV.out).trans h)
      have HT1 := Lib.hid (fun (h : firstC x ≠ 0) => firstL_bad hx HV.out h)
      clear hsx hlt hN hax hx HA HIH HV HSA HLA HN
      generalize firstC x = fx at *
      have hkl : (0 : Int) ≤ (k : Int) := by omega
      have hki : (k : Int) < (la.length : Int) := by omega
      have hd1 : decide (k < la.length) = true := decide_eq_true q1
      generalize x.kind = xk at *
      generalize x.n = xn at *
      generalize mkB x.s = xs at *
      generalize x.l.length = xl at *
      have HB4 := Lib.hid (belowA wr (.cells #[.int .i64 xk, .int .i64 xn, .string xs, .slice sa' xl sc'] 24))
      have HK4 := Lib.hid (heapA_new (w := wr) (b := wr.heap.size) (.cells #[.int .i64 xk, .int .i64 xn, .string xs, .slice sa' xl sc'] 24) rfl)
      go_upto_region 8 with fail
      obtain ⟨r4, hr4⟩ : ∃ r4, r4 = wr.heap.size := ⟨_, rfl⟩
      rw [← hr4] at HK4 ⊢
      clear hr4 x0 x1 x2 x3
      have HC4 := Lib.hid (HCALL.out _ HB4.out)
      have HE4 := Lib.hid (HER.out.keeps.trans (keepsB (S := fun b => b = p) HB4.out) fun _ hb => .inl hb)
      clear HCALL HB4 HER
      generalize wr.alloc _ = W4 at *
      obtain ⟨⟨x0, x1, x2, x3⟩, -⟩ := cells4 HK4.out
      go_wp2_with fail
      refine HC4.out.mono ?_
      rintro e w5 ⟨rfl, he5⟩
      have HE5 := Lib.hid (ErrM.trans HE4.out he5)
      clear he5 x0 x1 x2 x3 HC4 HE4
      by_cases hf : fx = 0
      · have ef : (fx == 0) = true := by rw [hf]; rfl
        have HV2 := Lib.hid (HT0.out hf)
        rw [hf] at HE5
        clear HT0 HT1 hf
        go_wp2
        go_roundw
        case rel => exact ⟨k + 1, by go_num, by omega, HE5, HV2⟩
        case measure => simp [intOf]; omega
      · have ef : (fx == 0) = false := by rw [beq_eq_false_iff_ne]; exact hf
        have hF : FC = fx := HFC.out.trans (HT1.out hf)
        subst hF
        have HEF := Lib.hid ef
        clear HT0 HT1 hf HFC
        go_wp2
        go_ret
        exact ⟨by rw [HEF.out]; rfl, HE5.out⟩

set_option maxRecDepth 8000 in
set_option maxHeartbeats 4000000 in
theorem vcheck_any {v : PV} {sl : Value} {w : World} (hv : IsV w anyF v sl) (hd : depthV v ≤ 1000) :
    Calls Tryd.prog 22 #[pvA v sl] w fun e w' => e = .returned (.int .i64 (checkC v)) ∧ Below w.heap.size w w' := by
  have HD := Lib.hid (fun (W : World) (h : Below w.heap.size w W) => vdepth_any _ v sl W (Nat.le_refl _) hd (hv.below h))
  have HWK := Lib.hid (fun (W : World) (p : Nat) (h : Below w.heap.size w W) (hp : w.heap.size ≤ p) (hb : W.heap[p]? = some (.cells #[.int .i64 0] 27 (0, 0))) =>
    walk_any p _ v sl W (Nat.le_refl _) (IsV.keep (F := fun b => anyF b ∧ b < w.heap.size) (Stays.of_below h) (fun b hb => by have := hb.2; omega) _ (IsV.ltS v hv)) hb)
  obtain ⟨R, hR⟩ : ∃ R, R = checkC v := ⟨_, rfl⟩
  rw [← hR]
  unfold checkC at hR
  have HR := Lib.hid hR
  obtain ⟨a1, cap1, rfl, -, -, -⟩ := hv.len
  unfold pvA at HD HWK ⊢
  clear hv hR
  generalize firstC v = fc at *
  generalize depthV v = d at *
  generalize v.kind = k0 at *
  generalize v.n = n0 at *
  generalize mkB v.s = s0 at *
  generalize v.l.length = m at *
  go_enter Tryd.func22, Tryd.ntmps22
  obtain ⟨B, hB⟩ : ∃ B, B = w.heap.size := ⟨_, rfl⟩
  have HX1 := Lib.hid (heapA_new (w := w) (b := B) (.cells #[.int .i64 k0, .int .i64 n0, .string s0, .slice a1 m cap1] 24) hB)
  have HW := Lib.hid (belowA w (.cells #[.int .i64 k0, .int .i64 n0, .string s0, .slice a1 m cap1] 24))
  go_upto_region 1 with fail
  rw [← hB]
  clear hB
  generalize w.alloc _ = W1 at *
  obtain ⟨⟨c0, c1, c2, c3⟩, -⟩ := cells4 HX1.out
  go_wp2_with fail
  refine (HD.out _ HW.out).mono ?_
  rintro e w2 ⟨rfl, hb2⟩
  have HX2 := Lib.hid (block_keep hb2 HX1.out)
  have HW2 := Lib.hid (HW.out.trans (hb2.mono HW.out.size))
  clear hb2 c0 c1 c2 c3 HX1 HW HD
  have hR := HR.out
  by_cases h64 : 64 < d
  · have hd1 : decide (64 < d) = true := decide_eq_true h64
    have hd2 : decide ((64 : Int) < (d : Int)) = true := decide_eq_true (by omega)
    rw [if_pos h64] at hR
    subst hR
    clear HR HWK h64
    go_wp2
    go_ret
    exact ⟨rfl, HW2.out⟩
  have hd1 : decide (64 < d) = false := decide_eq_false h64
  have hd2 : decide ((64 : Int) < (d : Int)) = false := decide_eq_false (by omega)
  rw [if_neg h64] at hR
  subst hR
  clear HR h64
  have HP3 := Lib.hid (heapA_new (w := w2) (b := w2.heap.size) (.cells #[.int .i64 0] 27) rfl)
  have HX3 := Lib.hid (heapA_old (.cells #[.int .i64 0] 27) HX2.out)
  have HW3 := Lib.hid (HW2.out.alloc HW2.out.size (.cells #[.int .i64 0] 27))
  have HPP := Lib.hid HW2.out.size
  go_upto_region 4 with fail
  obtain ⟨p, hp⟩ : ∃ p, p = w2.heap.size := ⟨_, rfl⟩
  rw [← hp] at HP3 HPP ⊢
  clear hp
  generalize w2.alloc _ = W3 at *
  obtain ⟨⟨c0, c1, c2, c3⟩, -⟩ := cells4 HX3.out
  go_wp2_with fail
  refine (HWK.out _ _ HW3.out HPP.out HP3.out).mono ?_
  rintro e w4 ⟨rfl, he4⟩
  have HE4 := Lib.hid he4
  clear he4 c0 c1 c2 c3 HWK
  have p0 : w4.cell? ⟨p, 0, none⟩ = some (.int .i64 R) := by rw [cell_of_row w4 p 0 _ _ _ HE4.out.blk]; rfl
  have HW4 := Lib.hid (show Below w.heap.size w w4 from HW3.out.trans ⟨HE4.out.keeps.os, HE4.out.keeps.tape, HE4.out.keeps.output, HE4.out.keeps.size, fun b hb => HE4.out.keeps.block b (by have := HW3.out.size; omega) (by have := HPP.out; omega)⟩)
  go_wp2
  go_ret
  exact ⟨rfl, HW4.out⟩
end Go.Proofs.YtnkodejgiabamaaDoor
/-
  The walk of ref11.first and Check, of any small value.
-/
namespace Go.Proofs.YtnkodejgiabamaaDoor
open Go.RowKit

theorem tx_memS {x : PV} : ∀ (l : List PV) (k : Nat), txL l = true → l[k]? = some x → txV x = true
  | [], _, _, h => by cases h
  | y :: l, 0, h, hx => by
    have : y = x := by simpa using hx
    subst this
    simp only [txL, Bool.and_eq_true] at h
    exact h.1
  | y :: l, k + 1, h, hx => by
    simp only [txL, Bool.and_eq_true] at h
    exact tx_memS l k h.2 (by simpa using hx)
theorem tx_subS {v x : PV} (h : txV v = true) {k : Nat} (hx : v.l[k]? = some x) : txV x = true := by
  rw [txV_is, Bool.and_eq_true] at h
  exact tx_memS _ k h.1 hx
theorem tx_sS {v : PV} (h : txV v = true) : v.s.length ≤ 300 := by
  rw [txV_is, Bool.and_eq_true, decide_eq_true_eq] at h
  exact h.2
theorem firstL_drop {l : List PV} {k : Nat} {x : PV} (hx : l[k]? = some x) : firstL (l.drop k) = if firstC x ≠ 0 then firstC x else firstL (l.drop (k + 1)) := by
  obtain ⟨h, e⟩ := List.getElem?_eq_some_iff.1 hx
  rw [List.drop_eq_getElem_cons h, e]
  simp only [firstL]

set_option maxRecDepth 8000 in
set_option maxHeartbeats 4000000 in
theorem rfirst_any : ∀ (N : Nat) (v : PV) (sl : Value) (w : World), SizeOf.sizeOf v ≤ N → txV v = true → IsV w anyF v sl →
    Calls Tryd.prog 43 #[pvA v sl] w fun e w' => e = .returned (.int .i64 (firstC v)) ∧ Below w.heap.size w w' := by
  intro N
  induction N with
  | zero => intro v sl w h; obtain ⟨_, _, _, _⟩ := v; simp at h
  | succ N ih =>
  intro v sl w hN hd hv
  obtain ⟨a1, cap1, e1, g1, g2, g3⟩ := hv.len
  subst e1
  have HA := Lib.hid hv
  have HIH := Lib.hid ih
  have HN := Lib.hid hN
  have HSA := Lib.hid (fun (k : Nat) (x : PV) (h : v.l[k]? = some x) => sizeOf_mem h)
  have m1 : (v.l.length : Int) ≤ 9223372036854775807 := by unfold maxLen at g2; omega
  have HO := Lib.hid (fun (W : World) (h : Below w.heap.size w W) => rown_any (hv.below h) (tx_sS hd))
  have HH := Lib.hid (fun W => rholds_any v (.slice a1 v.l.length cap1) W)
  have HDM := Lib.hid (fun (k : Nat) (x : PV) (hx : v.l[k]? = some x) => tx_subS hd hx)
  have hfr := firstC_is v
  obtain ⟨R, hR⟩ : ∃ R, R = firstC v := ⟨_, rfl⟩
  rw [← hR] at hfr ⊢
  clear hR
  unfold pvA at HH HO ⊢
  clear ih hN hd hv
  generalize ownC v = oc at *
  obtain ⟨B, hB⟩ : ∃ B, B = w.heap.size := ⟨_, rfl⟩
  have HX1 := Lib.hid (heapA_new (w := w) (b := B) (.cells #[.int .i64 v.kind, .int .i64 v.n, .string (mkB v.s), .slice a1 v.l.length cap1] 24) hB)
  have HW := Lib.hid (belowA w (.cells #[.int .i64 v.kind, .int .i64 v.n, .string (mkB v.s), .slice a1 v.l.length cap1] 24))
  have HBB := Lib.hid hB
  clear hB
  by_cases ho : oc = 0
  case neg =>
    have en : (oc == 0) = false := by rw [beq_eq_false_iff_ne]; exact ho
    have en' : (oc != 0) = true := by simp only [bne, en, Bool.not_false]
    rw [if_pos ho] at hfr
    obtain rfl : R = oc := hfr
    clear ho HH HA HIH HDM HN HSA
    generalize v.kind = k0 at *
    generalize v.n = n0 at *
    generalize mkB v.s = s0 at *
    generalize v.l.length = l0 at *
    go_enter Tryd.func43, Tryd.ntmps43
    go_wp2_with (go_at_call 61; refine (HO.out _ HW.out).mono ?_; rintro e w1 ⟨rfl, hb1⟩; have HB1 := Lib.hid hb1)
    go_ret
    exact ⟨rfl, HW.out.trans (HB1.out.mono HW.out.size)⟩
  subst ho
  rw [if_neg (by simp)] at hfr
  by_cases hk : v.kind = 6 ∨ v.kind = 7
  case neg =>
    rw [if_neg hk] at hfr
    subst hfr
    have hb : (v.kind == 6 || v.kind == 7) = false := by
      simp only [Bool.or_eq_false_iff, beq_eq_false_iff_ne]; omega
    rw [hb] at HH
    clear hk hb HA HIH HDM HN HSA
    generalize v.kind = k0 at *
    generalize v.n = n0 at *
    generalize mkB v.s = s0 at *
    generalize v.l.length = l0 at *
    go_enter Tryd.func43, Tryd.ntmps43
    go_wp2_with (first | (go_at_call 61; refine (HO.out _ HW.out).mono ?_; rintro e w1 ⟨rfl, hb1⟩; have HB1 := Lib.hid hb1; obtain ⟨⟨c0, c1, c2, c3⟩, -⟩ := cells4 (block_keep hb1 HX1.out); rw [HBB.out] at c0 c1 c2 c3) | (go_at_call 60; refine (HH.out _).mono ?_; rintro e w2 ⟨rfl, hb2⟩))
    all_goals
      go_ret
      exact ⟨rfl, HW.out.trans ((HB1.out.trans (hb2.mono HB1.out.size)).mono HW.out.size)⟩
  rw [if_pos hk] at hfr
  have hb : (v.kind == 6 || v.kind == 7) = true := by
    rcases hk with h | h <;> rw [h] <;> rfl
  rw [hb] at HH
  have HDM2 := HDM
  clear hk hb HDM
  obtain ⟨la, hla⟩ : ∃ la, la = v.l := ⟨_, rfl⟩
  have HLA := Lib.hid hla
  rw [← hla] at HH HO HDM2 HA HX1 HW m1 g1 hfr ⊢
  clear hla
  have HFR := Lib.hid hfr
  clear hfr
  generalize v.kind = k0 at *
  generalize v.n = n0 at *
  generalize mkB v.s = s0 at *
  go_enter Tryd.func43, Tryd.ntmps43
  go_wp2_with (first | (go_at_call 61; refine (HO.out _ HW.out).mono ?_; rintro e w1 ⟨rfl, hb1⟩; have HB1 := Lib.hid hb1; have HX2 := Lib.hid (block_keep hb1 HX1.out); obtain ⟨⟨c0, c1, c2, c3⟩, -⟩ := cells4 HX2.out; rw [HBB.out] at c0 c1 c2 c3) | (go_at_call 60; refine (HH.out _).mono ?_; rintro e w2 ⟨rfl, hb2⟩))
  have HX3 := Lib.hid (block_keep hb2 HX2.out)
  have HW2 := Lib.hid (HW.out.trans ((HB1.out.trans (hb2.mono HB1.out.size)).mono HW.out.size))
  rw [← HBB.out]
  clear c0 c1 c2 c3 hb1 hb2 HB1 HW HX1 HX2 HO HH
  go_loopw [3, 4] (fun ve vk wr => ∃ (k : Nat), vk = .int .i64 k ∧ ve = .int .i64 0 ∧ k ≤ la.length ∧ Hid (Below w.heap.size w wr) ∧ Hid (Below w2.heap.size w2 wr) ∧ Hid (R = firstL (la.drop k))) (fun _ vk _ => la.length - (intOf vk).toNat)
  case atStart => exact ⟨0, rfl, rfl, Nat.zero_le _, HW2, Below.refl _ _, HFR⟩
  case round =>
    obtain ⟨k, rfl, rfl, hk, HWR, HWR1, HV⟩ := hrel
    obtain ⟨⟨c0, c1, c2, c3⟩, -⟩ := cells4 (block_keep HWR1.out HX3.out)
    by_cases q1 : k < la.length
    case neg =>
      have hd1 : decide (k < la.length) = false := decide_eq_false q1
      have hq2 : ¬ (k : Int) < (la.length : Int) := by omega
      have hv := HV.out
      rw [List.drop_eq_nil_of_le (by omega)] at hv
      obtain rfl : R = 0 := hv
      clear HA HIH HDM2 HV HFR
      go_wp2
      go_ret
      exact ⟨rfl, HWR.out⟩
    obtain ⟨x, hx⟩ : ∃ x, la[k]? = some x := ⟨_, List.getElem?_eq_getElem q1⟩
    obtain ⟨-, -, -, b1, o1, rfl, -, -, hax⟩ := (HA.out.below HWR.out).at (by omega)
    rw [← HLA.out] at hax
    obtain ⟨sx, hsx, x0, x1, x2, x3⟩ := hax k x hx
    have hlt : SizeOf.sizeOf x < SizeOf.sizeOf v := HSA.out k x (by rw [← HLA.out]; exact hx)
    have hN := HN.out
    have hcall := HIH.out x sx wr (by omega) (HDM2.out k x hx) hsx
    unfold pvA at hcall
    obtain ⟨sa', sc', rfl, -, -, -⟩ := hsx.len
    have HCALL := Lib.hid hcall
    have hv := HV.out
    rw [firstL_drop hx] at hv
    have HV2 := Lib.hid hv
    clear hcall hsx hlt hN hax hx HA HIH HSA HLA HN HDM2 HV HFR hv
    have hkl : (0 : Int) ≤ (k : Int) := by omega
    have hki : (k : Int) < (la.length : Int) := by omega
    generalize firstC x = fc at *
    go_wp2_with fail
    refine HCALL.out.mono ?_
    rintro e w4 ⟨rfl, hb4⟩
    have HW4 := Lib.hid (HWR.out.trans (hb4.mono HWR.out.size))
    have HW5 := Lib.hid (HWR1.out.trans (hb4.mono HWR1.out.size))
    clear hb4 x0 x1 x2 x3 c0 c1 c2 c3 HCALL
    by_cases hf : fc = 0
    · subst hf
      have hv := HV2.out
      rw [if_neg (by simp)] at hv
      have HV3 := Lib.hid hv
      clear hv HV2
      go_wp2
      go_roundw
      case rel => exact ⟨k + 1, by go_num, rfl, by omega, HW4, HW5, HV3⟩
      case measure => simp [intOf]; omega
    · have en : (fc == 0) = false := by rw [beq_eq_false_iff_ne]; exact hf
      have en' : (fc != 0) = true := by simp only [bne, en, Bool.not_false]
      have hv := HV2.out
      rw [if_pos hf] at hv
      obtain rfl : R = fc := hv
      clear HV2 hf
      go_wp2
      go_ret
      exact ⟨rfl, HW4.out⟩

set_option maxRecDepth 8000 in
set_option maxHeartbeats 4000000 in
theorem rcheck11_any {v : PV} {sl : Value} {w : World} (hv : IsV w anyF v sl) (ht : txV v = true) (hd : depthV v ≤ 1000) :
    Calls Tryd.prog 25 #[pvA v sl] w fun e w' => e = .returned (.int .i64 (checkC v)) ∧ Below w.heap.size w w' := by
  have HD := Lib.hid (fun (W : World) (h : Below w.heap.size w W) => rdepth_any _ v sl W (Nat.le_refl _) hd (hv.below h))
  have HF := Lib.hid (fun (W : World) (h1 : Below w.heap.size w W) => rfirst_any _ v sl W (Nat.le_refl _) ht (hv.below h1))
  obtain ⟨a1, cap1, rfl, g1, g2, g3⟩ := hv.len
  have hr : checkC v = if 64 < depthV v then 15 else firstC v := by unfold checkC; rfl
  rw [hr]
  unfold pvA at HD HF ⊢
  have HW := Lib.hid (belowA w (.cells #[.int .i64 v.kind, .int .i64 v.n, .string (mkB v.s), .slice a1 v.l.length cap1] 24))
  have HX1 := Lib.hid (heapA_new (w := w) (.cells #[.int .i64 v.kind, .int .i64 v.n, .string (mkB v.s), .slice a1 v.l.length cap1] 24) rfl)
  clear hv hr ht
  generalize v.kind = k0 at *
  generalize v.n = n0 at *
  generalize mkB v.s = s0 at *
  generalize v.l.length = l0 at *
  generalize depthV v = d at *
  generalize firstC v = fc at *
  by_cases h64 : 64 < d
  · rw [if_pos h64]
    have hdd : decide (64 < (d : Int)) = true := decide_eq_true (by omega)
    have hdd2 : (64 : Int) < (d : Int) := by omega
    clear HF
    go_enter Tryd.func25, Tryd.ntmps25
    go_wp2_with (go_at_call 42; refine (HD.out _ HW.out).mono ?_; rintro e w1 ⟨rfl, hb1⟩; have HB1 := Lib.hid (HW.out.trans (hb1.mono HW.out.size)); obtain ⟨⟨c0, c1, c2, c3⟩, -⟩ := cells4 (block_keep hb1 HX1.out))
    go_ret
    exact ⟨rfl, HB1.out⟩
  · rw [if_neg h64]
    have hdd : decide (64 < (d : Int)) = false := decide_eq_false (by omega)
    have hdd2 : ¬ (64 : Int) < (d : Int) := by omega
    go_enter Tryd.func25, Tryd.ntmps25
    go_wp2_with (first | (go_at_call 42; refine (HD.out _ HW.out).mono ?_; rintro e w1 ⟨rfl, hb1⟩; have HB1 := Lib.hid (HW.out.trans (hb1.mono HW.out.size)); obtain ⟨⟨c0, c1, c2, c3⟩, -⟩ := cells4 (block_keep hb1 HX1.out)) | (go_at_call 43; refine (HF.out _ HB1.out).mono ?_; rintro e w2 ⟨rfl, hb2⟩))
    go_ret
    exact ⟨rfl, HB1.out.trans (hb2.mono HB1.out.size)⟩
end Go.Proofs.YtnkodejgiabamaaDoor
/-
  Show's writer: values in a row.
-/
namespace Go.Proofs.YtnkodejgiabamaaDoor
open Go.RowKit

theorem moreF_app : ∀ (l m : List PV), moreF (l ++ m) = moreF l ++ moreF m
  | [], m => rfl
  | x :: l, m => by simp only [List.cons_append, moreF, moreF_app l m, List.append_assoc]
theorem rowF_take {l : List PV} {k : Nat} {x : PV} (h : l[k]? = some x) : rowF (l.take (k + 1)) = rowF (l.take k) ++ (if k = 0 then formV x else 32 :: formV x) := by
  rw [List.take_add_one, h]
  cases l with
  | nil => cases h
  | cons y l =>
    cases k with
    | zero =>
      have e : y = x := by simpa using h
      subst e
      simp [rowF, moreF]
    | succ k =>
      rw [List.take_succ_cons]
      simp only [Option.toList_some, List.cons_append, rowF, moreF_app, moreF, List.append_nil, List.append_assoc]
      rw [if_neg (by omega)]
theorem rowF_le {l : List PV} {k : Nat} : (rowF (l.take k)).length ≤ (rowF l).length := by
  cases l with
  | nil => simp
  | cons y l =>
    cases k with
    | zero => simp [rowF]
    | succ k =>
      rw [List.take_succ_cons]
      simp only [rowF, List.length_append]
      have : (moreF (l.take k)).length ≤ (moreF l).length := by
        have h := moreF_app (l.take k) (l.drop k)
        rw [List.take_append_drop] at h
        rw [h]
        simp
      omega
theorem WrQ.lt {w : World} {S : Nat → Prop} {p : Nat} {out : List UInt8} (h : WrQ w S p out) {b : Nat} (hb : S b) : p ≤ b ∧ b < w.heap.size := by obtain ⟨_, _, h⟩ := h; exact h.lt b hb
theorem WrQ.pl {w : World} {S : Nat → Prop} {p : Nat} {out : List UInt8} (h : WrQ w S p out) : p < w.heap.size := by obtain ⟨_, _, h⟩ := h; exact (h.lt p h.own).2
theorem IsV.wr {w w' : World} {S : Nat → Prop} {p : Nat} {out : List UInt8} {v : PV} {sl : Value} (h : IsV w (fun b => b < p) v sl) (hq : WrQ w S p out) (hk : Keeps S w w') : IsV w' (fun b => b < p) v sl :=
  IsV.keep ⟨hk.size, fun b hb hF => hk.block b hb (fun hS => by have := (hq.lt hS).1; omega)⟩ (fun _ h => h) v h
/-- What value does, of one. -/
def ValW (p : Nat) (x : PV) : Prop := ∀ (sx : Value) (W : World) (S : Nat → Prop) (o : List UInt8), IsV W (fun b => b < p) x sx → WrQ W S p o → o.length + (formV x).length ≤ 1000000 →
  Calls Tryd.prog 23 #[.pointer (some ⟨p, 0, none⟩), pvA x sx] W fun e w' => e = .returned (.tuple #[]) ∧ WrNext W S p (o ++ formV x) w'

set_option maxRecDepth 8000 in
set_option maxHeartbeats 4000000 in
theorem rowW {w : World} {S : Nat → Prop} {p : Nat} {out : List UInt8} {v : PV} {a : Option Addr} {cap : Nat} (h : WrQ w S p out) (hv : IsV w (fun b => b < p) v (.slice a v.l.length cap)) (HX : ∀ (k : Nat) (x : PV), v.l[k]? = some x → ValW p x) (hl : out.length + (rowF v.l).length ≤ 1000000) :
    Calls Tryd.prog 41 #[.pointer (some ⟨p, 0, none⟩), .slice a v.l.length cap] w fun e w' => e = .returned (.tuple #[]) ∧ WrNext w S p (out ++ rowF v.l) w' := by
  have m1 : (v.l.length : Int) ≤ 9223372036854775807 := by obtain ⟨_, _, e, _, g2, _⟩ := hv.len; cases e; unfold maxLen at g2; omega
  have HV := Lib.hid hv
  have HQ := Lib.hid h
  have HXX := Lib.hid HX
  have HL := Lib.hid hl
  clear hv h HX hl
  obtain ⟨la, hla⟩ : ∃ la, la = v.l := ⟨_, rfl⟩
  have HLA := Lib.hid hla
  rw [← hla] at m1 HV HXX HL ⊢
  clear hla
  go_enter Tryd.func41, Tryd.ntmps41
  go_wp2
  go_loopw [8] (fun vk wr => ∃ k : Nat, vk = .int .i64 k ∧ k ≤ la.length ∧ Hid (WrNext w S p (out ++ rowF (la.take k)) wr)) (fun vk _ => la.length - (intOf vk).toNat)
  case atStart => exact ⟨0, rfl, Nat.zero_le _, Lib.hid (by rw [List.take_zero]; simpa [rowF] using WrNext.refl HQ.out)⟩
  case round =>
    obtain ⟨k, rfl, hk, HN⟩ := hrel
    by_cases q1 : k < la.length
    case neg =>
      have hd1 : decide (k < la.length) = false := decide_eq_false q1
      have hd2 : decide ((k : Int) < (la.length : Int)) = false := decide_eq_false (by omega)
      have hq2 : ¬ (k : Int) < (la.length : Int) := by omega
      have HE := Lib.hid (show WrNext w S p (out ++ rowF la) wr by
        have h2 := HN.out
        rwa [List.take_of_length_le (by omega)] at h2)
      clear HN HV HXX HL
      go_wp2
      go_end0
      exact ⟨rfl, HE.out⟩
    obtain ⟨S1, hq1, hk1, hs1⟩ := HN.out
    obtain ⟨x, hx⟩ : ∃ x, la[k]? = some x := ⟨_, List.getElem?_eq_getElem q1⟩
    obtain ⟨-, -, -, b1, o1, rfl, -, -, hax⟩ := (HV.out.wr HQ.out hk1).at (by omega)
    rw [← HLA.out] at hax
    obtain ⟨sx, hsx, x0, x1, x2, x3⟩ := hax k x hx
    obtain ⟨sa', sc', rfl, -, -, -⟩ := hsx.len
    have hT := rowF_take hx
    have hle : (rowF (la.take (k + 1))).length ≤ (rowF la).length := rowF_le
    have HVX := Lib.hid (HXX.out k x hx)
    have HSX := Lib.hid hsx
    have HQ1 := Lib.hid hq1
    have HK1 := Lib.hid hk1
    have HS1 := Lib.hid hs1
    have hkl : (0 : Int) ≤ (k : Int) := by omega
    have hki : (k : Int) < (la.length : Int) := by omega
    have hd1 : decide (k < la.length) = true := decide_eq_true q1
    have hd2 : decide ((k : Int) < (la.length : Int)) = true := decide_eq_true hki
    have HT := Lib.hid hT
    have HLE := Lib.hid hle
    clear hax hx hsx hq1 hk1 hs1 hT hle HN HV HXX
    have HB4 := Lib.hid (belowA wr (.cells #[.int .i64 x.kind, .int .i64 x.n, .string (mkB x.s), .slice sa' x.l.length sc'] 24))
    have HK4 := Lib.hid (heapA_new (w := wr) (b := wr.heap.size) (.cells #[.int .i64 x.kind, .int .i64 x.n, .string (mkB x.s), .slice sa' x.l.length sc'] 24) rfl)
    have HR4 := Lib.hid (show ¬ S1 wr.heap.size from fun hS => by have := (HQ1.out.lt hS).2; omega)
    go_upto_region 3 with fail
    obtain ⟨r4, hr4⟩ : ∃ r4, r4 = wr.heap.size := ⟨_, rfl⟩
    rw [← hr4] at HK4 HR4 ⊢
    clear hr4 x0 x1 x2 x3
    have HQ4 := Lib.hid (HQ1.out.keep HB4.out)
    have HS4 := Lib.hid (HSX.out.below HB4.out)
    have HFB := Lib.hid HB4.out
    clear HB4
    generalize wr.alloc _ = W4 at *
    by_cases hk0 : k = 0
    · have hd3 : decide ((0 : Int) < (k : Int)) = false := decide_eq_false (by omega)
      have hd4 : decide (0 < k) = false := decide_eq_false (by omega)
      have hk0' : ¬ (0 : Int) < (k : Int) := by omega
      have HCALL := Lib.hid (HVX.out _ W4 S1 _ HS4.out HQ4.out (by
        have h1 := HT.out
        have h2 := HLE.out
        have h3 := HL.out
        rw [h1, if_pos hk0] at h2
        simp only [List.length_append] at h2 ⊢
        omega))
      have HFIN := Lib.hid (fun (w3 : World) (hN3 : WrNext W4 S1 p ((out ++ rowF (la.take k)) ++ formV x) w3) => show WrNext w S p (out ++ rowF (la.take (k + 1))) w3 by
        rw [HT.out, if_pos hk0, ← List.append_assoc]
        exact WrNext.trans HK1.out HS1.out (WrNext.above HFB.out hN3))
      simp only [pvA] at HCALL
      obtain ⟨⟨t0, t1, t2, t3⟩, -⟩ := cells4 HK4.out
      clear hk0 HVX HQ4 HS4 HSX
      generalize x.kind = xk at *
      generalize x.n = xn at *
      generalize mkB x.s = xs at *
      generalize x.l.length = xl at *
      go_wp2_with fail
      refine HCALL.out.mono ?_
      rintro e w5 ⟨rfl, hN5⟩
      have HN5 := Lib.hid (HFIN.out _ hN5)
      clear hN5 HFIN HCALL t0 t1 t2 t3
      go_wp2
      go_roundw
      case rel => exact ⟨k + 1, by go_num, by omega, HN5⟩
      case measure => simp [intOf]; omega
    · have hd3 : decide ((0 : Int) < (k : Int)) = true := decide_eq_true (by omega)
      have hd4 : decide (0 < k) = true := decide_eq_true (by omega)
      have hk0' : (0 : Int) < (k : Int) := by omega
      have hbnd : (out ++ rowF (la.take k)).length + (formV x).length + 1 ≤ 1000000 := by
        have h1 := HT.out
        have h2 := HLE.out
        have h3 := HL.out
        rw [h1, if_neg hk0] at h2
        simp only [List.length_append, List.length_cons] at h2 ⊢
        omega
      have HBD := Lib.hid hbnd
      have HWB := Lib.hid (writeByteW HQ4.out 32 32 rfl (by omega))
      have HT2 := Lib.hid (show rowF (la.take (k + 1)) = rowF (la.take k) ++ 32 :: formV x by rw [HT.out, if_neg hk0])
      clear hk0 hbnd
      go_wp2_with fail
      refine HWB.out.mono ?_
      rintro e w5 ⟨rfl, hN5⟩
      obtain ⟨S2, hq2, hk2, hs2⟩ := hN5
      have HK5 := Lib.hid ((hk2.block r4 (lt_of_heapS HK4.out) HR4.out).trans HK4.out)
      have HCALL := Lib.hid (HVX.out _ w5 S2 _ (HS4.out.wr HQ4.out hk2) hq2 (by have := HBD.out; simp only [List.length_append, List.length_cons, List.length_nil] at this ⊢; omega))
      have HFIN := Lib.hid (fun (w3 : World) (hN3 : WrNext w5 S2 p (((out ++ rowF (la.take k)) ++ [32]) ++ formV x) w3) => show WrNext w S p (out ++ rowF (la.take (k + 1))) w3 by
        rw [HT2.out, ← List.append_assoc]
        have h3 := WrNext.trans HK1.out HS1.out (WrNext.above HFB.out (WrNext.trans hk2 hs2 hN3))
        rw [List.append_assoc _ [32]] at h3
        exact h3)
      simp only [pvA] at HCALL
      obtain ⟨⟨t0, t1, t2, t3⟩, -⟩ := cells4 HK5.out
      clear HVX HQ4 HS4 HSX hq2 hk2 hs2 HWB HK4
      generalize x.kind = xk at *
      generalize x.n = xn at *
      generalize mkB x.s = xs at *
      generalize x.l.length = xl at *
      go_wp2_with fail
      refine HCALL.out.mono ?_
      rintro e w6 ⟨rfl, hN6⟩
      have HN6 := Lib.hid (HFIN.out _ hN6)
      clear hN6 HFIN HCALL t0 t1 t2 t3
      go_wp2
      go_roundw
      case rel => exact ⟨k + 1, by go_num, by omega, HN6⟩
      case measure => simp [intOf]; omega
end Go.Proofs.YtnkodejgiabamaaDoor
/-
  Show's writer: a value that may be.
-/
namespace Go.Proofs.YtnkodejgiabamaaDoor
open Go.RowKit

theorem own_casesS {v : PV} (h : ownC v = 0) :
    (v.kind = 0 ∧ v.n = 0 ∧ v.s = [] ∧ v.l = []) ∨ (v.kind = 1 ∧ (v.n = 0 ∨ v.n = 1) ∧ v.s = [] ∧ v.l = []) ∨
    ((v.kind = 2 ∨ v.kind = 3) ∧ checkV v.kind v.n true = 0 ∧ v.s = [] ∧ v.l = []) ∨
    (v.kind = 4 ∧ v.n = 0 ∧ v.l = []) ∨ (v.kind = 5 ∧ (v.s.length ≤ 127 ∧ (0 : UInt8) ∉ v.s) ∧ v.n = 0 ∧ v.l = []) ∨ (v.kind = 6 ∧ v.n = 0 ∧ v.s = []) ∨
    (v.kind = 7 ∧ v.n = 0 ∧ v.s = []) ∨ (v.kind = 8 ∧ (1 ≤ v.n ∧ v.n ≤ 4096) ∧ v.s = [] ∧ v.l = []) := by
  obtain ⟨k, n, s, l⟩ := v
  simp only [PV.kind, PV.n, PV.s, PV.l]
  simp only [ownC] at h
  split at h
  · rename_i e; split at h
    · exact .inl ⟨e, by assumption⟩
    · cases h
  split at h
  · rename_i e; split at h
    · rename_i g; exact .inr (.inl ⟨e, g⟩)
    · cases h
  split at h
  · rename_i e; split at h
    · rename_i g; exact .inr (.inr (.inl ⟨e, h, g⟩))
    · cases h
  split at h
  · rename_i e; split at h
    · rename_i g; exact .inr (.inr (.inr (.inl ⟨e, g⟩)))
    · cases h
  split at h
  · rename_i e; split at h
    · cases h
    · rename_i q; split at h
      · rename_i g; exact .inr (.inr (.inr (.inr (.inl ⟨e, by rw [not_or] at q; exact ⟨by omega, q.2⟩, g⟩))))
      · cases h
  split at h
  · rename_i e; split at h
    · rename_i g; exact .inr (.inr (.inr (.inr (.inr (.inl ⟨e, g⟩)))))
    · cases h
  split at h
  · rename_i e; split at h
    · cases h
    · rename_i q
      simp only [not_or, Decidable.not_not, ne_eq] at q
      exact .inr (.inr (.inr (.inr (.inr (.inr (.inl ⟨e, q.1, q.2.1⟩))))))
  split at h
  · rename_i e; split at h
    · rename_i g; exact .inr (.inr (.inr (.inr (.inr (.inr (.inr ⟨e, ⟨g.1, g.2.1⟩, g.2.2⟩))))))
    · cases h
  cases h
theorem firstC_ownS {v : PV} (h : firstC v = 0) : ownC v = 0 := by
  rw [firstC_is] at h
  by_cases e : ownC v = 0
  · exact e
  · rw [if_pos e] at h; exact h
theorem first_memS {v : PV} (h : firstC v = 0) (hk : v.kind = 6 ∨ v.kind = 7) {k : Nat} {x : PV} (hx : v.l[k]? = some x) : firstC x = 0 := by
  have ho := firstC_ownS h
  rw [firstC_is, if_neg (by simp [ho]), if_pos hk] at h
  have : ∀ (l : List PV) (k : Nat), firstL l = 0 → l[k]? = some x → firstC x = 0 := by
    intro l
    induction l with
    | nil => intro k _ hx; cases hx
    | cons y l ih =>
      intro k h hx
      simp only [firstL] at h
      split at h
      · rename_i e; exact absurd h e
      · rename_i e
        cases k with
        | zero =>
          have : y = x := by simpa using hx
          subst this; omega
        | succ k => exact ih k h (by simpa using hx)
  exact this v.l k h hx
theorem textF_ge (s : List UInt8) : s.length + 2 ≤ (textF s).length := by
  unfold textF
  split
  · have : ∀ l : List UInt8, l.length ≤ (bareF l).length := fun l => by
      induction l with
      | nil => exact Nat.zero_le _
      | cons c l ih => simp only [bareF, List.length_append, List.length_cons]; split <;> (simp; omega)
    have := this s
    simp; omega
  · have := hexF_len s
    simp; omega
theorem nameF_ge : ∀ l : List UInt8, l.length ≤ (nameF l).length
  | [] => Nat.zero_le _
  | c :: l => by
    have := nameF_ge l
    simp only [nameF, List.length_append, List.length_cons]
    split <;> (simp [hexB]; omega)

theorem intOf_any (n : Int) (w : World) : Calls Tryd.prog 20 #[.int .i64 n] w fun e w' => e = .returned (.agg #[.int .i64 2, .int .i64 n, .string ⟨#[]⟩, .slice none 0 0]) ∧ Below w.heap.size w w' := by
  go_enter Tryd.func20, Tryd.ntmps20
  go_wp2
  refine bodyPost_ret (results_cell_row rfl _ _ w.heap.size 24 _ (0, 0) _ rfl (heapA_new _ rfl) Tryd.underlying24 rfl (by kernel_rfl)) rfl ?_
  exact ⟨rfl, belowA _ _⟩

section
variable {w : World} {S : Nat → Prop} {p : Nat} {out : List UInt8} {a : Option Addr} {cap : Nat}
set_option maxRecDepth 8000 in
set_option maxHeartbeats 4000000 in
theorem value_w0 (h : WrQ w S p out) (hl : out.length + 4 ≤ 1000000) :
    Calls Tryd.prog 23 #[.pointer (some ⟨p, 0, none⟩), .agg #[.int .i64 0, .int .i64 0, .string ⟨#[]⟩, .slice a 0 cap]] w fun e w' => e = .returned (.tuple #[]) ∧ WrNext w S p (out ++ [110, 117, 108, 108]) w' := by
  have hb := belowA w (.cells #[.int .i64 0, .int .i64 0, .string ⟨#[]⟩, .slice a 0 cap] 24)
  have HB := Lib.hid hb
  have HW := Lib.hid (writeStrW (h.keep hb) [110, 117, 108, 108] (by simp; omega))
  rw [show mkB [110, 117, 108, 108] = ⟨#[110, 117, 108, 108]⟩ from rfl] at HW
  clear h hb
  go_enter Tryd.func23, Tryd.ntmps23
  go_wp2_with (go_at_call 37; refine HW.out.mono ?_; rintro e w1 ⟨rfl, hN1⟩; have HN1 := Lib.hid (WrNext.above HB.out hN1); clear hN1)
  go_end0
  exact ⟨rfl, HN1.out⟩
set_option maxRecDepth 8000 in
set_option maxHeartbeats 4000000 in
theorem value_w4 (h : WrQ w S p out) (s : List UInt8) (hl : out.length + (textF s).length ≤ 1000000) :
    Calls Tryd.prog 23 #[.pointer (some ⟨p, 0, none⟩), .agg #[.int .i64 4, .int .i64 0, .string (mkB s), .slice a 0 cap]] w fun e w' => e = .returned (.tuple #[]) ∧ WrNext w S p (out ++ textF s) w' := by
  have hb := belowA w (.cells #[.int .i64 4, .int .i64 0, .string (mkB s), .slice a 0 cap] 24)
  have HB := Lib.hid hb
  have hge := textF_ge s
  have HW := Lib.hid (textW (h.keep hb) s (by omega))
  generalize textF s = t at *
  generalize mkB s = sb at *
  clear h hb hge
  go_enter Tryd.func23, Tryd.ntmps23
  go_wp2_with (go_at_call 31; refine HW.out.mono ?_; rintro e w1 ⟨rfl, hN1⟩; have HN1 := Lib.hid (WrNext.above HB.out hN1); clear hN1)
  go_end0
  exact ⟨rfl, HN1.out⟩
set_option maxRecDepth 8000 in
set_option maxHeartbeats 4000000 in
theorem value_w5 (h : WrQ w S p out) (s : List UInt8) (hl : out.length + (47 :: nameF s).length ≤ 1000000) :
    Calls Tryd.prog 23 #[.pointer (some ⟨p, 0, none⟩), .agg #[.int .i64 5, .int .i64 0, .string (mkB s), .slice a 0 cap]] w fun e w' => e = .returned (.tuple #[]) ∧ WrNext w S p (out ++ 47 :: nameF s) w' := by
  have hb := belowA w (.cells #[.int .i64 5, .int .i64 0, .string (mkB s), .slice a 0 cap] 24)
  have HB := Lib.hid hb
  have hge := nameF_ge s
  have HW := Lib.hid (nameW (h.keep hb) s (by simp at hl; omega))
  generalize 47 :: nameF s = t at *
  generalize mkB s = sb at *
  clear h hb hge
  go_enter Tryd.func23, Tryd.ntmps23
  go_wp2_with (go_at_call 39; refine HW.out.mono ?_; rintro e w1 ⟨rfl, hN1⟩; have HN1 := Lib.hid (WrNext.above HB.out hN1); clear hN1)
  go_end0
  exact ⟨rfl, HN1.out⟩
set_option maxRecDepth 8000 in
set_option maxHeartbeats 4000000 in
theorem value_wn (h : WrQ w S p out) (k n : Int) (hk : k = 2 ∨ k = 3) (hl : out.length + (printV k n true).1.length ≤ 1000000) :
    Calls Tryd.prog 23 #[.pointer (some ⟨p, 0, none⟩), .agg #[.int .i64 k, .int .i64 n, .string ⟨#[]⟩, .slice a 0 cap]] w fun e w' => e = .returned (.tuple #[]) ∧ WrNext w S p (out ++ (printV k n true).1) w' := by
  have hb := belowA w (.cells #[.int .i64 k, .int .i64 n, .string ⟨#[]⟩, .slice a 0 cap] 24)
  have HB := Lib.hid hb
  have HP := Lib.hid (fun W => print_any k n ⟨#[]⟩ a 0 cap W (by omega))
  rw [show bareV ⟨#[]⟩ 0 = true from rfl] at HP
  unfold PrintEnd at HP
  generalize printV k n true = R at *
  obtain ⟨t, er⟩ := R
  simp only at HP hl ⊢
  have HQ := Lib.hid (fun (W : World) (hW : Below w.heap.size w W) => writeStrW (h.keep hW) t (by omega))
  rw [show mkS t = mkB t from rfl] at HP
  generalize mkB t = sb at *
  clear h hb
  rcases hk with rfl | rfl
  all_goals
    go_enter Tryd.func23, Tryd.ntmps23
    go_wp2_with (go_at_call 38; refine (HP.out _).mono ?_; rintro e w1 ⟨rfl, hb1⟩; have HB1 := Lib.hid (HB.out.trans (hb1.mono HB.out.size)); clear hb1)
    refine (HQ.out _ HB1.out).mono ?_
    rintro e w2 ⟨rfl, hN2⟩
    have HN2 := Lib.hid (WrNext.above HB1.out hN2)
    clear hN2
    go_wp2
    go_end0
    exact ⟨rfl, HN2.out⟩
end
end Go.Proofs.YtnkodejgiabamaaDoor
