/-
  Our texts Sv2 to Sv4, in one.
-/
import Derived.Test.YtnkodejgiabamaaDoorPkV9
/-
  Walks of layer 11: plain; dictionaries by themselves, on both sides. (Printed by gensown.py.)
-/
namespace Go.Proofs.YtnkodejgiabamaaDoor
open Go.RowKit

theorem eqBs (a b : List UInt8) : ((mkB a).toList == b) = decide (a = b) := by
  rw [toList_mkB]; by_cases h : a = b <;> simp [h]
set_option maxRecDepth 8000 in
set_option maxHeartbeats 4000000 in
theorem plain_any (k n : Int) (s : List UInt8) (a : Option Addr) (m c : Nat) (w : World) :
    Calls Tryd.prog 52 #[.agg #[.int .i64 k, .int .i64 n, .string (mkB s), .slice a m c]] w fun e w' => e = .returned (.bool (n == 0 && decide (s = []) && m == 0)) ∧ Below w.heap.size w w' := by
  have hs := eqBs s []
  generalize decide (s = []) = ds at *
  generalize mkB s = S at *
  have HB := Lib.hid (belowA w (.cells #[.int .i64 k, .int .i64 n, .string S, .slice a m c] 24))
  have hm : ((m : Int) == 0) = (m == 0) := by rw [Bool.eq_iff_iff]; simp
  cases h1 : (n == 0)
  · go_enter Tryd.func52, Tryd.ntmps52
    go_wp2
    go_ret
    exact ⟨rfl, HB.out⟩
  · cases ds
    · go_enter Tryd.func52, Tryd.ntmps52
      go_wp2
      go_ret
      exact ⟨rfl, HB.out⟩
    · cases h2 : (m == 0)
      · rw [h2] at hm
        go_enter Tryd.func52, Tryd.ntmps52
        go_wp2
        go_ret
        exact ⟨rfl, HB.out⟩
      · rw [h2] at hm
        go_enter Tryd.func52, Tryd.ntmps52
        go_wp2
        go_ret
        exact ⟨rfl, HB.out⟩

theorem evenN_getS {l : List PV} (h : evenN l = true) {k : Nat} {x : PV} (hx : l[k * 2]? = some x) : x.kind = 5 := by
  induction k generalizing l with
  | zero =>
    match l, h with
    | [a], h => have e : a = x := by simpa using hx
                subst e; simpa [evenN] using h
    | a :: b :: l, h => have e : a = x := by simpa using hx
                        subst e; simp [evenN] at h; exact h.1
    | [], _ => simp at hx
  | succ k ih =>
    match l, h with
    | [], _ => simp at hx
    | [a], _ => simp at hx
    | a :: b :: l, h => exact ih (l := l) (by simp [evenN] at h; exact h.2) (by rw [show (k + 1) * 2 = k * 2 + 2 by omega] at hx; simpa using hx)
theorem evenN_of : ∀ (l : List PV), (∀ k x, l[k * 2]? = some x → x.kind = 5) → evenN l = true
  | [], _ => rfl
  | [a], h => by have := h 0 a rfl; simp [evenN, this]
  | a :: b :: l, h => by
    have h1 := h 0 a rfl
    have h2 := evenN_of l (fun k x hx => h (k + 1) x (by rw [show (k + 1) * 2 = k * 2 + 2 by omega]; simpa using hx))
    simp [evenN, h1, h2]
theorem asc_getS {l : List PV} (h : ascV (twoV l) = true) (he : l.length % 2 = 0) {k : Nat} {x y : PV} (hx : l[k * 2]? = some x) (hy : l[k * 2 + 2]? = some y) : sLt x.s y.s = true := by
  induction k generalizing l with
  | zero =>
    match l, h with
    | [], _ => cases hx
    | [a], _ => cases hy
    | [a, b], _ => cases hy
    | [a, b, c], _ => simp at he
    | a :: b :: c :: d :: l, h =>
      have e1 : a = x := by simpa using hx
      have e2 : c = y := by simpa using hy
      subst e1 e2
      simp [twoV, ascV] at h
      exact h.1
  | succ k ih =>
    match l, h with
    | [], _ => cases hx
    | [a], _ => simp at he
    | a :: b :: l, h =>
      refine ih (l := l) ?_ (by simp at he; omega) (by rw [show (k + 1) * 2 = k * 2 + 2 by omega] at hx; simpa using hx) (by rw [show (k + 1) * 2 + 2 = (k * 2 + 2) + 2 by omega] at hy; simpa using hy)
      match l, h with
      | [], _ => rfl
      | [c], _ => rfl
      | c :: d :: l, h => simp [twoV, ascV] at h ⊢; exact h.2
theorem asc_ofS : ∀ (l : List PV), (∀ k x y, l[k * 2]? = some x → l[k * 2 + 2]? = some y → sLt x.s y.s = true) → ascV (twoV l) = true
  | [], _ => rfl
  | [a], _ => rfl
  | [a, b], _ => rfl
  | [a, b, c], _ => rfl
  | a :: b :: c :: d :: l, h => by
    have h1 := h 0 a c rfl rfl
    have h2 := asc_ofS (c :: d :: l) (fun k x y hx hy => h (k + 1) x y (by rw [show (k + 1) * 2 = k * 2 + 2 by omega]; simpa using hx) (by rw [show (k + 1) * 2 + 2 = (k * 2 + 2) + 2 by omega]; simpa using hy))
    simp [twoV, ascV] at h2 ⊢
    exact ⟨h1, h2⟩
def dictC (l : List PV) : Int := if l.length % 2 ≠ 0 then 2 else if evenN l = false then 2 else if ascV (twoV l) = true then 0 else 16

set_option maxRecDepth 8000 in
set_option maxHeartbeats 4000000 in
theorem vdict_any {v : PV} {sl : Value} {w : World} (hv : IsV w anyF v sl) :
    Calls Tryd.prog 54 #[pvA v sl] w fun e w' => e = .returned (.int .i64 (dictC v.l)) ∧ Below w.heap.size w w' := by
  obtain ⟨a1, cap1, e1, g1, g2, g3⟩ := hv.len
  subst e1
  have HA := Lib.hid hv
  have m1 : (v.l.length : Int) ≤ 9223372036854775807 := by unfold maxLen at g2; omega
  unfold pvA
  clear hv g2 g3
  obtain ⟨la, hla⟩ : ∃ la, la = v.l := ⟨_, rfl⟩
  have HLA := Lib.hid hla
  rw [← hla] at m1 g1 HA ⊢
  clear hla
  obtain ⟨R, hR⟩ : ∃ R, R = dictC la := ⟨_, rfl⟩
  rw [← hR]
  unfold dictC at hR
  have HR := Lib.hid hR
  clear hR
  generalize v.kind = k0 at *
  generalize v.n = n0 at *
  generalize mkB v.s = s0 at *
  go_enter Tryd.func54, Tryd.ntmps54
  obtain ⟨B, hB⟩ : ∃ B, B = w.heap.size := ⟨_, rfl⟩
  have HX1 := Lib.hid (heapA_new (w := w) (b := B) (.cells #[.int .i64 k0, .int .i64 n0, .string s0, .slice a1 la.length cap1] 24) hB)
  have HW := Lib.hid (belowA w (.cells #[.int .i64 k0, .int .i64 n0, .string s0, .slice a1 la.length cap1] 24))
  go_upto_region 1 with fail
  rw [← hB]
  clear hB
  generalize w.alloc _ = W1 at *
  obtain ⟨⟨c0, c1, c2, c3⟩, -⟩ := cells4 HX1.out
  by_cases he : la.length % 2 = 0
  case neg =>
    have he1 : ((la.length : Int) % 2 == 1) = true := by rw [beq_iff_eq]; omega
    have he2 : ((la.length : Int) % 2 == 0) = false := by rw [beq_eq_false_iff_ne]; omega
    have he3 : ((la.length : Int) % 2 != 0) = true := by simp only [bne, he2, Bool.not_false]
    have hr := HR.out
    rw [if_pos he] at hr
    subst hr
    clear HR HA he
    go_wp2
    go_ret
    exact ⟨rfl, HW.out⟩
  have he1 : ((la.length : Int) % 2 == 1) = false := by rw [beq_eq_false_iff_ne]; omega
  have he2 : ((la.length : Int) % 2 == 0) = true := by rw [beq_iff_eq]; omega
  have he3 : ((la.length : Int) % 2 != 0) = false := by simp only [bne, he2, Bool.not_true]
  have HE := Lib.hid he
  have hr := HR.out
  rw [if_neg (by omega)] at hr
  clear HR
  have HR := Lib.hid hr
  clear hr he
  go_wp2
  clear he1 he2 he3
  go_loopw [3] (fun vk wr => ∃ j K : Nat, vk = .int .i64 (K : Int) ∧ Hid (K = j * 2) ∧ K ≤ la.length ∧ wr = W1 ∧ Hid (∀ i x, i < j → la[i * 2]? = some x → x.kind = 5)) (fun vk _ => la.length + 2 - (intOf vk).toNat)
  case atStart => exact ⟨0, 0, rfl, rfl, by omega, rfl, Lib.hid fun i x h => absurd h (Nat.not_lt_zero _)⟩
  case round =>
    obtain ⟨j, k, rfl, HK, hj, hwr, HG⟩ := hrel
    rw [hwr]
    clear hwr
    have hke : k < la.length → k + 2 ≤ la.length := fun h => by have h1 := HK.out; have h2 := HE.out; omega
    by_cases q1 : k < la.length
    case pos =>
      obtain ⟨x, hx⟩ : ∃ x, la[k]? = some x := ⟨_, List.getElem?_eq_getElem q1⟩
      obtain ⟨-, -, -, b1, o1, rfl, -, -, hax⟩ := (HA.out.below HW.out).at (by omega)
      rw [← HLA.out] at hax
      obtain ⟨sx, -, x0, -⟩ := hax k x hx
      have hkl : (0 : Int) ≤ (k : Int) := by omega
      have hki : (k : Int) < (la.length : Int) := by omega
      have hd1 : decide (k < la.length) = true := decide_eq_true q1
      have hd2 : decide ((k : Int) < (la.length : Int)) = true := decide_eq_true hki
      have hk2 := hke q1
      clear hke
      by_cases h5 : x.kind = 5
      · rw [h5] at x0
        have HG2 := Lib.hid (show ∀ i y, i < j + 1 → la[i * 2]? = some y → y.kind = 5 from fun i y hi hy => by
          by_cases e : i = j
          · subst e
            have h1 := HK.out
            rw [← h1, hx] at hy
            cases hy
            exact h5
          · exact HG.out i y (by omega) hy)
        clear hax hx h5 HG
        go_wp2
        go_roundw
        case rel => exact ⟨j + 1, k + 2, by go_num, by have := HK.out; show k + 2 = (j + 1) * 2; omega, hk2, trivial, HG2⟩
        case measure => simp [intOf]; omega
      · have h51 : (x.kind == 5) = false := by rw [beq_eq_false_iff_ne]; exact h5
        have h52 : (x.kind != 5) = true := by simp only [bne, h51, Bool.not_false]
        have hev : evenN la = false := by
          cases hq : evenN la with
          | false => rfl
          | true => exact absurd (evenN_getS hq (k := j) (by rw [← HK.out]; exact hx)) h5
        have hr := HR.out
        rw [if_pos hev] at hr
        subst hr
        generalize x.kind = xk at *
        clear hax hx h5 HG HR HA hev HK HE
        go_wp2
        go_ret
        exact ⟨rfl, HW.out⟩
    have hd1 : decide (k < la.length) = false := decide_eq_false q1
    have hd2 : decide ((k : Int) < (la.length : Int)) = false := decide_eq_false (by omega)
    have hq2 : ¬ (k : Int) < (la.length : Int) := by omega
    have hev : evenN la = true := evenN_of la fun i x hx => HG.out i x (by
      have h1 := HK.out
      have h2 := (List.getElem?_eq_some_iff.1 hx).1
      omega) hx
    have hr := HR.out
    rw [if_neg (by rw [hev]; decide)] at hr
    clear HR
    have HR := Lib.hid hr
    clear hr HK hj hke HG hev
    go_wp2
    clear hd1 hd2 hq2 q1
    clear c0 c1 c2 c3
    go_loopw [4] (fun vk wr => ∃ j m K : Nat, vk = .int .i64 (K : Int) ∧ Hid (m = j * 2) ∧ m + 2 = K ∧ m ≤ la.length ∧ Hid (Below W1.heap.size W1 wr) ∧ Hid (∀ i x y, i < j → la[i * 2]? = some x → la[i * 2 + 2]? = some y → sLt x.s y.s = true)) (fun vk _ => la.length + 4 - (intOf vk).toNat)
    case atStart => exact ⟨0, 0, 2, by go_num, rfl, rfl, by omega, Below.refl _ _, Lib.hid fun i x y h => absurd h (Nat.not_lt_zero _)⟩
    case round =>
      obtain ⟨j, m, K, rfl, HK, hmK, hm2, HWR, HG⟩ := hrel
      have HW2 := Lib.hid (HW.out.trans (HWR.out.mono HW.out.size))
      obtain ⟨⟨c0, c1, c2, c3⟩, -⟩ := cells4 (block_keep HWR.out HX1.out)
      by_cases q2 : K < la.length
      case neg =>
        have hd0 : decide (K < la.length) = false := decide_eq_false q2
        have hd1 : decide ((K : Int) < (la.length : Int)) = false := decide_eq_false (by omega)
        have hq2 : ¬ (K : Int) < (la.length : Int) := by omega
        have has : ascV (twoV la) = true := asc_ofS la fun i x y hx hy => HG.out i x y (by
          have h1 := HK.out
          have h2 := (List.getElem?_eq_some_iff.1 hy).1
          omega) hx hy
        have hr := HR.out
        rw [if_pos has] at hr
        subst hr
        clear HG HA HR has HK HE hmK
        go_wp2
        go_ret
        exact ⟨rfl, HW2.out⟩
      obtain ⟨x, hx⟩ : ∃ x, la[m]? = some x := ⟨_, List.getElem?_eq_getElem (by omega)⟩
      obtain ⟨y, hy⟩ : ∃ y, la[K]? = some y := ⟨_, List.getElem?_eq_getElem q2⟩
      have hK2 : K + 2 ≤ la.length := by have h1 := HK.out; have h2 := HE.out; omega
      obtain ⟨-, -, -, b1, o1, rfl, -, -, hax⟩ := (HA.out.below HW2.out).at (by omega)
      rw [← HLA.out] at hax
      obtain ⟨sx, -, -, -, x2, -⟩ := hax m x hx
      obtain ⟨sy, -, -, -, y2, -⟩ := hax K y hy
      have l1 : Op.bytesLess (mkB x.s).toList (mkB y.s).toList = sLt x.s y.s := by rw [toList_mkB, toList_mkB, less_mkB]
      have l2 : Op.bytesLess (mkB y.s).toList (mkB x.s).toList = sLt y.s x.s := by rw [toList_mkB, toList_mkB, less_mkB]
      have l3 : ((mkB y.s).toList == (mkB x.s).toList) = decide (y.s = x.s) := by rw [toList_mkB x.s]; exact eqBs _ _
      have l4 : ((mkB x.s).toList == (mkB y.s).toList) = decide (x.s = y.s) := by rw [toList_mkB y.s]; exact eqBs _ _
      have u3 := BelowW.cell c3
      have e2 := BelowW.cell x2
      have r2 := BelowW.cell y2
      have hd0 : decide (K < la.length) = true := decide_eq_true q2
      have hd1 : decide ((K : Int) < (la.length : Int)) = true := decide_eq_true (by omega)
      have hkl : (0 : Int) ≤ (m : Int) := by omega
      have hki : (m : Int) < (la.length : Int) := by omega
      have hkl2 : (0 : Int) ≤ (K : Int) := by omega
      have hki2 : (K : Int) < (la.length : Int) := by omega
      have hkm : (K : Int) - 2 = (m : Int) := by omega
      have hkw : IntKind.i64.wrap ((K : Int) - 2) = (m : Int) := by rw [IntWalk.i64_in _ (by omega)]; omega
      have hkw2 : IntKind.i64.wrap (m : Int) = (m : Int) := IntWalk.i64_in _ (by omega)
      by_cases hlt : sLt x.s y.s = true
      · rw [hlt] at l1
        rw [sLt_as _ _ hlt] at l2
        have hne : x.s ≠ y.s := fun e => by rw [e, sLt_ir] at hlt; cases hlt
        rw [decide_eq_false (fun e => hne e.symm)] at l3
        rw [decide_eq_false hne] at l4
        have HG2 := Lib.hid (show ∀ i u z, i < j + 1 → la[i * 2]? = some u → la[i * 2 + 2]? = some z → sLt u.s z.s = true from fun i u z hi hu hz => by
          by_cases e : i = j
          · subst e
            have h1 := HK.out
            rw [← h1, hx] at hu
            rw [← h1, hmK, hy] at hz
            cases hu
            cases hz
            exact hlt
          · exact HG.out i u z (by omega) hu hz)
        clear hax hx hy HG HA hlt x2 y2 hne HR
        generalize mkB x.s = sX at *
        generalize mkB y.s = sY at *
        have HMK := Lib.hid hmK
        clear hmK
        go_wp2
        refine wp_region_below (by kernel_rfl) (by kernel_rfl) ?_
        repeat (go_big_quiet_step (fail))
        refine wpQuiet_nil ?_
        rintro _ ⟨⟨w4, hb4⟩, rfl⟩
        have HW4 := Lib.hid (HWR.out.trans (hb4.mono HWR.out.size))
        clear u3 e2 r2 c0 c1 c2 c3 hb4 l1 l2 l3 l4
        go_wp2
        exact ⟨⟨j + 1, K, K + 2, by go_num, by have h1 := HK.out; have h2 := HMK.out; show K = (j + 1) * 2; omega, rfl, by omega, HW4, HG2⟩, by simp [intOf]; omega⟩
      · have hge : sLt x.s y.s = false := by simpa using hlt
        rw [hge] at l1
        have has : ascV (twoV la) = false := by
          cases hq : ascV (twoV la) with
          | false => rfl
          | true => exact absurd (asc_getS hq HE.out (k := j) (by rw [← HK.out]; exact hx) (by rw [← HK.out, hmK]; exact hy)) hlt
        have hr := HR.out
        rw [if_neg (by rw [has]; decide)] at hr
        subst hr
        by_cases hgt : sLt y.s x.s = true
        · rw [hgt] at l2
          have hne : x.s ≠ y.s := fun e => by rw [e, sLt_ir] at hgt; cases hgt
          rw [decide_eq_false (fun e => hne e.symm)] at l3
          rw [decide_eq_false hne] at l4
          clear hax hx hy HG HA hlt x2 y2 hne HR has hge hgt HK HE
          generalize mkB x.s = sX at *
          generalize mkB y.s = sY at *
          clear hmK
          go_wp2
          refine wp_region_below (by kernel_rfl) (by kernel_rfl) ?_
          repeat (go_big_quiet_step (fail))
          refine wpQuiet_nil ?_
          rintro _ ⟨⟨w4, hb4⟩, rfl⟩
          have HW4 := Lib.hid (HW2.out.trans (hb4.mono HW2.out.size))
          clear u3 e2 r2 c0 c1 c2 c3 hb4 l1 l2 l3 l4
          go_wp2
          go_ret
          exact ⟨rfl, HW4.out⟩
        · have hgf : sLt y.s x.s = false := by simpa using hgt
          rw [hgf] at l2
          have heq : x.s = y.s := by
            by_cases e : x.s = y.s
            · exact e
            · exact absurd (sLt_tri _ _ hge e) (by rw [hgf]; decide)
          rw [decide_eq_true heq.symm] at l3
          rw [decide_eq_true heq] at l4
          clear hax hx hy HG HA hlt x2 y2 HR has hge hgt hgf HK HE heq
          generalize mkB x.s = sX at *
          generalize mkB y.s = sY at *
          clear hmK
          go_wp2
          refine wp_region_below (by kernel_rfl) (by kernel_rfl) ?_
          repeat (go_big_quiet_step (fail))
          refine wpQuiet_nil ?_
          rintro _ ⟨⟨w4, hb4⟩, rfl⟩
          have HW4 := Lib.hid (HW2.out.trans (hb4.mono HW2.out.size))
          clear u3 e2 r2 c0 c1 c2 c3 hb4 l1 l2 l3 l4
          go_wp2
          go_ret
          exact ⟨rfl, HW4.out⟩
end Go.Proofs.YtnkodejgiabamaaDoor
/-
  The walk of value.own. (Printed by gensown2.py.)
-/
namespace Go.Proofs.YtnkodejgiabamaaDoor
open Go.RowKit

theorem idx_memS (o : List UInt8) (c : UInt8) : decide (0 ≤ Lib.indexByte o c) = decide (c ∈ o) := by
  have hg := Lib.indexByte_ge o c
  by_cases h : Lib.indexByte o c = -1
  · rw [h, decide_eq_false (idx_none _ _ h)]; rfl
  · obtain ⟨i, hi⟩ := Int.eq_ofNat_of_zero_le (show 0 ≤ Lib.indexByte o c by omega)
    obtain ⟨a, t, e, -, -⟩ := idx_some _ _ _ hi
    rw [hi, decide_eq_true (by omega), decide_eq_true (by rw [e]; simp)]

set_option maxRecDepth 8000 in
set_option maxHeartbeats 4000000 in
theorem vown_k0 {n : Int} {s : List UInt8} {l : List PV} {a1 : Option Addr} {cap1 : Nat} {w : World} (_m1 : (l.length : Int) ≤ 9223372036854775807) :
    Calls Tryd.prog 36 #[.agg #[.int .i64 0, .int .i64 n, .string (mkB s), .slice a1 l.length cap1]] w fun e w' => e = .returned (.int .i64 (if n = 0 ∧ s = [] ∧ l = [] then 0 else 2)) ∧ Below w.heap.size w w' := by
  obtain ⟨R, hR⟩ : ∃ R, R = (if n = 0 ∧ s = [] ∧ l = [] then 0 else 2 : Int) := ⟨_, rfl⟩
  rw [← hR]
  have HR := Lib.hid hR
  have HB := Lib.hid (belowA w (.cells #[.int .i64 0, .int .i64 n, .string (mkB s), .slice a1 l.length cap1] 24))
  clear hR
  have HP := Lib.hid (fun W => plain_any 0 n s a1 l.length cap1 W)
  have hq : R = if (n == 0 && decide (s = []) && l.length == 0) = true then 0 else 2 := by
    rw [HR.out]; cases l <;> simp
  clear HR
  obtain ⟨b, hb⟩ : ∃ b, b = (n == 0 && decide (s = []) && l.length == 0) := ⟨_, rfl⟩
  rw [← hb] at HP hq
  have HQ := Lib.hid hq
  clear hb hq
  generalize l.length = m at *
  generalize mkB s = S at *
  cases b
  · obtain rfl : R = 2 := HQ.out
    clear HQ
    go_enter Tryd.func36, Tryd.ntmps36
    go_wp2_with (go_at_call 52; refine (HP.out _).mono ?_; rintro e w1 ⟨rfl, hb1⟩)
    go_ret
    exact ⟨rfl, HB.out.trans (hb1.mono HB.out.size)⟩
  · obtain rfl : R = 0 := HQ.out
    clear HQ
    go_enter Tryd.func36, Tryd.ntmps36
    go_wp2_with (go_at_call 52; refine (HP.out _).mono ?_; rintro e w1 ⟨rfl, hb1⟩)
    go_ret
    exact ⟨rfl, HB.out.trans (hb1.mono HB.out.size)⟩

set_option maxRecDepth 8000 in
set_option maxHeartbeats 4000000 in
theorem vown_k1 {n : Int} {s : List UInt8} {l : List PV} {a1 : Option Addr} {cap1 : Nat} {w : World} (_m1 : (l.length : Int) ≤ 9223372036854775807) :
    Calls Tryd.prog 36 #[.agg #[.int .i64 1, .int .i64 n, .string (mkB s), .slice a1 l.length cap1]] w fun e w' => e = .returned (.int .i64 (if (n = 0 ∨ n = 1) ∧ s = [] ∧ l = [] then 0 else 2)) ∧ Below w.heap.size w w' := by
  obtain ⟨R, hR⟩ : ∃ R, R = (if (n = 0 ∨ n = 1) ∧ s = [] ∧ l = [] then 0 else 2 : Int) := ⟨_, rfl⟩
  rw [← hR]
  have HR := Lib.hid hR
  have HB := Lib.hid (belowA w (.cells #[.int .i64 1, .int .i64 n, .string (mkB s), .slice a1 l.length cap1] 24))
  clear hR
  by_cases hn0 : n = 0
  · have en0 : (n == 0) = true := by rw [beq_iff_eq]; exact hn0
    have en0' : (n != 0) = false := by simp only [bne, en0, Bool.not_true]
    by_cases hs0 : s = []
    · have es0 : (mkB s).toList = [] := by rw [toList_mkB]; exact hs0
      have es0b : ((mkB s).toList == []) = true := by rw [beq_iff_eq]; exact es0
      have es0c : ((mkB s).toList != []) = false := by simp only [bne, es0b, Bool.not_true]
      by_cases hm0 : l = []
      · have em0 : (l.length == 0) = true := by rw [hm0]; rfl
        have em0' : ((l.length : Int) == 0) = true := by rw [hm0]; rfl
        have hr := HR.out
        obtain rfl : R = 0 := by rw [hr]; simp [hn0, hs0, hm0]
        clear HR hr hn0 hs0 hm0
        generalize l.length = m at *
        generalize mkB s = S at *
        go_enter Tryd.func36, Tryd.ntmps36
        go_wp2
        go_ret
        exact ⟨rfl, HB.out⟩
      · have em0 : (l.length == 0) = false := by rw [beq_eq_false_iff_ne]; exact fun e => hm0 (List.eq_nil_of_length_eq_zero e)
        have em0' : ((l.length : Int) == 0) = false := by rw [beq_eq_false_iff_ne]; exact fun e => hm0 (List.eq_nil_of_length_eq_zero (by omega))
        have hr := HR.out
        obtain rfl : R = 2 := by rw [hr]; simp [hn0, hs0, hm0]
        clear HR hr hn0 hs0 hm0
        generalize l.length = m at *
        generalize mkB s = S at *
        go_enter Tryd.func36, Tryd.ntmps36
        go_wp2
        go_ret
        exact ⟨rfl, HB.out⟩
    · have es0b : ((mkB s).toList == []) = false := by rw [beq_eq_false_iff_ne, toList_mkB]; exact hs0
      have es0c : ((mkB s).toList != []) = true := by simp only [bne, es0b, Bool.not_false]
      have hr := HR.out
      obtain rfl : R = 2 := by rw [hr]; simp [hn0, hs0]
      clear HR hr hn0 hs0
      generalize l.length = m at *
      generalize mkB s = S at *
      go_enter Tryd.func36, Tryd.ntmps36
      go_wp2
      go_ret
      exact ⟨rfl, HB.out⟩
  · have en0 : (n == 0) = false := by rw [beq_eq_false_iff_ne]; exact hn0
    have en0' : (n != 0) = true := by simp only [bne, en0, Bool.not_false]
    by_cases hn1 : n = 1
    · have en1 : (n == 1) = true := by rw [beq_iff_eq]; exact hn1
      by_cases hs0 : s = []
      · have es0 : (mkB s).toList = [] := by rw [toList_mkB]; exact hs0
        have es0b : ((mkB s).toList == []) = true := by rw [beq_iff_eq]; exact es0
        have es0c : ((mkB s).toList != []) = false := by simp only [bne, es0b, Bool.not_true]
        by_cases hm0 : l = []
        · have em0 : (l.length == 0) = true := by rw [hm0]; rfl
          have em0' : ((l.length : Int) == 0) = true := by rw [hm0]; rfl
          have hr := HR.out
          obtain rfl : R = 0 := by rw [hr]; simp [hn1, hs0, hm0]
          clear HR hr hn0 hn1 hs0 hm0
          generalize l.length = m at *
          generalize mkB s = S at *
          go_enter Tryd.func36, Tryd.ntmps36
          go_wp2
          go_ret
          exact ⟨rfl, HB.out⟩
        · have em0 : (l.length == 0) = false := by rw [beq_eq_false_iff_ne]; exact fun e => hm0 (List.eq_nil_of_length_eq_zero e)
          have em0' : ((l.length : Int) == 0) = false := by rw [beq_eq_false_iff_ne]; exact fun e => hm0 (List.eq_nil_of_length_eq_zero (by omega))
          have hr := HR.out
          obtain rfl : R = 2 := by rw [hr]; simp [hn1, hs0, hm0]
          clear HR hr hn0 hn1 hs0 hm0
          generalize l.length = m at *
          generalize mkB s = S at *
          go_enter Tryd.func36, Tryd.ntmps36
          go_wp2
          go_ret
          exact ⟨rfl, HB.out⟩
      · have es0b : ((mkB s).toList == []) = false := by rw [beq_eq_false_iff_ne, toList_mkB]; exact hs0
        have es0c : ((mkB s).toList != []) = true := by simp only [bne, es0b, Bool.not_false]
        have hr := HR.out
        obtain rfl : R = 2 := by rw [hr]; simp [hn1, hs0]
        clear HR hr hn0 hn1 hs0
        generalize l.length = m at *
        generalize mkB s = S at *
        go_enter Tryd.func36, Tryd.ntmps36
        go_wp2
        go_ret
        exact ⟨rfl, HB.out⟩
    · have en1 : (n == 1) = false := by rw [beq_eq_false_iff_ne]; exact hn1
      have hr := HR.out
      obtain rfl : R = 2 := by rw [hr]; simp [hn0, hn1]
      clear HR hr hn0 hn1
      generalize l.length = m at *
      generalize mkB s = S at *
      go_enter Tryd.func36, Tryd.ntmps36
      go_wp2
      go_ret
      exact ⟨rfl, HB.out⟩

set_option maxRecDepth 8000 in
set_option maxHeartbeats 4000000 in
theorem vown_k4 {n : Int} {s : List UInt8} {l : List PV} {a1 : Option Addr} {cap1 : Nat} {w : World} (_m1 : (l.length : Int) ≤ 9223372036854775807) :
    Calls Tryd.prog 36 #[.agg #[.int .i64 4, .int .i64 n, .string (mkB s), .slice a1 l.length cap1]] w fun e w' => e = .returned (.int .i64 (if n = 0 ∧ l = [] then 0 else 2)) ∧ Below w.heap.size w w' := by
  obtain ⟨R, hR⟩ : ∃ R, R = (if n = 0 ∧ l = [] then 0 else 2 : Int) := ⟨_, rfl⟩
  rw [← hR]
  have HR := Lib.hid hR
  have HB := Lib.hid (belowA w (.cells #[.int .i64 4, .int .i64 n, .string (mkB s), .slice a1 l.length cap1] 24))
  clear hR
  by_cases hn0 : n = 0
  · have en0 : (n == 0) = true := by rw [beq_iff_eq]; exact hn0
    have en0' : (n != 0) = false := by simp only [bne, en0, Bool.not_true]
    by_cases hm0 : l = []
    · have em0 : (l.length == 0) = true := by rw [hm0]; rfl
      have em0' : ((l.length : Int) == 0) = true := by rw [hm0]; rfl
      have hr := HR.out
      obtain rfl : R = 0 := by rw [hr]; simp [hn0, hm0]
      clear HR hr hn0 hm0
      generalize l.length = m at *
      generalize mkB s = S at *
      go_enter Tryd.func36, Tryd.ntmps36
      go_wp2
      go_ret
      exact ⟨rfl, HB.out⟩
    · have em0 : (l.length == 0) = false := by rw [beq_eq_false_iff_ne]; exact fun e => hm0 (List.eq_nil_of_length_eq_zero e)
      have em0' : ((l.length : Int) == 0) = false := by rw [beq_eq_false_iff_ne]; exact fun e => hm0 (List.eq_nil_of_length_eq_zero (by omega))
      have hr := HR.out
      obtain rfl : R = 2 := by rw [hr]; simp [hn0, hm0]
      clear HR hr hn0 hm0
      generalize l.length = m at *
      generalize mkB s = S at *
      go_enter Tryd.func36, Tryd.ntmps36
      go_wp2
      go_ret
      exact ⟨rfl, HB.out⟩
  · have en0 : (n == 0) = false := by rw [beq_eq_false_iff_ne]; exact hn0
    have en0' : (n != 0) = true := by simp only [bne, en0, Bool.not_false]
    have hr := HR.out
    obtain rfl : R = 2 := by rw [hr]; simp [hn0]
    clear HR hr hn0
    generalize l.length = m at *
    generalize mkB s = S at *
    go_enter Tryd.func36, Tryd.ntmps36
    go_wp2
    go_ret
    exact ⟨rfl, HB.out⟩

set_option maxRecDepth 8000 in
set_option maxHeartbeats 4000000 in
theorem vown_k6 {n : Int} {s : List UInt8} {l : List PV} {a1 : Option Addr} {cap1 : Nat} {w : World} (_m1 : (l.length : Int) ≤ 9223372036854775807) :
    Calls Tryd.prog 36 #[.agg #[.int .i64 6, .int .i64 n, .string (mkB s), .slice a1 l.length cap1]] w fun e w' => e = .returned (.int .i64 (if n = 0 ∧ s = [] then 0 else 2)) ∧ Below w.heap.size w w' := by
  obtain ⟨R, hR⟩ : ∃ R, R = (if n = 0 ∧ s = [] then 0 else 2 : Int) := ⟨_, rfl⟩
  rw [← hR]
  have HR := Lib.hid hR
  have HB := Lib.hid (belowA w (.cells #[.int .i64 6, .int .i64 n, .string (mkB s), .slice a1 l.length cap1] 24))
  clear hR
  by_cases hn0 : n = 0
  · have en0 : (n == 0) = true := by rw [beq_iff_eq]; exact hn0
    have en0' : (n != 0) = false := by simp only [bne, en0, Bool.not_true]
    by_cases hs0 : s = []
    · have es0 : (mkB s).toList = [] := by rw [toList_mkB]; exact hs0
      have es0b : ((mkB s).toList == []) = true := by rw [beq_iff_eq]; exact es0
      have es0c : ((mkB s).toList != []) = false := by simp only [bne, es0b, Bool.not_true]
      have hr := HR.out
      obtain rfl : R = 0 := by rw [hr]; simp [hn0, hs0]
      clear HR hr hn0 hs0
      generalize l.length = m at *
      generalize mkB s = S at *
      go_enter Tryd.func36, Tryd.ntmps36
      go_wp2
      go_ret
      exact ⟨rfl, HB.out⟩
    · have es0b : ((mkB s).toList == []) = false := by rw [beq_eq_false_iff_ne, toList_mkB]; exact hs0
      have es0c : ((mkB s).toList != []) = true := by simp only [bne, es0b, Bool.not_false]
      have hr := HR.out
      obtain rfl : R = 2 := by rw [hr]; simp [hn0, hs0]
      clear HR hr hn0 hs0
      generalize l.length = m at *
      generalize mkB s = S at *
      go_enter Tryd.func36, Tryd.ntmps36
      go_wp2
      go_ret
      exact ⟨rfl, HB.out⟩
  · have en0 : (n == 0) = false := by rw [beq_eq_false_iff_ne]; exact hn0
    have en0' : (n != 0) = true := by simp only [bne, en0, Bool.not_false]
    have hr := HR.out
    obtain rfl : R = 2 := by rw [hr]; simp [hn0]
    clear HR hr hn0
    generalize l.length = m at *
    generalize mkB s = S at *
    go_enter Tryd.func36, Tryd.ntmps36
    go_wp2
    go_ret
    exact ⟨rfl, HB.out⟩

set_option maxRecDepth 8000 in
set_option maxHeartbeats 4000000 in
theorem vown_k8 {n : Int} {s : List UInt8} {l : List PV} {a1 : Option Addr} {cap1 : Nat} {w : World} (_m1 : (l.length : Int) ≤ 9223372036854775807) :
    Calls Tryd.prog 36 #[.agg #[.int .i64 8, .int .i64 n, .string (mkB s), .slice a1 l.length cap1]] w fun e w' => e = .returned (.int .i64 (if 1 ≤ n ∧ n ≤ 4096 ∧ s = [] ∧ l = [] then 0 else 2)) ∧ Below w.heap.size w w' := by
  obtain ⟨R, hR⟩ : ∃ R, R = (if 1 ≤ n ∧ n ≤ 4096 ∧ s = [] ∧ l = [] then 0 else 2 : Int) := ⟨_, rfl⟩
  rw [← hR]
  have HR := Lib.hid hR
  have HB := Lib.hid (belowA w (.cells #[.int .i64 8, .int .i64 n, .string (mkB s), .slice a1 l.length cap1] 24))
  clear hR
  by_cases hg1 : 1 ≤ n
  · have eg1 : decide (1 ≤ n) = true := decide_eq_true hg1
    by_cases hle : n ≤ 4096
    · have ele : decide (n ≤ 4096) = true := decide_eq_true hle
      by_cases hs0 : s = []
      · have es0 : (mkB s).toList = [] := by rw [toList_mkB]; exact hs0
        have es0b : ((mkB s).toList == []) = true := by rw [beq_iff_eq]; exact es0
        have es0c : ((mkB s).toList != []) = false := by simp only [bne, es0b, Bool.not_true]
        by_cases hm0 : l = []
        · have em0 : (l.length == 0) = true := by rw [hm0]; rfl
          have em0' : ((l.length : Int) == 0) = true := by rw [hm0]; rfl
          have hr := HR.out
          obtain rfl : R = 0 := by rw [hr]; simp [hg1, hle, hs0, hm0]
          clear HR hr hg1 hle hs0 hm0
          generalize l.length = m at *
          generalize mkB s = S at *
          go_enter Tryd.func36, Tryd.ntmps36
          go_wp2
          go_ret
          exact ⟨rfl, HB.out⟩
        · have em0 : (l.length == 0) = false := by rw [beq_eq_false_iff_ne]; exact fun e => hm0 (List.eq_nil_of_length_eq_zero e)
          have em0' : ((l.length : Int) == 0) = false := by rw [beq_eq_false_iff_ne]; exact fun e => hm0 (List.eq_nil_of_length_eq_zero (by omega))
          have hr := HR.out
          obtain rfl : R = 2 := by rw [hr]; simp [hg1, hle, hs0, hm0]
          clear HR hr hg1 hle hs0 hm0
          generalize l.length = m at *
          generalize mkB s = S at *
          go_enter Tryd.func36, Tryd.ntmps36
          go_wp2
          go_ret
          exact ⟨rfl, HB.out⟩
      · have es0b : ((mkB s).toList == []) = false := by rw [beq_eq_false_iff_ne, toList_mkB]; exact hs0
        have es0c : ((mkB s).toList != []) = true := by simp only [bne, es0b, Bool.not_false]
        have hr := HR.out
        obtain rfl : R = 2 := by rw [hr]; simp [hg1, hle, hs0]
        clear HR hr hg1 hle hs0
        generalize l.length = m at *
        generalize mkB s = S at *
        go_enter Tryd.func36, Tryd.ntmps36
        go_wp2
        go_ret
        exact ⟨rfl, HB.out⟩
    · have ele : decide (n ≤ 4096) = false := decide_eq_false hle
      have hr := HR.out
      obtain rfl : R = 2 := by rw [hr]; simp [hg1, hle]
      clear HR hr hg1 hle
      generalize l.length = m at *
      generalize mkB s = S at *
      go_enter Tryd.func36, Tryd.ntmps36
      go_wp2
      go_ret
      exact ⟨rfl, HB.out⟩
  · have eg1 : decide (1 ≤ n) = false := decide_eq_false hg1
    have hr := HR.out
    obtain rfl : R = 2 := by rw [hr]; simp [hg1]
    clear HR hr hg1
    generalize l.length = m at *
    generalize mkB s = S at *
    go_enter Tryd.func36, Tryd.ntmps36
    go_wp2
    go_ret
    exact ⟨rfl, HB.out⟩

set_option maxRecDepth 8000 in
set_option maxHeartbeats 4000000 in
theorem vown_k2 {n : Int} {s : List UInt8} {l : List PV} {a1 : Option Addr} {cap1 : Nat} {w : World} (_m1 : (l.length : Int) ≤ 9223372036854775807) :
    Calls Tryd.prog 36 #[.agg #[.int .i64 2, .int .i64 n, .string (mkB s), .slice a1 l.length cap1]] w fun e w' => e = .returned (.int .i64 (checkV 2 n (bareV (mkB s) l.length))) ∧ Below w.heap.size w w' := by
  obtain ⟨R, hR⟩ : ∃ R, R = (checkV 2 n (bareV (mkB s) l.length) : Int) := ⟨_, rfl⟩
  rw [← hR]
  have HR := Lib.hid hR
  have HB := Lib.hid (belowA w (.cells #[.int .i64 2, .int .i64 n, .string (mkB s), .slice a1 l.length cap1] 24))
  clear hR
  have HP := Lib.hid (fun W => check_any 2 n (mkB s) a1 l.length cap1 W _m1)
  rw [← HR.out] at HP
  clear HR
  generalize l.length = m at *
  generalize mkB s = S at *
  go_enter Tryd.func36, Tryd.ntmps36
  go_wp2_with (go_at_call 53; refine (HP.out _).mono ?_; rintro e w1 ⟨rfl, hb1⟩)
  go_ret
  exact ⟨rfl, HB.out.trans (hb1.mono HB.out.size)⟩

set_option maxRecDepth 8000 in
set_option maxHeartbeats 4000000 in
theorem vown_k3 {n : Int} {s : List UInt8} {l : List PV} {a1 : Option Addr} {cap1 : Nat} {w : World} (_m1 : (l.length : Int) ≤ 9223372036854775807) :
    Calls Tryd.prog 36 #[.agg #[.int .i64 3, .int .i64 n, .string (mkB s), .slice a1 l.length cap1]] w fun e w' => e = .returned (.int .i64 (checkV 3 n (bareV (mkB s) l.length))) ∧ Below w.heap.size w w' := by
  obtain ⟨R, hR⟩ : ∃ R, R = (checkV 3 n (bareV (mkB s) l.length) : Int) := ⟨_, rfl⟩
  rw [← hR]
  have HR := Lib.hid hR
  have HB := Lib.hid (belowA w (.cells #[.int .i64 3, .int .i64 n, .string (mkB s), .slice a1 l.length cap1] 24))
  clear hR
  have HP := Lib.hid (fun W => check_any 3 n (mkB s) a1 l.length cap1 W _m1)
  rw [← HR.out] at HP
  clear HR
  generalize l.length = m at *
  generalize mkB s = S at *
  go_enter Tryd.func36, Tryd.ntmps36
  go_wp2_with (go_at_call 53; refine (HP.out _).mono ?_; rintro e w1 ⟨rfl, hb1⟩)
  go_ret
  exact ⟨rfl, HB.out.trans (hb1.mono HB.out.size)⟩

set_option maxRecDepth 8000 in
set_option maxHeartbeats 4000000 in
theorem vown_k5 {n : Int} {s : List UInt8} {l : List PV} {a1 : Option Addr} {cap1 : Nat} {w : World} (_m1 : (l.length : Int) ≤ 9223372036854775807) :
    Calls Tryd.prog 36 #[.agg #[.int .i64 5, .int .i64 n, .string (mkB s), .slice a1 l.length cap1]] w fun e w' => e = .returned (.int .i64 (if 127 < s.length ∨ (0 : UInt8) ∈ s then 17 else if n = 0 ∧ l = [] then 0 else 2)) ∧ Below w.heap.size w w' := by
  obtain ⟨R, hR⟩ : ∃ R, R = (if 127 < s.length ∨ (0 : UInt8) ∈ s then 17 else if n = 0 ∧ l = [] then 0 else 2 : Int) := ⟨_, rfl⟩
  rw [← hR]
  have HR := Lib.hid hR
  have HB := Lib.hid (belowA w (.cells #[.int .i64 5, .int .i64 n, .string (mkB s), .slice a1 l.length cap1] 24))
  clear hR
  have hsz : (mkB s).size = s.length := mkB_size s
  have HI := Lib.hid (fun W => sidx2_any (mkB s) 0 W)
  rw [show bl (mkB s) = s from rfl, show (0 : Int).toNat.toUInt8 = 0 from rfl] at HI
  have him := idx_memS s 0
  generalize Lib.indexByte s 0 = ix at *
  by_cases h127 : 127 < s.length
  · have hd1 : decide (127 < (mkB s).size) = true := decide_eq_true (by omega)
    have hd2 : decide ((127 : Int) < ((mkB s).size : Int)) = true := decide_eq_true (by omega)
    obtain rfl : R = 17 := by rw [HR.out, if_pos (.inl h127)]
    clear HR HI him h127 hsz
    generalize mkB s = S at *
    generalize l.length = m at *
    go_enter Tryd.func36, Tryd.ntmps36
    go_wp2
    go_ret
    exact ⟨rfl, HB.out⟩
  have hd1 : decide (127 < (mkB s).size) = false := decide_eq_false (by omega)
  have hd2 : decide ((127 : Int) < ((mkB s).size : Int)) = false := decide_eq_false (by omega)
  by_cases hz : (0 : UInt8) ∈ s
  · rw [decide_eq_true hz] at him
    obtain rfl : R = 17 := by rw [HR.out, if_pos (.inr hz)]
    clear HR h127 hsz hz
    generalize mkB s = S at *
    generalize l.length = m at *
    go_enter Tryd.func36, Tryd.ntmps36
    go_wp2_with (go_at_call 47; refine (HI.out _).mono ?_; rintro e w1 ⟨rfl, rfl⟩)
    go_ret
    exact ⟨rfl, HB.out⟩
  rw [decide_eq_false hz] at him
  have hr := HR.out
  rw [if_neg (by rintro (h | h); exact h127 h; exact hz h)] at hr
  clear HR h127 hz hsz
  have HR := Lib.hid hr
  clear hr
  by_cases hn0 : n = 0
  · have en0 : (n == 0) = true := by rw [beq_iff_eq]; exact hn0
    have en0' : (n != 0) = false := by simp only [bne, en0, Bool.not_true]
    by_cases hm0 : l = []
    · have em0 : (l.length == 0) = true := by rw [hm0]; rfl
      have em0' : ((l.length : Int) == 0) = true := by rw [hm0]; rfl
      have hr := HR.out
      obtain rfl : R = 0 := by rw [hr]; simp [hn0, hm0]
      clear HR hr hn0 hm0
      generalize l.length = m at *
      generalize mkB s = S at *
      go_enter Tryd.func36, Tryd.ntmps36
      go_wp2_with (go_at_call 47; refine (HI.out _).mono ?_; rintro e w1 ⟨rfl, rfl⟩)
      go_ret
      exact ⟨rfl, HB.out⟩
    · have em0 : (l.length == 0) = false := by rw [beq_eq_false_iff_ne]; exact fun e => hm0 (List.eq_nil_of_length_eq_zero e)
      have em0' : ((l.length : Int) == 0) = false := by rw [beq_eq_false_iff_ne]; exact fun e => hm0 (List.eq_nil_of_length_eq_zero (by omega))
      have hr := HR.out
      obtain rfl : R = 2 := by rw [hr]; simp [hn0, hm0]
      clear HR hr hn0 hm0
      generalize l.length = m at *
      generalize mkB s = S at *
      go_enter Tryd.func36, Tryd.ntmps36
      go_wp2_with (go_at_call 47; refine (HI.out _).mono ?_; rintro e w1 ⟨rfl, rfl⟩)
      go_ret
      exact ⟨rfl, HB.out⟩
  · have en0 : (n == 0) = false := by rw [beq_eq_false_iff_ne]; exact hn0
    have en0' : (n != 0) = true := by simp only [bne, en0, Bool.not_false]
    have hr := HR.out
    obtain rfl : R = 2 := by rw [hr]; simp [hn0]
    clear HR hr hn0
    generalize l.length = m at *
    generalize mkB s = S at *
    go_enter Tryd.func36, Tryd.ntmps36
    go_wp2_with (go_at_call 47; refine (HI.out _).mono ?_; rintro e w1 ⟨rfl, rfl⟩)
    go_ret
    exact ⟨rfl, HB.out⟩

set_option maxRecDepth 8000 in
set_option maxHeartbeats 4000000 in
theorem vown_k7 {n : Int} {s : List UInt8} {l : List PV} {a1 : Option Addr} {cap1 : Nat} {w : World} (hv : IsV w anyF (.mk 7 n s l) (.slice a1 l.length cap1)) :
    Calls Tryd.prog 36 #[.agg #[.int .i64 7, .int .i64 n, .string (mkB s), .slice a1 l.length cap1]] w fun e w' => e = .returned (.int .i64 (if n = 0 ∧ s = [] then dictC l else 2)) ∧ Below w.heap.size w w' := by
  obtain ⟨R, hR⟩ : ∃ R, R = (if n = 0 ∧ s = [] then dictC l else 2 : Int) := ⟨_, rfl⟩
  rw [← hR]
  have HR := Lib.hid hR
  have HB := Lib.hid (belowA w (.cells #[.int .i64 7, .int .i64 n, .string (mkB s), .slice a1 l.length cap1] 24))
  have HD := Lib.hid (fun (W : World) (h : Below w.heap.size w W) => vdict_any (hv.below h))
  clear hR hv
  simp only [pvA, PV.kind, PV.n, PV.s, PV.l] at HD
  generalize hdc : dictC l = dc at *
  clear hdc
  by_cases hn0 : n = 0
  · have en0 : (n == 0) = true := by rw [beq_iff_eq]; exact hn0
    have en0' : (n != 0) = false := by simp only [bne, en0, Bool.not_true]
    by_cases hs0 : s = []
    · have es0 : (mkB s).toList = [] := by rw [toList_mkB]; exact hs0
      have es0b : ((mkB s).toList == []) = true := by rw [beq_iff_eq]; exact es0
      have es0c : ((mkB s).toList != []) = false := by simp only [bne, es0b, Bool.not_true]
      have hr := HR.out
      obtain rfl : R = dc := by rw [hr]; simp [hn0, hs0]
      clear HR hr hn0 hs0
      generalize l.length = m at *
      generalize mkB s = S at *
      go_enter Tryd.func36, Tryd.ntmps36
      go_wp2_with (go_at_call 54; refine (HD.out _ HB.out).mono ?_; rintro e w1 ⟨rfl, hb1⟩)
      go_ret
      first | exact ⟨rfl, HB.out⟩ | exact ⟨rfl, HB.out.trans (hb1.mono HB.out.size)⟩
    · have es0b : ((mkB s).toList == []) = false := by rw [beq_eq_false_iff_ne, toList_mkB]; exact hs0
      have es0c : ((mkB s).toList != []) = true := by simp only [bne, es0b, Bool.not_false]
      have hr := HR.out
      obtain rfl : R = 2 := by rw [hr]; simp [hn0, hs0]
      clear HR hr hn0 hs0
      generalize l.length = m at *
      generalize mkB s = S at *
      go_enter Tryd.func36, Tryd.ntmps36
      go_wp2_with (go_at_call 54; refine (HD.out _ HB.out).mono ?_; rintro e w1 ⟨rfl, hb1⟩)
      go_ret
      first | exact ⟨rfl, HB.out⟩ | exact ⟨rfl, HB.out.trans (hb1.mono HB.out.size)⟩
  · have en0 : (n == 0) = false := by rw [beq_eq_false_iff_ne]; exact hn0
    have en0' : (n != 0) = true := by simp only [bne, en0, Bool.not_false]
    have hr := HR.out
    obtain rfl : R = 2 := by rw [hr]; simp [hn0]
    clear HR hr hn0
    generalize l.length = m at *
    generalize mkB s = S at *
    go_enter Tryd.func36, Tryd.ntmps36
    go_wp2_with (go_at_call 54; refine (HD.out _ HB.out).mono ?_; rintro e w1 ⟨rfl, hb1⟩)
    go_ret
    first | exact ⟨rfl, HB.out⟩ | exact ⟨rfl, HB.out.trans (hb1.mono HB.out.size)⟩

set_option maxRecDepth 8000 in
set_option maxHeartbeats 4000000 in
theorem vown_kx {k n : Int} {S : ByteArray} {m : Nat} {a1 : Option Addr} {cap1 : Nat} {w : World} (hk : k ≠ 0 ∧ k ≠ 1 ∧ k ≠ 2 ∧ k ≠ 3 ∧ k ≠ 4 ∧ k ≠ 5 ∧ k ≠ 6 ∧ k ≠ 7 ∧ k ≠ 8) :
    Calls Tryd.prog 36 #[.agg #[.int .i64 k, .int .i64 n, .string S, .slice a1 m cap1]] w fun e w' => e = .returned (.int .i64 2) ∧ Below w.heap.size w w' := by
  obtain ⟨h0, h1, h2, h3, h4, h5, h6, h7, h8⟩ := hk
  have e0 : (k == 0) = false := by rw [beq_eq_false_iff_ne]; exact h0
  have e1 : (k == 1) = false := by rw [beq_eq_false_iff_ne]; exact h1
  have e2 : (k == 2) = false := by rw [beq_eq_false_iff_ne]; exact h2
  have e3 : (k == 3) = false := by rw [beq_eq_false_iff_ne]; exact h3
  have e4 : (k == 4) = false := by rw [beq_eq_false_iff_ne]; exact h4
  have e5 : (k == 5) = false := by rw [beq_eq_false_iff_ne]; exact h5
  have e6 : (k == 6) = false := by rw [beq_eq_false_iff_ne]; exact h6
  have e7 : (k == 7) = false := by rw [beq_eq_false_iff_ne]; exact h7
  have e8 : (k == 8) = false := by rw [beq_eq_false_iff_ne]; exact h8
  have HB := Lib.hid (belowA w (.cells #[.int .i64 k, .int .i64 n, .string S, .slice a1 m cap1] 24))
  clear h0 h1 h2 h3 h4 h5 h6 h7 h8
  go_enter Tryd.func36, Tryd.ntmps36
  go_wp2
  go_ret
  exact ⟨rfl, HB.out⟩
theorem bare_mkB (s : List UInt8) (l : List PV) : bareV (mkB s) l.length = decide (s = [] ∧ l = []) := by
  show (decide (s = []) && decide (l.length = 0)) = _
  cases s <;> cases l <;> simp
theorem own_numS {k n : Int} {s : List UInt8} {l : List PV} : checkV k n (bareV (mkB s) l.length) = if s = [] ∧ l = [] then checkV k n true else 2 := by
  rw [bare_mkB]
  by_cases h : s = [] ∧ l = []
  · rw [if_pos h, decide_eq_true h]
  · rw [if_neg h, decide_eq_false h]; unfold checkV; rw [if_neg (by simp)]
/-- Whether a value may be, by itself. -/
theorem vown_any {v : PV} {sl : Value} {w : World} (hv : IsV w anyF v sl) :
    Calls Tryd.prog 36 #[pvA v sl] w fun e w' => e = .returned (.int .i64 (ownC v)) ∧ Below w.heap.size w w' := by
  obtain ⟨a1, cap1, e1, g1, g2, -⟩ := hv.len
  subst e1
  have m1 : (v.l.length : Int) ≤ 9223372036854775807 := by unfold maxLen at g2; omega
  obtain ⟨k, n, s, l⟩ := v
  simp only [pvA, PV.kind, PV.n, PV.s, PV.l] at m1 g1 hv ⊢
  simp only [ownC]
  by_cases h0 : k = 0
  · subst h0; rw [if_pos rfl]; exact vown_k0 m1
  rw [if_neg h0]
  by_cases h1 : k = 1
  · subst h1; rw [if_pos rfl]; exact vown_k1 m1
  rw [if_neg h1]
  by_cases h2 : k = 2
  · subst h2; rw [if_pos (.inl rfl), ← own_numS]; exact vown_k2 m1
  by_cases h3 : k = 3
  · subst h3; rw [if_pos (.inr rfl), ← own_numS]; exact vown_k3 m1
  rw [if_neg (by omega)]
  by_cases h4 : k = 4
  · subst h4; rw [if_pos rfl]; exact vown_k4 m1
  rw [if_neg h4]
  by_cases h5 : k = 5
  · subst h5; rw [if_pos rfl]; exact vown_k5 m1
  rw [if_neg h5]
  by_cases h6 : k = 6
  · subst h6; rw [if_pos rfl]; exact vown_k6 m1
  rw [if_neg h6]
  by_cases h7 : k = 7
  · subst h7
    rw [if_pos rfl]
    have e : (if n ≠ 0 ∨ s ≠ [] ∨ l.length % 2 ≠ 0 then 2 else if evenN l = false then 2 else if ascV (twoV l) = true then 0 else 16 : Int) = if n = 0 ∧ s = [] then dictC l else 2 := by
      unfold dictC
      by_cases hn : n = 0
      · by_cases hs : s = []
        · by_cases hl : l.length % 2 = 0
          · rw [if_neg (show ¬ (n ≠ 0 ∨ s ≠ [] ∨ l.length % 2 ≠ 0) from by simp [hn, hs, hl]), if_pos (show n = 0 ∧ s = [] from ⟨hn, hs⟩), if_neg (show ¬ l.length % 2 ≠ 0 from by simp [hl])]
          · rw [if_pos (.inr (.inr hl)), if_pos (show n = 0 ∧ s = [] from ⟨hn, hs⟩), if_pos hl]
        · rw [if_pos (.inr (.inl hs)), if_neg (fun h => hs h.2)]
      · rw [if_pos (.inl hn), if_neg (fun h => hn h.1)]
    rw [e]
    exact vown_k7 hv
  rw [if_neg h7]
  by_cases h8 : k = 8
  · subst h8; rw [if_pos rfl]; exact vown_k8 m1
  rw [if_neg h8]
  exact vown_kx ⟨h0, h1, by omega, by omega, h4, h5, h6, h7, h8⟩
end Go.Proofs.YtnkodejgiabamaaDoor
