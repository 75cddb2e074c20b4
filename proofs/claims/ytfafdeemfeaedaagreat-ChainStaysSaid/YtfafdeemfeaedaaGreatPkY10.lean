/-
  Our texts MapI to Map, in one.
-/
import Derived.Test.YtfafdeemfeaedaaGreatPkY9
import Derived.Test.YtfafdeemfeaedaaGreatProg
import Derived.Maps.OwnOps
import Derived.Maps.OwnSet
import Derived.Maps.Views
import Derived.Deep.RegionHeld3
import Derived.Deep.RegionLaw
import Derived.Deep.AppendLies
import Derived.Lib.LastIndexLaws
import Derived.Lib.SlBytesRow
import Derived.Deep.LoopGhost
import Derived.Deep.CutBlock
import Derived.BigQuiet
import Derived.Deep.QuietTactic
set_option maxRecDepth 8000
set_option maxHeartbeats 8000000
namespace Go.Proofs.YtfafdeemfeaedaaGreat
open Go.RowKit Go.Maps Go.ChangeMaps
theorem lawKI : Keyed Tryz.prog 3 := int_keyed Tryz.underlying3
def i64N (k : Int) : Prop := -9223372036854775808 ≤ k ∧ k ≤ 9223372036854775807
theorem i64N_wf {k : Int} (h : i64N k) : (Lit.int .i64 k).wf = true := by
 obtain ⟨h1, h2⟩ := h
 simp [Lit.wf, IntKind.min, IntKind.max, IntKind.signed, IntKind.bits]; omega
theorem keyN {k : Int} (h : i64N k) : keyOf Tryz.prog 3 (.int .i64 k) = some (.int .i64 k) := keyOf_int_mk Tryz.underlying3 (i64N_wf h)
theorem zeroN (w : World) : (zeroValue 3).run Tryz.prog w = .ok (.int .i64 0) w := by kernel_rfl
def MapN (w : World) (mb n : Nat) (rd : List Int) : Prop :=
 ∃ D : DataW Nat, w.ownsMap Tryz.prog 3 (plainElem Tryz.prog 3) mb n D ∧ IsMap D ∧ ∀ k : Int, Maps.has D (.int .i64 k) = decide (k ∈ rd)
theorem MapN.made (w : World) : MapN (w.alloc (.map #[] 0)) w.heap.size 0 [] :=
 ⟨.map [], World.ownsMap_made w _ _ _, isMap_empty, fun k => by simp [Maps.has]⟩
theorem MapN.keep {w w' : World} {mb n : Nat} {rd : List Int} (h : MapN w mb n rd) (hb : w'.heap[mb]? = w.heap[mb]?) : MapN w' mb n rd := by
 obtain ⟨D, ⟨es, clock, h1, h2⟩, r⟩ := h
 exact ⟨D, ⟨es, clock, hb.trans h1, h2⟩, r⟩
theorem MapN.lt {w : World} {mb n : Nat} {rd : List Int} (h : MapN w mb n rd) : mb < w.heap.size := by obtain ⟨D, h, -⟩ := h; exact h.lt
theorem zcj {w : World} {ops : Array Oper} {rest : List Oper} {o : Oper} {a : Act} {Q : Exit → Act → World → Prop} (hg : o.guard = none) (m x : Operand) (hop : o.op = Op.lookup 133 m x true)
   {mb n : Nat} {rd : List Int} (h : MapN w mb n rd) (hm : a.eval m = .map (some mb)) {k : Int} (hx : a.eval x = .int .i64 k) (hk : i64N k)
   (hK : ∀ c : Int, wpList Tryz.prog ops Q rest (a.put o.dst (.tuple #[.int .i64 c, .bool (decide (k ∈ rd))])) w) : wpList Tryz.prog ops Q (o :: rest) a w := by
 obtain ⟨D, ho, hm2, hD⟩ := h
 refine wpList_lookup_own_ok_int w hg m x _ hop 3 3 .i64 lawKI Tryz.underlying133 Tryz.underlying3 (zeroN w) mb n D hm ho _ _ hx (keyN hk) fun c _ _ => ?_
 rw [hD k]
 exact hK c
theorem ze1 {w : World} {ops : Array Oper} {rest : List Oper} {o : Oper} {a : Act} {Q : Exit → Act → World → Prop} (hg : o.guard = none) (m x v : Operand) (hop : o.op = Op.mapUpdate 133 m x v)
   {mb n : Nat} {rd : List Int} (h : MapN w mb n rd) (hm : a.eval m = .map (some mb)) {k : Int} (hx : a.eval x = .int .i64 k) (hk : i64N k) {q : Int} (hv : a.eval v = .int .i64 q) (hq : i64N q) (hn : n < maxLen)
   (hK : ∀ w', MapN w' mb (n + 1) (rd ++ [k]) → w.grownBy w' (some mb) → wpList Tryz.prog ops Q rest (a.put o.dst undef) w') : wpList Tryz.prog ops Q (o :: rest) a w := by
 obtain ⟨D, ho, hm2, hD⟩ := h
 refine wpList_mapUpdate_own w hg m x v _ hop 3 3 lawKI Tryz.underlying133 (plainElem Tryz.prog 3) mb n D hm ho hn _ _ _ hx hv (keyN hk) _ [] (plainElem_int Tryz.underlying3 (i64N_wf hq)) fun w' ho' hg' => ?_
 refine hK w' ⟨_, ho', hm2.put _ _, fun j => ?_⟩ hg'
 by_cases hj : j = k
 · subst hj
   rw [has_put_same hm2 (by simp [WideAt.IsKeyLit])]
   simp
 · have hne : (Lit.int .i64 j) ≠ .int .i64 k := fun e => hj (by cases e; rfl)
   rw [has_put_other hne, hD j]
   simp [hj]
end Go.Proofs.YtfafdeemfeaedaaGreat
namespace Go.Proofs.YtfafdeemfeaedaaGreat
open Go.RowKit
theorem fN_step {key : List UInt8} {l : List PV} {k : Nat} {x : PV} (hx : l[k]? = some x) : fN key (l.drop k) = if x.kind = 5 ∧ x.s = key then some 0 else (fN key (l.drop (k + 2))).map (· + 2) := by
 have hk : k < l.length := by
   rcases Nat.lt_or_ge k l.length with h | h
   · exact h
   · rw [List.getElem?_eq_none h] at hx; cases hx
 rw [List.getElem?_eq_getElem hk] at hx
 have hx := Option.some.inj hx
 subst hx
 rw [List.drop_eq_getElem_cons hk]
 by_cases h2 : k + 1 < l.length
 · rw [List.drop_eq_getElem_cons h2]
   rfl
 · rw [List.drop_eq_nil_of_le (show l.length ≤ k + 1 by omega), List.drop_eq_nil_of_le (show l.length ≤ k + 2 by omega)]
   unfold fN
   by_cases h : l[k].kind = 5 ∧ l[k].s = key
   · rw [if_pos h, if_pos h]
   · rw [if_neg h, if_neg h]; rfl
theorem fN_end {key : List UInt8} {l : List PV} {k : Nat} (h : l.length ≤ k) : fN key (l.drop k) = none := by
 rw [List.drop_eq_nil_of_le h]; rfl
theorem fN_lt {key : List UInt8} : ∀ {l : List PV} {k : Nat}, fN key l = some k → k < l.length
 | [], _, h => by cases h
 | [x], k, h => by
   unfold fN at h
   split at h
   · cases h; simp
   · cases h
 | x :: y :: l, k, h => by
   unfold fN at h
   split at h
   · cases h; simp
   · obtain ⟨j, hj, rfl⟩ := Option.map_eq_some_iff.1 h
     have := fN_lt hj
     simp; omega
def zdX (o : Option Nat) : Int := match o with | none => -1 | some k => k
def FindEnd (w : World) (o : Option Nat) (e : Ending) (w' : World) : Prop := e = .returned (.int .i64 (zdX o)) ∧ Below w.heap.size w w'
theorem findN_no {v : PV} {key : List UInt8} (h : ¬ v.kind = 7) : zfb v key = none := by unfold zfb; rw [if_neg h]
theorem findN_yes {v : PV} {key : List UInt8} (h : v.kind = 7) : zfb v key = fN key v.l := by unfold zfb; rw [if_pos h]
theorem vfind_any {w : World} {F : Nat → Prop} {v : PV} {sl : Value} (h : IsV w F v sl) (hev : v.kind = 7 → v.l.length % 2 = 0) (key : List UInt8) : Calls Tryz.prog 100 #[pvA v sl, .string (mkB key)] w (FindEnd w (zfb v key)) := by
 obtain ⟨a, cap, rfl, g1, g2, g3⟩ := h.len
 have hl63 : (v.l.length : Int) ≤ 9223372036854775807 := by unfold maxLen at g2; omega
 have HV := Lib.hid h
 have HNO := Lib.hid (fun h => findN_no (v := v) (key := key) h)
 have HYE := Lib.hid (fun h => findN_yes (v := v) (key := key) h)
 obtain ⟨R, hR⟩ : ∃ R, R = zfb v key := ⟨_, rfl⟩
 rw [← hR] at HNO HYE ⊢
 clear hR h g2 g3
 unfold pvA
 obtain ⟨l, hl⟩ : ∃ l, l = v.l := ⟨_, rfl⟩
 rw [← hl] at HV HYE hl63 g1 hev ⊢
 have HL := Lib.hid hl
 clear hl
 obtain ⟨B, hB⟩ : ∃ B, B = w.heap.size := ⟨_, rfl⟩
 have HB1 := Lib.hid (zah w (.cells #[.int .i64 v.kind, .int .i64 v.n, .string (mkB v.s), .slice a l.length cap] 27))
 have HZ1 := Lib.hid (zac (w := w) (b := B) (.cells #[.int .i64 v.kind, .int .i64 v.n, .string (mkB v.s), .slice a l.length cap] 27) hB)
 have HV1 := Lib.hid (HV.out.below HB1.out)
 generalize v.kind = vk at *
 generalize v.n = vn at *
 generalize mkB v.s = vb at *
 go_enter Tryz.func100, Tryz.ntmps100
 go_upto_region 1 with fail
 rw [← hB]
 clear hB HV
 generalize w.alloc _ = W1 at *
 obtain ⟨⟨z0, z1, z2, z3⟩, -⟩ := zal HZ1.out
 by_cases h7 : vk = 7
 case neg =>
   have HR := Lib.hid (HNO.out h7)
   have e0 : (vk == 7) = false := by rw [beq_eq_false_iff_ne]; exact h7
   have e1 : (vk != 7) = true := by simp only [bne, e0, Bool.not_false]
   clear h7 HYE HNO hev
   go_wp2
   go_ret
   exact ⟨by rw [HR.out]; rfl, HB1.out⟩
 have HR := Lib.hid (HYE.out h7)
 have hl2 := hev h7
 clear hev
 subst h7
 clear HNO HYE
 go_wp2_with fail
 go_loop [5] (fun v5 => ∃ k : Nat, v5 = .int .i64 k ∧ k ≤ l.length ∧ k % 2 = 0 ∧ Hid (R = (fN key (l.drop k)).map (· + k))) (fun v5 => l.length + 2 - (intOf v5).toNat)
 case atStart => exact ⟨0, rfl, by omega, rfl, Lib.hid (by rw [HR.out, List.drop_zero]; cases fN key l <;> rfl)⟩
 case round =>
   obtain ⟨k, rfl, hk, hk2, HQ⟩ := hrel
   by_cases hlt : k < l.length
   · have hcd : decide ((k : Int) < (l.length : Int)) = true := decide_eq_true (by omega)
     have hcd2 : decide (k < l.length) = true := decide_eq_true hlt
     have hkb : (k : Int) + 2 ≤ 9223372036854775807 := by omega
     have hkc : k + 2 ≤ l.length := by omega
     have hv1 := HV1.out
     obtain ⟨-, -, -, b, off, rfl, -, -, hc⟩ := hv1.at (by omega)
     obtain ⟨x, hx⟩ : ∃ x, l[k]? = some x := ⟨_, List.getElem?_eq_getElem hlt⟩
     obtain ⟨slx, -, c0, -, c2, -⟩ := hc k x (by rw [← HL.out]; exact hx)
     have HST := Lib.hid (fN_step (key := key) hx)
     have hq : ((mkB x.s).toList == (mkB key).toList) = decide (x.s = key) := by rw [za1 key]; exact zdC x.s key
     clear hv1 hc hx
     by_cases h5 : x.kind = 5
     case neg =>
       have e0 : (x.kind == 5) = false := by rw [beq_eq_false_iff_ne]; exact h5
       have HQ2 := Lib.hid (show R = (fN key (l.drop (k + 2))).map (· + (k + 2)) by rw [HQ.out, HST.out, if_neg (fun h => h5 h.1), Option.map_map]; congr 1; funext q; show q + 2 + k = q + (k + 2); omega)
       clear h5 HST HQ hq
       generalize x.kind = xk at *
       go_wp2_with fail
       go_round
       case rel => exact ⟨k + 2, by go_num, hkc, by omega, HQ2⟩
       case measure => simp [intOf]; omega
     have e0 : (x.kind == 5) = true := by rw [beq_iff_eq]; exact h5
     by_cases hs : x.s = key
     · have HQ2 := Lib.hid (show R = some k by rw [HQ.out, HST.out, if_pos ⟨h5, hs⟩]; show some (0 + k) = _; rw [Nat.zero_add])
       rw [decide_eq_true hs] at hq
       clear h5 HST HQ hs
       generalize x.kind = xk at *
       generalize mkB x.s = xb at *
       go_wp2_with fail
       go_ret
       exact ⟨by rw [HQ2.out]; rfl, HB1.out⟩
     · have HQ2 := Lib.hid (show R = (fN key (l.drop (k + 2))).map (· + (k + 2)) by rw [HQ.out, HST.out, if_neg (fun h => hs h.2), Option.map_map]; congr 1; funext q; show q + 2 + k = q + (k + 2); omega)
       rw [decide_eq_false hs] at hq
       clear h5 HST HQ hs
       generalize x.kind = xk at *
       generalize mkB x.s = xb at *
       go_wp2_with fail
       go_round
       case rel => exact ⟨k + 2, by go_num, hkc, by omega, HQ2⟩
       case measure => simp [intOf]; omega
   · have hcd : decide ((k : Int) < (l.length : Int)) = false := decide_eq_false (by omega)
     have hcd2 : decide (k < l.length) = false := decide_eq_false hlt
     have HQ2 := Lib.hid (show R = none by rw [HQ.out, fN_end (by omega)]; rfl)
     clear HQ
     go_wp2_with fail
     go_ret
     exact ⟨by rw [HQ2.out]; rfl, HB1.out⟩
def GetEnd (w : World) (F : Nat → Prop) (V : PV × Bool) (e : Ending) (w' : World) : Prop := ∃ sl, e = .returned (.tuple #[pvA V.1 sl, .bool V.2]) ∧ IsV w' F V.1 sl ∧ Below w.heap.size w w'
theorem vget_any {w : World} {F : Nat → Prop} {v : PV} {sl : Value} (h : IsV w F v sl) (hev : v.kind = 7 → v.l.length % 2 = 0) (key : List UInt8) : Calls Tryz.prog 63 #[pvA v sl, .string (mkB key)] w (GetEnd w F (getP (getV v key))) := by
 obtain ⟨a, cap, rfl, g1, g2, g3⟩ := h.len
 have hl63 : (v.l.length : Int) ≤ 9223372036854775807 := by unfold maxLen at g2; omega
 have HV := Lib.hid (IsV.lt _ h)
 have HF := Lib.hid (fun (W : World) (hb : Below w.heap.size w W) => vfind_any (h.below hb) hev key)
 obtain ⟨R, hR⟩ : ∃ R, R = zfb v key := ⟨_, rfl⟩
 have HLT := Lib.hid (show ∀ k, R = some k → k < v.l.length from fun k hk => by
   rw [hR] at hk
   unfold zfb at hk
   split at hk
   · exact fN_lt hk
   · cases hk)
 obtain ⟨V, hV⟩ : ∃ V, V = getP (getV v key) := ⟨_, rfl⟩
 have HVN := Lib.hid (show R = none → V = (PV.none, false) from fun h => by rw [hV]; unfold getV; rw [← hR, h]; rfl)
 have HVS := Lib.hid (show ∀ k, R = some k → V = (v.l.getD (k + 1) PV.none, true) from fun k h => by rw [hV]; unfold getV; rw [← hR, h]; rfl)
 rw [← hR] at HF
 rw [← hV]
 clear hR hV h g2 g3
 unfold FindEnd pvA at HF
 unfold pvA
 obtain ⟨l, hl⟩ : ∃ l, l = v.l := ⟨_, rfl⟩
 clear hev
 rw [← hl] at HV HF HLT HVS hl63 g1 ⊢
 have HL := Lib.hid hl
 clear hl
 obtain ⟨B, hB⟩ : ∃ B, B = w.heap.size := ⟨_, rfl⟩
 have HB1 := Lib.hid (za6 w (.cells #[.int .i64 v.kind, .int .i64 v.n, .string (mkB v.s), .slice a l.length cap] 27) (.cells #[.int .i64 0, .int .i64 0, .string ⟨#[]⟩, .slice none 0 0] 27))
 have HZ1 := Lib.hid (zak (w := w.alloc (.cells #[.int .i64 v.kind, .int .i64 v.n, .string (mkB v.s), .slice a l.length cap] 27)) (.cells #[.int .i64 0, .int .i64 0, .string ⟨#[]⟩, .slice none 0 0] 27) (zac (w := w) (b := B) (.cells #[.int .i64 v.kind, .int .i64 v.n, .string (mkB v.s), .slice a l.length cap] 27) hB))
 have HY1 := Lib.hid (zac (w := w.alloc (.cells #[.int .i64 v.kind, .int .i64 v.n, .string (mkB v.s), .slice a l.length cap] 27)) (b := B + 1) (.cells #[.int .i64 0, .int .i64 0, .string ⟨#[]⟩, .slice none 0 0] 27) (by rw [zam, hB]))
 have HW := Lib.hid (show w.heap.size ≤ B + 1 by omega)
 generalize v.kind = vk at *
 generalize v.n = vn at *
 generalize mkB v.s = vb at *
 go_enter Tryz.func63, Tryz.ntmps63
 go_upto_region 1 with fail
 try rw [← hB]
 generalize World.alloc _ _ = W1 at *
 clear hB
 generalize B + 1 = r at *
 obtain ⟨⟨z0, z1, z2, z3⟩, -⟩ := zal HZ1.out
 go_wp2_with fail
 refine (HF.out _ HB1.out).mono ?_
 rintro e w2 ⟨rfl, hb2⟩
 have HZ2 := Lib.hid (zab hb2 HZ1.out)
 have HY2 := Lib.hid (zab hb2 HY1.out)
 have HB2 := Lib.hid (HB1.out.trans (hb2.mono HB1.out.size))
 have HV2 := Lib.hid (HV.out.below HB2.out)
 clear hb2 HZ1 HY1 HB1 HV HF z0 z1 z2 z3
 obtain ⟨⟨z0, z1, z2, z3⟩, -⟩ := zal HZ2.out
 obtain ⟨⟨y0, y1, y2, y3⟩, f0, f1, f2, f3⟩ := zal HY2.out
 cases R with
 | none =>
   have HE := Lib.hid (HVN.out rfl)
   clear HVN HVS HLT
   unfold zdX
   go_wp2
   refine bodyPost_ret (zaa rfl _ _ r 27 _ (0, 0) _ rfl (by exact set4 HY2.out _ _ _ _) Tryz.underlying27 rfl (by exact zaC) _ rfl) rfl ?_
   rw [HE.out]
   exact ⟨_, rfl, IsV.leaf _ _ _ rfl, zai HB2.out HW.out _ _ _ _⟩
 | some k =>
   have hkl := HLT.out k rfl
   have HE := Lib.hid (HVS.out k rfl)
   have hd0 : decide ((k : Int) < 0) = false := decide_eq_false (by omega)
   clear HVN HVS HLT
   unfold zdX
   simp only
   by_cases hle : k + 1 = l.length
   · have hq : ((k : Int) + 1 == (l.length : Int)) = true := by rw [beq_iff_eq]; omega
     have hq2 : ((k : Int) == (l.length : Int) - 1) = true := by rw [beq_iff_eq]; omega
     have hg : l.getD (k + 1) PV.none = PV.none := by rw [List.getD_eq_getElem?_getD, List.getElem?_eq_none (by omega)]; rfl
     have HE2 := Lib.hid (HE.out.trans (by rw [hg]))
     clear hg HE hle
     go_wp2
     refine bodyPost_ret (zaa rfl _ _ r 27 _ (0, 0) _ rfl (by exact set4 HY2.out _ _ _ _) Tryz.underlying27 rfl (by exact zaC) _ rfl) rfl ?_
     rw [HE2.out]
     exact ⟨_, rfl, IsV.leaf _ _ _ rfl, zai HB2.out HW.out _ _ _ _⟩
   · have hq : ((k : Int) + 1 == (l.length : Int)) = false := by rw [beq_eq_false_iff_ne]; omega
     have hq2 : ((k : Int) == (l.length : Int) - 1) = false := by rw [beq_eq_false_iff_ne]; omega
     have hk1 : k + 1 < l.length := by omega
     have hv2 := HV2.out
     obtain ⟨-, -, -, b, off, rfl, -, -, hc⟩ := hv2.at (by omega)
     obtain ⟨x, hx⟩ : ∃ x, l[k + 1]? = some x := ⟨_, List.getElem?_eq_getElem hk1⟩
     obtain ⟨slx, hsx, c0, c1, c2, c3⟩ := hc (k + 1) x (by rw [← HL.out]; exact hx)
     have hg : l.getD (k + 1) PV.none = x := by rw [List.getD_eq_getElem?_getD, hx]; rfl
     have HE2 := Lib.hid (HE.out.trans (by rw [hg]))
     obtain ⟨xa, xc, rfl, -, -, -⟩ := hsx.len
     have HSX := Lib.hid hsx
     have HPA := Lib.hid (show pvA x (.slice xa x.l.length xc) = .agg #[.int .i64 x.kind, .int .i64 x.n, .string (mkB x.s), .slice xa x.l.length xc] from rfl)
     have HRW := Lib.hid (zag HY2.out)
     obtain ⟨j, hj⟩ : ∃ j, j = k + 1 := ⟨_, rfl⟩
     have hji : (k : Int) + 1 = (j : Int) := by omega
     rw [← hj] at c0 c1 c2 c3 hk1
     have HJ := Lib.hid hj
     clear hj hv2 hc hx hg HE hle hsx
     generalize x.kind = xk at *
     generalize x.n = xn at *
     generalize mkB x.s = xb at *
     go_wp2
     refine bodyPost_ret (zaa rfl _ _ r 27 _ (0, 0) _ rfl (by exact set4 HY2.out _ _ _ _) Tryz.underlying27 rfl (by exact zaC) _ rfl) rfl ?_
     rw [HE2.out]
     refine ⟨.slice xa x.l.length xc, by rw [HPA.out]; rfl, ?_, zai HB2.out HW.out _ _ _ _⟩
     exact IsV.keep ⟨by rw [zaO]; exact Nat.le_refl _, fun b _ hb => zbi (by have := HW.out; have := hb.2; omega) _ _ _ _⟩ (fun b hb => hb.1) _ HSX.out
theorem ESec : zdw Tryz.prog 62 29 (.agg #[.slice none 0 0, .int .i64 0, .int .i64 0, .string ⟨#[]⟩, .slice none 0 0]) 5 80 := ⟨Tryz.underlying62, by kernel_rfl, rfl, by omega⟩
theorem sec_even {bs : List UInt8} {last : Bool} (h : (secV bs last 0).2.2 = 0) : (secV bs last 0).1.tr.kind = 7 ∧ (secV bs last 0).1.tr.l.length % 2 = 0 := by
 unfold secV at h ⊢
 simp only at h ⊢
 by_cases ho : (oneX zcW (zaf bs 0 last)).2 ≠ 0
 · rw [if_pos ho] at h; exact absurd h ho
 rw [if_neg ho] at h ⊢
 have ho' : (oneX zcW (zaf bs 0 last)).2 = 0 := by omega
 obtain ⟨o1, o2⟩ := oneX_le (p := zcW) ho'
 obtain ⟨g1, g2⟩ := grps_le (bs := bs) (last := last) 65 [] _ rfl o1 o2
 by_cases hg : (zaX bs last 65 [] (oneX zcW (zaf bs 0 last)).1).2.2 ≠ 0
 · rw [if_pos hg] at h; exact absurd h hg
 rw [if_neg hg] at h ⊢
 generalize (zaX bs last 65 [] (oneX zcW (zaf bs 0 last)).1).2.1 = k at *
 have hd := zce (bs := bs) (last := last) g1 g2
 obtain ⟨m1, -⟩ := valO_may _ _ _ _ g1 g2 (show stOk [] from trivial) hd
 by_cases hv : (zbb bs last k).2.2 ≠ 0
 · rw [if_pos hv] at h; exact absurd h hv
 rw [if_neg hv] at h ⊢
 by_cases h7 : (zbb bs last k).1.kind ≠ 7
 · rw [if_pos h7] at h; cases h
 rw [if_neg h7]
 have hv' : (zbb bs last k).2.2 = 0 := by omega
 obtain ⟨f0, -⟩ := m1 hv'
 have h7' : (zbb bs last k).1.kind = 7 := by omega
 refine ⟨h7', ?_⟩
 generalize (zbb bs last k).1 = v at *
 obtain ⟨kk, n, s, l⟩ := v
 have h8 : kk = 7 := h7'
 subst h8
 unfold zbs at f0
 by_cases hoc : ownC (.mk 7 n s l) ≠ 0
 · rw [if_pos hoc] at f0; exact absurd f0 hoc
 · have hz : ownC (.mk 7 n s l) = 0 := by omega
   unfold ownC at hz
   simp only [show ((7 : Int) = 0) = False by simp, show ((7 : Int) = 1) = False by simp, show ((7 : Int) = 2 ∨ (7 : Int) = 3) = False by simp, show ((7 : Int) = 4) = False by simp, show ((7 : Int) = 5) = False by simp, show ((7 : Int) = 6) = False by simp, if_false, if_true] at hz
   by_cases hb : n ≠ 0 ∨ s ≠ [] ∨ l.length % 2 ≠ 0
   · rw [if_pos hb] at hz; cases hz
   · show l.length % 2 = 0
     omega
def SecsEnd (w : World) (V : List Sec × Int × Int) (e : Ending) (w' : World) : Prop :=
 ∃ v, e = .returned (.tuple #[v, .int .i64 V.2.1, .int .i64 V.2.2]) ∧ IsL w' (fun b => w.heap.size ≤ b) V.1 v ∧ Below w.heap.size w w'
theorem zdv {w W : World} {V : List Sec × Int × Int} {n e : Int} (hV : V = ([], n, e)) (hb : Below w.heap.size w W) : SecsEnd w V (.returned (.tuple #[.slice none 0 0, .int .i64 n, .int .i64 e])) W := by
 subst hV; exact ⟨_, rfl, IsL.nil _ _, hb⟩
theorem grown_stays {W W8 : World} {o : Obj} {row : Option Nat} {B : Nat} (hg : (W.alloc o).grownBy W8 row) (hr : ∀ b, row = some b → b < B) : zax (fun b => B ≤ b) W W8 :=
 ⟨by have := hg.size; rw [zam] at this; omega, fun b hb hF => by rw [hg.block b (by rw [zam]; omega) (fun e => by have := hr b e.symm; omega)]; exact zb1 W o hb⟩
def slLen : Value → Nat | .slice _ n _ => n | _ => 0
theorem zeQ (bs : List UInt8) (kn : List Bool) (g : Nat) (rd : List Int) (l : List Sec) (a : Int) : zba bs kn (g + 1) rd l a = (if a < 0 ∨ (bs.length : Int) ≤ a then ([], 0, 20)
   else if a ∈ rd ∨ 32 ≤ l.length then ([], 0, 21)
   else if (zbf bs kn a.toNat).2.2 = 6 then ([], (zaw kn a.toNat : Int), 6) else if (zbf bs kn a.toNat).2.2 ≠ 0 then ([], 0, 20)
   else match getV (zbf bs kn a.toNat).1.tr kPrev with
     | none => (l ++ [(zbf bs kn a.toNat).1], 0, 0)
     | some v => if v.kind ≠ 2 then ([], 0, 20) else zba bs kn g (rd ++ [a]) (l ++ [(zbf bs kn a.toNat).1]) v.n) := rfl
theorem zdG {w : World} {p : Nat} {bs : List UInt8} {kn : List Bool} (h : SrcI w p bs kn) (hl : bs.length ≤ 390000) (k : Int) :
   Calls Tryz.prog 24 #[.pointer (some ⟨p, 0, none⟩), .int .i64 k] w (SecsEnd w (zba bs kn 33 [] [] k)) := by
 have HI := Lib.hid h
 have hmm := @run_makeMap Tryz.prog
 obtain ⟨R, hR⟩ : ∃ R, R = zba bs kn 33 [] [] k := ⟨_, rfl⟩
 have HR := Lib.hid hR
 rw [← hR]
 clear h hR
 obtain ⟨mb, hmb⟩ : ∃ mb, mb = w.heap.size := ⟨_, rfl⟩
 have HM1 := Lib.hid (show MapN (w.alloc (.map #[] 0)) mb 0 [] by rw [hmb]; exact MapN.made w)
 have HB1 := Lib.hid (zah w (.map #[] 0))
 have HMW := Lib.hid (show mb < (w.alloc (.map #[] 0)).heap.size ∧ w.heap.size ≤ mb ∧ (w.alloc (.map #[] 0)).heap.size = mb + 1 by rw [zam, hmb]; omega)
 go_enter Tryz.func24, Tryz.ntmps24
 go_upto_region 2 with fail
 try rw [← hmb]
 clear hmb hmm
 generalize w.alloc _ = W1 at *
 have HS1 := Lib.hid (SsM.nil 29 W1 W1 (fun b => b = mb))
 go_wp2_with fail
 go_loopw [1, 8] (fun v1 v8 wr => ∃ (rd : List Int) (l : List Sec) (k : Int) (cs : List Value), v1 = .int .i64 k ∧ l.length ≤ 32 ∧ Hid (SsM 29 W1 wr (fun b => b = mb) l cs v8) ∧ Hid (MapN wr mb l.length rd) ∧ Hid (Below w.heap.size w wr) ∧ Hid (R = zba bs kn (33 - l.length) rd l k)) (fun _ v8 _ => 33 - slLen v8)
 case atStart => exact ⟨[], [], k, [], rfl, by simp, HS1, HM1, HB1, HR⟩
 case round =>
   obtain ⟨rd, l, k, cs, rfl, hl32, HSM, HMN, HB, HQ⟩ := hrel
   obtain ⟨sa, sc, rfl, -, -⟩ := zau HSM.out.own
   obtain ⟨m, hm⟩ : ∃ m, m + 1 = 33 - l.length := ⟨32 - l.length, by omega⟩
   have hQ := HQ.out
   rw [← hm, zeQ] at hQ
   have HM := Lib.hid hm
   have HTT := Lib.hid (HI.out.total _ HB.out)
   clear HQ hm
   by_cases h1 : k < 0
   · have d1 : decide (k < 0) = true := decide_eq_true h1
     have HV := Lib.hid (hQ.trans (if_pos (.inl h1)))
     clear hQ
     go_wp2_with fail
     go_ret3
     exact zdv HV.out HB.out
   have d1 : decide (k < 0) = false := decide_eq_false h1
   by_cases h2 : (bs.length : Int) ≤ k
   · have d2 : decide ((bs.length : Int) ≤ k) = true := decide_eq_true h2
     have HV := Lib.hid (hQ.trans (if_pos (.inr h2)))
     clear hQ
     go_wp2_with (go_at_call 54; refine HTT.out.mono ?_; rintro e w6 ⟨rfl, rfl⟩)
     go_ret3
     exact zdv HV.out HB.out
   have d2 : decide ((bs.length : Int) ≤ k) = false := decide_eq_false h2
   obtain ⟨K, rfl⟩ : ∃ K : Nat, k = (K : Int) := ⟨k.toNat, by omega⟩
   have hKl : K < bs.length := by omega
   have hKb : i64N (K : Int) := ⟨by omega, by omega⟩
   have HKB := Lib.hid hKb
   rw [if_neg (by rintro (h | h); exact h1 h; exact h2 h), show ((K : Int)).toNat = K from rfl] at hQ
   clear h1 h2 hKb
   by_cases hin : (K : Int) ∈ rd ∨ 32 ≤ l.length
   · have HV := Lib.hid (hQ.trans (if_pos hin))
     have HIN := Lib.hid hin
     obtain ⟨d, hd⟩ : ∃ d, d = decide ((K : Int) ∈ rd) := ⟨_, rfl⟩
     have HD := Lib.hid hd
     clear hQ hin hd
     have d3 : d = false → decide ((32 : Int) ≤ (l.length : Int)) = true := fun e => by
       refine decide_eq_true ?_
       rcases HIN.out with h | h
       · have := HD.out; rw [decide_eq_true h] at this; rw [this] at e; cases e
       · omega
     have d4 : d = false → decide (32 ≤ l.length) = true := fun e => by have := d3 e; simp at this ⊢; omega
     cases d
     · have d5 := d3 rfl
       have d6 := d4 rfl
       clear d3 d4
       go_wp2_with (first | (go_at_call 54; refine HTT.out.mono ?_; rintro e w6 ⟨rfl, rfl⟩) | (at_lookup; refine zcj rfl _ _ rfl HMN.out rfl rfl HKB.out ?_; intro c; rw [← HD.out]))
       go_ret3
       exact zdv HV.out HB.out
     · clear d3 d4
       go_wp2_with (first | (go_at_call 54; refine HTT.out.mono ?_; rintro e w6 ⟨rfl, rfl⟩) | (at_lookup; refine zcj rfl _ _ rfl HMN.out rfl rfl HKB.out ?_; intro c; rw [← HD.out]))
       go_ret3
       exact zdv HV.out HB.out
   rw [if_neg hin] at hQ
   have hl31 : l.length < 32 := by
     rcases Nat.lt_or_ge l.length 32 with h | h
     · exact h
     · exact absurd (.inr h) hin
   have d3 : decide ((32 : Int) ≤ (l.length : Int)) = false := decide_eq_false (by omega)
   have d4 : decide (32 ≤ l.length) = false := decide_eq_false (by omega)
   have HD := Lib.hid (show decide ((K : Int) ∈ rd) = false from decide_eq_false (fun h => hin (.inl h)))
   have HSEC := Lib.hid (fun (W : World) (hb : Below w.heap.size w W) => section_any (HI.out.mono hb) hl hKl)
   have hEV := sec_even (bs := (bs.drop K).take (zaw kn K - K)) (last := zaw kn K == bs.length)
   rw [show secV ((bs.drop K).take (zaw kn K - K)) (zaw kn K == bs.length) 0 = zbf bs kn K from rfl] at hEV
   unfold sctV at HSEC
   generalize zbf bs kn K = S at *
   obtain ⟨s, so, se⟩ := S
   simp only at hQ HSEC hEV
   clear hin
   go_wp2_with (first | (go_at_call 54; refine HTT.out.mono ?_; rintro e w6 ⟨rfl, rfl⟩) | (at_lookup; refine zcj rfl _ _ rfl HMN.out rfl rfl HKB.out ?_; intro c; rw [HD.out]) | (at_mapUpdate; refine ze1 rfl _ _ _ rfl HMN.out rfl rfl HKB.out rfl ⟨by omega, by omega⟩ (by unfold maxLen; omega) ?_; intro w2 hmn2 hg2))
   have HB2 := Lib.hid (HB.out.grown hg2 HB.out.size (fun b hb => by cases hb; exact HMW.out.2.1))
   have HM2 := Lib.hid hmn2
   have HS2 := Lib.hid (HSM.out.on (zad.of_grown (S := fun b => b = mb) hg2 (fun b hb => by cases hb; rfl)) (fun b hb _ => hb) (fun b hb e => by have := (HSM.out.own.lt b hb).1; have := HMW.out.1; omega))
   have HSE := Lib.hid (HSEC.out _ HB2.out)
   have HQ := Lib.hid hQ
   clear hQ hmn2 hg2 HSEC HSM HMN HB HTT HD
   by_cases he : se = 0
   case neg =>
     have HSF := Lib.hid (show Calls Tryz.prog 62 #[.pointer (some ⟨p, 0, none⟩), .int .i64 K] w2 (zeK w2 (Sec.none, if se = 6 then ((zaw kn K : Nat) : Int) else 0, if se = 6 then 6 else 20)) by
       have := HSE.out
       rw [if_neg he] at this
       by_cases h6 : se = 6
       · rw [if_pos h6, if_pos h6]; rwa [if_pos h6] at this
       · rw [if_neg h6, if_neg h6]; rwa [if_neg h6] at this)
     have HV := Lib.hid (show R = ([], if se = 6 then ((zaw kn K : Nat) : Int) else 0, if se = 6 then 6 else 20) by
       have := HQ.out
       by_cases h6 : se = 6
       · rw [if_pos h6, if_pos h6]; rwa [if_pos h6] at this
       · rw [if_neg h6, if_neg h6]; rwa [if_neg h6, if_pos he] at this)
     obtain ⟨u, hu⟩ : ∃ u, u = (if se = 6 then ((zaw kn K : Nat) : Int) else 0) := ⟨_, rfl⟩
     obtain ⟨v, hv⟩ : ∃ v, v = (if se = 6 then (6 : Int) else 20) := ⟨_, rfl⟩
     have hv0 : v ≠ 0 := by rw [hv]; by_cases h6 : se = 6 <;> simp [h6]
     rw [← hu, ← hv] at HSF HV
     have e0 : (v == 0) = false := by rw [beq_eq_false_iff_ne]; exact hv0
     have e1 : (v != 0) = true := by simp only [bne, e0, Bool.not_false]
     clear hu hv hv0 HSE HQ hEV he
     refine HSF.out.mono ?_
     rintro e w3 ⟨gv, sl, rfl, hs3, hb3⟩
     obtain ⟨ga, gc, rfl, -, -, -⟩ := hs3.1.len
     obtain ⟨sa3, sc3, rfl, -, -, -⟩ := hs3.2.len
     simp only [secA, Sec.none, PV.none, List.length_nil]
     have HB3 := Lib.hid (HB2.out.trans (hb3.mono HB2.out.size))
     clear hs3 hb3
     go_wp2_with fail
     go_ret3
     exact zdv HV.out (HB3.out.alloc HB3.out.size _)
   subst he
   rw [if_pos rfl] at HSE
   have HV := Lib.hid (HQ.out.trans ((if_neg (by decide)).trans (if_neg (fun h => h rfl))))
   obtain ⟨-, hev⟩ := hEV rfl
   have HEV := Lib.hid hev
   clear HQ hEV hev
   refine HSE.out.mono ?_
   rintro e w3 ⟨gv, sl, rfl, hs3, hb3⟩
   obtain ⟨ga, gc, rfl, -, -, -⟩ := hs3.1.len
   obtain ⟨ta, tc, rfl, -, -, -⟩ := hs3.2.len
   simp only [secA]
   have hb3a := hb3.alloc hb3.size (.cells #[.slice ga s.gs.length gc, .int .i64 s.tr.kind, .int .i64 s.tr.n, .string (mkB s.tr.s), .slice ta s.tr.l.length tc] 29)
   have HT3 := Lib.hid (zac (w := w3) (b := w3.heap.size) (.cells #[.slice ga s.gs.length gc, .int .i64 s.tr.kind, .int .i64 s.tr.n, .string (mkB s.tr.s), .slice ta s.tr.l.length tc] 29) rfl)
   have HX3 := Lib.hid (hs3.below (zah w3 (.cells #[.slice ga s.gs.length gc, .int .i64 s.tr.kind, .int .i64 s.tr.n, .string (mkB s.tr.s), .slice ta s.tr.l.length tc] 29)))
   have HB3 := Lib.hid (HB2.out.trans (hb3a.mono HB2.out.size))
   have HS3 := Lib.hid (HS2.out.below hb3a)
   have HM3 := Lib.hid (HM2.out.keep (hb3a.block mb HM2.out.lt))
   have HW2 := Lib.hid (show W1.heap.size ≤ w2.heap.size ∧ w2.heap.size ≤ w3.heap.size ∧ ∀ b, Value.ownBlock (.slice sa l.length sc) = some b → b < w2.heap.size from ⟨by have := HM2.out.lt; have := HMW.out.2.2; omega, hb3.size, fun b hb => (HS2.out.own.lt b hb).2⟩)
   have HM2L := Lib.hid HM2.out.lt
   clear hb3 hb3a hs3 HS2 HM2 HB2 HSE
   go_upto_region 10 with fail
   obtain ⟨T, hT⟩ : ∃ T, T = w3.heap.size := ⟨_, rfl⟩
   rw [← hT] at HT3 HW2 ⊢
   clear hT
   generalize World.alloc _ _ = W3 at *
   obtain ⟨⟨t0, t1, t2, t3, t4⟩, -⟩ := zcC HT3.out
   have HSC := Lib.hid (show secC s (.slice ga s.gs.length gc) (.slice ta s.tr.l.length tc) = [.slice ga s.gs.length gc, .int .i64 s.tr.kind, .int .i64 s.tr.n, .string (mkB s.tr.s), .slice ta s.tr.l.length tc] from rfl)
   have HPA := Lib.hid (show pvA s.tr (.slice ta s.tr.l.length tc) = .agg #[.int .i64 s.tr.kind, .int .i64 s.tr.n, .string (mkB s.tr.s), .slice ta s.tr.l.length tc] from rfl)
   have hone : ∀ u ∈ secC s (.slice ga s.gs.length gc) (.slice ta s.tr.l.length tc), u.oneCell' = true := by
     intro u hu
     rw [HSC.out] at hu
     simp at hu
     rcases hu with rfl | rfl | rfl | rfl | rfl <;> rfl
   rw [HSC.out] at hone
   have HONE := Lib.hid hone
   have HGT := Lib.hid (fun (W : World) (hx : IsV W (fun b => w2.heap.size ≤ b) s.tr (.slice ta s.tr.l.length tc)) => vget_any hx (fun _ => HEV.out) kPrev)
   rw [HPA.out] at HGT
   clear hone
   generalize hGV : getV s.tr kPrev = GV at *
   clear hGV
   generalize hK1 : s.tr.kind = xk at *
   generalize hK2 : s.tr.n = xn at *
   generalize hK3 : mkB s.tr.s = xb at *
   clear hK1 hK2 hK3
   go_wp2_with (at_builtin; go_loud (refine zde ESec rfl (.tmp 52) (.tmp 54) rfl W1.heap.size _ l.length _ rfl (HS3.out.own.alloc _) _ 1 _ rfl (zfs _ #[.slice ga s.gs.length gc, .int .i64 xk, .int .i64 xn, .string xb, .slice ta s.tr.l.length tc] _ 5 rfl rfl) HONE.out (by unfold maxLen; omega) (by omega) (by rw [zam]; have := HW2.out; have := zag HT3.out; omega) ?_); intro v' w8 hO8 hg8 hn8; obtain ⟨ua, uc, rfl, -, -⟩ := zau hO8; have HS8 := Lib.hid (HS3.out.app hg8 HX3.out HW2.out.1 HW2.out.2.2 (fun b hb => by rw [hb]; have := HM2L.out; exact this) (by rw [HSC.out]; exact hO8) hn8); have HST := Lib.hid (grown_stays hg8 HW2.out.2.2); have HX8 := Lib.hid (HX3.out.keep HST.out (fun _ h => h)); have HT8 := Lib.hid ((HST.out.2 T (zag HT3.out) HW2.out.2.1).trans HT3.out); have HM8 := Lib.hid (HM3.out.keep ((hg8.block mb (by rw [zam]; have := HM3.out.lt; omega) (fun e => by have := (HS3.out.own.lt mb e.symm).1; have := HMW.out.1; omega)).trans (zb1 _ _ HM3.out.lt))); have HB8 := Lib.hid ((HB3.out.alloc HB3.out.size _).grown hg8 (by rw [zam]; have := HB3.out.size; omega) (fun b hb => by have := (HS3.out.own.lt b hb).1; have := HMW.out; omega)); clear hO8 hg8 hn8 HS3 HX3 HT3 HM3 HB3 t0 t1 t2 t3 t4; obtain ⟨⟨t0, t1, t2, t3, t4⟩, -⟩ := zcC HT8.out)
   have HG8 := Lib.hid (HGT.out _ HX8.out.2)
   clear HGT
   have HFW := Lib.hid (show ∀ b, W1.heap.size ≤ b → w.heap.size ≤ b from fun b hb => by have := HMW.out; omega)
   cases GV with
   | none =>
     refine HG8.out.mono ?_
     rintro e w9 ⟨xl, rfl, hv9, hb9⟩
     obtain ⟨la, lc, rfl, -, -, -⟩ := hv9.len
     simp only [getP, pvA, PV.none]
     have HB9 := Lib.hid (HB8.out.trans (hb9.mono HB8.out.size))
     have HS9 := Lib.hid (HS8.out.below hb9)
     clear hv9 hb9 HG8 HX8 HT8 HM8 HB8 HS8 t0 t1 t2 t3 t4
     go_wp2_with fail
     go_ret3
     rw [HV.out]
     exact ⟨_, rfl, ((HS9.out.below (zah _ _)).fin.keep (zax.refl _ _) (fun b hb => HFW.out b hb)), HB9.out.alloc HB9.out.size _⟩
   | some v =>
     refine HG8.out.mono ?_
     rintro e w9 ⟨xl, rfl, hv9, hb9⟩
     obtain ⟨la, lc, rfl, -, -, -⟩ := hv9.len
     simp only [getP, pvA]
     have hb9a := hb9.alloc hb9.size (.cells #[.int .i64 v.kind, .int .i64 v.n, .string (mkB v.s), .slice la v.l.length lc] 27)
     have HY9 := Lib.hid (zac (w := w9) (b := w9.heap.size) (.cells #[.int .i64 v.kind, .int .i64 v.n, .string (mkB v.s), .slice la v.l.length lc] 27) rfl)
     have HB9 := Lib.hid (HB8.out.trans (hb9a.mono HB8.out.size))
     have HS9 := Lib.hid (HS8.out.below hb9a)
     have HM9 := Lib.hid (HM8.out.keep (hb9a.block mb HM8.out.lt))
     clear hv9 hb9 hb9a HG8 HX8 HT8 HM8 HB8 HS8 t0 t1 t2 t3 t4
     have HV2 := Lib.hid (show R = if v.kind ≠ 2 then ([], 0, 20) else zba bs kn m (rd ++ [(K : Int)]) (l ++ [s]) v.n from HV.out)
     clear HV
     generalize v.kind = vk at *
     generalize v.n = vn at *
     generalize mkB v.s = vb at *
     go_upto_region 14 with fail
     generalize w9.heap.size = Y at *
     generalize World.alloc _ _ = W9 at *
     obtain ⟨⟨y0, y1, y2, y3⟩, -⟩ := zal HY9.out
     by_cases hk2 : vk = 2
     case neg =>
       have HV3 := Lib.hid (HV2.out.trans (if_pos hk2))
       have e0 : (vk == 2) = false := by rw [beq_eq_false_iff_ne]; exact hk2
       have e1 : (vk != 2) = true := by simp only [bne, e0, Bool.not_false]
       clear hk2
       go_wp2_with fail
       go_ret3
       exact zdv HV3.out HB9.out
     subst hk2
     have HV3 := Lib.hid (HV2.out.trans (if_neg (fun h => h rfl)))
     have HLN := Lib.hid (show (l ++ [s]).length = l.length + 1 by simp)
     clear HV2
     go_wp2_with fail
     go_roundw
     case rel => exact ⟨rd ++ [(K : Int)], l ++ [s], vn, _, rfl, by rw [HLN.out]; omega, HS9, by rw [HLN.out]; exact HM9, HB9, Lib.hid (by rw [HV3.out, HLN.out, show 33 - (l.length + 1) = m by have := HM.out; omega])⟩
     case measure => simp [slLen]; omega
def smallL (l : List Sec) : Prop := ∀ s ∈ l, smallG s.gs
theorem placeV_none {s : Sec} {l : List Sec} {n : Int} (h : zcf s.gs n = none) : zbR (s :: l) n = zbR l n := by
 show (match zcf s.gs n with | none => zbR l n | some e => if e.used = true ∧ e.gen = 0 then e.at_ else -1) = _
 rw [h]
theorem placeV_some {s : Sec} {l : List Sec} {n : Int} {e : Ent} (h : zcf s.gs n = some e) : zbR (s :: l) n = if e.used = true ∧ e.gen = 0 then e.at_ else -1 := by
 show (match zcf s.gs n with | none => zbR l n | some e => if e.used = true ∧ e.gen = 0 then e.at_ else -1) = _
 rw [h]
def PlcEnd (w : World) (v : Int) (e : Ending) (w' : World) : Prop := e = .returned (.int .i64 v) ∧ Below w.heap.size w w'
theorem xplace_any {w : World} {F : Nat → Prop} {l : List Sec} {v : Value} (h : IsL w F l v) (hs : smallL l) (n : Int) (hn0 : -2000000000000000000 ≤ n) (hn1 : n ≤ 2000000000000000000) :
   Calls Tryz.prog 68 #[v, .int .i64 n] w (PlcEnd w (zbR l n)) := by
 obtain ⟨a, cap, rfl, g1, g2, g3⟩ := h.len
 have hl63 : (l.length : Int) ≤ 9223372036854775807 := by unfold maxLen at g2; omega
 have HL := Lib.hid h
 obtain ⟨R, hR⟩ : ∃ R, R = zbR l n := ⟨_, rfl⟩
 have HR := Lib.hid hR
 have HSM := Lib.hid hs
 rw [← hR]
 clear h hR g2 g3 hs
 go_enter Tryz.func68, Tryz.ntmps68
 go_wp2_with fail
 go_loopw [11] (fun v wr => ∃ k : Nat, v = .int .i64 k ∧ k ≤ l.length ∧ Hid (R = zbR (l.drop k) n) ∧ Hid (Below w.heap.size w wr)) (fun v _ => l.length - (intOf v).toNat)
 case atStart => exact ⟨0, rfl, Nat.zero_le _, HR, Lib.hid (Below.refl _ _)⟩
 case round =>
   obtain ⟨k, rfl, hk, HQ, HB⟩ := hrel
   by_cases hlt : k < l.length
   · have hcd : decide ((k : Int) < (l.length : Int)) = true := decide_eq_true (by omega)
     have hcd2 : decide (k < l.length) = true := decide_eq_true hlt
     have HL2 := Lib.hid (HL.out.below HB.out)
     have hL2 := HL2.out
     obtain ⟨-, -, -, b, off, rfl, -, -, hc⟩ := hL2.at (by omega)
     obtain ⟨s, hx⟩ : ∃ s, l[k]? = some s := ⟨_, List.getElem?_eq_getElem hlt⟩
     obtain ⟨gv, sl, hsec, c0, c1, c2, c3, c4⟩ := hc k s hx
     obtain ⟨ga, gc, rfl, -, -, -⟩ := hsec.1.len
     obtain ⟨la, lc, rfl, -, -, -⟩ := hsec.2.len
     have HFD := Lib.hid (fun (W : World) (hb : Below wr.heap.size wr W) => xfind_any (hsec.below hb) n (HSM.out s (List.mem_of_getElem? hx)) hn0 hn1)
     have hdrop : l.drop k = s :: l.drop (k + 1) := by
       rw [List.drop_eq_getElem_cons hlt]
       rw [List.getElem?_eq_getElem hlt] at hx
       rw [Option.some.inj hx]
     have HD := Lib.hid (HQ.out.trans (by rw [hdrop]))
     unfold secA at HFD
     clear hL2 hc hx hdrop HQ
     have HN := Lib.hid (fun h => HD.out.trans (placeV_none (n := n) h))
     have HY := Lib.hid (fun e h => HD.out.trans (placeV_some (n := n) (e := e) h))
     clear HD
     generalize zcf s.gs n = o at *
     have HPA := Lib.hid (zah wr (.cells #[.slice ga s.gs.length gc, .int .i64 s.tr.kind, .int .i64 s.tr.n, .string (mkB s.tr.s), .slice la s.tr.l.length lc] 29))
     have HT1 := Lib.hid (zac (w := wr) (b := wr.heap.size) (.cells #[.slice ga s.gs.length gc, .int .i64 s.tr.kind, .int .i64 s.tr.n, .string (mkB s.tr.s), .slice la s.tr.l.length lc] 29) rfl)
     have HB1 := Lib.hid (HB.out.trans (HPA.out.mono HB.out.size))
     have HF1 := Lib.hid (HFD.out _ HPA.out)
     clear HFD HPA hsec HL2 HB
     generalize s.gs.length = gl at *
     generalize s.tr.kind = xk at *
     generalize s.tr.n = xn at *
     generalize mkB s.tr.s = xb at *
     generalize s.tr.l.length = xl at *
     go_upto_region 4 with fail
     generalize wr.heap.size = T at *
     generalize World.alloc _ _ = W1 at *
     clear c0 c1 c2 c3 c4
     obtain ⟨⟨t0, t1, t2, t3, t4⟩, -⟩ := zcC HT1.out
     go_wp2_with fail
     refine HF1.out.mono ?_
     rintro e w2 ⟨rfl, hb2⟩
     cases o with
     | none =>
       have HE := Lib.hid (HN.out rfl)
       have HB2 := Lib.hid (HB1.out.trans (hb2.mono HB1.out.size))
       have HZ := Lib.hid (zac (w := w2) (b := w2.heap.size) (.cells #[.int .i64 0, .int .i64 0, .bool false] 44) rfl)
       have HB3 := Lib.hid (HB2.out.alloc HB2.out.size (.cells #[.int .i64 0, .int .i64 0, .bool false] 44))
       simp only [findP, entA]
       clear hb2 HB1 HB2 HF1 HT1 t0 t1 t2 t3 t4 HN HY
       go_upto_region 5 with fail
       generalize w2.heap.size = Z at *
       generalize World.alloc _ _ = W3 at *
       obtain ⟨⟨z0, z1, z2⟩, -⟩ := zd6 HZ.out
       go_wp2_with fail
       go_roundw
       case rel => exact ⟨k + 1, by go_num, hlt, HE, HB3⟩
       case measure => simp [intOf]; omega
     | some x =>
       have HE := Lib.hid (HY.out x rfl)
       obtain ⟨xa, xg, xu⟩ := x
       have HB2 := Lib.hid (HB1.out.trans (hb2.mono HB1.out.size))
       have HZ := Lib.hid (zac (w := w2) (b := w2.heap.size) (.cells #[.int .i64 xa, .int .i64 xg, .bool xu] 44) rfl)
       have HB3 := Lib.hid (HB2.out.alloc HB2.out.size (.cells #[.int .i64 xa, .int .i64 xg, .bool xu] 44))
       simp only [findP, entA] at HE ⊢
       clear hb2 HB1 HB2 HF1 HT1 t0 t1 t2 t3 t4 HN HY
       go_upto_region 5 with fail
       generalize w2.heap.size = Z at *
       generalize World.alloc _ _ = W3 at *
       obtain ⟨⟨z0, z1, z2⟩, -⟩ := zd6 HZ.out
       cases xu
       · have HE2 := Lib.hid (HE.out.trans (if_neg (by simp)))
         go_wp2_with fail
         go_ret
         exact ⟨by rw [HE2.out]; rfl, HB3.out⟩
       · by_cases hg : xg = 0
         · subst hg
           have HE2 := Lib.hid (HE.out.trans (if_pos ⟨rfl, rfl⟩))
           go_wp2_with fail
           go_ret
           exact ⟨by rw [HE2.out]; rfl, HB3.out⟩
         · have e0 : (xg == 0) = false := by rw [beq_eq_false_iff_ne]; exact hg
           have HE2 := Lib.hid (HE.out.trans (if_neg (fun h => hg h.2)))
           clear hg
           go_wp2_with fail
           go_ret
           exact ⟨by rw [HE2.out]; rfl, HB3.out⟩
   · have hcd : decide ((k : Int) < (l.length : Int)) = false := decide_eq_false (by omega)
     have hcd2 : decide (k < l.length) = false := decide_eq_false hlt
     have HE := Lib.hid (show R = -1 by rw [HQ.out, List.drop_eq_nil_of_le (by omega)]; rfl)
     go_wp2_with fail
     go_ret
     exact ⟨by rw [HE.out]; rfl, HB.out⟩
theorem EIntT : zdw Tryz.prog 72 3 (.int .i64 0) 1 8 := ⟨Tryz.underlying72, by kernel_rfl, rfl, by omega⟩
theorem zb5 : (Tryz.prog.info? 74).map (·.size) = some 2 := by kernel_rfl
def OfEnd (w : World) (V : Tab × Int) (e : Ending) (w' : World) : Prop :=
 ∃ pa pc, e = .returned (.tuple #[.agg #[.slice pa V.1.ps.length pc, .int .i64 V.1.root], .int .i64 V.2]) ∧ Row w' 1 pa V.1.ps.length pc (V.1.ps.map (Value.int .i64)) ∧ (∀ x, pa = some x → w.heap.size ≤ x.block) ∧ Below w.heap.size w w'
structure OfM (w W0 W : World) (r S Tb : Nat) (sz : Array Value) (root : Int) (ps : List Int) (v : Value) : Prop where
 res : W.heap[r]? = some (.cells #[.slice none 0 0, .int .i64 0] 74 (0, 0))
 siz : W.heap[S]? = some (.cells sz 27 (0, 0))
 tab : W.heap[Tb]? = some (.cells #[v, .int .i64 root] 74 (0, 0))
 own : W.ownsRow W0.heap.size 3 1 v ps.length (ps.map (Value.int .i64))
 bel : Below w.heap.size w W
 lt : w.heap.size ≤ r ∧ r < W0.heap.size ∧ S < W0.heap.size ∧ Tb < W0.heap.size ∧ r ≠ Tb ∧ S ≠ Tb ∧ w.heap.size ≤ Tb ∧ W0.heap.size ≤ W.heap.size
theorem OfM.on {w W0 W W' : World} {r S Tb : Nat} {sz : Array Value} {root : Int} {ps : List Int} {v : Value} (h : OfM w W0 W r S Tb sz root ps v) (hb : Below W.heap.size W W') : OfM w W0 W' r S Tb sz root ps v :=
 ⟨zab hb h.res, zab hb h.siz, zab hb h.tab, zaG h.own fun b hb2 => hb.block b (h.own.lt b hb2).2, h.bel.trans (hb.mono h.bel.size), by have := h.lt; have := hb.size; omega⟩
theorem OfM.far {w W0 W W8 : World} {o : Obj} {r S Tb : Nat} {sz : Array Value} {root : Int} {ps : List Int} {v : Value} (h : OfM w W0 W r S Tb sz root ps v) (hg : (W.alloc o).grownBy W8 v.ownBlock) {b : Nat} (hb : b < W0.heap.size) : W8.heap[b]? = W.heap[b]? := by
 have hl := h.lt
 rw [hg.block b (by rw [zam]; omega) (fun e => by have := (h.own.lt b e.symm).1; omega)]
 exact zb1 W o (by omega)
theorem OfM.app {w W0 W W8 : World} {o : Obj} {r S Tb : Nat} {sz : Array Value} {root : Int} {ps : List Int} {v v' : Value} (h : OfM w W0 W r S Tb sz root ps v) (hg : (W.alloc o).grownBy W8 v.ownBlock) {x : Int}
   (hO : W8.ownsRow W0.heap.size 3 1 v' (ps.length + 1) (ps.map (Value.int .i64) ++ [.int .i64 x])) : OfM w W0 (W8.setCell ⟨Tb, 0, none⟩ v') r S Tb sz root (ps ++ [x]) v' := by
 have hl := h.lt
 have hT : W8.heap[Tb]? = some (.cells #[v, .int .i64 root] 74 (0, 0)) := (h.far hg hl.2.2.2.1).trans h.tab
 refine ⟨by rw [heap_setCell_other _ _ _ _ (show r ≠ Tb from hl.2.2.2.2.1)]; exact (h.far hg hl.2.1).trans h.res, by rw [heap_setCell_other _ _ _ _ (show S ≠ Tb from hl.2.2.2.2.2.1)]; exact (h.far hg hl.2.2.1).trans h.siz, by rw [heap_setCell_same _ Tb 0 _ _ _ hT]; rfl, ?_, ?_, ?_⟩
 · rw [List.length_append, List.map_append]
   exact zaG hO fun b hb => heap_setCell_other _ _ _ _ (show b ≠ Tb by have := (hO.lt b hb).1; omega)
 · exact ((h.bel.alloc h.bel.size o).grown hg (by rw [zam]; have := h.bel.size; omega) (fun b hb => by have := (h.own.lt b hb).1; omega)).setCell (p := ⟨Tb, 0, none⟩) hl.2.2.2.2.2.2.1 _
 · have := hg.size
   rw [zam] at this
   have h2 : (W8.setCell ⟨Tb, 0, none⟩ v').heap.size = W8.heap.size := by simp [World.setCell]
   omega
theorem tabV_nil : tabV [] = ({}, 20) := rfl
theorem tabV_size {s : Sec} {l : List Sec} (h : (getP (getV s.tr zc7)).1.kind ≠ 2 ∨ (getP (getV s.tr zc7)).1.n < 1 ∨ 4097 < (getP (getV s.tr zc7)).1.n) : tabV (s :: l) = ({}, 20) := by unfold tabV; simp only; rw [if_pos h]
theorem tabV_root {s : Sec} {l : List Sec} (h : ¬ ((getP (getV s.tr zc7)).1.kind ≠ 2 ∨ (getP (getV s.tr zc7)).1.n < 1 ∨ 4097 < (getP (getV s.tr zc7)).1.n)) (h2 : (getP (getV s.tr kRoot)).1.kind ≠ 8) : tabV (s :: l) = ({}, 23) := by unfold tabV; simp only; rw [if_neg h, if_pos h2]
theorem tabV_ok {s : Sec} {l : List Sec} (h : ¬ ((getP (getV s.tr zc7)).1.kind ≠ 2 ∨ (getP (getV s.tr zc7)).1.n < 1 ∨ 4097 < (getP (getV s.tr zc7)).1.n)) (h2 : ¬ (getP (getV s.tr kRoot)).1.kind ≠ 8) :
   tabV (s :: l) = (⟨(List.range ((getP (getV s.tr zc7)).1.n.toNat - 1)).map fun (i : Nat) => zbR (s :: l) ((i : Int) + 1), (getP (getV s.tr kRoot)).1.n⟩, 0) := by unfold tabV; simp only; rw [if_neg h, if_neg h2]
def evenL (l : List Sec) : Prop := ∀ s ∈ l, s.tr.kind = 7 → s.tr.l.length % 2 = 0
theorem of_no {w W : World} {V : Tab × Int} {e : Int} (hV : V = ({}, e)) (hb : Below w.heap.size w W) {r : Nat} (hr : w.heap.size ≤ r) (y0 y1 : Value) :
   OfEnd w V (.returned (.tuple #[.agg #[.slice none 0 0, .int .i64 0], .int .i64 e])) ((W.setCell ⟨r, 0, none⟩ y0).setCell ⟨r, 1, none⟩ y1) := by
 subst hV
 exact ⟨none, 0, rfl, Row.nil _ 1, fun x hx => (by cases hx), (hb.setCell (p := ⟨r, 0, none⟩) hr _).setCell (p := ⟨r, 1, none⟩) hr _⟩
theorem of_any {w : World} {F : Nat → Prop} {l : List Sec} {v : Value} (h : IsL w F l v) (hs : smallL l) (hev : evenL l) : Calls Tryz.prog 29 #[v] w (OfEnd w (tabV l)) := by
 obtain ⟨a, cap, rfl, g1, g2, g3⟩ := h.len
 have hl63 : (l.length : Int) ≤ 9223372036854775807 := by unfold maxLen at g2; omega
 have HL := Lib.hid h
 obtain ⟨V, hV⟩ : ∃ V, V = tabV l := ⟨_, rfl⟩
 have HV := Lib.hid hV
 have HSM := Lib.hid hs
 have HEV := Lib.hid hev
 rw [← hV]
 clear h hV g2 g3 hs hev
 obtain ⟨r, hr⟩ : ∃ r, r = w.heap.size := ⟨_, rfl⟩
 have HZ1 := Lib.hid (zac (w := w) (b := r) (.cells #[.slice none 0 0, .int .i64 0] 74) hr)
 have HB1 := Lib.hid (zah w (.cells #[.slice none 0 0, .int .i64 0] 74))
 have HRW := Lib.hid (Nat.le_of_eq hr.symm)
 go_enter Tryz.func29, Tryz.ntmps29
 go_upto_region 1 with fail
 try rw [← hr]
 clear hr
 generalize w.alloc _ = W1 at *
 cases l with
 | nil =>
   have HE := Lib.hid (HV.out.trans tabV_nil)
   obtain ⟨⟨z0, z1⟩, y0, y1⟩ := zaI HZ1.out
   go_wp2_with fail
   refine bodyPost_ret (zaa rfl _ _ r 74 _ (0, 0) _ rfl (by exact zcA HZ1.out _ _) Tryz.underlying74 rfl (by exact zb5) _ rfl) rfl ?_
   exact of_no HE.out HB1.out HRW.out _ _
 | cons s0 l0 =>
   have HL1 := Lib.hid (HL.out.below HB1.out)
   have hL1 := HL1.out
   obtain ⟨-, -, -, b, off, rfl, -, -, hc⟩ := hL1.at (by simp)
   obtain ⟨gv, sl, hsec, c0, c1, c2, c3, c4⟩ := hc 0 s0 rfl
   obtain ⟨la, lc, rfl, -, -, -⟩ := hsec.2.len
   have hlen : (s0 :: l0).length = l0.length + 1 := rfl
   have HG := Lib.hid (fun (W : World) (hb : Below W1.heap.size W1 W) (key : List UInt8) => vget_any (IsV.below hsec.2 hb) (HEV.out s0 (List.mem_cons_self ..)) key)
   have HPL := Lib.hid (fun (W : World) (hb : Below w.heap.size w W) (n : Int) (h0 : -2000000000000000000 ≤ n) (h1 : n ≤ 2000000000000000000) => xplace_any (HL.out.below hb) HSM.out n h0 h1)
   have HV1 := Lib.hid (fun h => HV.out.trans (tabV_size h))
   have HV2 := Lib.hid (fun h h2 => HV.out.trans (tabV_root h h2))
   have HV3 := Lib.hid (fun h h2 => HV.out.trans (tabV_ok h h2))
   have HGS := Lib.hid (HG.out W1 (Below.refl _ _) zc7)
   have HGR := Lib.hid (fun (W : World) (hb : Below W1.heap.size W1 W) => HG.out W hb kRoot)
   obtain ⟨PV1, hP1⟩ : ∃ P, P = fun n => zbR (s0 :: l0) n := ⟨_, rfl⟩
   have HPP := Lib.hid (show ∀ n, zbR (s0 :: l0) n = PV1 n from fun n => by rw [hP1])
   simp only [HPP.out] at HPL HV3
   clear hP1
   generalize getP (getV s0.tr zc7) = Z at *
   generalize getP (getV s0.tr kRoot) = Q at *
   obtain ⟨zv, zb⟩ := Z
   obtain ⟨qv, qb⟩ := Q
   simp only at HV1 HV2 HV3
   unfold pvA at HGS HGR
   have hN0 : (((s0 :: l0).length : Int) == 0) = false := by rw [beq_eq_false_iff_ne]; simp only [List.length_cons]; omega
   have hN1 : ((s0 :: l0).length == 0) = false := by rw [beq_eq_false_iff_ne]; simp
   have hNp : 0 < (s0 :: l0).length := by simp
   simp only [Nat.zero_mul, Nat.add_zero] at c0 c1 c2 c3 c4
   clear HL HL1 hL1 hc hsec HG HV HPP hlen HEV HSM c0
   generalize (s0 :: l0).length = N at *
   generalize s0.tr.kind = xk at *
   generalize s0.tr.n = xn at *
   generalize mkB s0.tr.s = xb at *
   generalize s0.tr.l.length = xl at *
   go_wp2_with fail
   refine HGS.out.mono ?_
   rintro e w2 ⟨zl, rfl, hzv, hb2⟩
   obtain ⟨za, zc, rfl, -, -, -⟩ := hzv.len
   simp only [pvA]
   have hb2a := hb2.alloc hb2.size (.cells #[.int .i64 zv.kind, .int .i64 zv.n, .string (mkB zv.s), .slice za zv.l.length zc] 27)
   have HS2 := Lib.hid (zac (w := w2) (b := w2.heap.size) (.cells #[.int .i64 zv.kind, .int .i64 zv.n, .string (mkB zv.s), .slice za zv.l.length zc] 27) rfl)
   have HZ2 := Lib.hid (zab hb2a HZ1.out)
   have HX2 := Lib.hid hb2a
   have HWS := Lib.hid (show w.heap.size ≤ w2.heap.size ∧ r < w2.heap.size from ⟨Nat.le_trans HB1.out.size hb2.size, Nat.lt_of_lt_of_le (zag HZ1.out) hb2.size⟩)
   have e1 := cell?_keep hb2a c1
   have e2 := cell?_keep hb2a c2
   have e3 := cell?_keep hb2a c3
   have e4 := cell?_keep hb2a c4
   clear hb2 hb2a hzv HGS HZ1 c1 c2 c3 c4
   generalize zv.kind = zk at *
   generalize zv.n = zn at *
   generalize mkB zv.s = zs at *
   generalize zv.l.length = zl2 at *
   go_upto_region 4 with fail
   generalize w2.heap.size = S4 at *
   generalize World.alloc _ _ = W2 at *
   have HG2 := Lib.hid (HGR.out _ HX2.out)
   clear HGR
   go_wp2_with fail
   refine HG2.out.mono ?_
   rintro e w3 ⟨ql, rfl, hqv, hb3⟩
   obtain ⟨qa, qc, rfl, -, -, -⟩ := hqv.len
   simp only [pvA]
   have hb3a := hb3.alloc hb3.size (.cells #[.int .i64 qv.kind, .int .i64 qv.n, .string (mkB qv.s), .slice qa qv.l.length qc] 27)
   have HQ3 := Lib.hid (zac (w := w3) (b := w3.heap.size) (.cells #[.int .i64 qv.kind, .int .i64 qv.n, .string (mkB qv.s), .slice qa qv.l.length qc] 27) rfl)
   have HS3 := Lib.hid (zab hb3a HS2.out)
   have HZ3 := Lib.hid (zab hb3a HZ2.out)
   have HB3 := Lib.hid ((HB1.out.trans (HX2.out.mono HB1.out.size)).trans (hb3a.mono (HB1.out.trans (HX2.out.mono HB1.out.size)).size))
   have HSS := Lib.hid (show S4 < w3.heap.size ∧ r < w3.heap.size from ⟨Nat.lt_of_lt_of_le (zag HS2.out) hb3.size, Nat.lt_of_lt_of_le (zag HZ2.out) hb3.size⟩)
   clear hb3 hb3a hqv HG2 HS2 HZ2 HX2 HB1 e1 e2 e3 e4
   generalize qv.kind = qk at *
   generalize qv.n = qn at *
   generalize mkB qv.s = qs at *
   generalize qv.l.length = ql2 at *
   go_upto_region 5 with fail
   generalize w3.heap.size = R4 at *
   generalize World.alloc _ _ = W3 at *
   obtain ⟨⟨s1, s2, s3, s4⟩, -⟩ := zal HS3.out
   obtain ⟨⟨q1, q2, q3, q4⟩, -⟩ := zal HQ3.out
   obtain ⟨⟨z0, z1⟩, y0, y1⟩ := zaI HZ3.out
   by_cases h1 : zk = 2
   case neg =>
     have HE := Lib.hid (HV1.out (.inl h1))
     have f0 : (zk == 2) = false := by rw [beq_eq_false_iff_ne]; exact h1
     have f1 : (zk != 2) = true := by simp only [bne, f0, Bool.not_false]
     clear h1 HV1 HV2 HV3 HPL
     go_wp2_with fail
     refine bodyPost_ret (zaa rfl _ _ r 74 _ (0, 0) _ rfl (by exact zcA HZ3.out _ _) Tryz.underlying74 rfl (by exact zb5) _ rfl) rfl ?_
     exact of_no HE.out HB3.out HRW.out _ _
   subst h1
   by_cases h2 : zn < 1
   · have HE := Lib.hid (HV1.out (.inr (.inl h2)))
     have f0 : decide (zn < 1) = true := decide_eq_true h2
     clear h2 HV1 HV2 HV3 HPL
     go_wp2_with fail
     refine bodyPost_ret (zaa rfl _ _ r 74 _ (0, 0) _ rfl (by exact zcA HZ3.out _ _) Tryz.underlying74 rfl (by exact zb5) _ rfl) rfl ?_
     exact of_no HE.out HB3.out HRW.out _ _
   have f2 : decide (zn < 1) = false := decide_eq_false h2
   by_cases h3 : 4097 < zn
   · have HE := Lib.hid (HV1.out (.inr (.inr h3)))
     have f0 : decide (4097 < zn) = true := decide_eq_true h3
     clear h3 h2 HV1 HV2 HV3 HPL
     go_wp2_with fail
     refine bodyPost_ret (zaa rfl _ _ r 74 _ (0, 0) _ rfl (by exact zcA HZ3.out _ _) Tryz.underlying74 rfl (by exact zb5) _ rfl) rfl ?_
     exact of_no HE.out HB3.out HRW.out _ _
   have f3 : decide (4097 < zn) = false := decide_eq_false h3
   have hno : ¬ ((2 : Int) ≠ 2 ∨ zn < 1 ∨ 4097 < zn) := by rintro (h | h | h); exact h rfl; exact h2 h; exact h3 h
   by_cases h8 : qk = 8
   case neg =>
     have HE := Lib.hid (HV2.out hno h8)
     have f0 : (qk == 8) = false := by rw [beq_eq_false_iff_ne]; exact h8
     have f1 : (qk != 8) = true := by simp only [bne, f0, Bool.not_false]
     clear h8 h2 h3 hno HV1 HV2 HV3 HPL
     go_wp2_with fail
     refine bodyPost_ret (zaa rfl _ _ r 74 _ (0, 0) _ rfl (by exact zcA HZ3.out _ _) Tryz.underlying74 rfl (by exact zb5) _ rfl) rfl ?_
     exact of_no HE.out HB3.out HRW.out _ _
   subst h8
   have HE := Lib.hid (HV3.out hno (fun h => h rfl))
   obtain ⟨M, hM⟩ : ∃ M : Nat, zn = (M : Int) + 1 := ⟨(zn - 1).toNat, by omega⟩
   subst hM
   have hM7 : M ≤ 4096 := by omega
   rw [show ((M : Int) + 1).toNat - 1 = M by omega] at HE
   have HOM := Lib.hid (show OfM w (W3.alloc (.cells #[.slice none 0 0, .int .i64 qn] 74)) (W3.alloc (.cells #[.slice none 0 0, .int .i64 qn] 74)) r S4 W3.heap.size #[.int .i64 2, .int .i64 ((M : Int) + 1), .string zs, .slice za zl2 zc] qn [] (.slice none 0 0) from
     ⟨zak _ HZ3.out, zak _ HS3.out, zac _ rfl, World.ownsRow_nil _ _ _ _, HB3.out.alloc HB3.out.size _, by
       have := HSS.out; have := HRW.out; have := zag HQ3.out; have := HB3.out.size; rw [zam]; omega⟩)
   clear h2 h3 hno HV1 HV2 HV3 f2 f3
   go_upto_region 10 with fail
   generalize W3.heap.size = Tb at *
   generalize World.alloc _ _ = W4 at *
   clear s1 s2 s3 s4 q1 q2 q3 q4 z0 z1 y0 y1 HS3 HQ3 HZ3 HB3
   go_wp2_with fail
   go_loopw [9] (fun v9 wr => ∃ (k : Nat) (v : Value), v9 = .int .i64 ((k : Int) + 1) ∧ k ≤ M ∧ Hid (OfM w W4 wr r S4 Tb #[.int .i64 2, .int .i64 ((M : Int) + 1), .string zs, .slice za zl2 zc] qn ((List.range k).map fun (i : Nat) => PV1 ((i : Int) + 1)) v)) (fun v _ => M + 1 - (intOf v).toNat)
   case atStart => exact ⟨0, _, rfl, Nat.zero_le _, HOM⟩
   case round =>
     obtain ⟨k, v, rfl, hk, HM⟩ := hrel
     obtain ⟨sa, sc, rfl, -, -⟩ := zau HM.out.own
     simp only [List.length_map, List.length_range] at HM
     obtain ⟨⟨s1, s2, s3, s4⟩, -⟩ := zal HM.out.siz
     obtain ⟨⟨t0, t1⟩, tf0, tf1⟩ := zaI HM.out.tab
     by_cases hlt : k < M
     · have hcd : decide ((k : Int) + 1 < (M : Int) + 1) = true := decide_eq_true (by omega)
       have hcd2 : decide ((k : Int) < (M : Int)) = true := decide_eq_true (by omega)
       have hcd3 : decide (k < M) = true := decide_eq_true hlt
       have HPD := Lib.hid (HPL.out wr.drew (HM.out.bel.trans ((Below.refl _ wr).drew.mono HM.out.bel.size)) ((k : Int) + 1) (by omega) (by omega))
       obtain ⟨iB, hiB, hzB, hsB, hbB⟩ := info_parts EIntT.info
       have HRG := Lib.hid (show ((List.range (k + 1)).map fun (i : Nat) => PV1 ((i : Int) + 1)) = ((List.range k).map fun (i : Nat) => PV1 ((i : Int) + 1)) ++ [PV1 ((k : Int) + 1)] by rw [List.range_succ, List.map_append]; rfl)
       have HPN := Lib.hid (show ((List.range k).map fun (i : Nat) => PV1 ((i : Int) + 1)).length = k by rw [List.length_map, List.length_range])
       generalize PV1 ((k : Int) + 1) = pl at *
       go_wp2_with fail
       have t0d := cell?_keep (Below.refl _ wr).drew t0
       go_region_law
         (first
           | (go_simp; go_at_call 68; refine HPD.out.mono ?_; rintro e w5 ⟨rfl, hb5⟩; have HM5 := Lib.hid (HM.out.on ((Below.refl _ wr).drew.trans hb5)); have HO5 := Lib.hid (show w5.ownsRow W4.heap.size 3 1 (.slice sa k sc) k (((List.range k).map fun (i : Nat) => PV1 ((i : Int) + 1)).map (Value.int .i64)) by have h := HM5.out.own; rwa [HPN.out] at h); obtain ⟨⟨m0, m1⟩, mf0, mf1⟩ := zaI HM5.out.tab; obtain ⟨⟨n0, n1⟩, nf0, nf1⟩ := zaI (zak (.cells #[.int .i64 pl] 3) HM5.out.tab))
           | (refine step_append_lies _ (by rfl) _ _ _ (by rfl) W4.heap.size 3 iB _ 1 8 EIntT.und hiB hzB hsB hbB rfl (by omega) (.slice sa k sc) k _ (by rfl) (HO5.out.alloc _) ⟨w5.heap.size, 0, none⟩ 1 1 [.int .i64 pl] (by rfl) (by rfl) (World.news_of_block (cs := #[.int .i64 pl]) (t := 3) (fr := (0, 0)) (heap_alloc_new w5 _)) (by simp [Value.oneCell']) (by omega) (by unfold maxLen; omega) (by omega) (by rw [zam]; have := HM5.out.lt; omega) (w5.heap.size + 1) (by simp) ?_; intro g cap7 w7 hO7 hgrow hat hlt7; have HT7 := Lib.hid ((HM5.out.far hgrow HM5.out.lt.2.2.2.1).trans HM5.out.tab); have HM8 := Lib.hid (HM5.out.app hgrow (by rw [HPN.out]; exact hO7)); obtain ⟨⟨p0, p1⟩, pf0, pf1⟩ := zaI HT7.out))
       all_goals (try go_wp2_with fail)
       all_goals go_roundw
       all_goals first
         | exact ⟨k + 1, _, by first | rfl | (congr 1), hlt, Lib.hid (by rw [HRG.out]; exact HM8.out)⟩
         | (simp [intOf]; omega)
     · obtain rfl : k = M := by omega
       have hcd : decide ((k : Int) + 1 < (k : Int) + 1) = false := decide_eq_false (by omega)
       have hcd2 : decide ((k : Int) < (k : Int)) = false := decide_eq_false (by omega)
       have hcd3 : decide (k < k) = false := decide_eq_false (by omega)
       obtain ⟨⟨z0, z1⟩, y0, y1⟩ := zaI HM.out.res
       have HLR := Lib.hid HM.out.lt
       have HOW := Lib.hid HM.out.own
       go_wp2_with fail
       refine bodyPost_ret (zaa rfl _ _ r 74 _ (0, 0) _ rfl (by exact zcA HM.out.res _ _) Tryz.underlying74 rfl (by exact zb5) _ rfl) rfl ?_
       rw [HE.out]
       refine ⟨sa, sc, by simp only [List.length_map, List.length_range]; rfl, ?_, fun x hx => by have h1 := (HOW.out.lt x.block (by rw [hx]; rfl)).1; have h2 := HLR.out; omega, (HM.out.bel.setCell (p := ⟨r, 0, none⟩) HLR.out.1 _).setCell (p := ⟨r, 1, none⟩) HLR.out.1 _⟩
       have ho := zaG (w' := (wr.setCell ⟨r, 0, none⟩ (.slice sa k sc)).setCell ⟨r, 1, none⟩ (.int .i64 qn)) HOW.out (fun b hb => by
         have h1 := (HOW.out.lt b hb).1
         have h2 := HLR.out
         rw [heap_setCell_other _ _ _ _ (show b ≠ r by omega), heap_setCell_other _ _ _ _ (show b ≠ r by omega)])
       simp only [List.length_map, List.length_range] at ho ⊢
       exact (Row.of_own ho).2
theorem lastAt_is (w b : List UInt8) : ∀ k, k + w.length ≤ b.length → Lib.lastOcc b w (k + 1) = (match zcL w b k with | none => (-1 : Int) | some k => (k : Int))
 | 0, h => by
   have e := Lib.RK.occAt_win b w 0 (by omega)
   unfold zcL
   by_cases hw : (b.drop 0).take w.length = w
   · rw [if_pos hw, Lib.lastOcc_hit _ _ _ (by rw [e]; exact beq_iff_eq.2 hw)]; all_goals (try rfl)
   · rw [if_neg hw, Lib.lastOcc_miss _ _ _ (by rw [e]; exact beq_eq_false_iff_ne.2 hw)]; all_goals (try rfl)
 | k + 1, h => by
   have e := Lib.RK.occAt_win b w (k + 1) (by omega)
   unfold zcL
   by_cases hw : (b.drop (k + 1)).take w.length = w
   · rw [if_pos hw, Lib.lastOcc_hit _ _ _ (by rw [e]; exact beq_iff_eq.2 hw)]
   · rw [if_neg hw, Lib.lastOcc_miss _ _ _ (by rw [e]; exact beq_eq_false_iff_ne.2 hw)]
     exact lastAt_is w b k (by omega)
theorem lastW_is (w b : List UInt8) : Lib.lastIndex b w = (match zcB w b with | none => (-1 : Int) | some k => (k : Int)) := by
 unfold Lib.lastIndex zcB
 by_cases h : b.length < w.length
 · rw [if_neg (by omega), if_pos h]
 · rw [if_pos (by omega), if_neg h]
   exact lastAt_is w b _ (by omega)
theorem lastW_le {w b : List UInt8} {k : Nat} (h : zcB w b = some k) : k + w.length ≤ b.length := by
 unfold zcB at h
 split at h
 · cases h
 · have : ∀ m, zcL w b m = some k → k ≤ m := by
     intro m
     induction m with
     | zero => intro h; unfold zcL at h; split at h <;> simp at h; omega
     | succ m ih =>
       intro h
       unfold zcL at h
       split at h
       · simp at h; omega
       · have := ih h; omega
   have := this _ h
   omega
end Go.Proofs.YtfafdeemfeaedaaGreat
namespace Go.Proofs.YtfafdeemfeaedaaGreat
open Go.RowKit Go.Lib
theorem szByte (w : World) : (Go.sizeOf 5).run Tryz.prog w = .ok 1 w := by kernel_rfl
theorem slice_from (W : World) (b o len c l n : Nat) (hl : l + n = len) (hn : 1 ≤ n) (hc : len ≤ c) :
   (Instr.slice 22 (.slice (some ⟨b, o, none⟩) len c) (some (.int .i64 (l : Int))) none none).run Tryz.prog W = .ok (.slice (some ⟨b, o + l, none⟩) n (c - l)) W := by
 have ht' : Tryz.prog.underlying 22 = some (.slice (Tryz.prog.elem 22)) := by simp [Program.elem, Tryz.underlying22]
 have he : Tryz.prog.elem 22 = 5 := by simp [Program.elem, Tryz.underlying22]
 rw [run_slice_l W 22 _ _ _ ht' .i64 _ (by omega) (by omega), he, szByte]
 have hne : ¬ c = l := by omega
 subst hl
 by_cases h0 : l = 0
 · subst h0
   simp [Result.andThen, sliced, Addr.add, hne]
 · simp [Result.andThen, sliced, Addr.add, hne, h0]
theorem hashrev_any (b o c : Nat) (sep : ByteArray) (hs : sep.size < 4294967281) (w : World) (hc0 : Lib.Bytes w b o sep) :
   Calls Tryz.prog 135 #[.slice (some ⟨b, o, none⟩) sep.size c] w fun e w' => e = .returned (.tuple #[.int .u32 (RK.H sep.data.toList.reverse % 4294967296), .int .u32 (16777619 ^ sep.size % 4294967296)]) ∧ w' = w := by
 have hc := Lib.hid hc0
 clear hc0
 go_enter Tryz.func135, Tryz.ntmps135
 go_wp2
 go_loop [4, 5] (fun vh vi => ∃ (k : Nat) (z h : Int), k ≤ sep.size ∧ Hid (z + 1 = (k : Int)) ∧ -1 ≤ z ∧ z < 4294967281 ∧ vi = .int .i64 z ∧ vh = .int .u32 h ∧ Hid (h = RK.H (sep.data.toList.drop k).reverse % 4294967296)) (fun _ vi => ((RowKit.intOf vi) + 1).toNat)
 case atStart => exact ⟨sep.size, (sep.size : Int) - 1, 0, Nat.le_refl _, Lib.hid (by omega), by omega, by omega, rfl, rfl, Lib.hid (by show (0 : Int) = _; rw [List.drop_of_length_le (by simp)]; rfl)⟩
 case round =>
   obtain ⟨k, z, h, hk, hz, hz0, hz1, rfl, rfl, hh⟩ := hrel
   by_cases hp : 0 ≤ z
   · obtain ⟨j, rfl⟩ : ∃ j : Nat, z = (j : Int) := ⟨z.toNat, by omega⟩
     have hzo := hz.out
     obtain rfl : k = j + 1 := by omega
     have hj : j < sep.size := by omega
     have ck := hc.out j hj
     have HS := Lib.hid (LastIndex.hashrev_step sep (j + 1) (by omega) hk hh.out)
     clear hzo hz hh
     go_wp2
     go_round
     case rel => exact ⟨j, (j : Int) - 1, _, by omega, Lib.hid (by omega), by omega, by omega, rfl, rfl, HS⟩
     case measure => simp [RowKit.intOf] <;> omega
   · have hzo := hz.out
     obtain rfl : z = -1 := by omega
     obtain rfl : k = 0 := by omega
     clear hzo hz
     go_wp2
     go_loop [6, 7, 8] (fun vp vq vi => ∃ (i : Nat) (pw sq : Int), vi = .int .i64 i ∧ vp = .int .u32 pw ∧ vq = .int .u32 sq ∧ 0 ≤ pw ∧ pw < 4294967296 ∧ i ≤ sep.size ∧ Hid (RK.PowInv sep.size i pw sq)) (fun _ _ vi => (RowKit.intOf vi).toNat)
     case atStart => exact ⟨sep.size, 1, 16777619, rfl, rfl, rfl, by omega, by omega, Nat.le_refl _, RK.pow_start _⟩
     case round =>
       obtain ⟨i, pw, sq, rfl, rfl, rfl, p0, p1, hi, hinv⟩ := hrel
       have ea := and_one i (by omega)
       go_wp2
       · have ht : ((i : Int) % 2 != 0) = true := by assumption
         have ho : i % 2 = 1 := by simp at ht; omega
         go_round
         case rel => exact ⟨i / 2, _, _, by first | go_num | (congr 1; omega), rfl, rfl, by omega, by omega, by omega, RK.pow_odd hinv.out ho⟩
         case measure => simp [RowKit.intOf]; omega
       · have ht : ((i : Int) % 2 != 0) = false := by assumption
         have he : i % 2 = 0 := by simp at ht; omega
         go_round
         case rel => exact ⟨i / 2, _, _, by first | go_num | (congr 1; omega), rfl, rfl, p0, p1, by omega, RK.pow_even hinv.out he⟩
         case measure => simp [RowKit.intOf]; omega
       · have hi0 : i = 0 := by omega
         subst hi0
         have e1 : h = RK.H sep.data.toList.reverse % 4294967296 := by
           have := hh.out
           rwa [List.drop_zero] at this
         have e2 := RK.pow_end hinv.out p0 p1
         go_ret2
         rw [← e1, ← e2]
         exact ⟨rfl, rfl⟩
def occB (s sep : ByteArray) (j : Nat) : Bool := occAt s.data.toList sep.data.toList j
theorem occB_is (s sep : ByteArray) (j : Nat) (hj : j + sep.size ≤ s.size) : ((s.extract j (j + sep.size)).toList == sep.toList) = occB s sep j := by
 cases h : ((s.extract j (j + sep.size)).toList == sep.toList) with
 | true => exact (occ_yes s sep j hj h).symm
 | false => exact (occ_no s sep j hj h).symm
set_option maxRecDepth 100000 in
set_option maxHeartbeats 16000000 in
theorem lastrk_any (b1 o1 c1 b2 o2 c2 : Nat) (s sep : ByteArray) (h1 : 1 ≤ sep.size) (h2 : sep.size ≤ s.size) (hs : s.size < 4294967281) (w : World) (hc1 : Lib.Bytes w b1 o1 s) (hc2 : Lib.Bytes w b2 o2 sep) (hcap : s.size ≤ c1) :
   Calls Tryz.prog 94 #[.slice (some ⟨b1, o1, none⟩) s.size c1, .slice (some ⟨b2, o2, none⟩) sep.size c2] w fun e w' => e = .returned (.int .i64 (Lib.lastIndex s.data.toList sep.data.toList)) ∧ ∃ q, w' = w.drewN q := by
 obtain ⟨hh, Hh⟩ : ∃ hh : Int, hh = RK.H sep.data.toList.reverse % 4294967296 := ⟨_, rfl⟩
 obtain ⟨pw, Hp⟩ : ∃ pw : Int, pw = 16777619 ^ sep.size % 4294967296 := ⟨_, rfl⟩
 have hc := Lib.hid (show Calls Tryz.prog 135 #[.slice (some ⟨b2, o2, none⟩) sep.size c2] w fun e w' => e = .returned (.tuple #[.int .u32 hh, .int .u32 pw]) ∧ w' = w by rw [Hh, Hp]; exact hashrev_any b2 o2 c2 sep (by omega) w hc2)
 have HH := Lib.hid Hh
 have HP := Lib.hid Hp
 clear Hh Hp
 obtain ⟨last, hlast⟩ : ∃ last : Nat, last + sep.size = s.size := ⟨s.size - sep.size, by omega⟩
 have elast : (s.size : Int) - sep.size = last := by omega
 have HL := Lib.hid (show Lib.lastIndex s.data.toList sep.data.toList = Lib.lastOcc s.data.toList sep.data.toList (last + 1) by
   unfold Lib.lastIndex
   rw [if_pos (by simp; omega)]
   congr 1
   simp; omega)
 have hvs := Lib.hid (fun n => Lib.run_convert_whole (P := Tryz.prog) (w.drewN n) 22 5 9 Tryz.underlying22 Tryz.underlying5 Tryz.underlying9 b2 o2 sep (Lib.Bytes.drewN hc2 n) c2)
 have hvw := Lib.hid (fun n j cap (hj : j + sep.size ≤ s.size) => Lib.run_convert_window (P := Tryz.prog) (w.drewN n) 22 5 9 Tryz.underlying22 Tryz.underlying5 Tryz.underlying9 b1 o1 s (Lib.Bytes.drewN hc1 n) j sep.size cap hj)
 have C1 := Lib.hid hc1
 clear hc1 hc2
 go_enter Tryz.func94, Tryz.ntmps94
 go_wp2_with fail
 refine hc.out.mono ?_
 rintro e w' ⟨rfl, hw'⟩
 have hw2 := hw'.symm
 subst hw2
 clear hw'
 go_wp2_with fail
 go_loopg [9, 10] (s.size + 1) (fun gh vh vi wr => ∃ (k : Nat) (z h : Int), last ≤ k ∧ k ≤ s.size ∧ Hid (z + 1 = (k : Int)) ∧ Hid (k + 1 ≤ gh) ∧ -1 ≤ z ∧ z < 4294967281 ∧ vi = .int .i64 z ∧ vh = .int .u32 h ∧ wr = w ∧ Hid (h = RK.H (s.data.toList.drop k).reverse % 4294967296))
 case atStart => exact ⟨s.size, (s.size : Int) - 1, 0, by omega, Nat.le_refl _, Lib.hid (by omega), Lib.hid (Nat.le_refl _), by omega, by omega, rfl, rfl, rfl, Lib.hid (by show (0 : Int) = _; rw [List.drop_of_length_le (by simp)]; rfl)⟩
 case round =>
   obtain ⟨k, z, h, hk1, hk, hz, hgh, hz0, hz1, rfl, rfl, hwr, hk2⟩ := hrel
   have hw2 := hwr.symm
   subst hw2
   clear hwr
   by_cases hp : (last : Int) ≤ z
   · obtain ⟨j, rfl⟩ : ∃ j : Nat, z = (j : Int) := ⟨z.toNat, by omega⟩
     have hzo := hz.out
     obtain rfl : k = j + 1 := by omega
     have hj : j < s.size := by omega
     have hjl : last ≤ j := by omega
     have ck := C1.out j hj
     have HS := Lib.hid (LastIndex.hashrev_step s (j + 1) (by omega) hk hk2.out)
     clear hzo hz hk2
     go_wp2
     go_roundg (j + 1)
     case measure => have := hgh.out; omega
     case rel => exact ⟨j, (j : Int) - 1, _, hjl, by omega, Lib.hid (by omega), Lib.hid (Nat.le_refl _), by omega, by omega, rfl, rfl, rfl, HS⟩
   · have hzo := hz.out
     obtain rfl : k = last := by omega
     obtain rfl : z = (k : Int) - 1 := by omega
     have HW := Lib.hid (show h = RK.H (RK.win s.data.toList k sep.size).reverse % 4294967296 by
       have := hk2.out
       rwa [show s.data.toList.drop k = RK.win s.data.toList k sep.size from (List.take_of_length_le (by simp; omega)).symm] at this)
     have hv0 := fun n cap => hvw.out n k cap (by omega)
     have hvs2 := hvs.out
     have hsl := fun W => slice_from W b1 o1 s.size c1 k sep.size hlast h1 hcap
     clear hzo hz hk2 hgh
     go_upto_region 9 with fail
     go_cut [50] from 12 (fun v wx => ∃ (q : Nat) (B : Bool), v = .bool B ∧ wx = w.drewN q ∧ Hid (B = occB s sep k))
     case first =>
       by_cases ehh : h = hh
       · subst ehh
         go_wp2_with fail
         go_quiet (fail)
         go_wp2
         go_meet
         exact ⟨_, _, rfl, rfl, Lib.hid (by have := occB_is s sep k (by omega); rwa [hlast] at this)⟩
       · have hb : (h == hh) = false := beq_eq_false_iff_ne.2 ehh
         have HO := Lib.hid (LastIndex.occ_no_hashrev s sep k (by omega) HW.out HH.out ehh)
         clear ehh
         go_wp2_with fail
         go_quiet (fail)
         go_wp2
         go_meet
         exact ⟨_, _, rfl, rfl, Lib.hid HO.out.symm⟩
     case rest =>
       obtain ⟨q0, B, rfl, rfl, HB⟩ := hcut
       clear hv0 hvs2 hsl
       cases B
       case true =>
         have HE := Lib.hid (show Lib.lastIndex s.data.toList sep.data.toList = (k : Int) by rw [HL.out, Lib.lastOcc_hit _ _ k HB.out.symm])
         go_wp2_with fail
         go_ret
         rw [HE.out]
         exact ⟨rfl, _, rfl⟩
       have HL2 := Lib.hid (show Lib.lastIndex s.data.toList sep.data.toList = Lib.lastOcc s.data.toList sep.data.toList k by rw [HL.out, Lib.lastOcc_miss _ _ k HB.out.symm])
       clear HL HB
       go_wp2_with fail
       go_loopg [9, 11] (k + 1) (fun gh vh vi wr => ∃ (j : Nat) (z g : Int) (q : Nat), j ≤ k ∧ Hid (z + 1 = (j : Int)) ∧ Hid (j + 1 ≤ gh) ∧ -1 ≤ z ∧ z < 4294967281 ∧ vi = .int .i64 z ∧ vh = .int .u32 g ∧ wr = w.drewN q ∧ Hid (g = RK.H (RK.win s.data.toList j sep.size).reverse % 4294967296) ∧ Hid (Lib.lastIndex s.data.toList sep.data.toList = Lib.lastOcc s.data.toList sep.data.toList j))
       case atStart => exact ⟨k, (k : Int) - 1, h, q0, Nat.le_refl _, Lib.hid (by omega), Lib.hid (Nat.le_refl _), by omega, by omega, rfl, rfl, rfl, HW, HL2⟩
       case round =>
         obtain ⟨j, z, g, q, hj, hz, hgh, hz2, hz3, rfl, rfl, rfl, hg, hl⟩ := hrel
         by_cases hp2 : 0 ≤ z
         · obtain ⟨i, rfl⟩ : ∃ i : Nat, z = (i : Int) := ⟨z.toNat, by omega⟩
           have hzo := hz.out
           obtain rfl : j = i + 1 := by omega
           have ck1 := C1.out i (by omega)
           have ck2 := C1.out (i + sep.size) (by omega)
           have HR := Lib.hid (LastIndex.rollrev_step s sep.size i h1 (by omega) hg.out HP.out)
           have hv0 := fun n cap => hvw.out n i cap (by omega)
           have hvs2 := hvs.out
           have hin : (i : Int) + (sep.size : Int) = ((i + sep.size : Nat) : Int) := by omega
           have hsl : ∀ W, (Instr.slice 22 (.slice (some ⟨b1, o1, none⟩) s.size c1) (some (.int .i64 (i : Int))) (some (.int .i64 ((i : Int) + (sep.size : Int)))) none).run Tryz.prog W = .ok (.slice (some ⟨b1, o1 + i, none⟩) sep.size (c1 - i)) W := fun W => by
             rw [hin, Lib.run_slice_window W 22 5 Tryz.underlying22 szByte b1 o1 s.size c1 i (i + sep.size) (by omega) (by omega), show i + sep.size - i = sep.size by omega]
           have hk3 : i + 1 + sep.size ≤ s.size := by omega
           clear hzo hz hg hin
           go_upto_region 17 with fail
           obtain ⟨G2, hG2⟩ : ∃ G2 : Int, G2 = ((g * 16777619 + (s[i].toNat : Int)) % 4294967296 - pw * ((s[i + sep.size].toNat : Int) % 4294967296) % 4294967296) % 4294967296 := ⟨_, rfl⟩
           rw [← hG2]
           have HG2 := Lib.hid (show G2 = RK.H (RK.win s.data.toList i sep.size).reverse % 4294967296 by rw [hG2]; have := HR.out; omega)
           clear hG2 HR ck1 ck2
           go_cut [92] from 54 to 93 (fun v wx => ∃ (q2 : Nat) (B : Bool), v = .bool B ∧ wx = w.drewN q2 ∧ Hid (B = occB s sep i))
           case first =>
             by_cases ehh : G2 = hh
             · subst ehh
               go_wp2_with fail
               go_quiet (fail)
               go_wp2
               go_meet
               exact ⟨_, _, rfl, by rw [World.drewN_drewN], Lib.hid (occB_is s sep i (by omega))⟩
             · have hb : (G2 == hh) = false := beq_eq_false_iff_ne.2 ehh
               have HO := Lib.hid (LastIndex.occ_no_hashrev s sep i (by omega) HG2.out HH.out ehh)
               clear ehh
               go_wp2_with fail
               go_quiet (fail)
               go_wp2
               go_meet
               exact ⟨_, _, rfl, by rw [World.drewN_drewN], Lib.hid HO.out.symm⟩
           case rest =>
             obtain ⟨q2, B, rfl, rfl, HB⟩ := hcut
             clear hv0 hvs2 hsl
             cases B
             case true =>
               have HE := Lib.hid (show Lib.lastIndex s.data.toList sep.data.toList = (i : Int) by rw [hl.out, Lib.lastOcc_hit _ _ i HB.out.symm])
               go_wp2_with fail
               go_ret
               rw [HE.out]
               exact ⟨rfl, _, rfl⟩
             have HL3 := Lib.hid (show Lib.lastIndex s.data.toList sep.data.toList = Lib.lastOcc s.data.toList sep.data.toList i by rw [hl.out, Lib.lastOcc_miss _ _ i HB.out.symm])
             clear hl HB
             go_wp2_with fail
             go_roundg (i + 1)
             case measure => have := hgh.out; omega
             case rel => exact ⟨i, (i : Int) - 1, G2, q2, by omega, Lib.hid (by omega), Lib.hid (Nat.le_refl _), by omega, by omega, rfl, rfl, rfl, HG2, HL3⟩
         · have hzo := hz.out
           obtain rfl : j = 0 := by omega
           obtain rfl : z = -1 := by omega
           have HE := Lib.hid (show Lib.lastIndex s.data.toList sep.data.toList = -1 from hl.out)
           clear hzo hz
           go_wp2_with fail
           go_ret
           rw [HE.out]
           exact ⟨rfl, _, rfl⟩
end Go.Proofs.YtfafdeemfeaedaaGreat
namespace Go.Proofs.YtfafdeemfeaedaaGreat
open Go.RowKit
theorem zeZ {w : World} {b o cap : Nat} {bs : List UInt8} (h : Row w 1 (some ⟨b, o, none⟩) bs.length cap (bs.map u8C)) : Lib.Bytes w b o (mkB bs) := by
 intro i hi
 have hl : i < bs.length := by rw [zbt] at hi; exact hi
 obtain ⟨b', o', e, -, hc⟩ := h.2.2.2.2 (by omega)
 cases e
 exact hc i _ (by rw [List.getElem?_map, List.getElem?_eq_getElem hl]; rfl)
theorem lastW_gt {w b : List UInt8} (h : b.length < w.length) : zcB w b = none := by unfold zcB; rw [if_pos h]
theorem lastW_eq {w b : List UInt8} (h : w.length = b.length) : zcB w b = if b = w then some 0 else none := by
 unfold zcB
 rw [if_neg (by omega), h, Nat.sub_self]
 unfold zcL
 rw [List.drop_zero, h, List.take_of_length_le (Nat.le_refl _)]
theorem bequal_any {w : World} {a a2 : Option Addr} {cap c2 : Nat} {bs sep : List UInt8} (hr : Row w 1 a bs.length cap (bs.map u8C)) (hs : Row w 1 a2 sep.length c2 (sep.map u8C)) :
   Calls Tryz.prog 93 #[.slice a bs.length cap, .slice a2 sep.length c2] w fun e w' => e = .returned (.bool (decide (bs = sep))) ∧ w = w' := by
 have h1 := zd4 hr
 have h2 := zd4 hs
 have hq : ((mkB bs).toList == (mkB sep).toList) = decide (bs = sep) := by rw [za1 sep]; exact zdC bs sep
 clear hr hs
 generalize mkB bs = x at *
 generalize mkB sep = y at *
 generalize decide (bs = sep) = d at *
 go_enter Tryz.func93, Tryz.ntmps93
 go_wp2
 go_ret
 exact ⟨rfl, rfl⟩
theorem zfD {w : World} {a a2 : Option Addr} {cap c2 : Nat} {bs sep : List UInt8} (hr : Row w 1 a bs.length cap (bs.map u8C)) (hs : Row w 1 a2 sep.length c2 (sep.map u8C)) (hl : bs.length < 4000000000) (hn : 2 ≤ sep.length) (hn2 : sep.length ≤ 1000) :
   Calls Tryz.prog 56 #[.slice a bs.length cap, .slice a2 sep.length c2] w fun e w' => e = .returned (.int .i64 (zdX (zcB sep bs))) ∧ Below w.heap.size w w' := by
 have n0 : ((sep.length : Int) == 0) = false := by rw [beq_eq_false_iff_ne]; omega
 have n1 : ((sep.length : Int) == 1) = false := by rw [beq_eq_false_iff_ne]; omega
 obtain ⟨V, hV⟩ : ∃ V, V = zcB sep bs := ⟨_, rfl⟩
 rw [← hV]
 by_cases h1 : sep.length = bs.length
 · have HE := Lib.hid (bequal_any hr hs)
   have q1 : ((sep.length : Int) == (bs.length : Int)) = true := by rw [beq_iff_eq]; omega
   have q2 : (sep.length == bs.length) = true := by rw [beq_iff_eq]; exact h1
   rw [lastW_eq h1] at hV
   obtain ⟨d, hd⟩ : ∃ d, d = decide (bs = sep) := ⟨_, rfl⟩
   rw [← hd] at HE
   have HV := Lib.hid (show V = if d = true then some 0 else none by rw [hV, hd]; by_cases h : bs = sep <;> simp [h])
   clear hV hd hr hs h1
   generalize bs.length = N at *
   generalize sep.length = M at *
   cases d
   all_goals
     go_enter Tryz.func56, Tryz.ntmps56
     go_wp2_with (go_at_call 93; refine HE.out.mono ?_; rintro e w' ⟨rfl, rfl⟩)
     go_ret
     exact ⟨by rw [HV.out]; rfl, Below.refl _ _⟩
 have q1 : ((sep.length : Int) == (bs.length : Int)) = false := by rw [beq_eq_false_iff_ne]; omega
 have q2 : (sep.length == bs.length) = false := by rw [beq_eq_false_iff_ne]; exact h1
 by_cases h2 : bs.length < sep.length
 · have d1 : decide ((bs.length : Int) < (sep.length : Int)) = true := decide_eq_true (by omega)
   have d2 : decide (bs.length < sep.length) = true := decide_eq_true h2
   rw [lastW_gt h2] at hV
   have HV := Lib.hid hV
   clear hV hr hs h1 h2
   generalize bs.length = N at *
   generalize sep.length = M at *
   go_enter Tryz.func56, Tryz.ntmps56
   go_wp2
   go_ret
   exact ⟨by rw [HV.out]; rfl, Below.refl _ _⟩
 have d1 : decide ((bs.length : Int) < (sep.length : Int)) = false := decide_eq_false (by omega)
 have d2 : decide (bs.length < sep.length) = false := decide_eq_false h2
 obtain ⟨b, o, rfl, -, -⟩ := hr.at 0 0 (by omega)
 obtain ⟨b2, o2, rfl, -, -⟩ := hs.at 0 0 (by omega)
 have HK := Lib.hid (lastrk_any b o cap b2 o2 c2 (mkB bs) (mkB sep) (by rw [zbt]; omega) (by rw [zbt, zbt]; omega) (by rw [zbt]; omega) w (zeZ hr) (zeZ hs) (by rw [zbt]; exact hr.2.1))
 have hlk : Lib.lastIndex bs sep = zdX (zcB sep bs) := by rw [lastW_is]; cases zcB sep bs <;> rfl
 rw [zbt, zbt, show (mkB bs).data.toList = bs from rfl, show (mkB sep).data.toList = sep from rfl, hlk, ← hV] at HK
 clear hlk
 clear hV hr hs h1 h2
 generalize bs.length = N at *
 generalize sep.length = M at *
 go_enter Tryz.func56, Tryz.ntmps56
 go_wp2_with (go_at_call 94; refine HK.out.mono ?_; rintro e w' ⟨rfl, q, rfl⟩)
 go_ret
 exact ⟨rfl, zae (Below.refl _ _) q⟩
def startN (L : Nat) (S : Tk × Int × Int × Int) : Int × Int × Int := if S.2.2.2 ≠ 0 ∨ S.1.vn < 0 ∨ (L : Int) ≤ S.1.vn then (0, 0, 22) else (S.1.vn, 0, 0)
theorem start_one (L : Nat) (V : Tk × Int × Int × Int) : (if V.2.2.2 ≠ 0 ∨ zay V.1 = false ∨ V.1.vn < 0 ∨ (L : Int) ≤ V.1.vn then ((0 : Int), (0 : Int), (22 : Int)) else (V.1.vn, 0, 0)) = startN L (oneW zay V) := by
 unfold startN oneW
 by_cases he : V.2.2.2 ≠ 0
 · rw [if_pos (.inl he), if_pos he, if_pos (.inl he)]
 rw [if_neg he]
 by_cases hk : V.1.kind = 0
 · have hw : zay V.1 = false := by unfold zay; rw [hk]; rfl
   rw [if_pos (.inr (.inl hw)), if_pos hk, if_pos (.inl (by decide))]
 rw [if_neg hk]
 by_cases hw : zay V.1 = false
 · rw [if_pos (.inr (.inl hw)), if_pos hw, if_pos (.inl (by decide))]
 rw [if_neg hw]
 by_cases hr : V.1.vn < 0 ∨ (L : Int) ≤ V.1.vn
 · rw [if_pos (.inr (.inr hr)), if_pos (.inr hr)]
 · rw [if_neg (by rintro (h | h | h); exact he h; exact hw h; exact hr h), if_neg (by rintro (h | h); exact h rfl; exact hr h)]
theorem startV_more {bs : List UInt8} {kn : List Bool} (h : zaw kn (bs.length - 64) < bs.length) : zaE bs kn = (0, ((zaw kn (bs.length - 64) : Nat) : Int), 6) := by unfold zaE; rw [if_pos h]
theorem startV_none {bs : List UInt8} {kn : List Bool} (h : ¬ zaw kn (bs.length - 64) < bs.length) (hk : zcB zbG (bs.drop (bs.length - 64)) = none) : zaE bs kn = (0, 0, 22) := by unfold zaE; rw [if_neg h, hk]
theorem startV_some {bs : List UInt8} {kn : List Bool} (h : ¬ zaw kn (bs.length - 64) < bs.length) {k : Nat} (hk : zcB zbG (bs.drop (bs.length - 64)) = some k) : zaE bs kn = startN bs.length (oneW zay (zaf (bs.drop (bs.length - 64)) ((k : Int) + 9) true)) := by
 rw [← start_one]; unfold zaE; rw [if_neg h, hk]
def StartEnd (w : World) (V : Int × Int × Int) (e : Ending) (w' : World) : Prop := e = .returned (.tuple #[.int .i64 V.1, .int .i64 V.2.1, .int .i64 V.2.2]) ∧ Below w.heap.size w w'
theorem start_any {w : World} {p : Nat} {bs : List UInt8} {kn : List Bool} (h : SrcI w p bs kn) (hl : bs.length ≤ 390000) :
   Calls Tryz.prog 20 #[.pointer (some ⟨p, 0, none⟩)] w (StartEnd w (zaE bs kn)) := by
 obtain ⟨fr, hfr⟩ : ∃ fr, fr = bs.length - 64 := ⟨_, rfl⟩
 have HT := Lib.hid h.total
 have HF := Lib.hid (fun W hb => h.first W hb fr (by omega))
 have HR := Lib.hid (fun W hb => h.read W hb fr 64 (by omega) (by omega) (by omega))
 have hmx : max (0 : Int) ((bs.length : Int) - 64) = (fr : Int) := by omega
 obtain ⟨n1, n2⟩ := zcm (kn := kn) (a := fr) (by have := h.len; omega)
 rw [h.len] at n2
 have HS1 := Lib.hid (fun h => startV_more (bs := bs) (kn := kn) h)
 have HS2 := Lib.hid (fun h hk => startV_none (bs := bs) (kn := kn) h hk)
 have HS3 := Lib.hid (fun k h hk => startV_some (bs := bs) (kn := kn) h (k := k) hk)
 rw [← hfr] at HS1 HS2 HS3
 have HFR := Lib.hid hfr
 obtain ⟨V, hV⟩ : ∃ V, V = zaE bs kn := ⟨_, rfl⟩
 rw [← hV] at HS1 HS2 HS3 ⊢
 have hcv := fun (W : World) (C : Array Value) (n c : Nat) => Lib.run_convert_bytes_const (P := Tryz.prog) W 22 5 C n c Tryz.underlying22 Tryz.underlying5
 unfold FromEnd at HR
 generalize zaw kn fr = n at *
 clear h hV hfr
 have HT0 := Lib.hid (HT.out _ (Below.refl _ _))
 have HR0 := Lib.hid (HR.out _ (Below.refl _ _))
 go_enter Tryz.func20, Tryz.ntmps20
 go_wp2_with fail
 refine HT0.out.mono ?_
 rintro e w1 ⟨rfl, rfl⟩
 go_wp2_with fail
 refine HR0.out.mono ?_
 rintro e w2 ⟨ba, bc, rfl, hrow, hb2⟩
 have HB2 := Lib.hid hb2
 clear hb2 HT0 HR0 HR
 by_cases hn : n = bs.length
 case neg =>
   have hq : (n == bs.length) = false := by rw [beq_eq_false_iff_ne]; exact hn
   have HE := Lib.hid (HS1.out (by omega))
   have HF2 := Lib.hid (HF.out _ HB2.out)
   clear HS1 HS2 HS3 HF HT hrow hcv hn
   rw [hq]
   generalize (List.take (n - fr) (List.drop fr bs)).length = L at *
   go_wp2_with fail
   refine HF2.out.mono ?_
   rintro e w3 ⟨rfl, hb3⟩
   have HB3 := Lib.hid (HB2.out.trans (hb3.mono HB2.out.size))
   clear hb3
   go_wp2
   go_ret3
   rw [HE.out]
   exact ⟨rfl, HB3.out⟩
 have HNN := Lib.hid (show ¬ n < bs.length by omega)
 have HCS := Lib.hid (show (bs.drop fr).take (n - fr) = bs.drop fr by rw [List.take_of_length_le (by rw [List.length_drop]; omega)])
 rw [HCS.out] at hrow
 rw [HCS.out, show (n == bs.length) = true by rw [beq_iff_eq]; exact hn]
 have HDL := Lib.hid (show (bs.drop fr).length ≤ 390000 by rw [List.length_drop]; omega)
 have HDE := Lib.hid (List.length_drop (i := fr) (l := bs))
 clear HCS hn HF HS1
 generalize bs.drop fr = cs at *
 have HRW := Lib.hid hrow
 have HLI := Lib.hid (zfD (w := w2.alloc (.cells (zbG.map u8C).toArray 5 (zbG.length, zbG.length + 1))) (hrow.mono (zah _ _)) (row_bsX (w := w2) zbG 5 (by decide)) (by have := HDL.out; omega) (by decide) (by decide))
 have HB3 := Lib.hid (HB2.out.alloc HB2.out.size (.cells (zbG.map u8C).toArray 5 (zbG.length, zbG.length + 1)))
 have HA3 := Lib.hid (zah w2 (.cells (zbG.map u8C).toArray 5 (zbG.length, zbG.length + 1)))
 clear hrow
 go_wp2_with fail
 refine HLI.out.mono ?_
 rintro e w3 ⟨rfl, hb3⟩
 have HB4 := Lib.hid (HB3.out.trans (hb3.mono HB3.out.size))
 have HX4 := Lib.hid (HA3.out.trans (hb3.mono HA3.out.size))
 clear hb3 HB3 HA3 HLI hcv
 cases hlw : zcB zbG cs with
 | none =>
   have HE := Lib.hid (HS2.out HNN.out hlw)
   clear HS2 HS3 hlw
   unfold zdX
   go_wp2
   go_ret3
   rw [HE.out]
   exact ⟨rfl, HB4.out⟩
 | some k =>
   have HE := Lib.hid (HS3.out k HNN.out hlw)
   have hkl := lastW_le hlw
   have hd0 : decide ((k : Int) < 0) = false := decide_eq_false (by omega)
   have hk9 : k ≤ 390000 := by have := HDL.out; omega
   have HN := Lib.hid (pnumber_any (HRW.out.mono HX4.out) (by have := HDL.out; omega) ((k : Int) + 9) true)
   have HT4 := Lib.hid (fun (W : World) (hb : Below w3.heap.size w3 W) => HT.out W (HB4.out.trans (hb.mono HB4.out.size)))
   generalize oneW zay (zaf cs ((k : Int) + 9) true) = S at *
   clear HS2 HS3 hlw HT hkl HRW
   obtain ⟨x, f, t, er⟩ := S
   unfold zfr at HN
   unfold startN at HE
   simp only at HN HE
   unfold zdX
   simp only
   generalize x.vn = xn at *
   go_wp2_with fail
   refine HN.out.mono ?_
   rintro e w5 ⟨rfl, hb5⟩
   have HB5 := Lib.hid (HB4.out.trans (hb5.mono HB4.out.size))
   have HT5 := Lib.hid (HT4.out w5 hb5)
   clear hb5 HT4 HN
   by_cases he : er = 0
   case neg =>
     have HE2 := Lib.hid (HE.out.trans (if_pos (.inl he)))
     have e0 : (er == 0) = false := by rw [beq_eq_false_iff_ne]; exact he
     have e1 : (er != 0) = true := by simp only [bne, e0, Bool.not_false]
     clear HE he
     go_wp2
     go_ret3
     rw [HE2.out]
     exact ⟨rfl, HB5.out⟩
   subst he
   by_cases h1 : xn < 0
   · have HE2 := Lib.hid (HE.out.trans (if_pos (.inr (.inl h1))))
     have d1 : decide (xn < 0) = true := decide_eq_true h1
     clear HE h1
     go_wp2
     go_ret3
     rw [HE2.out]
     exact ⟨rfl, HB5.out⟩
   have d1 : decide (xn < 0) = false := decide_eq_false h1
   by_cases h2 : (bs.length : Int) ≤ xn
   · have HE2 := Lib.hid (HE.out.trans (if_pos (.inr (.inr h2))))
     have d2 : decide ((bs.length : Int) ≤ xn) = true := decide_eq_true h2
     clear HE h2 h1
     go_wp2_with (go_at_call 54; refine HT5.out.mono ?_; rintro e w6 ⟨rfl, rfl⟩)
     go_ret3
     rw [HE2.out]
     exact ⟨rfl, HB5.out⟩
   have d2 : decide ((bs.length : Int) ≤ xn) = false := decide_eq_false h2
   have HE2 := Lib.hid (HE.out.trans (if_neg (by rintro (h | h | h); exact h rfl; exact h1 h; exact h2 h)))
   clear HE h1 h2
   go_wp2_with (go_at_call 54; refine HT5.out.mono ?_; rintro e w6 ⟨rfl, rfl⟩)
   go_ret3
   rw [HE2.out]
   exact ⟨rfl, HB5.out⟩
theorem zel {bs : List UInt8} {last : Bool} : ∀ (g : Nat) (gs : List Grp) (k : Int), smallG gs → smallG (zaX bs last g gs k).1
 | 0, _, _, _ => fun x hx => (by cases hx)
 | g + 1, gs, k, h => by
   unfold zaX
   simp only
   split
   · exact fun x hx => (by cases hx)
   split
   · exact h
   split
   · exact fun x hx => (by cases hx)
   split
   · exact fun x hx => (by cases hx)
   split
   · exact fun x hx => (by cases hx)
   rename_i hf
   split
   · exact fun x hx => (by cases hx)
   · refine zel g _ _ ?_
     intro x hx
     rcases List.mem_append.1 hx with h1 | h1
     · exact h x h1
     · rcases List.mem_singleton.1 h1 with rfl
       have hft : zd9 (nxtV bs last k).1.vn (nxtV bs last (nxtV bs last k).2.2.1).1.vn = true := by
         cases hq : zd9 (nxtV bs last k).1.vn (nxtV bs last (nxtV bs last k).2.2.1).1.vn with
         | true => rfl
         | false => exact absurd (.inr (.inr hq)) hf
       unfold zd9 at hft
       simp only [Bool.and_eq_true, decide_eq_true_eq] at hft
       exact ⟨by show _ ≤ (nxtV bs last k).1.vn; omega, by show (nxtV bs last k).1.vn ≤ _; omega⟩
theorem sec_small {bs : List UInt8} {last : Bool} {k : Int} : smallG (secV bs last k).1.gs := by
 unfold secV
 simp only
 split
 · exact fun x hx => (by cases hx)
 split
 · exact fun x hx => (by cases hx)
 split
 · exact fun x hx => (by cases hx)
 split
 · exact fun x hx => (by cases hx)
 · exact zel 65 [] _ (fun x hx => (by cases hx))
theorem secs_good {bs : List UInt8} {kn : List Bool} : ∀ (g : Nat) (rd : List Int) (l : List Sec) (a : Int), smallL l → evenL l → smallL (zba bs kn g rd l a).1 ∧ evenL (zba bs kn g rd l a).1
 | 0, _, _, _, _, _ => ⟨fun x hx => (by cases hx), fun x hx => (by cases hx)⟩
 | g + 1, rd, l, a, h1, h2 => by
   rw [zeQ]
   split
   · exact ⟨fun x hx => (by cases hx), fun x hx => (by cases hx)⟩
   split
   · exact ⟨fun x hx => (by cases hx), fun x hx => (by cases hx)⟩
   split
   · exact ⟨fun x hx => (by cases hx), fun x hx => (by cases hx)⟩
   split
   · exact ⟨fun x hx => (by cases hx), fun x hx => (by cases hx)⟩
   rename_i he
   have he0 : (zbf bs kn a.toNat).2.2 = 0 := by omega
   have hl1 : smallL (l ++ [(zbf bs kn a.toNat).1]) := fun x hx => by
     rcases List.mem_append.1 hx with h | h
     · exact h1 x h
     · rcases List.mem_singleton.1 h with rfl
       exact sec_small
   have hl2 : evenL (l ++ [(zbf bs kn a.toNat).1]) := fun x hx h7 => by
     rcases List.mem_append.1 hx with h | h
     · exact h2 x h h7
     · rcases List.mem_singleton.1 h with rfl
       exact (sec_even he0).2
   split
   · exact ⟨hl1, hl2⟩
   · split
     · exact ⟨fun x hx => (by cases hx), fun x hx => (by cases hx)⟩
     · exact secs_good g _ _ _ hl1 hl2
def LoadEnd (w : World) (V : Tab × Int × Int) (e : Ending) (w' : World) : Prop :=
 ∃ pa pc, e = .returned (.tuple #[.agg #[.slice pa V.1.ps.length pc, .int .i64 V.1.root], .int .i64 V.2.1, .int .i64 V.2.2]) ∧ Row w' 1 pa V.1.ps.length pc (V.1.ps.map (Value.int .i64)) ∧ (∀ x, pa = some x → w.heap.size ≤ x.block) ∧ Below w.heap.size w w'
theorem load_no {w W : World} {V : Tab × Int × Int} {n e : Int} (hV : V = ({}, n, e)) (hb : Below w.heap.size w W) {r : Nat} (hr : w.heap.size ≤ r) (y0 y1 : Value) :
   LoadEnd w V (.returned (.tuple #[.agg #[.slice none 0 0, .int .i64 0], .int .i64 n, .int .i64 e])) ((W.setCell ⟨r, 0, none⟩ y0).setCell ⟨r, 1, none⟩ y1) := by
 subst hV
 exact ⟨none, 0, rfl, Row.nil _ 1, fun x hx => (by cases hx), (hb.setCell (p := ⟨r, 0, none⟩) hr _).setCell (p := ⟨r, 1, none⟩) hr _⟩
theorem loadV_def (bs : List UInt8) (kn : List Bool) : zcH bs kn = if (zaE bs kn).2.2 ≠ 0 then ({}, (zaE bs kn).2.1, (zaE bs kn).2.2)
   else if (zba bs kn 33 [] [] (zaE bs kn).1).2.2 ≠ 0 then ({}, (zba bs kn 33 [] [] (zaE bs kn).1).2.1, (zba bs kn 33 [] [] (zaE bs kn).1).2.2)
   else ((tabV (zba bs kn 33 [] [] (zaE bs kn).1).1).1, 0, (tabV (zba bs kn 33 [] [] (zaE bs kn).1).1).2) := rfl
theorem zfd {w : World} {p : Nat} {bs : List UInt8} {kn : List Bool} (h : SrcI w p bs kn) (hl : bs.length ≤ 390000) : Calls Tryz.prog 36 #[.pointer (some ⟨p, 0, none⟩)] w (LoadEnd w (zcH bs kn)) := by
 have HI := Lib.hid h
 have HS := Lib.hid (fun (W : World) (hb : Below w.heap.size w W) => start_any (h.mono hb) hl)
 have HQ := Lib.hid (fun (W : World) (hb : Below w.heap.size w W) (k : Int) => zdG (h.mono hb) hl k)
 obtain ⟨hg1, hg2⟩ := secs_good (bs := bs) (kn := kn) 33 [] [] (zaE bs kn).1 (fun x hx => (by cases hx)) (fun x hx => (by cases hx))
 have HG := Lib.hid (And.intro hg1 hg2)
 obtain ⟨V, hV⟩ : ∃ V, V = zcH bs kn := ⟨_, rfl⟩
 rw [← hV]
 rw [loadV_def] at hV
 have HV := Lib.hid hV
 unfold StartEnd at HS
 clear h hV hg1 hg2
 generalize zaE bs kn = A at *
 obtain ⟨sa, sn, se⟩ := A
 simp only at HV HS HG
 have HQ1 := Lib.hid (fun (W : World) (hb : Below w.heap.size w W) => HQ.out W hb sa)
 clear HQ
 generalize zba bs kn 33 [] [] sa = D at *
 obtain ⟨l, ln, le⟩ := D
 unfold SecsEnd at HQ1
 simp only at HV HQ1 HG
 obtain ⟨r, hr⟩ : ∃ r, r = w.heap.size := ⟨_, rfl⟩
 have HZ1 := Lib.hid (zac (w := w) (b := r) (.cells #[.slice none 0 0, .int .i64 0] 74) hr)
 have HB1 := Lib.hid (zah w (.cells #[.slice none 0 0, .int .i64 0] 74))
 have HRW := Lib.hid (Nat.le_of_eq hr.symm)
 go_enter Tryz.func36, Tryz.ntmps36
 go_upto_region 1 with fail
 try rw [← hr]
 clear hr
 generalize w.alloc _ = W1 at *
 have HS1 := Lib.hid (HS.out _ HB1.out)
 clear HS
 go_wp2_with fail
 refine HS1.out.mono ?_
 rintro e w2 ⟨rfl, hb2⟩
 have HZ2 := Lib.hid (zab hb2 HZ1.out)
 have HB2 := Lib.hid (HB1.out.trans (hb2.mono HB1.out.size))
 clear hb2 HZ1 HB1 HS1
 obtain ⟨⟨z0, z1⟩, y0, y1⟩ := zaI HZ2.out
 by_cases hse : se = 0
 case neg =>
   have HE := Lib.hid (HV.out.trans (if_pos hse))
   have e0 : (se == 0) = false := by rw [beq_eq_false_iff_ne]; exact hse
   have e1 : (se != 0) = true := by simp only [bne, e0, Bool.not_false]
   clear hse HV HG
   go_wp2_with fail
   refine bodyPost_ret (zao rfl _ _ r 74 _ (0, 0) _ rfl (by exact zcA HZ2.out _ _) Tryz.underlying74 rfl (by exact zb5) _ _ rfl rfl) rfl ?_
   exact load_no HE.out HB2.out HRW.out _ _
 subst hse
 have HV2 := Lib.hid (HV.out.trans (if_neg (fun h => h rfl)))
 have HQ2 := Lib.hid (HQ1.out _ HB2.out)
 clear HV HQ1
 go_wp2_with fail
 refine HQ2.out.mono ?_
 rintro e w3 ⟨lv, rfl, hlv, hb3⟩
 obtain ⟨la, lc, rfl, -, -, -⟩ := hlv.len
 have HZ3 := Lib.hid (zab hb3 HZ2.out)
 have HB3 := Lib.hid (HB2.out.trans (hb3.mono HB2.out.size))
 have HO := Lib.hid (of_any hlv HG.out.1 HG.out.2)
 clear hb3 HZ2 HB2 HQ2 z0 z1 y0 y1 hlv HG
 obtain ⟨⟨z0, z1⟩, y0, y1⟩ := zaI HZ3.out
 by_cases hle : le = 0
 case neg =>
   have HE := Lib.hid (HV2.out.trans (if_pos hle))
   have e0 : (le == 0) = false := by rw [beq_eq_false_iff_ne]; exact hle
   have e1 : (le != 0) = true := by simp only [bne, e0, Bool.not_false]
   clear hle HV2 HO
   go_wp2_with fail
   refine bodyPost_ret (zao rfl _ _ r 74 _ (0, 0) _ rfl (by exact zcA HZ3.out _ _) Tryz.underlying74 rfl (by exact zb5) _ _ rfl rfl) rfl ?_
   exact load_no HE.out HB3.out HRW.out _ _
 subst hle
 have HE := Lib.hid (HV2.out.trans (if_neg (fun h => h rfl)))
 clear HV2
 generalize tabV l = T at *
 obtain ⟨⟨ps, root⟩, te⟩ := T
 unfold OfEnd at HO
 simp only at HE HO
 go_wp2_with fail
 refine HO.out.mono ?_
 rintro e w4 ⟨pa, pc, rfl, hrow, hpb, hb4⟩
 have hb4a := hb4.alloc hb4.size (.cells #[.slice pa ps.length pc, .int .i64 root] 74)
 have HT4 := Lib.hid (zac (w := w4) (b := w4.heap.size) (.cells #[.slice pa ps.length pc, .int .i64 root] 74) rfl)
 have HZ4 := Lib.hid (zab hb4a HZ3.out)
 have HB4 := Lib.hid (HB3.out.trans (hb4a.mono HB3.out.size))
 have HR4 := Lib.hid (hrow.mono (zah w4 (.cells #[.slice pa ps.length pc, .int .i64 root] 74)))
 have HPB := Lib.hid (show ∀ x, pa = some x → w.heap.size ≤ x.block ∧ x.block ≠ r from fun x hx => by have h1 := hpb x hx; have h2 := HB3.out.size; have h3 := zag HZ3.out; omega)
 clear hb4 hb4a HZ3 HB3 HO z0 z1 y0 y1 hpb
 go_upto_region 8 with fail
 generalize w4.heap.size = T4 at *
 generalize World.alloc _ _ = W4 at *
 obtain ⟨⟨z0, z1⟩, y0, y1⟩ := zaI HZ4.out
 obtain ⟨⟨t0, t1⟩, -⟩ := zaI HT4.out
 go_wp2_with fail
 refine bodyPost_ret (zao rfl _ _ r 74 _ (0, 0) _ rfl (by exact zcA HZ4.out _ _) Tryz.underlying74 rfl (by exact zb5) _ _ rfl rfl) rfl ?_
 rw [HE.out]
 refine ⟨pa, pc, rfl, ?_, fun x hx => (HPB.out x hx).1, (HB4.out.setCell (p := ⟨r, 0, none⟩) HRW.out _).setCell (p := ⟨r, 1, none⟩) HRW.out _⟩
 exact HR4.out.stays (F := fun b => b ≠ r) ⟨by simp [World.setCell], fun b _ hb => by rw [heap_setCell_other _ _ _ _ hb, heap_setCell_other _ _ _ _ hb]⟩ (fun _ x hx => (HPB.out x hx).2)
theorem infoRTab : (Tryz.prog.info? 78).map (·.size) = some 2 := by kernel_rfl
theorem table_any (a : Option Addr) (n c : Nat) (r0 : Int) (w : World) : Calls Tryz.prog 35 #[.agg #[.slice a n c, .int .i64 r0]] w fun e w' => e = .returned (.agg #[.slice a n c, .int .i64 r0]) ∧ Below w.heap.size w w' := by
 obtain ⟨B, hB⟩ : ∃ B, B = w.heap.size := ⟨_, rfl⟩
 have HB1 := Lib.hid (za6 w (.cells #[.slice a n c, .int .i64 r0] 74) (.cells #[.slice none 0 0, .int .i64 0] 78))
 have HX1 := Lib.hid (zak (w := w.alloc (.cells #[.slice a n c, .int .i64 r0] 74)) (.cells #[.slice none 0 0, .int .i64 0] 78) (zac (w := w) (b := B) (.cells #[.slice a n c, .int .i64 r0] 74) hB))
 have HY1 := Lib.hid (zac (w := w.alloc (.cells #[.slice a n c, .int .i64 r0] 74)) (b := B + 1) (.cells #[.slice none 0 0, .int .i64 0] 78) (by rw [zam, hB]))
 have HW := Lib.hid (show w.heap.size ≤ B + 1 by omega)
 go_enter Tryz.func35, Tryz.ntmps35
 go_upto_region 1 with fail
 try rw [← hB]
 generalize World.alloc _ _ = W1 at *
 clear hB
 generalize B + 1 = B2 at *
 obtain ⟨⟨p0, p1⟩, -⟩ := zaI HX1.out
 obtain ⟨⟨q0, q1⟩, f0, f1⟩ := zaI HY1.out
 go_wp2_with fail
 refine bodyPost_ret (results_cell_row rfl _ _ B2 78 _ (0, 0) _ rfl (by exact zcA HY1.out _ _) Tryz.underlying78 rfl (by exact infoRTab)) rfl ?_
 exact ⟨rfl, (HB1.out.setCell (p := ⟨B2, 0, none⟩) HW.out _).setCell (p := ⟨B2, 1, none⟩) HW.out _⟩
theorem tsame_eq {w : World} {a a2 : Option Addr} {c c2 : Nat} {ps : List Int} (h : Row w 1 a ps.length c (ps.map (Value.int .i64))) (h2 : Row w 1 a2 ps.length c2 (ps.map (Value.int .i64))) (r0 : Int) :
   Calls Tryz.prog 34 #[.agg #[.slice a ps.length c, .int .i64 r0], .agg #[.slice a2 ps.length c2, .int .i64 r0]] w fun e w' => e = .returned (.bool true) ∧ Below w.heap.size w w' := by
 have hi := h.i64
 have HB1 := Lib.hid (za6 w (.cells #[.slice a ps.length c, .int .i64 r0] 78) (.cells #[.slice a2 ps.length c2, .int .i64 r0] 78))
 have HA := Lib.hid (h.mono HB1.out)
 have HA2 := Lib.hid (h2.mono HB1.out)
 obtain ⟨B, hB⟩ : ∃ B, B = w.heap.size := ⟨_, rfl⟩
 have HX1 := Lib.hid (zak (w := w.alloc (.cells #[.slice a ps.length c, .int .i64 r0] 78)) (.cells #[.slice a2 ps.length c2, .int .i64 r0] 78) (zac (w := w) (b := B) (.cells #[.slice a ps.length c, .int .i64 r0] 78) hB))
 have HY1 := Lib.hid (zac (w := w.alloc (.cells #[.slice a ps.length c, .int .i64 r0] 78)) (b := B + 1) (.cells #[.slice a2 ps.length c2, .int .i64 r0] 78) (by rw [zam, hB]))
 have hll : ((ps.length : Int) == (ps.length : Int)) = true := by simp
 have hrr : (r0 == r0) = true := by simp
 clear h h2
 go_enter Tryz.func34, Tryz.ntmps34
 go_upto_region 1 with fail
 try rw [← hB]
 generalize World.alloc _ _ = W1 at *
 clear hB
 generalize B + 1 = B2 at *
 obtain ⟨⟨p0, p1⟩, -⟩ := zaI HX1.out
 obtain ⟨⟨q0, q1⟩, -⟩ := zaI HY1.out
 go_wp2_with fail
 go_loopw [5] (fun v wr => ∃ k : Nat, v = .int .i64 k ∧ k ≤ ps.length ∧ Hid (Below W1.heap.size W1 wr)) (fun v _ => ps.length - (intOf v).toNat)
 case atStart => exact ⟨0, rfl, Nat.zero_le _, Lib.hid (Below.refl _ _)⟩
 case round =>
   obtain ⟨k, rfl, hk, HBR⟩ := hrel
   have p0' := cell?_keep HBR.out p0
   have q0' := cell?_keep HBR.out q0
   by_cases hlt : k < ps.length
   · have hcd : decide ((k : Int) < (ps.length : Int)) = true := decide_eq_true (by omega)
     have hcd2 : decide (k < ps.length) = true := decide_eq_true hlt
     obtain ⟨b, o, rfl, -, hc⟩ := (HA.out.mono HBR.out).at 0 k hlt
     obtain ⟨b2, o2, rfl, -, hc2⟩ := (HA2.out.mono HBR.out).at 0 k hlt
     have c0 := hc k hlt
     have d0 := hc2 k hlt
     clear hc hc2
     generalize ps.getD k 0 = x at *
     have hxx : (x == x) = true := by simp
     have hxn : (x != x) = false := by simp
     have hki : (k : Int) < (ps.length : Int) := by omega
     go_wp2_with fail
     go_quiet (fail)
     go_wp2
     go_roundw
     case rel => exact ⟨k + 1, by go_num, by omega, Lib.hid (zae HBR.out _)⟩
     case measure => simp [intOf]; omega
   · have hcd : decide ((k : Int) < (ps.length : Int)) = false := decide_eq_false (by omega)
     have hcd2 : decide (k < ps.length) = false := decide_eq_false hlt
     go_wp2_with fail
     go_ret
     exact ⟨rfl, HB1.out.trans (HBR.out.mono HB1.out.size)⟩
end Go.Proofs.YtfafdeemfeaedaaGreat
namespace Go.Proofs.YtfafdeemfeaedaaGreat
open Go.RowKit Go.Maps Go.ChangeMaps
def blkV (g : Nat) : Value := .slice (some ⟨g, 0, none⟩) 4096 4096
def RB (v : Value) : Option (DataW Nat × List MemPlace) := match v with
 | .slice none n c => if n = 0 ∧ c = 0 then some (.nil, []) else none
 | .slice (some ad) n c => if ad = ⟨ad.block, 0, none⟩ ∧ n = 4096 ∧ c = 4096 then some (.lit (.int .i64 ad.block), []) else none
 | _ => none
theorem RB_blk (g : Nat) : RB (blkV g) = some (.lit (.int .i64 g), []) := by unfold RB blkV; simp
theorem RB_inv {v : Value} {g : Nat} {ps : List MemPlace} (h : RB v = some (.lit (.int .i64 g), ps)) : v = blkV g := by
 unfold RB at h
 split at h
 · split at h <;> simp at h
 · rename_i ad n c
   split at h
   · rename_i hc
     simp at h
     obtain ⟨h1, rfl, rfl⟩ := hc
     obtain ⟨b, o, s⟩ := ad
     simp at h1 h
     obtain ⟨rfl, rfl⟩ := h1
     obtain ⟨h2, -⟩ := h
     have : b = g := by omega
     subst this; rfl
   · cases h
 · cases h
theorem lawK : Keyed Tryz.prog 3 := int_keyed Tryz.underlying3
theorem zeroB (w : World) : (zeroValue 22).run Tryz.prog w = .ok (.slice none 0 0) w := by kernel_rfl
def i64K (k : Int) : Prop := -9223372036854775808 ≤ k ∧ k ≤ 9223372036854775807
theorem i64K_wf {k : Int} (h : i64K k) : (Lit.int .i64 k).wf = true := by
 obtain ⟨h1, h2⟩ := h
 simp [Lit.wf, IntKind.min, IntKind.max, IntKind.signed, IntKind.bits]; omega
theorem keyI {k : Int} (h : i64K k) : keyOf Tryz.prog 3 (.int .i64 k) = some (.int .i64 k) := keyOf_int_mk Tryz.underlying3 (i64K_wf h)
def MapB (w : World) (mb n : Nat) (f : Int → Option Nat) : Prop :=
 ∃ D : DataW Nat, w.ownsMap Tryz.prog 3 RB mb n D ∧ IsMap D ∧ ∀ k, (f k = none → has D (.int .i64 k) = false) ∧ ∀ g, f k = some g → D.atKey (.int .i64 k) .nil = .lit (.int .i64 g)
theorem MapB.made (w : World) : MapB (w.alloc (.map #[] 0)) w.heap.size 0 (fun _ => none) :=
 ⟨.map [], World.ownsMap_made w _ _ _, isMap_empty, fun k => ⟨fun _ => rfl, fun g h => by cases h⟩⟩
theorem MapB.lt {w : World} {mb n : Nat} {f : Int → Option Nat} (h : MapB w mb n f) : mb < w.heap.size := by obtain ⟨D, h, -⟩ := h; exact h.lt
theorem MapB.mono {w : World} {mb n m : Nat} {f : Int → Option Nat} (h : MapB w mb n f) (hm : n ≤ m) : MapB w mb m f := by obtain ⟨D, h, r⟩ := h; exact ⟨D, h.mono hm, r⟩
theorem MapB.keep {w w' : World} {mb n : Nat} {f : Int → Option Nat} (h : MapB w mb n f) (hb : w'.heap[mb]? = w.heap[mb]?) : MapB w' mb n f := by
 obtain ⟨D, ⟨es, clock, h1, h2⟩, r⟩ := h
 exact ⟨D, ⟨es, clock, hb.trans h1, h2⟩, r⟩
theorem MapB.look {w : World} {mb n : Nat} {f : Int → Option Nat} (h : MapB w mb n f) {k : Int} (hk : i64K k) {g : Nat} (hf : f k = some g) (c : Bool) :
   (Instr.lookup 144 (.map (some mb)) (.int .i64 k) c).run Tryz.prog w = .ok (if c then .tuple #[blkV g, .bool true] else blkV g) w := by
 obtain ⟨D, ⟨es, clock, hb, F, hs, rfl⟩, hm, hD⟩ := h
 have hat := (hD k).2 g hf
 rcases Maps.fit_look c lawK Tryz.underlying144 (zeroB w) hb F (keyI hk) with ⟨-, -, h0⟩ | ⟨e0, y, -, -, hrun, hRv, h1, -⟩
 · rw [h0] at hat; cases hat
 · have hy := (h1 .nil).symm.trans hat
   have : e0.val = blkV g := RB_inv (ps := y.2) (by rw [hRv, ← hy])
   rw [hrun, this]
theorem MapB.look_no {w : World} {mb n : Nat} {f : Int → Option Nat} (h : MapB w mb n f) {k : Int} (hk : i64K k) (hf : f k = none) (c : Bool) :
   (Instr.lookup 144 (.map (some mb)) (.int .i64 k) c).run Tryz.prog w = .ok (if c then .tuple #[.slice none 0 0, .bool false] else .slice none 0 0) w := by
 obtain ⟨D, ⟨es, clock, hb, F, hs, rfl⟩, hm, hD⟩ := h
 have hat := (hD k).1 hf
 rcases Maps.fit_look c lawK Tryz.underlying144 (zeroB w) hb F (keyI hk) with ⟨hrun, -, -⟩ | ⟨e0, y, -, -, -, -, h1, -⟩
 · rw [hrun]
 · rw [has_true_of_atKey h1] at hat; cases hat
theorem MapB.store {w : World} {mb n : Nat} {f : Int → Option Nat} (h : MapB w mb n f) {k : Int} (hk : i64K k) (g : Nat) (hn : n < maxLen) :
   ∃ w', (Instr.mapUpdate 144 (.map (some mb)) (.int .i64 k) (blkV g)).run Tryz.prog w = .ok () w' ∧ MapB w' mb (n + 1) (fun j => if j = k then some g else f j) ∧ w.grownBy w' (some mb) ∧ w'.heap.size = w.heap.size := by
 obtain ⟨D, ho, hm, hD⟩ := h
 obtain ⟨es, clock, hb, F, hs, hDe⟩ := ho
 obtain ⟨es', clock', hrun, F', hput, _⟩ := Maps.fit_store (R' := RB) lawK Tryz.underlying144 hb F (Nat.lt_of_le_of_lt hs hn) (fun _ _ _ _ hz => hz) (keyI hk) (RB_blk g)
 obtain ⟨w1, hrun1, ho1, hg1⟩ := World.ownsMap.update (R := RB) ⟨es, clock, hb, F, hs, hDe⟩ lawK Tryz.underlying144 hn (keyI hk) (RB_blk g)
 have hw1 : w1 = setBlock w mb (.map es' clock') := by
   rw [hrun] at hrun1
   simp only [Result.ok.injEq] at hrun1
   exact hrun1.2.symm
 refine ⟨w1, hrun1, ⟨D.put (.int .i64 k) (.lit (.int .i64 g)), ho1, hm.put _ _, fun j => ?_⟩, hg1, by rw [hw1]; simp [setBlock]⟩
 by_cases hj : j = k
 · subst hj
   refine ⟨fun h => by simp at h, fun g' hg' => ?_⟩
   simp at hg'
   subst hg'
   exact atKey_put_same hm (by simp [WideAt.IsKeyLit]) _ _
 · have hne : (Lit.int .i64 j) ≠ .int .i64 k := fun e => hj (by cases e; rfl)
   simp only [if_neg hj]
   exact ⟨fun h => by rw [has_put_other hne]; exact (hD j).1 h, fun g' hg' => by rw [atKey_put_other hne]; exact (hD j).2 g' hg'⟩
theorem zeb {w : World} {ops : Array Oper} {rest : List Oper} {o : Oper} {a : Act} {Q : Exit → Act → World → Prop} (hg : o.guard = none) (m x : Operand) (c : Bool) (hop : o.op = Op.lookup 144 m x c)
   {mb n : Nat} {f : Int → Option Nat} (h : MapB w mb n f) (hm : a.eval m = .map (some mb)) {k : Int} (hx : a.eval x = .int .i64 k) (hk : i64K k) {g : Nat} (hf : f k = some g)
   (hK : wpList Tryz.prog ops Q rest (a.put o.dst (if c then .tuple #[blkV g, .bool true] else blkV g)) w) : wpList Tryz.prog ops Q (o :: rest) a w := by
 refine wpList_plain hg fun K' hK' => ?_
 have hrun := h.look hk hf c
 unfold Oper.wp
 simp [execOp, hop, hm, hx, hrun, Result.andThen]
 exact hK' _ _ hK
theorem zet {w : World} {ops : Array Oper} {rest : List Oper} {o : Oper} {a : Act} {Q : Exit → Act → World → Prop} (hg : o.guard = none) (m x : Operand) (c : Bool) (hop : o.op = Op.lookup 144 m x c)
   {mb n : Nat} {f : Int → Option Nat} (h : MapB w mb n f) (hm : a.eval m = .map (some mb)) {k : Int} (hx : a.eval x = .int .i64 k) (hk : i64K k) (hf : f k = none)
   (hK : wpList Tryz.prog ops Q rest (a.put o.dst (if c then .tuple #[.slice none 0 0, .bool false] else .slice none 0 0)) w) : wpList Tryz.prog ops Q (o :: rest) a w := by
 refine wpList_plain hg fun K' hK' => ?_
 have hrun := h.look_no hk hf c
 unfold Oper.wp
 simp [execOp, hop, hm, hx, hrun, Result.andThen]
 exact hK' _ _ hK
theorem wpList_store {w : World} {ops : Array Oper} {rest : List Oper} {o : Oper} {a : Act} {Q : Exit → Act → World → Prop} (hg : o.guard = none) (m x v : Operand) (hop : o.op = Op.mapUpdate 144 m x v)
   {mb n : Nat} {f : Int → Option Nat} (h : MapB w mb n f) (hm : a.eval m = .map (some mb)) {k : Int} (hx : a.eval x = .int .i64 k) (hk : i64K k) {g : Nat} (hv : a.eval v = blkV g) (hn : n < maxLen)
   (hK : ∀ w', MapB w' mb (n + 1) (fun j => if j = k then some g else f j) → w.grownBy w' (some mb) → w'.heap.size = w.heap.size → wpList Tryz.prog ops Q rest (a.put o.dst undef) w') : wpList Tryz.prog ops Q (o :: rest) a w := by
 refine wpList_plain hg fun K' hK' => ?_
 obtain ⟨w', hrun, h1, h2, h3⟩ := h.store hk g hn
 unfold Oper.wp
 simp [execOp, hop, hm, hx, hv, hrun, Result.andThen]
 exact hK' _ _ (hK w' h1 h2 h3)
theorem wpList_lookT {w : World} {ops : Array Oper} {rest : List Oper} {o : Oper} {a : Act} {Q : Exit → Act → World → Prop} (hg : o.guard = none) (m x : Operand) (hop : o.op = Op.lookup 144 m x true)
   {mb n : Nat} {f : Int → Option Nat} (h : MapB w mb n f) (hm : a.eval m = .map (some mb)) {k : Int} (hx : a.eval x = .int .i64 k) (hk : i64K k) {g : Nat} (hf : f k = some g)
   (hK : wpList Tryz.prog ops Q rest (a.put o.dst (.tuple #[.slice (some ⟨g, 0, none⟩) 4096 4096, .bool true])) w) : wpList Tryz.prog ops Q (o :: rest) a w := zeb hg m x true hop h hm hx hk hf hK
theorem zd0 {w : World} {ops : Array Oper} {rest : List Oper} {o : Oper} {a : Act} {Q : Exit → Act → World → Prop} (hg : o.guard = none) (m x : Operand) (hop : o.op = Op.lookup 144 m x true)
   {mb n : Nat} {f : Int → Option Nat} (h : MapB w mb n f) (hm : a.eval m = .map (some mb)) {k : Int} (hx : a.eval x = .int .i64 k) (hk : i64K k) (hf : f k = none)
   (hK : wpList Tryz.prog ops Q rest (a.put o.dst (.tuple #[.slice none 0 0, .bool false])) w) : wpList Tryz.prog ops Q (o :: rest) a w := zet hg m x true hop h hm hx hk hf hK
theorem wpList_lookF {w : World} {ops : Array Oper} {rest : List Oper} {o : Oper} {a : Act} {Q : Exit → Act → World → Prop} (hg : o.guard = none) (m x : Operand) (hop : o.op = Op.lookup 144 m x false)
   {mb n : Nat} {f : Int → Option Nat} (h : MapB w mb n f) (hm : a.eval m = .map (some mb)) {k : Int} (hx : a.eval x = .int .i64 k) (hk : i64K k) {g : Nat} (hf : f k = some g)
   (hK : wpList Tryz.prog ops Q rest (a.put o.dst (.slice (some ⟨g, 0, none⟩) 4096 4096)) w) : wpList Tryz.prog ops Q (o :: rest) a w := zeb hg m x false hop h hm hx hk hf hK
end Go.Proofs.YtfafdeemfeaedaaGreat
