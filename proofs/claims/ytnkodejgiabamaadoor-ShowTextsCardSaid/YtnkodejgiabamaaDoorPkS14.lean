/-
  Our texts Sy2 to ShowArgs, in one.
-/
import Derived.Test.YtnkodejgiabamaaDoorPkS13
import Derived.Test.YtnkodejgiabamaaDoorRows
import Derived.ProofKit
import Derived.OpenShut
import Derived.Lib.SmallJoins
/-
  What works asks for: a dictionary of one name; the whole of it.
-/
namespace Go.Proofs.YtnkodejgiabamaaDoor
open Go.RowKit

/-- What the loop of DictOf knows. -/
structure DoM (w wr : World) (B : Nat) (sl : Value) (l : List PV) : Prop where
  b0 : wr.heap[B]? = some (.cells #[.int .i64 0, .int .i64 0, .string ⟨#[]⟩, .slice none 0 0] 24 (0, 0))
  b1 : wr.heap[B + 1]? = some (.cells #[.int .i64 7, .int .i64 0, .string ⟨#[]⟩, sl] 24 (0, 0))
  val : IsV wr (fun b => B + 1 < b) (.mk 7 0 [] l) sl
  bel : Below w.heap.size w wr
  hB : w.heap.size ≤ B
theorem DoM.start (w : World) {B : Nat} (hB : B = w.heap.size) : DoM w ((w.alloc (.cells #[.int .i64 0, .int .i64 0, .string ⟨#[]⟩, .slice none 0 0] 24)).alloc (.cells #[.int .i64 7, .int .i64 0, .string ⟨#[]⟩, .slice none 0 0] 24)) B (.slice none 0 0) [] :=
  ⟨heapA_old _ (heapA_new _ hB), heapA_new _ (by rw [sizeA, hB]), IsV.leaf _ _ _ rfl, belowA2 _ _ _, Nat.le_of_eq hB.symm⟩
theorem DoM.put {w wr W : World} {B : Nat} {sl s' : Value} {l l' : List PV} (h : DoM w wr B sl l) (hv : IsV W (fun b => wr.heap.size ≤ b) (.mk 7 0 [] l') s') (hb : Below wr.heap.size wr W) :
    DoM w ((((W.setCell ⟨B + 1, 0, none⟩ (.int .i64 7)).setCell ⟨B + 1, 1, none⟩ (.int .i64 0)).setCell ⟨B + 1, 2, none⟩ (.string ⟨#[]⟩)).setCell ⟨B + 1, 3, none⟩ s') B s' l' := by
  have hl := lt_of_heapS h.b1
  have hB := h.hB
  exact ⟨(set4_otherS (by omega) _ _ _ _).trans (block_keep hb h.b0), set4 (block_keep hb h.b1) _ _ _ _, IsV.keep (F := fun b => wr.heap.size ≤ b) ⟨by rw [set4_sizeS]; exact Nat.le_refl _, fun b _ hF => set4_otherS (by have hF : wr.heap.size ≤ b := hF; omega) _ _ _ _⟩ (fun b hF => by show B + 1 < b; omega) _ hv, below_set4 (h.bel.trans (hb.mono h.bel.size)) (by omega) _ _ _ _, h.hB⟩

section
variable {w : World} {b : Nat} {x0 x1 x2 x3 : Value} {t : TypeId} (h : w.heap[b]? = some (.cells #[x0, x1, x2, x3] t (0, 0)))
include h
theorem st1 (y0 : Value) : (w.setCell ⟨b, 0, none⟩ y0).heap[b]? = some (.cells #[y0, x1, x2, x3] t (0, 0)) := by rw [heap_setCell_same w b 0 _ _ _ h]; rfl
theorem st2 (y0 y1 : Value) : ((w.setCell ⟨b, 0, none⟩ y0).setCell ⟨b, 1, none⟩ y1).heap[b]? = some (.cells #[y0, y1, x2, x3] t (0, 0)) := by rw [heap_setCell_same _ b 1 _ _ _ (st1 h y0)]; rfl
theorem st3 (y0 y1 y2 : Value) : (((w.setCell ⟨b, 0, none⟩ y0).setCell ⟨b, 1, none⟩ y1).setCell ⟨b, 2, none⟩ y2).heap[b]? = some (.cells #[y0, y1, y2, x3] t (0, 0)) := by rw [heap_setCell_same _ b 2 _ _ _ (st2 h y0 y1)]; rfl
end
set_option maxRecDepth 8000 in
set_option maxHeartbeats 4000000 in
theorem dictOf1 {w : World} {g : Nat} (hr : Row w 4 (some ⟨g, 0, none⟩) 2 2 cs1) :
    Calls Tryd.prog 18 #[.slice (some ⟨g, 0, none⟩) 2 2] w fun e w' => ∃ sl, e = .returned (pvA dict1 sl) ∧ IsV w' anyF dict1 sl ∧ Below w.heap.size w w' := by
  have HR := Lib.hid (fun (W : World) (h : Below w.heap.size w W) => hr.mono h)
  have HP := Lib.hid (fun W => vput1 W)
  clear hr
  obtain ⟨B, hB⟩ : ∃ B, B = w.heap.size := ⟨_, rfl⟩
  have HM0 := Lib.hid (DoM.start w hB)
  go_enter Tryd.func18, Tryd.ntmps18
  go_upto_region 2 with fail
  rw [← hB]
  clear hB
  generalize (w.alloc _).alloc _ = W1 at *
  go_wp2
  go_loopw [4] (fun vi wr => (vi = .int .i64 0 ∧ wr = W1) ∨ (vi = .int .i64 2 ∧ ∃ sl, Hid (DoM w wr B sl dict1.l))) (fun vi _ => 2 - (intOf vi).toNat)
  case atStart => exact .inl ⟨rfl, rfl⟩
  case round =>
    rcases hrel with ⟨rfl, hwr⟩ | ⟨rfl, sl, HM⟩
    · rw [hwr]
      clear hwr
      obtain ⟨⟨c0, c1, c2, c3⟩, f0, f1, f2, f3⟩ := cells4 HM0.out.b1
      obtain ⟨bb, off, hbo, hbl, hc⟩ := (HR.out _ HM0.out.bel).2.2.2.2 (by omega)
      cases hbo
      have y2 := hc 2 (.string ⟨#[65]⟩) rfl
      have z0 := hc 4 (.int .i64 2) rfl
      have z1 := hc 5 (.int .i64 7) rfl
      have z2 := hc 6 (.string ⟨#[]⟩) rfl
      have z3 := hc 7 (.slice none 0 0) rfl
      simp only [Nat.zero_add] at y2 z0 z1 z2 z3
      clear hc
      go_wp2
      go_region_with ((go_at_call 32; refine (HP.out _).mono ?_; rintro e wP ⟨sP, rfl, hvP, hbP⟩; obtain ⟨aP, cP, hsP, -, -, -⟩ := hvP.len; subst hsP; simp only [pvA, show dict1.kind = 7 from rfl, show dict1.n = 0 from rfl, show mkB dict1.s = ⟨#[]⟩ from rfl]; have HBP := Lib.hid (show Below W1.heap.size W1 wP from (Below.refl _ _).drew.trans hbP); have HVP := Lib.hid (show IsV wP (fun b => W1.heap.size ≤ b) dict1 _ from hvP); obtain ⟨⟨p0, p1, p2, p3⟩, q0, q1, q2, q3⟩ := cells4 (block_keep HBP.out HM0.out.b1); obtain ⟨⟨a0, a1, a2, a3⟩, a4, a5, a6, a7⟩ := cells4 (st1 (block_keep HBP.out HM0.out.b1) (.int .i64 7)); obtain ⟨⟨b0, b1, b2, b3⟩, b4, b5, b6, b7⟩ := cells4 (st2 (block_keep HBP.out HM0.out.b1) (.int .i64 7) (.int .i64 0)); obtain ⟨⟨e0, e1, e2, e3⟩, e4, e5, e6, e7⟩ := cells4 (st3 (block_keep HBP.out HM0.out.b1) (.int .i64 7) (.int .i64 0) (.string ⟨#[]⟩)); clear hvP hbP))
      all_goals
        have HM2 := Lib.hid (HM0.out.put HVP.out HBP.out)
        clear HVP HBP p0 p1 p2 p3 q0 q1 q2 q3 HP HR a0 a1 a2 a3 a4 a5 a6 a7 b0 b1 b2 b3 b4 b5 b6 b7 e0 e1 e2 e3 e4 e5 e6 e7
        go_wp2
        go_roundw
        case rel => exact .inr ⟨by go_num, _, HM2⟩
        case measure => simp [intOf]
    · obtain ⟨a1, cap1, hs1, -, -, -⟩ := HM.out.val.len
      subst hs1
      obtain ⟨⟨c0, c1, c2, c3⟩, f0, f1, f2, f3⟩ := cells4 HM.out.b1
      obtain ⟨⟨r0, r1, r2, r3⟩, rf0, rf1, rf2, rf3⟩ := cells4 HM.out.b0
      clear HM0 HP HR
      go_wp2
      refine bodyPost_ret (results_cell_row rfl _ _ B 24 _ (0, 0) _ rfl (by exact set4 HM.out.b0 _ _ _ _) Tryd.underlying24 rfl (by kernel_rfl)) rfl ?_
      exact ⟨_, rfl, IsV.keep (F := fun b => B + 1 < b) ⟨by rw [set4_sizeS]; exact Nat.le_refl _, fun b _ hF => set4_otherS (by have hF : B + 1 < b := hF; omega) _ _ _ _⟩ (fun _ _ => trivial) _ HM.out.val, below_set4 HM.out.bel HM.out.hB _ _ _ _⟩

end Go.Proofs.YtnkodejgiabamaaDoor
/-
  The walk of law13.works.
-/
namespace Go.Proofs.YtnkodejgiabamaaDoor
open Go.RowKit

theorem form_d1 : formV dict1 = [60, 60, 47, 65, 32, 55, 62, 62] := by
  unfold dict1
  simp only [formV, rowF, moreF, nameF]
  decide +kernel
theorem check_d1 : checkC dict1 = 0 := by
  unfold dict1 checkC
  simp only [depthV, depthL, firstC, firstL, ownC]
  decide +kernel
theorem depth_d1 : depthV dict1 ≤ 1000 := by
  unfold dict1
  simp only [depthV, depthL]
  decide +kernel
theorem form_r3 : formV (.mk 8 3 [] []) = [51, 32, 48, 32, 82] := by
  simp only [formV]
  decide +kernel
theorem check_r3 : checkC (.mk 8 3 [] []) = 0 := by
  unfold checkC
  simp only [depthV, depthL, firstC, firstL, ownC]
  decide +kernel
theorem show_d1 : showV dict1 = ([60, 60, 47, 65, 32, 55, 62, 62], 0) := by unfold showV; rw [check_d1, form_d1]; rfl
theorem show_r3 : showV (.mk 8 3 [] []) = ([51, 32, 48, 32, 82], 0) := by unfold showV; rw [check_r3, form_r3]; rfl
theorem text_ab : textF [97, 40, 98] = [40, 97, 92, 40, 98, 41] := by decide +kernel

set_option maxRecDepth 8000 in
set_option maxHeartbeats 4000000 in
theorem works13 (w : World) : Calls Tryd.prog 7 #[] w fun e w' => e = .returned (.bool true) ∧ Below w.heap.size w w' := by
  have HN := Lib.hid (fun W => nameOf_any ⟨#[65]⟩ W)
  have HI := Lib.hid (fun W => intOf_any 7 W)
  have HD := Lib.hid (fun (W : World) (g : Nat) (h : Row W 4 (some ⟨g, 0, none⟩) 2 2 cs1) => dictOf1 h)
  have HV := Lib.hid (fun (W : World) (sl : Value) (h : IsV W anyF dict1 sl) => showValue_any h depth_d1 (by rw [form_d1]; decide))
  rw [show_d1] at HV
  have HT := Lib.hid (fun W => showText_any [97, 40, 98] W (by decide))
  rw [text_ab] at HT
  have HR := Lib.hid (fun W => refTo_any 3 W)
  have HL := Lib.hid (fun W => showLen_any (v := .mk 8 3 [] []) (sl := .slice none 0 0) (w := W) (IsV.leaf W anyF _ rfl) (by rw [depthV_is]; decide) (by rw [form_r3]; decide))
  rw [show_r3] at HL
  simp only [pvA, PV.kind, PV.n, PV.s] at HL
  rw [show mkB [] = ⟨#[]⟩ from rfl] at HL
  rw [show mkB [97, 40, 98] = ⟨#[97, 40, 98]⟩ from rfl, show mkB [40, 97, 92, 40, 98, 41] = ⟨#[40, 97, 92, 40, 98, 41]⟩ from rfl] at HT
  simp only [show mkB [60, 60, 47, 65, 32, 55, 62, 62] = ⟨#[60, 60, 47, 65, 32, 55, 62, 62]⟩ from rfl] at HV
  go_enter Tryd.func7, Tryd.ntmps7
  go_wp2_with fail
  refine (HN.out _).mono ?_
  rintro e w1 ⟨rfl, hb1⟩
  have HB1 := Lib.hid hb1
  clear hb1
  go_wp2_with fail
  refine (HI.out _).mono ?_
  rintro e w2 ⟨rfl, hb2⟩
  have HB2 := Lib.hid (HB1.out.trans (hb2.mono HB1.out.size))
  clear hb2
  have HB3 := Lib.hid (HB2.out.alloc HB2.out.size (.cells #[.int .i64 5, .int .i64 0, .string ⟨#[65]⟩, .slice none 0 0, .int .i64 2, .int .i64 7, .string ⟨#[]⟩, .slice none 0 0] 24))
  go_wp2_with fail
  refine (HD.out _ _ (row_two w2 #[.int .i64 5, .int .i64 0, .string ⟨#[65]⟩, .slice none 0 0, .int .i64 2, .int .i64 7, .string ⟨#[]⟩, .slice none 0 0] 24 rfl rfl)).mono ?_
  rintro e w3 ⟨sl, rfl, hv3, hb3⟩
  have HB4 := Lib.hid (HB3.out.trans (hb3.mono HB3.out.size))
  clear hb3 HN HI HD
  have HV3 := Lib.hid (HV.out _ _ hv3)
  obtain ⟨sa, sc, rfl, -, -, -⟩ := hv3.len
  simp only [pvA] at HV3 ⊢
  clear hv3 HV
  go_wp2_with fail
  refine HV3.out.mono ?_
  rintro e w4 ⟨rfl, hb4⟩
  have HB5 := Lib.hid (HB4.out.trans (hb4.mono HB4.out.size))
  clear hb4 HV3
  go_wp2_with (first | (go_at_call 14; refine (HT.out _).mono ?_; rintro e w5 ⟨rfl, hb5⟩; have HB6 := Lib.hid (HB5.out.trans (hb5.mono HB5.out.size)); clear hb5) | (go_at_call 21; refine (HR.out _).mono ?_; rintro e w6 ⟨rfl, hb6⟩; have HB7 := Lib.hid (HB6.out.trans (hb6.mono HB6.out.size)); clear hb6) | (go_at_call 10; refine (HL.out _).mono ?_; rintro e w7 ⟨rfl, hb7⟩; have HB8 := Lib.hid (HB7.out.trans (hb7.mono HB7.out.size)); clear hb7))
  go_ret
  exact ⟨rfl, HB8.out⟩
end Go.Proofs.YtnkodejgiabamaaDoor
/-
  Layer 13's document: hex digits; whether a text may be a name's.
-/
namespace Go.Proofs.YtnkodejgiabamaaDoor
open Go.RowKit

theorem ext_sg : ∀ (k : Nat), k < 16 → (⟨#[48, 49, 50, 51, 52, 53, 54, 55, 56, 57, 97, 98, 99, 100, 101, 102]⟩ : ByteArray).extract k (k + 1) = mkB [hexG k] := by
  have : ∀ d : Fin 16, (⟨#[48, 49, 50, 51, 52, 53, 54, 55, 56, 57, 97, 98, 99, 100, 101, 102]⟩ : ByteArray).extract d.1 (d.1 + 1) = mkB [hexG d.1] := by decide
  exact fun k h => this ⟨k, h⟩
theorem mkB_app (a b : List UInt8) : mkB a ++ mkB b = mkB (a ++ b) := ByteArray.mk_append_mk a b

set_option maxRecDepth 8000 in
set_option maxHeartbeats 2000000 in
theorem rhex13 (c : UInt8) (w : World) : Calls Tryd.prog 30 #[.int .u8 c.toNat] w fun e w' => e = .returned (.string (mkB (hexB c))) ∧ ∃ q, w' = w.drewN q := by
  have hx : mkB (hexB c) = (⟨#[48, 49, 50, 51, 52, 53, 54, 55, 56, 57, 97, 98, 99, 100, 101, 102]⟩ : ByteArray).extract (c.toNat / 16) (c.toNat / 16 + 1) ++ (⟨#[48, 49, 50, 51, 52, 53, 54, 55, 56, 57, 97, 98, 99, 100, 101, 102]⟩ : ByteArray).extract (c.toNat % 16) (c.toNat % 16 + 1) := by
    have h := c.toNat_lt
    rw [ext_sg _ (by omega), ext_sg _ (by omega), mkB_app]; rfl
  have hc := c.toNat_lt
  generalize mkB (hexB c) = R at *
  have HX := Lib.hid hx
  clear hx
  generalize c.toNat = n at *
  have h1 : n / 16 < 16 := by omega
  have h2 : n % 16 < 16 := by omega
  have h3 : (n : Int) / 16 < 16 := by omega
  have h4 : (n : Int) % 16 < 16 := by omega
  have h5 : (0 : Int) ≤ (n : Int) / 16 := by omega
  have h6 : (0 : Int) ≤ (n : Int) % 16 := by omega
  go_enter Tryd.func30, Tryd.ntmps30
  go_wp2
  go_quiet (fail)
  go_wp2
  go_ret
  exact ⟨by rw [HX.out]; rfl, _, rfl⟩

/-- May a text be a name's? -/
def nameC (s : List UInt8) : Bool := !(decide (127 < s.length) || decide ((0 : UInt8) ∈ s))
set_option maxRecDepth 8000 in
set_option maxHeartbeats 4000000 in
theorem rtext11 (s : List UInt8) (w : World) (hl : s.length ≤ 10000000) :
    Calls Tryd.prog 28 #[.string (mkB s)] w fun e w' => e = .returned (.bool (nameC s)) ∧ w = w' := by
  have hsz : (mkB s).size = s.length := mkB_size s
  have hszi : ((mkB s).size : Int) = s.length := by rw [hsz]
  obtain ⟨R, hR⟩ : ∃ R, R = nameC s := ⟨_, rfl⟩
  rw [← hR]
  unfold nameC at hR
  have HR := Lib.hid hR
  clear hR
  go_enter Tryd.func28, Tryd.ntmps28
  go_wp2
  go_loopw [3] (fun vk wr => ∃ k : Nat, vk = .int .i64 k ∧ k ≤ s.length ∧ wr = w ∧ Hid ((0 : UInt8) ∉ s.take k)) (fun vk _ => s.length - (intOf vk).toNat)
  case atStart => exact ⟨0, rfl, Nat.zero_le _, rfl, Lib.hid (by simp)⟩
  case round =>
    obtain ⟨k, rfl, hk, hwr, HG⟩ := hrel
    rw [hwr]
    clear hwr
    by_cases q1 : k < s.length
    case neg =>
      have hd1 : decide (k < s.length) = false := decide_eq_false q1
      have hd2 : decide ((k : Int) < (s.length : Int)) = false := decide_eq_false (by omega)
      have hq2 : ¬ (k : Int) < (s.length : Int) := by omega
      have hg := HG.out
      rw [List.take_of_length_le (by omega)] at hg
      have hr := HR.out
      rw [decide_eq_false hg, Bool.or_false] at hr
      by_cases h127 : 127 < s.length
      · have b1 : decide (s.length ≤ 127) = false := decide_eq_false (by omega)
        have b2 : decide ((s.length : Int) ≤ 127) = false := decide_eq_false (by omega)
        rw [decide_eq_true h127] at hr
        obtain rfl : R = false := hr
        clear HR HG hg
        go_wp2
        go_ret
        exact ⟨rfl, rfl⟩
      · have b1 : decide (s.length ≤ 127) = true := decide_eq_true (by omega)
        have b2 : decide ((s.length : Int) ≤ 127) = true := decide_eq_true (by omega)
        rw [decide_eq_false h127] at hr
        obtain rfl : R = true := hr
        clear HR HG hg
        go_wp2
        go_ret
        exact ⟨rfl, rfl⟩
    have hd1 : decide (k < s.length) = true := decide_eq_true q1
    have hd2 : decide ((k : Int) < (s.length : Int)) = true := decide_eq_true (by omega)
    have hk0 : (0 : Int) ≤ (k : Int) := by omega
    have hk1 : (k : Int) < (s.length : Int) := by omega
    have hk2 : k < (mkB s).size := by omega
    obtain ⟨c, hc⟩ : ∃ c, c = s[k]'q1 := ⟨_, rfl⟩
    have hcs : s[k]? = some c := by rw [hc]; exact List.getElem?_eq_getElem q1
    obtain ⟨n, hn⟩ : ∃ n, n = c.toNat := ⟨_, rfl⟩
    have hat : ((mkB s)[k]'hk2).toNat = n := by rw [hn, hc]; exact at_mkB q1 hk2
    by_cases h0 : n = 0
    · have b1 : (n == 0) = true := by rw [h0]; rfl
      have b2 : ((n : Int) == 0) = true := by rw [h0]; rfl
      have hc0 : c = 0 := UInt8.toNat_inj.1 (by rw [← hn, h0]; rfl)
      have hr := HR.out
      rw [decide_eq_true (show (0 : UInt8) ∈ s by rw [← hc0]; exact List.mem_of_getElem? hcs), Bool.or_true] at hr
      obtain rfl : R = false := hr
      clear HR HG hc0 hcs hc hn h0
      go_wp2
      go_ret
      exact ⟨rfl, rfl⟩
    · have b1 : (n == 0) = false := by rw [beq_eq_false_iff_ne]; exact h0
      have b2 : ((n : Int) == 0) = false := by rw [beq_eq_false_iff_ne]; omega
      have HG2 := Lib.hid (show (0 : UInt8) ∉ s.take (k + 1) by
        rw [List.take_add_one, hcs]
        intro hm
        rcases List.mem_append.1 hm with hm | hm
        · exact HG.out hm
        · simp at hm
          exact h0 (by rw [hn, ← hm]; rfl))
      clear HG hcs hc hn h0
      go_wp2
      go_roundw
      case rel => exact ⟨k + 1, by go_num, by omega, trivial, HG2⟩
      case measure => simp [intOf]; omega
end Go.Proofs.YtnkodejgiabamaaDoor
/-
  Layer 13's document: names and texts. (Printed by genrname.py.)
-/
namespace Go.Proofs.YtnkodejgiabamaaDoor
open Go.RowKit

theorem ext_one {s : List UInt8} {k : Nat} {c : UInt8} (h : s[k]? = some c) : (mkB s).extract k (k + 1) = mkB [c] := by
  apply ByteArray.ext
  rw [ByteArray.data_extract]
  apply Array.ext'
  rw [Array.toList_extract]
  show ((s.drop k).take (k + 1 - k)) = [c]
  rw [show k + 1 - k = 1 by omega]
  have hk := (List.getElem?_eq_some_iff.1 h)
  obtain ⟨hl, he⟩ := hk
  rw [List.drop_eq_getElem_cons hl, he]
  rfl
theorem showV_name (s : List UInt8) : showV (.mk 5 0 s []) = if nameC s = true then (47 :: nameF s, 0) else ([], 17) := by
  have e : formV (.mk 5 0 s []) = 47 :: nameF s := by simp [formV]
  have ho : ownC (.mk 5 0 s []) = if 127 < s.length ∨ (0 : UInt8) ∈ s then 17 else 0 := by simp [ownC]
  have hf : firstC (.mk 5 0 s []) = if 127 < s.length ∨ (0 : UInt8) ∈ s then 17 else 0 := by
    rw [firstC_is, ho]
    by_cases h : 127 < s.length ∨ (0 : UInt8) ∈ s
    · rw [if_pos h, if_pos (by decide)]
    · rw [if_neg h, if_neg (by decide)]; simp [PV.kind]
  have hc : checkC (.mk 5 0 s []) = if 127 < s.length ∨ (0 : UInt8) ∈ s then 17 else 0 := by
    unfold checkC
    rw [depthV_is, if_neg (by simp [PV.kind]), hf]
    all_goals (try rfl)
  unfold showV
  rw [hc, e]
  unfold nameC
  by_cases h : 127 < s.length ∨ (0 : UInt8) ∈ s
  · rw [if_pos h, if_pos (by decide), if_neg (by rcases h with h | h <;> simp [h])]
  · rw [if_neg h, if_neg (by decide), if_pos (by rw [not_or] at h; rw [decide_eq_false h.1, decide_eq_false h.2]; rfl)]

set_option maxRecDepth 8000 in
set_option maxHeartbeats 4000000 in
theorem rname13 (s : List UInt8) (w : World) (hl : s.length ≤ 100000) :
    Calls Tryd.prog 13 #[.string (mkB s)] w fun e w' => e = .returned (.tuple #[.string (mkB (showV (.mk 5 0 s [])).1), .int .i64 (showV (.mk 5 0 s [])).2]) ∧ Below w.heap.size w w' := by
  rw [showV_name]
  have HT := Lib.hid (fun W => rtext11 s W (by omega))
  have hsz : (mkB s).size = s.length := mkB_size s
  have hszi : ((mkB s).size : Int) = s.length := by rw [hsz]
  by_cases hb : nameC s = true
  case neg =>
    have hb' : nameC s = false := by simpa using hb
    rw [hb'] at HT ⊢
    clear hb hb'
    go_enter Tryd.func13, Tryd.ntmps13
    go_wp2_with (go_at_call 28; refine (HT.out _).mono ?_; rintro e w' ⟨rfl, rfl⟩)
    go_ret2
    exact ⟨rfl, Below.refl _ _⟩
  rw [hb] at HT ⊢
  rw [if_pos rfl]
  have hm : (s.length : Int) ≤ 100000 := by omega
  obtain ⟨R, hR⟩ : ∃ R, R = mkB (47 :: nameF s) := ⟨_, rfl⟩
  have HR := Lib.hid hR
  simp only
  rw [← hR]
  clear hb hR
  go_enter Tryd.func13, Tryd.ntmps13
  go_wp2_with (go_at_call 28; refine (HT.out _).mono ?_; rintro e w' ⟨rfl, rfl⟩)
  go_loopw [4, 5] (fun vo vk wr => ∃ (k : Nat) (O : ByteArray), vk = .int .i64 k ∧ vo = .string O ∧ k ≤ s.length ∧ O.size ≤ 1000000 ∧ Hid (O = mkB (47 :: nameF (s.take k))) ∧ Hid (Below w.heap.size w wr)) (fun _ vk _ => s.length - (intOf vk).toNat)
  case atStart => exact ⟨0, _, rfl, rfl, Nat.zero_le _, by decide, Lib.hid rfl, Below.refl _ _⟩
  case round =>
    obtain ⟨k, O, rfl, rfl, hk, hO, HO, HB⟩ := hrel
    by_cases q1 : k < s.length
    case neg =>
      have hd1 : decide (k < s.length) = false := decide_eq_false q1
      have hd2 : decide ((k : Int) < (s.length : Int)) = false := decide_eq_false (by omega)
      have hq2 : ¬ (k : Int) < (s.length : Int) := by omega
      obtain rfl : R = O := by rw [HR.out, HO.out, List.take_of_length_le (by omega)]
      clear HR HO
      go_wp2
      go_ret2
      exact ⟨rfl, HB.out⟩
    have hd1 : decide (k < s.length) = true := decide_eq_true q1
    have hd2 : decide ((k : Int) < (s.length : Int)) = true := decide_eq_true (by omega)
    have hk0 : (0 : Int) ≤ (k : Int) := by omega
    have hk1 : (k : Int) < (s.length : Int) := by omega
    have hk2 : k < (mkB s).size := by omega
    have hk3 : (k : Int) + 1 ≤ (s.length : Int) := by omega
    have hk4 : k + 1 ≤ (mkB s).size := by omega
    have hkw : IntKind.i64.wrap ((k : Int) + 1) = (k : Int) + 1 := IntWalk.i64_in _ (by omega)
    obtain ⟨c, hc⟩ : ∃ c, c = s[k]'q1 := ⟨_, rfl⟩
    have hcs : s[k]? = some c := by rw [hc]; exact List.getElem?_eq_getElem q1
    obtain ⟨n, hn⟩ : ∃ n, n = c.toNat := ⟨_, rfl⟩
    have hat : ((mkB s)[k]'hk2).toNat = n := by rw [hn, hc]; exact at_mkB q1 hk2
    have hext := ext_one hcs
    have HH := Lib.hid (fun W => rhex13 c W)
    rw [← hn] at HH
    have HD := Lib.hid (fun W => rdelim_any (n : Int) W)
    have hT := nameF_take hcs
    have hch : chF c = if n < 33 ∨ 126 < n ∨ n = 35 ∨ dlI (n : Int) = true then 35 :: hexB c else [c] := by
      unfold chF; rw [hn, dlI_eq]; simp only [eq35]
    have hbd : ∀ t : List UInt8, (mkB (47 :: nameF (s.take t.length))).size ≤ 1000000 ∨ 100000 < t.length := fun t => by
      by_cases h : 100000 < t.length
      · exact .inr h
      · left
        have h1 := nameF_len (s.take t.length)
        rw [List.length_take] at h1
        rw [mkB_size]
        simp
        omega
    have hbn : (mkB (47 :: nameF (s.take (k + 1)))).size ≤ 1000000 := by
      have h1 := nameF_len (s.take (k + 1))
      rw [List.length_take] at h1
      rw [mkB_size]
      simp
      omega
    have HBN := Lib.hid hbn
    have HC1 := Lib.hid (show chF c = [c] → O ++ mkB [c] = mkB (47 :: nameF (s.take (k + 1))) from fun h => by rw [hT, h, HO.out, mkB_app]; rfl)
    have HC2 := Lib.hid (show chF c = 35 :: hexB c → O ++ ⟨#[35]⟩ ++ mkB (hexB c) = mkB (47 :: nameF (s.take (k + 1))) from fun h => by
      rw [hT, h, HO.out, show (⟨#[35]⟩ : ByteArray) = mkB [35] from rfl, mkB_app, mkB_app]
      simp)
    have hos : O.size + 1 ≤ 9223372036854775807 := by omega
    have HCH := Lib.hid hch
    have HN := Lib.hid hn
    have hhs : (mkB (hexB c)).size = 2 := by rw [mkB_size]; rfl
    have hcz : (mkB [c]).size = 1 := rfl
    clear hT hch hbd hbn hcs hc hn HO
    generalize mkB (hexB c) = HX at *
    generalize mkB [c] = CX at *
    generalize dlI (n : Int) = d at *
    by_cases h1 : n < 33
    · have b1 : decide (32 < n) = false := decide_eq_false (by omega)
      have b1' : decide ((32 : Int) < (n : Int)) = false := decide_eq_false (by omega)
      have HC2 := Lib.hid (HC2.out (by rw [HCH.out, if_pos (.inl h1)]))
      clear HCH h1 HC1
      go_wp2_with (first | (go_at_call 30; refine (HH.out _).mono ?_; rintro e w' ⟨rfl, q, rfl⟩))
      go_roundw
      case rel => exact ⟨k + 1, _, by go_num, rfl, by omega, by rw [HC2.out]; exact HBN.out, HC2, Lib.hid (below_drewN HB.out _)⟩
      case measure => simp [intOf]; omega
    have b1 : decide (32 < n) = true := decide_eq_true (by omega)
    have b1' : decide ((32 : Int) < (n : Int)) = true := decide_eq_true (by omega)
    by_cases h2 : 126 < n
    · have b2 : decide (n < 127) = false := decide_eq_false (by omega)
      have b2' : decide ((n : Int) < 127) = false := decide_eq_false (by omega)
      have HC2 := Lib.hid (HC2.out (by rw [HCH.out, if_pos (.inr (.inl h2))]))
      clear HCH h1 h2 HC1
      go_wp2_with (first | (go_at_call 30; refine (HH.out _).mono ?_; rintro e w' ⟨rfl, q, rfl⟩))
      go_roundw
      case rel => exact ⟨k + 1, _, by go_num, rfl, by omega, by rw [HC2.out]; exact HBN.out, HC2, Lib.hid (below_drewN HB.out _)⟩
      case measure => simp [intOf]; omega
    have b2 : decide (n < 127) = true := decide_eq_true (by omega)
    have b2' : decide ((n : Int) < 127) = true := decide_eq_true (by omega)
    by_cases h3 : n = 35
    · have b3 : ((n : Int) == 35) = true := by rw [h3]; rfl
      have b3' : ((n : Int) != 35) = false := by simp only [bne, b3, Bool.not_true]
      have b3n : (n == 35) = true := by rw [h3]; rfl
      have HC2 := Lib.hid (HC2.out (by rw [HCH.out, if_pos (.inr (.inr (.inl h3)))]))
      have H3 := Lib.hid h3
      clear HCH h1 h2 h3 HC1
      go_wp2_with (first | (go_at_call 30; refine (HH.out _).mono ?_; rintro e w' ⟨rfl, q, rfl⟩))
      go_roundw
      case rel => exact ⟨k + 1, _, by go_num, rfl, by omega, by rw [HC2.out]; exact HBN.out, HC2, Lib.hid (below_drewN HB.out _)⟩
      case measure => simp [intOf]; omega
    have b3 : ((n : Int) == 35) = false := by rw [beq_eq_false_iff_ne]; omega
    have b3' : ((n : Int) != 35) = true := by simp only [bne, b3, Bool.not_false]
    have b3n : (n == 35) = false := by rw [beq_eq_false_iff_ne]; exact h3
    cases d with
    | true =>
      have HC2 := Lib.hid (HC2.out (by rw [HCH.out, if_pos (.inr (.inr (.inr rfl)))]))
      clear HCH h1 h2 h3 HC1
      go_wp2_with (first | (go_at_call 30; refine (HH.out _).mono ?_; rintro e w' ⟨rfl, q, rfl⟩) | (go_at_call 29; refine (HD.out _).mono ?_; rintro e w' ⟨rfl, rfl⟩))
      go_roundw
      case rel => exact ⟨k + 1, _, by go_num, rfl, by omega, by rw [HC2.out]; exact HBN.out, HC2, Lib.hid (below_drewN HB.out _)⟩
      case measure => simp [intOf]; omega
    | false =>
      have HC1 := Lib.hid (HC1.out (by rw [HCH.out, if_neg (by rintro (h | h | h | h); exact h1 h; exact h2 h; exact h3 h; cases h)]))
      clear HCH h1 h2 h3 HC2
      go_wp2_with (go_at_call 29; refine (HD.out _).mono ?_; rintro e w' ⟨rfl, rfl⟩)
      go_roundw
      case rel => exact ⟨k + 1, _, by go_num, rfl, by omega, by rw [HC1.out]; exact HBN.out, HC1, HB⟩
      case measure => simp [intOf]; omega
end Go.Proofs.YtnkodejgiabamaaDoor
/-
  Layer 13's document: texts. (Printed by genrname.py.)
-/
namespace Go.Proofs.YtnkodejgiabamaaDoor
open Go.RowKit

set_option maxRecDepth 8000 in
set_option maxHeartbeats 8000000 in
theorem rtext13 (s : List UInt8) (w : World) (hl : s.length ≤ 100000) :
    Calls Tryd.prog 15 #[.string (mkB s)] w fun e w' => e = .returned (.string (mkB (textF s))) ∧ Below w.heap.size w w' := by
  have hsz : (mkB s).size = s.length := mkB_size s
  have hszi : ((mkB s).size : Int) = s.length := by rw [hsz]
  have hm : (s.length : Int) ≤ 100000 := by omega
  obtain ⟨R, hR⟩ : ∃ R, R = mkB (textF s) := ⟨_, rfl⟩
  have HR := Lib.hid hR
  rw [← hR]
  clear hR
  go_enter Tryd.func15, Tryd.ntmps15
  go_wp2
  go_loopw [3, 4, 5, 6] (fun va vb vf vk wr => ∃ (k : Nat) (A B : ByteArray) (f : Bool), vk = .int .i64 k ∧ va = .string A ∧ vb = .string B ∧ vf = .bool f ∧ k ≤ s.length ∧ A.size ≤ 1000000 ∧ B.size ≤ 1000000 ∧ Hid (A = mkB (40 :: bareF (s.take k))) ∧ Hid (B = mkB (60 :: hexF (s.take k))) ∧ Hid (f = readF (s.take k)) ∧ Hid (Below w.heap.size w wr)) (fun _ _ _ vk _ => s.length - (intOf vk).toNat)
  case atStart => exact ⟨0, _, _, true, rfl, rfl, rfl, rfl, Nat.zero_le _, by decide, by decide, Lib.hid rfl, Lib.hid rfl, Lib.hid rfl, Below.refl _ _⟩
  case round =>
    obtain ⟨k, A, B, f, rfl, rfl, rfl, rfl, hk, hA, hB, HA, HBB, HF, HB⟩ := hrel
    by_cases q1 : k < s.length
    case neg =>
      have hd1 : decide (k < s.length) = false := decide_eq_false q1
      have hd2 : decide ((k : Int) < (s.length : Int)) = false := decide_eq_false (by omega)
      have hq2 : ¬ (k : Int) < (s.length : Int) := by omega
      have hf := HF.out
      have htk : s.take k = s := List.take_of_length_le (by omega)
      rw [htk] at hf
      cases f with
      | true =>
        have HX := Lib.hid (show A ++ ⟨#[41]⟩ = R by
          rw [HR.out, HA.out, htk]
          unfold textF
          rw [if_pos hf.symm, show (⟨#[41]⟩ : ByteArray) = mkB [41] from rfl, mkB_app]; rfl)
        clear HR HA HBB HF hf htk
        go_wp2
        go_ret
        exact ⟨by rw [← HX.out]; rfl, HB.out⟩
      | false =>
        have HX := Lib.hid (show B ++ ⟨#[62]⟩ = R by
          rw [HR.out, HBB.out, htk]
          unfold textF
          rw [if_neg (by rw [← hf]; decide), show (⟨#[62]⟩ : ByteArray) = mkB [62] from rfl, mkB_app]; rfl)
        clear HR HA HBB HF hf htk
        go_wp2
        go_ret
        exact ⟨by rw [← HX.out]; rfl, HB.out⟩
    have hd1 : decide (k < s.length) = true := decide_eq_true q1
    have hd2 : decide ((k : Int) < (s.length : Int)) = true := decide_eq_true (by omega)
    have hk0 : (0 : Int) ≤ (k : Int) := by omega
    have hk1 : (k : Int) < (s.length : Int) := by omega
    have hk2 : k < (mkB s).size := by omega
    have hk3 : (k : Int) + 1 ≤ (s.length : Int) := by omega
    have hk4 : k + 1 ≤ (mkB s).size := by omega
    have hkw : IntKind.i64.wrap ((k : Int) + 1) = (k : Int) + 1 := IntWalk.i64_in _ (by omega)
    obtain ⟨c, hc⟩ : ∃ c, c = s[k]'q1 := ⟨_, rfl⟩
    have hcs : s[k]? = some c := by rw [hc]; exact List.getElem?_eq_getElem q1
    obtain ⟨n, hn⟩ : ∃ n, n = c.toNat := ⟨_, rfl⟩
    have hat : ((mkB s)[k]'hk2).toNat = n := by rw [hn, hc]; exact at_mkB q1 hk2
    have hext := ext_one hcs
    have HH := Lib.hid (fun W => rhex13 c W)
    rw [← hn] at HH
    have hT := bareF_take hcs
    have hT2 := hexF_take hcs
    have hT3 := readF_take hcs
    have hbr : brF c = if n = 40 ∨ n = 41 ∨ n = 92 then [92, c] else [c] := by unfold brF; rw [hn]; simp only [eqn 40, eqn 41, eqn 92]; rfl
    have hbn : (mkB (40 :: bareF (s.take (k + 1)))).size ≤ 1000000 := by
      have h1 := bareF_len (s.take (k + 1))
      rw [List.length_take] at h1
      rw [mkB_size]
      simp
      omega
    have hbn2 : (mkB (60 :: hexF (s.take (k + 1)))).size ≤ 1000000 := by
      have h1 := hexF_len (s.take (k + 1))
      rw [List.length_take] at h1
      rw [mkB_size]
      simp
      omega
    have HBN := Lib.hid hbn
    have HBN2 := Lib.hid hbn2
    have HC1 := Lib.hid (show brF c = [c] → A ++ mkB [c] = mkB (40 :: bareF (s.take (k + 1))) from fun h => by rw [hT, h, HA.out, mkB_app]; rfl)
    have HC2 := Lib.hid (show brF c = [92, c] → A ++ ⟨#[92]⟩ ++ mkB [c] = mkB (40 :: bareF (s.take (k + 1))) from fun h => by
      rw [hT, h, HA.out, show (⟨#[92]⟩ : ByteArray) = mkB [92] from rfl, mkB_app, mkB_app]
      simp)
    have HC3 := Lib.hid (show B ++ mkB (hexB c) = mkB (60 :: hexF (s.take (k + 1))) by rw [hT2, HBB.out, mkB_app]; rfl)
    have HF2 := Lib.hid (show readF (s.take (k + 1)) = (f && (decide (32 ≤ n) && decide (n ≤ 126))) by rw [hT3, ← HF.out, ← hn])
    have hos : A.size + 2 ≤ 9223372036854775807 := by omega
    have HBR := Lib.hid hbr
    have hhs : (mkB (hexB c)).size = 2 := by rw [mkB_size]; rfl
    have hcz : (mkB [c]).size = 1 := rfl
    clear hT hT2 hT3 hbr hbn hbn2 hcs hc hn HA HBB HF
    generalize mkB (hexB c) = HX at *
    generalize mkB [c] = CX at *
    by_cases h1 : n = 40
    · subst h1
      have HCC := Lib.hid (HC2.out (by rw [HBR.out, if_pos (.inl rfl)]))
      have HFF := Lib.hid (show f = readF (s.take (k + 1)) by rw [HF2.out]; cases f <;> rfl)
      clear HBR HC1 HC2 HF2
      cases f
      all_goals
        go_wp2_with (go_at_call 30; refine (HH.out _).mono ?_; rintro e w' ⟨rfl, q, rfl⟩)
        go_roundw
        case rel => exact ⟨k + 1, _, _, _, by go_num, rfl, rfl, rfl, by omega, by rw [HCC.out]; exact HBN.out, by rw [HC3.out]; exact HBN2.out, HCC, HC3, HFF, Lib.hid (below_drewN HB.out _)⟩
        case measure => simp [intOf]; omega
    have b40 : ((n : Int) == 40) = false := by rw [beq_eq_false_iff_ne]; omega
    have b40n : (n == 40) = false := by rw [beq_eq_false_iff_ne]; exact h1
    
    by_cases h2 : n = 41
    · subst h2
      have HCC := Lib.hid (HC2.out (by rw [HBR.out, if_pos (.inr (.inl rfl))]))
      have HFF := Lib.hid (show f = readF (s.take (k + 1)) by rw [HF2.out]; cases f <;> rfl)
      clear HBR HC1 HC2 HF2
      cases f
      all_goals
        go_wp2_with (go_at_call 30; refine (HH.out _).mono ?_; rintro e w' ⟨rfl, q, rfl⟩)
        go_roundw
        case rel => exact ⟨k + 1, _, _, _, by go_num, rfl, rfl, rfl, by omega, by rw [HCC.out]; exact HBN.out, by rw [HC3.out]; exact HBN2.out, HCC, HC3, HFF, Lib.hid (below_drewN HB.out _)⟩
        case measure => simp [intOf]; omega
    have b41 : ((n : Int) == 41) = false := by rw [beq_eq_false_iff_ne]; omega
    have b41n : (n == 41) = false := by rw [beq_eq_false_iff_ne]; exact h2
    
    by_cases h3 : n = 92
    · subst h3
      have HCC := Lib.hid (HC2.out (by rw [HBR.out, if_pos (.inr (.inr rfl))]))
      have HFF := Lib.hid (show f = readF (s.take (k + 1)) by rw [HF2.out]; cases f <;> rfl)
      clear HBR HC1 HC2 HF2
      cases f
      all_goals
        go_wp2_with (go_at_call 30; refine (HH.out _).mono ?_; rintro e w' ⟨rfl, q, rfl⟩)
        go_roundw
        case rel => exact ⟨k + 1, _, _, _, by go_num, rfl, rfl, rfl, by omega, by rw [HCC.out]; exact HBN.out, by rw [HC3.out]; exact HBN2.out, HCC, HC3, HFF, Lib.hid (below_drewN HB.out _)⟩
        case measure => simp [intOf]; omega
    have b92 : ((n : Int) == 92) = false := by rw [beq_eq_false_iff_ne]; omega
    have b92n : (n == 92) = false := by rw [beq_eq_false_iff_ne]; exact h3
    have HCC := Lib.hid (HC1.out (by rw [HBR.out, if_neg (by omega)]))
    clear h1 h2 h3
    cases f with
    | false =>
      have HFF := Lib.hid (show false = readF (s.take (k + 1)) by rw [HF2.out, Bool.false_and])
      clear HBR HC1 HC2 HF2
      go_wp2_with (go_at_call 30; refine (HH.out _).mono ?_; rintro e w' ⟨rfl, q, rfl⟩)
      go_roundw
      case rel => exact ⟨k + 1, _, _, _, by go_num, rfl, rfl, rfl, by omega, by rw [HCC.out]; exact HBN.out, by rw [HC3.out]; exact HBN2.out, HCC, HC3, HFF, Lib.hid (below_drewN HB.out _)⟩
      case measure => simp [intOf]; omega
    | true =>
      by_cases g1 : n < 32
      · have d1 : decide (32 ≤ n) = false := decide_eq_false (by omega)
        have d1' : decide ((32 : Int) ≤ (n : Int)) = false := decide_eq_false (by omega)
        have HFF := Lib.hid (show false = readF (s.take (k + 1)) by rw [HF2.out, d1]; rfl)
        clear HBR HC1 HC2 HF2 g1
        go_wp2_with (go_at_call 30; refine (HH.out _).mono ?_; rintro e w' ⟨rfl, q, rfl⟩)
        go_roundw
        case rel => exact ⟨k + 1, _, _, _, by go_num, rfl, rfl, rfl, by omega, by rw [HCC.out]; exact HBN.out, by rw [HC3.out]; exact HBN2.out, HCC, HC3, HFF, Lib.hid (below_drewN HB.out _)⟩
        case measure => simp [intOf]; omega
      have d1 : decide (32 ≤ n) = true := decide_eq_true (by omega)
      have d1' : decide ((32 : Int) ≤ (n : Int)) = true := decide_eq_true (by omega)
      by_cases g2 : 126 < n
      · have d2 : decide (n ≤ 126) = false := decide_eq_false (by omega)
        have d2' : decide ((n : Int) ≤ 126) = false := decide_eq_false (by omega)
        have HFF := Lib.hid (show false = readF (s.take (k + 1)) by rw [HF2.out, d2, Bool.and_false, Bool.and_false])
        clear HBR HC1 HC2 HF2 g1 g2
        go_wp2_with (go_at_call 30; refine (HH.out _).mono ?_; rintro e w' ⟨rfl, q, rfl⟩)
        go_roundw
        case rel => exact ⟨k + 1, _, _, _, by go_num, rfl, rfl, rfl, by omega, by rw [HCC.out]; exact HBN.out, by rw [HC3.out]; exact HBN2.out, HCC, HC3, HFF, Lib.hid (below_drewN HB.out _)⟩
        case measure => simp [intOf]; omega
      have d2 : decide (n ≤ 126) = true := decide_eq_true (by omega)
      have d2' : decide ((n : Int) ≤ 126) = true := decide_eq_true (by omega)
      have HFF := Lib.hid (show true = readF (s.take (k + 1)) by rw [HF2.out, d1, d2]; rfl)
      clear HBR HC1 HC2 HF2 g1 g2
      go_wp2_with (go_at_call 30; refine (HH.out _).mono ?_; rintro e w' ⟨rfl, q, rfl⟩)
      go_roundw
      case rel => exact ⟨k + 1, _, _, _, by go_num, rfl, rfl, rfl, by omega, by rw [HCC.out]; exact HBN.out, by rw [HC3.out]; exact HBN2.out, HCC, HC3, HFF, Lib.hid (below_drewN HB.out _)⟩
      case measure => simp [intOf]; omega
end Go.Proofs.YtnkodejgiabamaaDoor
/-
  The law ShowTexts, walked.
-/
namespace Go.Proofs.YtnkodejgiabamaaDoor
open Go.RowKit

set_option maxRecDepth 8000 in
set_option maxHeartbeats 4000000 in
theorem law_stexts (S : ByteArray) (w : World) (hS : S.size ≤ 9223372036854775807) : Calls Tryd.prog 5 #[.string S] w fun e w' => e = .returned (.bool true) ∧ Below w.heap.size w w' := by
  obtain ⟨s, hs⟩ : ∃ s, S = mkB s := ⟨S.data.toList, rfl⟩
  have hsz : S.size = s.length := by rw [hs]; exact mkB_size s
  have hszi : (S.size : Int) = s.length := by rw [hsz]
  have hS2 : (s.length : Int) ≤ 9223372036854775807 := by omega
  clear hS
  have HW := Lib.hid (fun W => works13 W)
  by_cases hbig : 300 < s.length
  · have hb2 : decide (300 < s.length) = true := decide_eq_true hbig
    have hb3 : decide ((300 : Int) < s.length) = true := decide_eq_true (by omega)
    clear hbig hs
    go_enter Tryd.func5, Tryd.ntmps5
    go_wp2_with (go_at_call 7; refine (HW.out _).mono ?_; rintro e w' ⟨rfl, hb⟩)
    go_ret
    exact ⟨rfl, hb⟩
  have hb2 : decide (300 < s.length) = false := decide_eq_false hbig
  have hb3 : decide ((300 : Int) < s.length) = false := decide_eq_false (by omega)
  have HA := Lib.hid (fun W => showName_any s W (by omega))
  have HB := Lib.hid (fun W => rname13 s W (by omega))
  have HC := Lib.hid (fun W => showText_any s W (by omega))
  have HD := Lib.hid (fun W => rtext13 s W (by omega))
  rw [← hs] at HA HB HC HD
  generalize showV (.mk 5 0 s []) = R at *
  obtain ⟨t, er⟩ := R
  simp only at HA HB
  generalize mkB t = T at *
  generalize mkB (textF s) = X at *
  clear hbig hs
  have h1 : (T.toList == T.toList) = true := beq_self_eq_true _
  have h2 : (X.toList == X.toList) = true := beq_self_eq_true _
  go_enter Tryd.func5, Tryd.ntmps5
  go_wp2_with (first
    | (go_at_call 12; refine (HA.out _).mono ?_; rintro e w1 ⟨rfl, hb1⟩; have HB1 := Lib.hid hb1; clear hb1)
    | (go_at_call 13; refine (HB.out _).mono ?_; rintro e w2 ⟨rfl, hb2'⟩; have HB2 := Lib.hid (HB1.out.trans (hb2'.mono HB1.out.size)); clear hb2')
    | (go_at_call 14; refine (HC.out _).mono ?_; rintro e w3 ⟨rfl, hb3'⟩; have HB3 := Lib.hid (HB2.out.trans (hb3'.mono HB2.out.size)); clear hb3')
    | (go_at_call 15; refine (HD.out _).mono ?_; rintro e w4 ⟨rfl, hb4'⟩; have HB4 := Lib.hid (HB3.out.trans (hb4'.mono HB3.out.size)); clear hb4')
    | (go_at_call 7; refine (HW.out _).mono ?_; rintro e w5 ⟨rfl, hb5'⟩; have HB5 := Lib.hid (HB4.out.trans (hb5'.mono HB4.out.size)); clear hb5'))
  go_ret
  exact ⟨rfl, HB5.out⟩
end Go.Proofs.YtnkodejgiabamaaDoor
/-
  What the given frame tells of an argument, in our words: a text, a value, a number; a world in which two tables are laid.
-/
namespace Go.Proofs.YtnkodejgiabamaaDoor
open Go.ChangeShapes Go.WideShapes Go.Joins Go.RowKit

section
variable {H : Type} {enc : TypeId × Value → H} {w : World} {base : Nat} {spare : Nat → Bool} {held : Bool}

set_option maxRecDepth 100000 in
theorem str_arg {r : Reach} {b0 : Nat} {v : Value} {d : DataW H} {p : List MemPlace} (hv : Value.okWide Tryd.prog w r b0 9 v) (h : DataW.Trod enc Tryd.prog w base spare held 9 v d p) : ∃ s : ByteArray, v = .string s ∧ s.size ≤ 9223372036854775807 := by
  obtain ⟨s, rfl, rfl, rfl, hs⟩ := Go.ChangeMaps.open_string Tryd.underlying9 hv h
  exact ⟨s, rfl, by unfold maxLen at hs; omega⟩
set_option maxRecDepth 100000 in
theorem int_arg {r : Reach} {b0 : Nat} {v : Value} {d : DataW H} {p : List MemPlace} (hv : Value.okWide Tryd.prog w r b0 3 v) (h : DataW.Trod enc Tryd.prog w base spare held 3 v d p) : ∃ n : Int, v = .int .i64 n ∧ -9223372036854775808 ≤ n ∧ n ≤ 9223372036854775807 := by
  obtain ⟨n, rfl, rfl, rfl, hw⟩ := open_int Tryd.underlying3 hv h
  have := wf_i64_bd hw
  exact ⟨n, rfl, this.1, this.2⟩
set_option maxRecDepth 100000 in
theorem val_arg {r : Reach} {b0 : Nat} {v : Value} {d : DataW H} {p : List MemPlace} (hv : Value.okWide Tryd.prog w r b0 24 v) (h : DataW.Trod enc Tryd.prog w base spare held 24 v d p) :
    ∃ (k n : Int) (s : ByteArray) (a : Option Addr) (m c : Nat), v = .agg #[.int .i64 k, .int .i64 n, .string s, .slice a m c] ∧ -9223372036854775808 ≤ n ∧ n ≤ 9223372036854775807 ∧ (m : Int) ≤ 9223372036854775807 := by
  obtain ⟨c0, c1, c2, c3, y0, y1, y2, y3, f, rfl, _, _, h0, h1, h2, h3⟩ := open_agg4 Tryd.underlying24 (by kernel_rfl) (by kernel_rfl) hv h
  obtain ⟨z0, e0, _, w0⟩ := DataW.trod_int Tryd.underlying3 h0
  obtain ⟨z1, e1, _, w1⟩ := DataW.trod_int Tryd.underlying3 h1
  obtain ⟨s, e2, _, _⟩ := DataW.trod_string Tryd.underlying9 h2
  simp at e0 e1 e2
  subst e0 e1 e2
  have b1 := wf_i64_bd w1
  rcases DataW.trod_slice Tryd.underlying22 h3 with ⟨e3, _⟩ | ⟨x, len, cap, _, _, _, _, e3, _, _, hl, hc, _⟩
  · simp at e3
    subst e3
    exact ⟨z0, z1, s, none, 0, 0, rfl, b1.1, b1.2, by omega⟩
  · simp at e3
    subst e3
    exact ⟨z0, z1, s, some x, len, cap, rfl, b1.1, b1.2, by unfold maxLen at hc; omega⟩
end

/-- The two tables as cells. -/
def tabF : Array Value := (Go.Pinned.utf8FirstZ.map fun (n : Nat) => Value.int .u8 n).toArray
def tabA : Array Value := ([128, 191, 160, 191, 128, 159, 144, 191, 128, 143, 0, 0, 0, 0, 0, 0, 0, 0, 0, 0, 0, 0, 0, 0, 0, 0, 0, 0, 0, 0, 0, 0].map fun (n : Nat) => Value.int .u8 n).toArray
def layS1 (w : World) (g : Nat) (cs : Array Value) : World := { w with heap := w.heap.modify g fun
      | .cells _ t frozen => .cells cs t frozen
      | o => o }
def layS2 (w : World) : World := layS1 (layS1 w 1 tabF) 2 tabA
end Go.Proofs.YtnkodejgiabamaaDoor
