/-
  Our texts LexV3 to Below, in one.
-/
import Derived.Test.YtnkodejgiabamaaGreatPkW15
import Derived.Deep.QuietTactic
import Derived.BigQuiet
/-
  The document's Next, walked: regular bytes, the last ones.
-/
namespace Go.Proofs.YtnkodejgiabamaaGreat
open Go.RowKit

set_option maxRecDepth 8000 in
set_option maxHeartbeats 8000000 in
theorem rnext_digit_end {w : World} {a : Option Addr} {cap : Nat} {bs : List UInt8} (hr : Row w 1 a bs.length cap (bs.map u8C)) (hn : bs.length ≤ 100000) {k : Int} (last : Bool) (hk0 : 0 ≤ k) (hk1 : k ≤ bs.length) {f : Nat} (hf : skipV bs k = f) (hfl : f < bs.length) {V : Tk × Int × Int × Int} (hV : V = nextF bs f last) (hreg : isRg (bs.getD f 0) = true) (h1 : f + runN (bs.drop f) = bs.length) (hla : last = true) (hd : 48 ≤ (bs.getD f 0).toNat ∧ (bs.getD f 0).toNat ≤ 57) :
    Calls Tryz.prog 15 #[.slice a bs.length cap, .int .i64 k, .bool last] w (NextEnd w V) := by
  have HT := Lib.hid (show tokV last (bs.getD f 0) (bs.drop (f + 1)) = _ from tokV_reg (X := ⟨none, 0, bs, last⟩) (k := f) hfl hreg)
  have hnl : ¬ (runN ((⟨none, 0, bs, last⟩ : Src).bs.drop f) = ((⟨none, 0, bs, last⟩ : Src).bs.drop f).length ∧ (⟨none, 0, bs, last⟩ : Src).last = false) := by
    show ¬ (runN (bs.drop f) = (bs.drop f).length ∧ last = false)
    rw [List.length_drop]
    rw [hla]; simp
  have hnum : (isDg (bs.getD f 0) = true ∨ bs.getD f 0 = 43 ∨ bs.getD f 0 = 45 ∨ bs.getD f 0 = 46) := by
    exact .inl (by unfold isDg; simp; exact hd)
  have ht := HT.out
  unfold rgV at ht
  rw [if_neg hnl, if_pos hnum] at ht
  rw [List.drop_drop] at ht
  clear HT hnl hnum
  obtain ⟨P, hP⟩ : ∃ P, parseV (regs (bs.drop f)) = P := ⟨_, rfl⟩
  have ht2 : tokV last (bs.getD f 0) (bs.drop (f + 1)) = (P.2.2, { kind := 1, vk := P.1, vn := P.2.1 }, bs.drop (f + runN (bs.drop f))) := by rw [← hP]; exact ht
  have HP := Lib.hid hP
  have HT := Lib.hid ht2
  clear ht ht2 hP
  have HVV := Lib.hid hV
  have HFL := Lib.hid hfl
  subst hla
  have hdl : isDl (bs.getD f 0) = false := by
    have h := hreg
    unfold isRg at h
    cases hh : isDl (bs.getD f 0) with
    | false => rfl
    | true => rw [hh] at h; simp at h
  have n91 : bs.getD f 0 ≠ 91 := fun e => by rw [e] at hreg; exact absurd hreg (by decide)
  have n93 : bs.getD f 0 ≠ 93 := fun e => by rw [e] at hreg; exact absurd hreg (by decide)
  have n60 : bs.getD f 0 ≠ 60 := fun e => by rw [e] at hreg; exact absurd hreg (by decide)
  have n62 : bs.getD f 0 ≠ 62 := fun e => by rw [e] at hreg; exact absurd hreg (by decide)
  have n40 : bs.getD f 0 ≠ 40 := fun e => by rw [e] at hreg; exact absurd hreg (by decide)
  have n47 : bs.getD f 0 ≠ 47 := fun e => by rw [e] at hreg; exact absurd hreg (by decide)
  have e91 := u8_ne n91 91 rfl
  have e93 := u8_ne n93 93 rfl
  have e60 := u8_ne n60 60 rfl
  have e62 := u8_ne n62 62 rfl
  have e40 := u8_ne n40 40 rfl
  have e47 := u8_ne n47 47 rfl
  obtain ⟨b, off, ha, hbW, hc⟩ := hr.at 0 f hfl
  subst ha
  unfold u8C at hc
  have HRW := Lib.hid hr
  have HC := Lib.hid hc
  have hcap := hr.2.1
  have hcm := hr.i64c
  have hkd : decide (k < 0) = false := decide_eq_false (by omega)
  have hkd2 : decide ((bs.length : Int) < k) = false := decide_eq_false (by omega)
  have HS := Lib.hid (fun (W : World) (h : Below w.heap.size w W) => rskip_any (HRW.out.mono h) hn k)
  rw [hf] at HS
  have hrl := runN_le (bs.drop f)
  rw [List.length_drop] at hrl
  have HRN := Lib.hid (fun (W : World) (h : Below w.heap.size w W) => rrun_any (HRW.out.mono h) hn f (by omega))
  obtain ⟨R, hR⟩ : ∃ R, R = f + runN (bs.drop f) := ⟨_, rfl⟩
  rw [← hR] at HRN
  have HRR := Lib.hid hR
  have HRL := Lib.hid (show R ≤ bs.length by omega)
  have hff : ((f : Int) == (bs.length : Int)) = false := by rw [beq_eq_false_iff_ne]; omega
  have hffn : decide (f = bs.length) = false := decide_eq_false (by omega)
  have hfi : (f : Int) < bs.length := by omega
  have hf9 : f ≤ 99999 := by omega
  obtain ⟨r, hrr⟩ : ∃ r, r = w.heap.size := ⟨_, rfl⟩
  have HRE := Lib.hid hrr
  have HZ := Lib.hid (show (w.alloc (.cells #[.int .i64 0, .int .i64 0, .int .i64 0, .int .i64 0, .int .i64 0, .string ⟨#[]⟩, .slice none 0 0, .string ⟨#[]⟩] 50)).heap[r]? = some (.cells #[.int .i64 0, .int .i64 0, .int .i64 0, .int .i64 0, .int .i64 0, .string ⟨#[]⟩, .slice none 0 0, .string ⟨#[]⟩] 50 (0, 0)) from heapA_new _ hrr)
  have HB0 := Lib.hid (belowA w (.cells #[.int .i64 0, .int .i64 0, .int .i64 0, .int .i64 0, .int .i64 0, .string ⟨#[]⟩, .slice none 0 0, .string ⟨#[]⟩] 50))
  have hcf := hc f hfl
  obtain ⟨x, hx⟩ : ∃ x, (bs.getD f 0).toNat = x := ⟨_, rfl⟩
  rw [hx] at hcf
  have HDL := Lib.hid (fun W => rdelim_any (bs.getD f 0).toNat W)
  rw [← dlI_eq, hdl] at HDL
  rw [hx] at HDL e91 e93 e60 e62 e40 e47
  clear n91 n93 n60 n62 n40 n47 hdl hreg
  rw [← hR] at HT
  have hRt : (bs.drop f).take (R - f) = regs (bs.drop f) := by rw [regs_take, hR, Nat.add_sub_cancel_left]
  have HRT := Lib.hid hRt
  have hrt := runN_le (bs.drop f)
  have hRf : f ≤ R := by omega
  have hRl2 : R ≤ bs.length := HRL.out
  have hcf1 : ¬ cap = f := by omega
  have HRlen := Lib.hid (show (regs (bs.drop f)).length ≤ 100000 by show runN _ ≤ _; omega)
  clear hRt hrt
  rw [hx] at hd
  have d1 : decide ((48 : Int) ≤ x) = true := decide_eq_true (by omega)
  have d2 : decide ((x : Int) ≤ 57) = true := decide_eq_true (by omega)
  clear hd
  obtain rfl : R = bs.length := hR.trans h1
  clear h1
  clear hr hf hR hrr hrl hk0 hk1 hc hV hx
  go_enter Tryz.func15, Tryz.ntmps15
  go_wp2_with fail
  refine (HS.out _ HB0.out).mono ?_
  rintro e w' ⟨rfl, rfl⟩
  rw [← HRE.out]
  generalize w.alloc _ = W1 at *
  have hcj1 := cell?_keep HB0.out hcf
  have hcj := cell?_keep (HB0.out.alloc HB0.out.size (.cells #[.int .i64 0, .int .i64 f, .int .i64 f, .int .i64 0, .int .i64 0, .string ⟨#[]⟩, .slice none 0 0, .string ⟨#[]⟩] 50)) hcf
  have hbn : ¬ b = W1.heap.size := by have := HB0.out.size; omega
  have hbl : b < W1.heap.size := by have := HB0.out.size; omega
  have HX := Lib.hid (show Rx w r W1.heap.size f (W1.alloc (.cells #[.int .i64 0, .int .i64 f, .int .i64 f, .int .i64 0, .int .i64 0, .string ⟨#[]⟩, .slice none 0 0, .string ⟨#[]⟩] 50)) from ⟨heapA_old _ HZ.out, heapA_new _ rfl, HB0.out.alloc HB0.out.size _, by rw [HRE.out]; exact Nat.le_refl _⟩)
  clear hcf
  go_wp2_with fail
  refine (HRN.out _ HX.out.bel).mono ?_
  rintro e w' ⟨rfl, rfl⟩
  clear hcj1 hcj hbn hbl
  generalize W1.alloc _ = W2 at *
  generalize W1.heap.size = p at *
  clear HZ HB0
  have hcv : (convert 22 9 (.slice (some ⟨b, off + f, none⟩) (bs.length - f) (cap - f))).run Tryz.prog W2 = .ok (.string (mkB ((bs.drop f).take (bs.length - f)))) W2 := conv_bytes (X := ⟨none, 0, bs, true⟩) HC.out f (bs.length - f) (by have := HRL.out; show f + _ ≤ bs.length; omega) W2 HX.out.bel
  rw [HRT.out] at hcv
  obtain ⟨s, hs⟩ : ∃ s, mkB (regs (bs.drop f)) = s := ⟨_, rfl⟩
  have hsb : bl s = regs (bs.drop f) := by rw [← hs]; rfl
  have HPA := Lib.hid (rparse_any s W2 (by rw [← bl_len, hsb]; exact HRlen.out))
  rw [hsb, HP.out] at HPA
  rw [hs] at hcv
  unfold ParseEnd valC noStr at HPA
  clear hs hsb
  go_wp2_with (go_at_call 32; refine (HDL.out _).mono ?_; rintro e w' ⟨rfl, rfl⟩)
  refine HPA.out.mono ?_
  rintro e w3 ⟨rfl, hb3⟩
  have HX3 := Lib.hid ((HX.out.on hb3).alloc (.cells #[.int .i64 P.1, .int .i64 P.2.1, .string ⟨#[]⟩, .slice none 0 0] 26))
  clear hb3 hcv HPA
  by_cases her : P.2.2 = 0
  · have HV := Lib.hid (HVV.out.trans (nextF_ok HFL.out rfl (x := { kind := 1, vk := P.1, vn := P.2.1 }) (j := bs.length) (by rw [HT.out, her]) HRL.out))
    rw [her]
    clear her
    obtain ⟨⟨k0, k1, k2, k3, k4, k5, k6, k7⟩, m0, m1, m2, m3, m4, m5, m6, m7⟩ := cells8 HX3.out.blk
    obtain ⟨⟨n0, n1, n2, n3, n4, n5, n6, n7⟩, -⟩ := cells8 HX3.out.no
    go_wp2
    refine bodyPost_ret (results_val rfl _ _ r 50 _ (0, 0) _ rfl (set8 HX3.out.blk _ _ _ _ _ _ _ _) Tryz.underlying50 rfl infoRTok _ rfl) rfl ?_
    exact next_fin (x := { kind := 1, vk := P.1, vn := P.2.1 }) HX3.out.bel HX3.out.wr HV.out _ _ _ _ _ _ _ _
  · have HV := Lib.hid (HVV.out.trans (nextF_no (e := P.2.2) HFL.out rfl (by rw [HT.out]) her))
    have er1 : (P.2.2 == 0) = false := by rw [beq_eq_false_iff_ne]; exact her
    have er2 : (P.2.2 != 0) = true := by simp only [bne, er1, Bool.not_false]
    clear her
    obtain ⟨⟨k0, k1, k2, k3, k4, k5, k6, k7⟩, m0, m1, m2, m3, m4, m5, m6, m7⟩ := cells8 HX3.out.blk
    obtain ⟨⟨n0, n1, n2, n3, n4, n5, n6, n7⟩, -⟩ := cells8 HX3.out.no
    go_wp2
    refine bodyPost_ret (results_val rfl _ _ r 50 _ (0, 0) _ rfl (set8 HX3.out.blk _ _ _ _ _ _ _ _) Tryz.underlying50 rfl infoRTok _ rfl) rfl ?_
    exact next_fin (x := { kind := 0 }) HX3.out.bel HX3.out.wr HV.out _ _ _ _ _ _ _ _
set_option maxRecDepth 8000 in
set_option maxHeartbeats 8000000 in
theorem rnext_43_end {w : World} {a : Option Addr} {cap : Nat} {bs : List UInt8} (hr : Row w 1 a bs.length cap (bs.map u8C)) (hn : bs.length ≤ 100000) {k : Int} (last : Bool) (hk0 : 0 ≤ k) (hk1 : k ≤ bs.length) {f : Nat} (hf : skipV bs k = f) (hfl : f < bs.length) {V : Tk × Int × Int × Int} (hV : V = nextF bs f last) (hreg : isRg (bs.getD f 0) = true) (h1 : f + runN (bs.drop f) = bs.length) (hla : last = true) (hc0 : bs.getD f 0 = 43) :
    Calls Tryz.prog 15 #[.slice a bs.length cap, .int .i64 k, .bool last] w (NextEnd w V) := by
  have HT := Lib.hid (show tokV last (bs.getD f 0) (bs.drop (f + 1)) = _ from tokV_reg (X := ⟨none, 0, bs, last⟩) (k := f) hfl hreg)
  have hnl : ¬ (runN ((⟨none, 0, bs, last⟩ : Src).bs.drop f) = ((⟨none, 0, bs, last⟩ : Src).bs.drop f).length ∧ (⟨none, 0, bs, last⟩ : Src).last = false) := by
    show ¬ (runN (bs.drop f) = (bs.drop f).length ∧ last = false)
    rw [List.length_drop]
    rw [hla]; simp
  have hnum : (isDg (bs.getD f 0) = true ∨ bs.getD f 0 = 43 ∨ bs.getD f 0 = 45 ∨ bs.getD f 0 = 46) := by
    exact .inr (.inl hc0)
  have ht := HT.out
  unfold rgV at ht
  rw [if_neg hnl, if_pos hnum] at ht
  rw [List.drop_drop] at ht
  clear HT hnl hnum
  obtain ⟨P, hP⟩ : ∃ P, parseV (regs (bs.drop f)) = P := ⟨_, rfl⟩
  have ht2 : tokV last (bs.getD f 0) (bs.drop (f + 1)) = (P.2.2, { kind := 1, vk := P.1, vn := P.2.1 }, bs.drop (f + runN (bs.drop f))) := by rw [← hP]; exact ht
  have HP := Lib.hid hP
  have HT := Lib.hid ht2
  clear ht ht2 hP
  have HVV := Lib.hid hV
  have HFL := Lib.hid hfl
  subst hla
  have hdl : isDl (bs.getD f 0) = false := by
    have h := hreg
    unfold isRg at h
    cases hh : isDl (bs.getD f 0) with
    | false => rfl
    | true => rw [hh] at h; simp at h
  have n91 : bs.getD f 0 ≠ 91 := fun e => by rw [e] at hreg; exact absurd hreg (by decide)
  have n93 : bs.getD f 0 ≠ 93 := fun e => by rw [e] at hreg; exact absurd hreg (by decide)
  have n60 : bs.getD f 0 ≠ 60 := fun e => by rw [e] at hreg; exact absurd hreg (by decide)
  have n62 : bs.getD f 0 ≠ 62 := fun e => by rw [e] at hreg; exact absurd hreg (by decide)
  have n40 : bs.getD f 0 ≠ 40 := fun e => by rw [e] at hreg; exact absurd hreg (by decide)
  have n47 : bs.getD f 0 ≠ 47 := fun e => by rw [e] at hreg; exact absurd hreg (by decide)
  have e91 := u8_ne n91 91 rfl
  have e93 := u8_ne n93 93 rfl
  have e60 := u8_ne n60 60 rfl
  have e62 := u8_ne n62 62 rfl
  have e40 := u8_ne n40 40 rfl
  have e47 := u8_ne n47 47 rfl
  obtain ⟨b, off, ha, hbW, hc⟩ := hr.at 0 f hfl
  subst ha
  unfold u8C at hc
  have HRW := Lib.hid hr
  have HC := Lib.hid hc
  have hcap := hr.2.1
  have hcm := hr.i64c
  have hkd : decide (k < 0) = false := decide_eq_false (by omega)
  have hkd2 : decide ((bs.length : Int) < k) = false := decide_eq_false (by omega)
  have HS := Lib.hid (fun (W : World) (h : Below w.heap.size w W) => rskip_any (HRW.out.mono h) hn k)
  rw [hf] at HS
  have hrl := runN_le (bs.drop f)
  rw [List.length_drop] at hrl
  have HRN := Lib.hid (fun (W : World) (h : Below w.heap.size w W) => rrun_any (HRW.out.mono h) hn f (by omega))
  obtain ⟨R, hR⟩ : ∃ R, R = f + runN (bs.drop f) := ⟨_, rfl⟩
  rw [← hR] at HRN
  have HRR := Lib.hid hR
  have HRL := Lib.hid (show R ≤ bs.length by omega)
  have hff : ((f : Int) == (bs.length : Int)) = false := by rw [beq_eq_false_iff_ne]; omega
  have hffn : decide (f = bs.length) = false := decide_eq_false (by omega)
  have hfi : (f : Int) < bs.length := by omega
  have hf9 : f ≤ 99999 := by omega
  obtain ⟨r, hrr⟩ : ∃ r, r = w.heap.size := ⟨_, rfl⟩
  have HRE := Lib.hid hrr
  have HZ := Lib.hid (show (w.alloc (.cells #[.int .i64 0, .int .i64 0, .int .i64 0, .int .i64 0, .int .i64 0, .string ⟨#[]⟩, .slice none 0 0, .string ⟨#[]⟩] 50)).heap[r]? = some (.cells #[.int .i64 0, .int .i64 0, .int .i64 0, .int .i64 0, .int .i64 0, .string ⟨#[]⟩, .slice none 0 0, .string ⟨#[]⟩] 50 (0, 0)) from heapA_new _ hrr)
  have HB0 := Lib.hid (belowA w (.cells #[.int .i64 0, .int .i64 0, .int .i64 0, .int .i64 0, .int .i64 0, .string ⟨#[]⟩, .slice none 0 0, .string ⟨#[]⟩] 50))
  have hcf := hc f hfl
  obtain ⟨x, hx⟩ : ∃ x, (bs.getD f 0).toNat = x := ⟨_, rfl⟩
  rw [hx] at hcf
  have HDL := Lib.hid (fun W => rdelim_any (bs.getD f 0).toNat W)
  rw [← dlI_eq, hdl] at HDL
  rw [hx] at HDL e91 e93 e60 e62 e40 e47
  clear n91 n93 n60 n62 n40 n47 hdl hreg
  rw [← hR] at HT
  have hRt : (bs.drop f).take (R - f) = regs (bs.drop f) := by rw [regs_take, hR, Nat.add_sub_cancel_left]
  have HRT := Lib.hid hRt
  have hrt := runN_le (bs.drop f)
  have hRf : f ≤ R := by omega
  have hRl2 : R ≤ bs.length := HRL.out
  have hcf1 : ¬ cap = f := by omega
  have HRlen := Lib.hid (show (regs (bs.drop f)).length ≤ 100000 by show runN _ ≤ _; omega)
  clear hRt hrt
  obtain rfl : x = 43 := by rw [← hx, hc0]; rfl
  clear hc0
  obtain rfl : R = bs.length := hR.trans h1
  clear h1
  clear hr hf hR hrr hrl hk0 hk1 hc hV hx
  go_enter Tryz.func15, Tryz.ntmps15
  go_wp2_with fail
  refine (HS.out _ HB0.out).mono ?_
  rintro e w' ⟨rfl, rfl⟩
  rw [← HRE.out]
  generalize w.alloc _ = W1 at *
  have hcj1 := cell?_keep HB0.out hcf
  have hcj := cell?_keep (HB0.out.alloc HB0.out.size (.cells #[.int .i64 0, .int .i64 f, .int .i64 f, .int .i64 0, .int .i64 0, .string ⟨#[]⟩, .slice none 0 0, .string ⟨#[]⟩] 50)) hcf
  have hbn : ¬ b = W1.heap.size := by have := HB0.out.size; omega
  have hbl : b < W1.heap.size := by have := HB0.out.size; omega
  have HX := Lib.hid (show Rx w r W1.heap.size f (W1.alloc (.cells #[.int .i64 0, .int .i64 f, .int .i64 f, .int .i64 0, .int .i64 0, .string ⟨#[]⟩, .slice none 0 0, .string ⟨#[]⟩] 50)) from ⟨heapA_old _ HZ.out, heapA_new _ rfl, HB0.out.alloc HB0.out.size _, by rw [HRE.out]; exact Nat.le_refl _⟩)
  clear hcf
  go_wp2_with fail
  refine (HRN.out _ HX.out.bel).mono ?_
  rintro e w' ⟨rfl, rfl⟩
  clear hcj1 hcj hbn hbl
  generalize W1.alloc _ = W2 at *
  generalize W1.heap.size = p at *
  clear HZ HB0
  have hcv : (convert 22 9 (.slice (some ⟨b, off + f, none⟩) (bs.length - f) (cap - f))).run Tryz.prog W2 = .ok (.string (mkB ((bs.drop f).take (bs.length - f)))) W2 := conv_bytes (X := ⟨none, 0, bs, true⟩) HC.out f (bs.length - f) (by have := HRL.out; show f + _ ≤ bs.length; omega) W2 HX.out.bel
  rw [HRT.out] at hcv
  obtain ⟨s, hs⟩ : ∃ s, mkB (regs (bs.drop f)) = s := ⟨_, rfl⟩
  have hsb : bl s = regs (bs.drop f) := by rw [← hs]; rfl
  have HPA := Lib.hid (rparse_any s W2 (by rw [← bl_len, hsb]; exact HRlen.out))
  rw [hsb, HP.out] at HPA
  rw [hs] at hcv
  unfold ParseEnd valC noStr at HPA
  clear hs hsb
  go_wp2_with (go_at_call 32; refine (HDL.out _).mono ?_; rintro e w' ⟨rfl, rfl⟩)
  refine HPA.out.mono ?_
  rintro e w3 ⟨rfl, hb3⟩
  have HX3 := Lib.hid ((HX.out.on hb3).alloc (.cells #[.int .i64 P.1, .int .i64 P.2.1, .string ⟨#[]⟩, .slice none 0 0] 26))
  clear hb3 hcv HPA
  by_cases her : P.2.2 = 0
  · have HV := Lib.hid (HVV.out.trans (nextF_ok HFL.out rfl (x := { kind := 1, vk := P.1, vn := P.2.1 }) (j := bs.length) (by rw [HT.out, her]) HRL.out))
    rw [her]
    clear her
    obtain ⟨⟨k0, k1, k2, k3, k4, k5, k6, k7⟩, m0, m1, m2, m3, m4, m5, m6, m7⟩ := cells8 HX3.out.blk
    obtain ⟨⟨n0, n1, n2, n3, n4, n5, n6, n7⟩, -⟩ := cells8 HX3.out.no
    go_wp2
    refine bodyPost_ret (results_val rfl _ _ r 50 _ (0, 0) _ rfl (set8 HX3.out.blk _ _ _ _ _ _ _ _) Tryz.underlying50 rfl infoRTok _ rfl) rfl ?_
    exact next_fin (x := { kind := 1, vk := P.1, vn := P.2.1 }) HX3.out.bel HX3.out.wr HV.out _ _ _ _ _ _ _ _
  · have HV := Lib.hid (HVV.out.trans (nextF_no (e := P.2.2) HFL.out rfl (by rw [HT.out]) her))
    have er1 : (P.2.2 == 0) = false := by rw [beq_eq_false_iff_ne]; exact her
    have er2 : (P.2.2 != 0) = true := by simp only [bne, er1, Bool.not_false]
    clear her
    obtain ⟨⟨k0, k1, k2, k3, k4, k5, k6, k7⟩, m0, m1, m2, m3, m4, m5, m6, m7⟩ := cells8 HX3.out.blk
    obtain ⟨⟨n0, n1, n2, n3, n4, n5, n6, n7⟩, -⟩ := cells8 HX3.out.no
    go_wp2
    refine bodyPost_ret (results_val rfl _ _ r 50 _ (0, 0) _ rfl (set8 HX3.out.blk _ _ _ _ _ _ _ _) Tryz.underlying50 rfl infoRTok _ rfl) rfl ?_
    exact next_fin (x := { kind := 0 }) HX3.out.bel HX3.out.wr HV.out _ _ _ _ _ _ _ _
set_option maxRecDepth 8000 in
set_option maxHeartbeats 8000000 in
theorem rnext_45_end {w : World} {a : Option Addr} {cap : Nat} {bs : List UInt8} (hr : Row w 1 a bs.length cap (bs.map u8C)) (hn : bs.length ≤ 100000) {k : Int} (last : Bool) (hk0 : 0 ≤ k) (hk1 : k ≤ bs.length) {f : Nat} (hf : skipV bs k = f) (hfl : f < bs.length) {V : Tk × Int × Int × Int} (hV : V = nextF bs f last) (hreg : isRg (bs.getD f 0) = true) (h1 : f + runN (bs.drop f) = bs.length) (hla : last = true) (hc0 : bs.getD f 0 = 45) :
    Calls Tryz.prog 15 #[.slice a bs.length cap, .int .i64 k, .bool last] w (NextEnd w V) := by
  have HT := Lib.hid (show tokV last (bs.getD f 0) (bs.drop (f + 1)) = _ from tokV_reg (X := ⟨none, 0, bs, last⟩) (k := f) hfl hreg)
  have hnl : ¬ (runN ((⟨none, 0, bs, last⟩ : Src).bs.drop f) = ((⟨none, 0, bs, last⟩ : Src).bs.drop f).length ∧ (⟨none, 0, bs, last⟩ : Src).last = false) := by
    show ¬ (runN (bs.drop f) = (bs.drop f).length ∧ last = false)
    rw [List.length_drop]
    rw [hla]; simp
  have hnum : (isDg (bs.getD f 0) = true ∨ bs.getD f 0 = 43 ∨ bs.getD f 0 = 45 ∨ bs.getD f 0 = 46) := by
    exact .inr (.inr (.inl hc0))
  have ht := HT.out
  unfold rgV at ht
  rw [if_neg hnl, if_pos hnum] at ht
  rw [List.drop_drop] at ht
  clear HT hnl hnum
  obtain ⟨P, hP⟩ : ∃ P, parseV (regs (bs.drop f)) = P := ⟨_, rfl⟩
  have ht2 : tokV last (bs.getD f 0) (bs.drop (f + 1)) = (P.2.2, { kind := 1, vk := P.1, vn := P.2.1 }, bs.drop (f + runN (bs.drop f))) := by rw [← hP]; exact ht
  have HP := Lib.hid hP
  have HT := Lib.hid ht2
  clear ht ht2 hP
  have HVV := Lib.hid hV
  have HFL := Lib.hid hfl
  subst hla
  have hdl : isDl (bs.getD f 0) = false := by
    have h := hreg
    unfold isRg at h
    cases hh : isDl (bs.getD f 0) with
    | false => rfl
    | true => rw [hh] at h; simp at h
  have n91 : bs.getD f 0 ≠ 91 := fun e => by rw [e] at hreg; exact absurd hreg (by decide)
  have n93 : bs.getD f 0 ≠ 93 := fun e => by rw [e] at hreg; exact absurd hreg (by decide)
  have n60 : bs.getD f 0 ≠ 60 := fun e => by rw [e] at hreg; exact absurd hreg (by decide)
  have n62 : bs.getD f 0 ≠ 62 := fun e => by rw [e] at hreg; exact absurd hreg (by decide)
  have n40 : bs.getD f 0 ≠ 40 := fun e => by rw [e] at hreg; exact absurd hreg (by decide)
  have n47 : bs.getD f 0 ≠ 47 := fun e => by rw [e] at hreg; exact absurd hreg (by decide)
  have e91 := u8_ne n91 91 rfl
  have e93 := u8_ne n93 93 rfl
  have e60 := u8_ne n60 60 rfl
  have e62 := u8_ne n62 62 rfl
  have e40 := u8_ne n40 40 rfl
  have e47 := u8_ne n47 47 rfl
  obtain ⟨b, off, ha, hbW, hc⟩ := hr.at 0 f hfl
  subst ha
  unfold u8C at hc
  have HRW := Lib.hid hr
  have HC := Lib.hid hc
  have hcap := hr.2.1
  have hcm := hr.i64c
  have hkd : decide (k < 0) = false := decide_eq_false (by omega)
  have hkd2 : decide ((bs.length : Int) < k) = false := decide_eq_false (by omega)
  have HS := Lib.hid (fun (W : World) (h : Below w.heap.size w W) => rskip_any (HRW.out.mono h) hn k)
  rw [hf] at HS
  have hrl := runN_le (bs.drop f)
  rw [List.length_drop] at hrl
  have HRN := Lib.hid (fun (W : World) (h : Below w.heap.size w W) => rrun_any (HRW.out.mono h) hn f (by omega))
  obtain ⟨R, hR⟩ : ∃ R, R = f + runN (bs.drop f) := ⟨_, rfl⟩
  rw [← hR] at HRN
  have HRR := Lib.hid hR
  have HRL := Lib.hid (show R ≤ bs.length by omega)
  have hff : ((f : Int) == (bs.length : Int)) = false := by rw [beq_eq_false_iff_ne]; omega
  have hffn : decide (f = bs.length) = false := decide_eq_false (by omega)
  have hfi : (f : Int) < bs.length := by omega
  have hf9 : f ≤ 99999 := by omega
  obtain ⟨r, hrr⟩ : ∃ r, r = w.heap.size := ⟨_, rfl⟩
  have HRE := Lib.hid hrr
  have HZ := Lib.hid (show (w.alloc (.cells #[.int .i64 0, .int .i64 0, .int .i64 0, .int .i64 0, .int .i64 0, .string ⟨#[]⟩, .slice none 0 0, .string ⟨#[]⟩] 50)).heap[r]? = some (.cells #[.int .i64 0, .int .i64 0, .int .i64 0, .int .i64 0, .int .i64 0, .string ⟨#[]⟩, .slice none 0 0, .string ⟨#[]⟩] 50 (0, 0)) from heapA_new _ hrr)
  have HB0 := Lib.hid (belowA w (.cells #[.int .i64 0, .int .i64 0, .int .i64 0, .int .i64 0, .int .i64 0, .string ⟨#[]⟩, .slice none 0 0, .string ⟨#[]⟩] 50))
  have hcf := hc f hfl
  obtain ⟨x, hx⟩ : ∃ x, (bs.getD f 0).toNat = x := ⟨_, rfl⟩
  rw [hx] at hcf
  have HDL := Lib.hid (fun W => rdelim_any (bs.getD f 0).toNat W)
  rw [← dlI_eq, hdl] at HDL
  rw [hx] at HDL e91 e93 e60 e62 e40 e47
  clear n91 n93 n60 n62 n40 n47 hdl hreg
  rw [← hR] at HT
  have hRt : (bs.drop f).take (R - f) = regs (bs.drop f) := by rw [regs_take, hR, Nat.add_sub_cancel_left]
  have HRT := Lib.hid hRt
  have hrt := runN_le (bs.drop f)
  have hRf : f ≤ R := by omega
  have hRl2 : R ≤ bs.length := HRL.out
  have hcf1 : ¬ cap = f := by omega
  have HRlen := Lib.hid (show (regs (bs.drop f)).length ≤ 100000 by show runN _ ≤ _; omega)
  clear hRt hrt
  obtain rfl : x = 45 := by rw [← hx, hc0]; rfl
  clear hc0
  obtain rfl : R = bs.length := hR.trans h1
  clear h1
  clear hr hf hR hrr hrl hk0 hk1 hc hV hx
  go_enter Tryz.func15, Tryz.ntmps15
  go_wp2_with fail
  refine (HS.out _ HB0.out).mono ?_
  rintro e w' ⟨rfl, rfl⟩
  rw [← HRE.out]
  generalize w.alloc _ = W1 at *
  have hcj1 := cell?_keep HB0.out hcf
  have hcj := cell?_keep (HB0.out.alloc HB0.out.size (.cells #[.int .i64 0, .int .i64 f, .int .i64 f, .int .i64 0, .int .i64 0, .string ⟨#[]⟩, .slice none 0 0, .string ⟨#[]⟩] 50)) hcf
  have hbn : ¬ b = W1.heap.size := by have := HB0.out.size; omega
  have hbl : b < W1.heap.size := by have := HB0.out.size; omega
  have HX := Lib.hid (show Rx w r W1.heap.size f (W1.alloc (.cells #[.int .i64 0, .int .i64 f, .int .i64 f, .int .i64 0, .int .i64 0, .string ⟨#[]⟩, .slice none 0 0, .string ⟨#[]⟩] 50)) from ⟨heapA_old _ HZ.out, heapA_new _ rfl, HB0.out.alloc HB0.out.size _, by rw [HRE.out]; exact Nat.le_refl _⟩)
  clear hcf
  go_wp2_with fail
  refine (HRN.out _ HX.out.bel).mono ?_
  rintro e w' ⟨rfl, rfl⟩
  clear hcj1 hcj hbn hbl
  generalize W1.alloc _ = W2 at *
  generalize W1.heap.size = p at *
  clear HZ HB0
  have hcv : (convert 22 9 (.slice (some ⟨b, off + f, none⟩) (bs.length - f) (cap - f))).run Tryz.prog W2 = .ok (.string (mkB ((bs.drop f).take (bs.length - f)))) W2 := conv_bytes (X := ⟨none, 0, bs, true⟩) HC.out f (bs.length - f) (by have := HRL.out; show f + _ ≤ bs.length; omega) W2 HX.out.bel
  rw [HRT.out] at hcv
  obtain ⟨s, hs⟩ : ∃ s, mkB (regs (bs.drop f)) = s := ⟨_, rfl⟩
  have hsb : bl s = regs (bs.drop f) := by rw [← hs]; rfl
  have HPA := Lib.hid (rparse_any s W2 (by rw [← bl_len, hsb]; exact HRlen.out))
  rw [hsb, HP.out] at HPA
  rw [hs] at hcv
  unfold ParseEnd valC noStr at HPA
  clear hs hsb
  go_wp2_with (go_at_call 32; refine (HDL.out _).mono ?_; rintro e w' ⟨rfl, rfl⟩)
  refine HPA.out.mono ?_
  rintro e w3 ⟨rfl, hb3⟩
  have HX3 := Lib.hid ((HX.out.on hb3).alloc (.cells #[.int .i64 P.1, .int .i64 P.2.1, .string ⟨#[]⟩, .slice none 0 0] 26))
  clear hb3 hcv HPA
  by_cases her : P.2.2 = 0
  · have HV := Lib.hid (HVV.out.trans (nextF_ok HFL.out rfl (x := { kind := 1, vk := P.1, vn := P.2.1 }) (j := bs.length) (by rw [HT.out, her]) HRL.out))
    rw [her]
    clear her
    obtain ⟨⟨k0, k1, k2, k3, k4, k5, k6, k7⟩, m0, m1, m2, m3, m4, m5, m6, m7⟩ := cells8 HX3.out.blk
    obtain ⟨⟨n0, n1, n2, n3, n4, n5, n6, n7⟩, -⟩ := cells8 HX3.out.no
    go_wp2
    refine bodyPost_ret (results_val rfl _ _ r 50 _ (0, 0) _ rfl (set8 HX3.out.blk _ _ _ _ _ _ _ _) Tryz.underlying50 rfl infoRTok _ rfl) rfl ?_
    exact next_fin (x := { kind := 1, vk := P.1, vn := P.2.1 }) HX3.out.bel HX3.out.wr HV.out _ _ _ _ _ _ _ _
  · have HV := Lib.hid (HVV.out.trans (nextF_no (e := P.2.2) HFL.out rfl (by rw [HT.out]) her))
    have er1 : (P.2.2 == 0) = false := by rw [beq_eq_false_iff_ne]; exact her
    have er2 : (P.2.2 != 0) = true := by simp only [bne, er1, Bool.not_false]
    clear her
    obtain ⟨⟨k0, k1, k2, k3, k4, k5, k6, k7⟩, m0, m1, m2, m3, m4, m5, m6, m7⟩ := cells8 HX3.out.blk
    obtain ⟨⟨n0, n1, n2, n3, n4, n5, n6, n7⟩, -⟩ := cells8 HX3.out.no
    go_wp2
    refine bodyPost_ret (results_val rfl _ _ r 50 _ (0, 0) _ rfl (set8 HX3.out.blk _ _ _ _ _ _ _ _) Tryz.underlying50 rfl infoRTok _ rfl) rfl ?_
    exact next_fin (x := { kind := 0 }) HX3.out.bel HX3.out.wr HV.out _ _ _ _ _ _ _ _
set_option maxRecDepth 8000 in
set_option maxHeartbeats 8000000 in
theorem rnext_46_end {w : World} {a : Option Addr} {cap : Nat} {bs : List UInt8} (hr : Row w 1 a bs.length cap (bs.map u8C)) (hn : bs.length ≤ 100000) {k : Int} (last : Bool) (hk0 : 0 ≤ k) (hk1 : k ≤ bs.length) {f : Nat} (hf : skipV bs k = f) (hfl : f < bs.length) {V : Tk × Int × Int × Int} (hV : V = nextF bs f last) (hreg : isRg (bs.getD f 0) = true) (h1 : f + runN (bs.drop f) = bs.length) (hla : last = true) (hc0 : bs.getD f 0 = 46) :
    Calls Tryz.prog 15 #[.slice a bs.length cap, .int .i64 k, .bool last] w (NextEnd w V) := by
  have HT := Lib.hid (show tokV last (bs.getD f 0) (bs.drop (f + 1)) = _ from tokV_reg (X := ⟨none, 0, bs, last⟩) (k := f) hfl hreg)
  have hnl : ¬ (runN ((⟨none, 0, bs, last⟩ : Src).bs.drop f) = ((⟨none, 0, bs, last⟩ : Src).bs.drop f).length ∧ (⟨none, 0, bs, last⟩ : Src).last = false) := by
    show ¬ (runN (bs.drop f) = (bs.drop f).length ∧ last = false)
    rw [List.length_drop]
    rw [hla]; simp
  have hnum : (isDg (bs.getD f 0) = true ∨ bs.getD f 0 = 43 ∨ bs.getD f 0 = 45 ∨ bs.getD f 0 = 46) := by
    exact .inr (.inr (.inr hc0))
  have ht := HT.out
  unfold rgV at ht
  rw [if_neg hnl, if_pos hnum] at ht
  rw [List.drop_drop] at ht
  clear HT hnl hnum
  obtain ⟨P, hP⟩ : ∃ P, parseV (regs (bs.drop f)) = P := ⟨_, rfl⟩
  have ht2 : tokV last (bs.getD f 0) (bs.drop (f + 1)) = (P.2.2, { kind := 1, vk := P.1, vn := P.2.1 }, bs.drop (f + runN (bs.drop f))) := by rw [← hP]; exact ht
  have HP := Lib.hid hP
  have HT := Lib.hid ht2
  clear ht ht2 hP
  have HVV := Lib.hid hV
  have HFL := Lib.hid hfl
  subst hla
  have hdl : isDl (bs.getD f 0) = false := by
    have h := hreg
    unfold isRg at h
    cases hh : isDl (bs.getD f 0) with
    | false => rfl
    | true => rw [hh] at h; simp at h
  have n91 : bs.getD f 0 ≠ 91 := fun e => by rw [e] at hreg; exact absurd hreg (by decide)
  have n93 : bs.getD f 0 ≠ 93 := fun e => by rw [e] at hreg; exact absurd hreg (by decide)
  have n60 : bs.getD f 0 ≠ 60 := fun e => by rw [e] at hreg; exact absurd hreg (by decide)
  have n62 : bs.getD f 0 ≠ 62 := fun e => by rw [e] at hreg; exact absurd hreg (by decide)
  have n40 : bs.getD f 0 ≠ 40 := fun e => by rw [e] at hreg; exact absurd hreg (by decide)
  have n47 : bs.getD f 0 ≠ 47 := fun e => by rw [e] at hreg; exact absurd hreg (by decide)
  have e91 := u8_ne n91 91 rfl
  have e93 := u8_ne n93 93 rfl
  have e60 := u8_ne n60 60 rfl
  have e62 := u8_ne n62 62 rfl
  have e40 := u8_ne n40 40 rfl
  have e47 := u8_ne n47 47 rfl
  obtain ⟨b, off, ha, hbW, hc⟩ := hr.at 0 f hfl
  subst ha
  unfold u8C at hc
  have HRW := Lib.hid hr
  have HC := Lib.hid hc
  have hcap := hr.2.1
  have hcm := hr.i64c
  have hkd : decide (k < 0) = false := decide_eq_false (by omega)
  have hkd2 : decide ((bs.length : Int) < k) = false := decide_eq_false (by omega)
  have HS := Lib.hid (fun (W : World) (h : Below w.heap.size w W) => rskip_any (HRW.out.mono h) hn k)
  rw [hf] at HS
  have hrl := runN_le (bs.drop f)
  rw [List.length_drop] at hrl
  have HRN := Lib.hid (fun (W : World) (h : Below w.heap.size w W) => rrun_any (HRW.out.mono h) hn f (by omega))
  obtain ⟨R, hR⟩ : ∃ R, R = f + runN (bs.drop f) := ⟨_, rfl⟩
  rw [← hR] at HRN
  have HRR := Lib.hid hR
  have HRL := Lib.hid (show R ≤ bs.length by omega)
  have hff : ((f : Int) == (bs.length : Int)) = false := by rw [beq_eq_false_iff_ne]; omega
  have hffn : decide (f = bs.length) = false := decide_eq_false (by omega)
  have hfi : (f : Int) < bs.length := by omega
  have hf9 : f ≤ 99999 := by omega
  obtain ⟨r, hrr⟩ : ∃ r, r = w.heap.size := ⟨_, rfl⟩
  have HRE := Lib.hid hrr
  have HZ := Lib.hid (show (w.alloc (.cells #[.int .i64 0, .int .i64 0, .int .i64 0, .int .i64 0, .int .i64 0, .string ⟨#[]⟩, .slice none 0 0, .string ⟨#[]⟩] 50)).heap[r]? = some (.cells #[.int .i64 0, .int .i64 0, .int .i64 0, .int .i64 0, .int .i64 0, .string ⟨#[]⟩, .slice none 0 0, .string ⟨#[]⟩] 50 (0, 0)) from heapA_new _ hrr)
  have HB0 := Lib.hid (belowA w (.cells #[.int .i64 0, .int .i64 0, .int .i64 0, .int .i64 0, .int .i64 0, .string ⟨#[]⟩, .slice none 0 0, .string ⟨#[]⟩] 50))
  have hcf := hc f hfl
  obtain ⟨x, hx⟩ : ∃ x, (bs.getD f 0).toNat = x := ⟨_, rfl⟩
  rw [hx] at hcf
  have HDL := Lib.hid (fun W => rdelim_any (bs.getD f 0).toNat W)
  rw [← dlI_eq, hdl] at HDL
  rw [hx] at HDL e91 e93 e60 e62 e40 e47
  clear n91 n93 n60 n62 n40 n47 hdl hreg
  rw [← hR] at HT
  have hRt : (bs.drop f).take (R - f) = regs (bs.drop f) := by rw [regs_take, hR, Nat.add_sub_cancel_left]
  have HRT := Lib.hid hRt
  have hrt := runN_le (bs.drop f)
  have hRf : f ≤ R := by omega
  have hRl2 : R ≤ bs.length := HRL.out
  have hcf1 : ¬ cap = f := by omega
  have HRlen := Lib.hid (show (regs (bs.drop f)).length ≤ 100000 by show runN _ ≤ _; omega)
  clear hRt hrt
  obtain rfl : x = 46 := by rw [← hx, hc0]; rfl
  clear hc0
  obtain rfl : R = bs.length := hR.trans h1
  clear h1
  clear hr hf hR hrr hrl hk0 hk1 hc hV hx
  go_enter Tryz.func15, Tryz.ntmps15
  go_wp2_with fail
  refine (HS.out _ HB0.out).mono ?_
  rintro e w' ⟨rfl, rfl⟩
  rw [← HRE.out]
  generalize w.alloc _ = W1 at *
  have hcj1 := cell?_keep HB0.out hcf
  have hcj := cell?_keep (HB0.out.alloc HB0.out.size (.cells #[.int .i64 0, .int .i64 f, .int .i64 f, .int .i64 0, .int .i64 0, .string ⟨#[]⟩, .slice none 0 0, .string ⟨#[]⟩] 50)) hcf
  have hbn : ¬ b = W1.heap.size := by have := HB0.out.size; omega
  have hbl : b < W1.heap.size := by have := HB0.out.size; omega
  have HX := Lib.hid (show Rx w r W1.heap.size f (W1.alloc (.cells #[.int .i64 0, .int .i64 f, .int .i64 f, .int .i64 0, .int .i64 0, .string ⟨#[]⟩, .slice none 0 0, .string ⟨#[]⟩] 50)) from ⟨heapA_old _ HZ.out, heapA_new _ rfl, HB0.out.alloc HB0.out.size _, by rw [HRE.out]; exact Nat.le_refl _⟩)
  clear hcf
  go_wp2_with fail
  refine (HRN.out _ HX.out.bel).mono ?_
  rintro e w' ⟨rfl, rfl⟩
  clear hcj1 hcj hbn hbl
  generalize W1.alloc _ = W2 at *
  generalize W1.heap.size = p at *
  clear HZ HB0
  have hcv : (convert 22 9 (.slice (some ⟨b, off + f, none⟩) (bs.length - f) (cap - f))).run Tryz.prog W2 = .ok (.string (mkB ((bs.drop f).take (bs.length - f)))) W2 := conv_bytes (X := ⟨none, 0, bs, true⟩) HC.out f (bs.length - f) (by have := HRL.out; show f + _ ≤ bs.length; omega) W2 HX.out.bel
  rw [HRT.out] at hcv
  obtain ⟨s, hs⟩ : ∃ s, mkB (regs (bs.drop f)) = s := ⟨_, rfl⟩
  have hsb : bl s = regs (bs.drop f) := by rw [← hs]; rfl
  have HPA := Lib.hid (rparse_any s W2 (by rw [← bl_len, hsb]; exact HRlen.out))
  rw [hsb, HP.out] at HPA
  rw [hs] at hcv
  unfold ParseEnd valC noStr at HPA
  clear hs hsb
  go_wp2_with (go_at_call 32; refine (HDL.out _).mono ?_; rintro e w' ⟨rfl, rfl⟩)
  refine HPA.out.mono ?_
  rintro e w3 ⟨rfl, hb3⟩
  have HX3 := Lib.hid ((HX.out.on hb3).alloc (.cells #[.int .i64 P.1, .int .i64 P.2.1, .string ⟨#[]⟩, .slice none 0 0] 26))
  clear hb3 hcv HPA
  by_cases her : P.2.2 = 0
  · have HV := Lib.hid (HVV.out.trans (nextF_ok HFL.out rfl (x := { kind := 1, vk := P.1, vn := P.2.1 }) (j := bs.length) (by rw [HT.out, her]) HRL.out))
    rw [her]
    clear her
    obtain ⟨⟨k0, k1, k2, k3, k4, k5, k6, k7⟩, m0, m1, m2, m3, m4, m5, m6, m7⟩ := cells8 HX3.out.blk
    obtain ⟨⟨n0, n1, n2, n3, n4, n5, n6, n7⟩, -⟩ := cells8 HX3.out.no
    go_wp2
    refine bodyPost_ret (results_val rfl _ _ r 50 _ (0, 0) _ rfl (set8 HX3.out.blk _ _ _ _ _ _ _ _) Tryz.underlying50 rfl infoRTok _ rfl) rfl ?_
    exact next_fin (x := { kind := 1, vk := P.1, vn := P.2.1 }) HX3.out.bel HX3.out.wr HV.out _ _ _ _ _ _ _ _
  · have HV := Lib.hid (HVV.out.trans (nextF_no (e := P.2.2) HFL.out rfl (by rw [HT.out]) her))
    have er1 : (P.2.2 == 0) = false := by rw [beq_eq_false_iff_ne]; exact her
    have er2 : (P.2.2 != 0) = true := by simp only [bne, er1, Bool.not_false]
    clear her
    obtain ⟨⟨k0, k1, k2, k3, k4, k5, k6, k7⟩, m0, m1, m2, m3, m4, m5, m6, m7⟩ := cells8 HX3.out.blk
    obtain ⟨⟨n0, n1, n2, n3, n4, n5, n6, n7⟩, -⟩ := cells8 HX3.out.no
    go_wp2
    refine bodyPost_ret (results_val rfl _ _ r 50 _ (0, 0) _ rfl (set8 HX3.out.blk _ _ _ _ _ _ _ _) Tryz.underlying50 rfl infoRTok _ rfl) rfl ?_
    exact next_fin (x := { kind := 0 }) HX3.out.bel HX3.out.wr HV.out _ _ _ _ _ _ _ _
set_option maxRecDepth 8000 in
set_option maxHeartbeats 8000000 in
theorem rnext_low_end {w : World} {a : Option Addr} {cap : Nat} {bs : List UInt8} (hr : Row w 1 a bs.length cap (bs.map u8C)) (hn : bs.length ≤ 100000) {k : Int} (last : Bool) (hk0 : 0 ≤ k) (hk1 : k ≤ bs.length) {f : Nat} (hf : skipV bs k = f) (hfl : f < bs.length) {V : Tk × Int × Int × Int} (hV : V = nextF bs f last) (hreg : isRg (bs.getD f 0) = true) (h1 : f + runN (bs.drop f) = bs.length) (hla : last = true) (hd : (bs.getD f 0).toNat < 48 ∧ bs.getD f 0 ≠ 43 ∧ bs.getD f 0 ≠ 45 ∧ bs.getD f 0 ≠ 46) :
    Calls Tryz.prog 15 #[.slice a bs.length cap, .int .i64 k, .bool last] w (NextEnd w V) := by
  have HT := Lib.hid (show tokV last (bs.getD f 0) (bs.drop (f + 1)) = _ from tokV_reg (X := ⟨none, 0, bs, last⟩) (k := f) hfl hreg)
  have hnl : ¬ (runN ((⟨none, 0, bs, last⟩ : Src).bs.drop f) = ((⟨none, 0, bs, last⟩ : Src).bs.drop f).length ∧ (⟨none, 0, bs, last⟩ : Src).last = false) := by
    show ¬ (runN (bs.drop f) = (bs.drop f).length ∧ last = false)
    rw [List.length_drop]
    rw [hla]; simp
  have hnum : ¬ (isDg (bs.getD f 0) = true ∨ bs.getD f 0 = 43 ∨ bs.getD f 0 = 45 ∨ bs.getD f 0 = 46) := by
    rintro (h | h | h | h)
    · have h2 := isDg_iff.1 h; have := hd.1; omega
    · exact hd.2.1 h
    · exact hd.2.2.1 h
    · exact hd.2.2.2 h
  have ht := HT.out
  unfold rgV at ht
  rw [if_neg hnl, if_neg hnum] at ht
  rw [List.drop_drop] at ht
  clear HT hnl hnum
  have HT := Lib.hid (show tokV last (bs.getD f 0) (bs.drop (f + 1)) = (0, { kind := 6, s := regs (bs.drop f) }, bs.drop (f + runN (bs.drop f))) from ht)
  clear ht
  have HVV := Lib.hid hV
  have HFL := Lib.hid hfl
  subst hla
  have hdl : isDl (bs.getD f 0) = false := by
    have h := hreg
    unfold isRg at h
    cases hh : isDl (bs.getD f 0) with
    | false => rfl
    | true => rw [hh] at h; simp at h
  have n91 : bs.getD f 0 ≠ 91 := fun e => by rw [e] at hreg; exact absurd hreg (by decide)
  have n93 : bs.getD f 0 ≠ 93 := fun e => by rw [e] at hreg; exact absurd hreg (by decide)
  have n60 : bs.getD f 0 ≠ 60 := fun e => by rw [e] at hreg; exact absurd hreg (by decide)
  have n62 : bs.getD f 0 ≠ 62 := fun e => by rw [e] at hreg; exact absurd hreg (by decide)
  have n40 : bs.getD f 0 ≠ 40 := fun e => by rw [e] at hreg; exact absurd hreg (by decide)
  have n47 : bs.getD f 0 ≠ 47 := fun e => by rw [e] at hreg; exact absurd hreg (by decide)
  have e91 := u8_ne n91 91 rfl
  have e93 := u8_ne n93 93 rfl
  have e60 := u8_ne n60 60 rfl
  have e62 := u8_ne n62 62 rfl
  have e40 := u8_ne n40 40 rfl
  have e47 := u8_ne n47 47 rfl
  have e43 := u8_ne hd.2.1 43 rfl
  have e45 := u8_ne hd.2.2.1 45 rfl
  have e46 := u8_ne hd.2.2.2 46 rfl
  have hd0 := hd.1
  clear hd
  obtain ⟨b, off, ha, hbW, hc⟩ := hr.at 0 f hfl
  subst ha
  unfold u8C at hc
  have HRW := Lib.hid hr
  have HC := Lib.hid hc
  have hcap := hr.2.1
  have hcm := hr.i64c
  have hkd : decide (k < 0) = false := decide_eq_false (by omega)
  have hkd2 : decide ((bs.length : Int) < k) = false := decide_eq_false (by omega)
  have HS := Lib.hid (fun (W : World) (h : Below w.heap.size w W) => rskip_any (HRW.out.mono h) hn k)
  rw [hf] at HS
  have hrl := runN_le (bs.drop f)
  rw [List.length_drop] at hrl
  have HRN := Lib.hid (fun (W : World) (h : Below w.heap.size w W) => rrun_any (HRW.out.mono h) hn f (by omega))
  obtain ⟨R, hR⟩ : ∃ R, R = f + runN (bs.drop f) := ⟨_, rfl⟩
  rw [← hR] at HRN
  have HRR := Lib.hid hR
  have HRL := Lib.hid (show R ≤ bs.length by omega)
  have hff : ((f : Int) == (bs.length : Int)) = false := by rw [beq_eq_false_iff_ne]; omega
  have hffn : decide (f = bs.length) = false := decide_eq_false (by omega)
  have hfi : (f : Int) < bs.length := by omega
  have hf9 : f ≤ 99999 := by omega
  obtain ⟨r, hrr⟩ : ∃ r, r = w.heap.size := ⟨_, rfl⟩
  have HRE := Lib.hid hrr
  have HZ := Lib.hid (show (w.alloc (.cells #[.int .i64 0, .int .i64 0, .int .i64 0, .int .i64 0, .int .i64 0, .string ⟨#[]⟩, .slice none 0 0, .string ⟨#[]⟩] 50)).heap[r]? = some (.cells #[.int .i64 0, .int .i64 0, .int .i64 0, .int .i64 0, .int .i64 0, .string ⟨#[]⟩, .slice none 0 0, .string ⟨#[]⟩] 50 (0, 0)) from heapA_new _ hrr)
  have HB0 := Lib.hid (belowA w (.cells #[.int .i64 0, .int .i64 0, .int .i64 0, .int .i64 0, .int .i64 0, .string ⟨#[]⟩, .slice none 0 0, .string ⟨#[]⟩] 50))
  have hcf := hc f hfl
  obtain ⟨x, hx⟩ : ∃ x, (bs.getD f 0).toNat = x := ⟨_, rfl⟩
  rw [hx] at hcf
  have HDL := Lib.hid (fun W => rdelim_any (bs.getD f 0).toNat W)
  rw [← dlI_eq, hdl] at HDL
  rw [hx] at HDL e91 e93 e60 e62 e40 e47
  clear n91 n93 n60 n62 n40 n47 hdl hreg
  rw [← hR] at HT
  have hRt : (bs.drop f).take (R - f) = regs (bs.drop f) := by rw [regs_take, hR, Nat.add_sub_cancel_left]
  have HRT := Lib.hid hRt
  have hrt := runN_le (bs.drop f)
  have hRf : f ≤ R := by omega
  have hRl2 : R ≤ bs.length := HRL.out
  have hcf1 : ¬ cap = f := by omega
  have HRlen := Lib.hid (show (regs (bs.drop f)).length ≤ 100000 by show runN _ ≤ _; omega)
  clear hRt hrt
  rw [hx] at hd0 e43 e45 e46
  have d1 : decide ((48 : Int) ≤ x) = false := decide_eq_false (by omega)
  clear hd0
  obtain rfl : R = bs.length := hR.trans h1
  clear h1
  clear hr hf hR hrr hrl hk0 hk1 hc hV hx
  go_enter Tryz.func15, Tryz.ntmps15
  go_wp2_with fail
  refine (HS.out _ HB0.out).mono ?_
  rintro e w' ⟨rfl, rfl⟩
  rw [← HRE.out]
  generalize w.alloc _ = W1 at *
  have hcj1 := cell?_keep HB0.out hcf
  have hcj := cell?_keep (HB0.out.alloc HB0.out.size (.cells #[.int .i64 0, .int .i64 f, .int .i64 f, .int .i64 0, .int .i64 0, .string ⟨#[]⟩, .slice none 0 0, .string ⟨#[]⟩] 50)) hcf
  have hbn : ¬ b = W1.heap.size := by have := HB0.out.size; omega
  have hbl : b < W1.heap.size := by have := HB0.out.size; omega
  have HX := Lib.hid (show Rx w r W1.heap.size f (W1.alloc (.cells #[.int .i64 0, .int .i64 f, .int .i64 f, .int .i64 0, .int .i64 0, .string ⟨#[]⟩, .slice none 0 0, .string ⟨#[]⟩] 50)) from ⟨heapA_old _ HZ.out, heapA_new _ rfl, HB0.out.alloc HB0.out.size _, by rw [HRE.out]; exact Nat.le_refl _⟩)
  clear hcf
  go_wp2_with fail
  refine (HRN.out _ HX.out.bel).mono ?_
  rintro e w' ⟨rfl, rfl⟩
  clear hcj1 hcj hbn hbl
  generalize W1.alloc _ = W2 at *
  generalize W1.heap.size = p at *
  clear HZ HB0
  have hcv : (convert 22 9 (.slice (some ⟨b, off + f, none⟩) (bs.length - f) (cap - f))).run Tryz.prog W2 = .ok (.string (mkB ((bs.drop f).take (bs.length - f)))) W2 := conv_bytes (X := ⟨none, 0, bs, true⟩) HC.out f (bs.length - f) (by have := HRL.out; show f + _ ≤ bs.length; omega) W2 HX.out.bel
  rw [HRT.out] at hcv
  have HV := Lib.hid (HVV.out.trans (nextF_ok HFL.out rfl (x := { kind := 6, s := regs (bs.drop f) }) (j := bs.length) HT.out HRL.out))
  obtain ⟨⟨k0, k1, k2, k3, k4, k5, k6, k7⟩, m0, m1, m2, m3, m4, m5, m6, m7⟩ := cells8 HX.out.blk
  obtain ⟨⟨n0, n1, n2, n3, n4, n5, n6, n7⟩, -⟩ := cells8 HX.out.no
  go_wp2_with (go_at_call 32; refine (HDL.out _).mono ?_; rintro e w' ⟨rfl, rfl⟩)
  refine bodyPost_ret (results_val rfl _ _ r 50 _ (0, 0) _ rfl (set8 HX.out.blk _ _ _ _ _ _ _ _) Tryz.underlying50 rfl infoRTok _ rfl) rfl ?_
  exact next_fin (x := { kind := 6, s := regs (bs.drop f) }) HX.out.bel HX.out.wr HV.out _ _ _ _ _ _ _ _
set_option maxRecDepth 8000 in
set_option maxHeartbeats 8000000 in
theorem rnext_high_end {w : World} {a : Option Addr} {cap : Nat} {bs : List UInt8} (hr : Row w 1 a bs.length cap (bs.map u8C)) (hn : bs.length ≤ 100000) {k : Int} (last : Bool) (hk0 : 0 ≤ k) (hk1 : k ≤ bs.length) {f : Nat} (hf : skipV bs k = f) (hfl : f < bs.length) {V : Tk × Int × Int × Int} (hV : V = nextF bs f last) (hreg : isRg (bs.getD f 0) = true) (h1 : f + runN (bs.drop f) = bs.length) (hla : last = true) (hd : 57 < (bs.getD f 0).toNat) :
    Calls Tryz.prog 15 #[.slice a bs.length cap, .int .i64 k, .bool last] w (NextEnd w V) := by
  have HT := Lib.hid (show tokV last (bs.getD f 0) (bs.drop (f + 1)) = _ from tokV_reg (X := ⟨none, 0, bs, last⟩) (k := f) hfl hreg)
  have hnl : ¬ (runN ((⟨none, 0, bs, last⟩ : Src).bs.drop f) = ((⟨none, 0, bs, last⟩ : Src).bs.drop f).length ∧ (⟨none, 0, bs, last⟩ : Src).last = false) := by
    show ¬ (runN (bs.drop f) = (bs.drop f).length ∧ last = false)
    rw [List.length_drop]
    rw [hla]; simp
  have hnum : ¬ (isDg (bs.getD f 0) = true ∨ bs.getD f 0 = 43 ∨ bs.getD f 0 = 45 ∨ bs.getD f 0 = 46) := by
    rintro (h | h | h | h)
    · have h2 := isDg_iff.1 h; omega
    · rw [h] at hd; exact absurd hd (by decide)
    · rw [h] at hd; exact absurd hd (by decide)
    · rw [h] at hd; exact absurd hd (by decide)
  have ht := HT.out
  unfold rgV at ht
  rw [if_neg hnl, if_neg hnum] at ht
  rw [List.drop_drop] at ht
  clear HT hnl hnum
  have HT := Lib.hid (show tokV last (bs.getD f 0) (bs.drop (f + 1)) = (0, { kind := 6, s := regs (bs.drop f) }, bs.drop (f + runN (bs.drop f))) from ht)
  clear ht
  have HVV := Lib.hid hV
  have HFL := Lib.hid hfl
  subst hla
  have hdl : isDl (bs.getD f 0) = false := by
    have h := hreg
    unfold isRg at h
    cases hh : isDl (bs.getD f 0) with
    | false => rfl
    | true => rw [hh] at h; simp at h
  have n91 : bs.getD f 0 ≠ 91 := fun e => by rw [e] at hreg; exact absurd hreg (by decide)
  have n93 : bs.getD f 0 ≠ 93 := fun e => by rw [e] at hreg; exact absurd hreg (by decide)
  have n60 : bs.getD f 0 ≠ 60 := fun e => by rw [e] at hreg; exact absurd hreg (by decide)
  have n62 : bs.getD f 0 ≠ 62 := fun e => by rw [e] at hreg; exact absurd hreg (by decide)
  have n40 : bs.getD f 0 ≠ 40 := fun e => by rw [e] at hreg; exact absurd hreg (by decide)
  have n47 : bs.getD f 0 ≠ 47 := fun e => by rw [e] at hreg; exact absurd hreg (by decide)
  have e91 := u8_ne n91 91 rfl
  have e93 := u8_ne n93 93 rfl
  have e60 := u8_ne n60 60 rfl
  have e62 := u8_ne n62 62 rfl
  have e40 := u8_ne n40 40 rfl
  have e47 := u8_ne n47 47 rfl
  obtain ⟨b, off, ha, hbW, hc⟩ := hr.at 0 f hfl
  subst ha
  unfold u8C at hc
  have HRW := Lib.hid hr
  have HC := Lib.hid hc
  have hcap := hr.2.1
  have hcm := hr.i64c
  have hkd : decide (k < 0) = false := decide_eq_false (by omega)
  have hkd2 : decide ((bs.length : Int) < k) = false := decide_eq_false (by omega)
  have HS := Lib.hid (fun (W : World) (h : Below w.heap.size w W) => rskip_any (HRW.out.mono h) hn k)
  rw [hf] at HS
  have hrl := runN_le (bs.drop f)
  rw [List.length_drop] at hrl
  have HRN := Lib.hid (fun (W : World) (h : Below w.heap.size w W) => rrun_any (HRW.out.mono h) hn f (by omega))
  obtain ⟨R, hR⟩ : ∃ R, R = f + runN (bs.drop f) := ⟨_, rfl⟩
  rw [← hR] at HRN
  have HRR := Lib.hid hR
  have HRL := Lib.hid (show R ≤ bs.length by omega)
  have hff : ((f : Int) == (bs.length : Int)) = false := by rw [beq_eq_false_iff_ne]; omega
  have hffn : decide (f = bs.length) = false := decide_eq_false (by omega)
  have hfi : (f : Int) < bs.length := by omega
  have hf9 : f ≤ 99999 := by omega
  obtain ⟨r, hrr⟩ : ∃ r, r = w.heap.size := ⟨_, rfl⟩
  have HRE := Lib.hid hrr
  have HZ := Lib.hid (show (w.alloc (.cells #[.int .i64 0, .int .i64 0, .int .i64 0, .int .i64 0, .int .i64 0, .string ⟨#[]⟩, .slice none 0 0, .string ⟨#[]⟩] 50)).heap[r]? = some (.cells #[.int .i64 0, .int .i64 0, .int .i64 0, .int .i64 0, .int .i64 0, .string ⟨#[]⟩, .slice none 0 0, .string ⟨#[]⟩] 50 (0, 0)) from heapA_new _ hrr)
  have HB0 := Lib.hid (belowA w (.cells #[.int .i64 0, .int .i64 0, .int .i64 0, .int .i64 0, .int .i64 0, .string ⟨#[]⟩, .slice none 0 0, .string ⟨#[]⟩] 50))
  have hcf := hc f hfl
  obtain ⟨x, hx⟩ : ∃ x, (bs.getD f 0).toNat = x := ⟨_, rfl⟩
  rw [hx] at hcf
  have HDL := Lib.hid (fun W => rdelim_any (bs.getD f 0).toNat W)
  rw [← dlI_eq, hdl] at HDL
  rw [hx] at HDL e91 e93 e60 e62 e40 e47
  clear n91 n93 n60 n62 n40 n47 hdl hreg
  rw [← hR] at HT
  have hRt : (bs.drop f).take (R - f) = regs (bs.drop f) := by rw [regs_take, hR, Nat.add_sub_cancel_left]
  have HRT := Lib.hid hRt
  have hrt := runN_le (bs.drop f)
  have hRf : f ≤ R := by omega
  have hRl2 : R ≤ bs.length := HRL.out
  have hcf1 : ¬ cap = f := by omega
  have HRlen := Lib.hid (show (regs (bs.drop f)).length ≤ 100000 by show runN _ ≤ _; omega)
  clear hRt hrt
  rw [hx] at hd
  have d1 : decide ((48 : Int) ≤ x) = true := decide_eq_true (by omega)
  have d2 : decide ((x : Int) ≤ 57) = false := decide_eq_false (by omega)
  have e43 : ((x : Int) == 43) = false := by rw [beq_eq_false_iff_ne]; omega
  have e45 : ((x : Int) == 45) = false := by rw [beq_eq_false_iff_ne]; omega
  have e46 : ((x : Int) == 46) = false := by rw [beq_eq_false_iff_ne]; omega
  clear hd
  obtain rfl : R = bs.length := hR.trans h1
  clear h1
  clear hr hf hR hrr hrl hk0 hk1 hc hV hx
  go_enter Tryz.func15, Tryz.ntmps15
  go_wp2_with fail
  refine (HS.out _ HB0.out).mono ?_
  rintro e w' ⟨rfl, rfl⟩
  rw [← HRE.out]
  generalize w.alloc _ = W1 at *
  have hcj1 := cell?_keep HB0.out hcf
  have hcj := cell?_keep (HB0.out.alloc HB0.out.size (.cells #[.int .i64 0, .int .i64 f, .int .i64 f, .int .i64 0, .int .i64 0, .string ⟨#[]⟩, .slice none 0 0, .string ⟨#[]⟩] 50)) hcf
  have hbn : ¬ b = W1.heap.size := by have := HB0.out.size; omega
  have hbl : b < W1.heap.size := by have := HB0.out.size; omega
  have HX := Lib.hid (show Rx w r W1.heap.size f (W1.alloc (.cells #[.int .i64 0, .int .i64 f, .int .i64 f, .int .i64 0, .int .i64 0, .string ⟨#[]⟩, .slice none 0 0, .string ⟨#[]⟩] 50)) from ⟨heapA_old _ HZ.out, heapA_new _ rfl, HB0.out.alloc HB0.out.size _, by rw [HRE.out]; exact Nat.le_refl _⟩)
  clear hcf
  go_wp2_with fail
  refine (HRN.out _ HX.out.bel).mono ?_
  rintro e w' ⟨rfl, rfl⟩
  clear hcj1 hcj hbn hbl
  generalize W1.alloc _ = W2 at *
  generalize W1.heap.size = p at *
  clear HZ HB0
  have hcv : (convert 22 9 (.slice (some ⟨b, off + f, none⟩) (bs.length - f) (cap - f))).run Tryz.prog W2 = .ok (.string (mkB ((bs.drop f).take (bs.length - f)))) W2 := conv_bytes (X := ⟨none, 0, bs, true⟩) HC.out f (bs.length - f) (by have := HRL.out; show f + _ ≤ bs.length; omega) W2 HX.out.bel
  rw [HRT.out] at hcv
  have HV := Lib.hid (HVV.out.trans (nextF_ok HFL.out rfl (x := { kind := 6, s := regs (bs.drop f) }) (j := bs.length) HT.out HRL.out))
  obtain ⟨⟨k0, k1, k2, k3, k4, k5, k6, k7⟩, m0, m1, m2, m3, m4, m5, m6, m7⟩ := cells8 HX.out.blk
  obtain ⟨⟨n0, n1, n2, n3, n4, n5, n6, n7⟩, -⟩ := cells8 HX.out.no
  go_wp2_with (go_at_call 32; refine (HDL.out _).mono ?_; rintro e w' ⟨rfl, rfl⟩)
  refine bodyPost_ret (results_val rfl _ _ r 50 _ (0, 0) _ rfl (set8 HX.out.blk _ _ _ _ _ _ _ _) Tryz.underlying50 rfl infoRTok _ rfl) rfl ?_
  exact next_fin (x := { kind := 6, s := regs (bs.drop f) }) HX.out.bel HX.out.wr HV.out _ _ _ _ _ _ _ _
end Go.Proofs.YtnkodejgiabamaaGreat
/-
  The document's Next, walked: at any place, all ways joined.
-/
namespace Go.Proofs.YtnkodejgiabamaaGreat
open Go.RowKit

set_option maxRecDepth 8000 in
set_option maxHeartbeats 4000000 in
theorem rnext_out {w : World} {a : Option Addr} {cap n : Nat} {k : Int} (last : Bool) (_ : (n : Int) ≤ 9223372036854775807) (h : k < 0 ∨ (n : Int) < k) {V : Tk × Int × Int × Int} (hV : V = ({ kind := 0 }, 0, 0, 2)) :
    Calls Tryz.prog 15 #[.slice a n cap, .int .i64 k, .bool last] w (NextEnd w V) := by
  have HV := Lib.hid hV
  have HZ := Lib.hid (show (w.alloc (.cells #[.int .i64 0, .int .i64 0, .int .i64 0, .int .i64 0, .int .i64 0, .string ⟨#[]⟩, .slice none 0 0, .string ⟨#[]⟩] 50)).heap[w.heap.size]? = some (.cells #[.int .i64 0, .int .i64 0, .int .i64 0, .int .i64 0, .int .i64 0, .string ⟨#[]⟩, .slice none 0 0, .string ⟨#[]⟩] 50 (0, 0)) from heapA_new _ rfl)
  have HB0 := Lib.hid (belowA w (.cells #[.int .i64 0, .int .i64 0, .int .i64 0, .int .i64 0, .int .i64 0, .string ⟨#[]⟩, .slice none 0 0, .string ⟨#[]⟩] 50))
  clear hV
  by_cases hk0 : k < 0
  · have hkd : decide (k < 0) = true := decide_eq_true hk0
    clear h
    go_enter Tryz.func15, Tryz.ntmps15
    go_wp2
    refine bodyPost_ret (results_val rfl _ _ w.heap.size 50 _ (0, 0) _ rfl (heapA_new _ rfl) Tryz.underlying50 rfl (by exact infoRTok) _ rfl) rfl ?_
    rw [HV.out]
    exact ⟨rfl, belowA _ _⟩
  · have hk1 : (n : Int) < k := by omega
    have hkd : decide (k < 0) = false := decide_eq_false hk0
    have hkd2 : decide ((n : Int) < k) = true := decide_eq_true hk1
    clear h hk0 hk1
    go_enter Tryz.func15, Tryz.ntmps15
    go_wp2
    refine bodyPost_ret (results_val rfl _ _ w.heap.size 50 _ (0, 0) _ rfl (heapA_new _ rfl) Tryz.underlying50 rfl (by exact infoRTok) _ rfl) rfl ?_
    rw [HV.out]
    exact ⟨rfl, belowA _ _⟩

set_option maxRecDepth 8000 in
set_option maxHeartbeats 4000000 in
theorem rnext_end {w : World} {a : Option Addr} {cap : Nat} {bs : List UInt8} (hr : Row w 1 a bs.length cap (bs.map u8C)) (hn : bs.length ≤ 100000) {k : Int} (last : Bool) (hk0 : 0 ≤ k) (hk1 : k ≤ bs.length) (hf : skipV bs k = bs.length) {V : Tk × Int × Int × Int} (hV : V = nextF bs bs.length last) :
    Calls Tryz.prog 15 #[.slice a bs.length cap, .int .i64 k, .bool last] w (NextEnd w V) := by
  rw [nextF_nil last (by simp)] at hV
  have HV := Lib.hid hV
  have HRW := Lib.hid hr
  have hcm := hr.i64c
  have hkd : decide (k < 0) = false := decide_eq_false (by omega)
  have hkd2 : decide ((bs.length : Int) < k) = false := decide_eq_false (by omega)
  have HS := Lib.hid (fun (W : World) (h : Below w.heap.size w W) => rskip_any (HRW.out.mono h) hn k)
  rw [hf] at HS
  obtain ⟨r, hrr⟩ : ∃ r, r = w.heap.size := ⟨_, rfl⟩
  have HRE := Lib.hid hrr
  have HZ := Lib.hid (show (w.alloc (.cells #[.int .i64 0, .int .i64 0, .int .i64 0, .int .i64 0, .int .i64 0, .string ⟨#[]⟩, .slice none 0 0, .string ⟨#[]⟩] 50)).heap[r]? = some (.cells #[.int .i64 0, .int .i64 0, .int .i64 0, .int .i64 0, .int .i64 0, .string ⟨#[]⟩, .slice none 0 0, .string ⟨#[]⟩] 50 (0, 0)) from heapA_new _ hrr)
  have HB0 := Lib.hid (belowA w (.cells #[.int .i64 0, .int .i64 0, .int .i64 0, .int .i64 0, .int .i64 0, .string ⟨#[]⟩, .slice none 0 0, .string ⟨#[]⟩] 50))
  clear hr hf hrr hk0 hk1 hV
  generalize bs.length = f at *
  go_enter Tryz.func15, Tryz.ntmps15
  go_wp2_with fail
  refine (HS.out _ HB0.out).mono ?_
  rintro e w' ⟨rfl, rfl⟩
  rw [← HRE.out]
  generalize w.alloc _ = W1 at *
  have HX := Lib.hid (show Rx w r W1.heap.size f (W1.alloc (.cells #[.int .i64 0, .int .i64 f, .int .i64 f, .int .i64 0, .int .i64 0, .string ⟨#[]⟩, .slice none 0 0, .string ⟨#[]⟩] 50)) from ⟨heapA_old _ HZ.out, heapA_new _ rfl, HB0.out.alloc HB0.out.size _, by rw [HRE.out]; exact Nat.le_refl _⟩)
  obtain ⟨⟨k0, k1, k2, k3, k4, k5, k6, k7⟩, m0, m1, m2, m3, m4, m5, m6, m7⟩ := cells8 HX.out.blk
  obtain ⟨⟨n0, n1, n2, n3, n4, n5, n6, n7⟩, -⟩ := cells8 HX.out.no
  cases last
  · go_wp2
    refine bodyPost_ret (results_val rfl _ _ r 50 _ (0, 0) _ rfl (set8 HX.out.blk _ _ _ _ _ _ _ _) Tryz.underlying50 rfl infoRTok _ rfl) rfl ?_
    exact next_fin (x := { kind := 0 }) HX.out.bel HX.out.wr HV.out _ _ _ _ _ _ _ _
  · go_wp2
    refine bodyPost_ret (results_val rfl _ _ r 50 _ (0, 0) _ rfl (set8 HX.out.blk _ _ _ _ _ _ _ _) Tryz.underlying50 rfl infoRTok _ rfl) rfl ?_
    exact next_fin (x := { kind := 0 }) HX.out.bel HX.out.wr HV.out _ _ _ _ _ _ _ _

theorem rnext_any {w : World} {a : Option Addr} {cap : Nat} {bs : List UInt8} (hr : Row w 1 a bs.length cap (bs.map u8C)) (hn : bs.length ≤ 100000) (k : Int) (last : Bool) :
    Calls Tryz.prog 15 #[.slice a bs.length cap, .int .i64 k, .bool last] w (NextEnd w (nextV bs k last)) := by
  by_cases hk : k < 0 ∨ (bs.length : Int) < k
  · exact rnext_out last hr.i64 hk (by unfold nextV; rw [if_pos hk])
  have hk0 : 0 ≤ k := by omega
  have hk1 : k ≤ bs.length := by omega
  have hV := nextV_in (bs := bs) last hk0 hk1
  have hfle := (skipV_bd hk0 hk1).2
  have hsh := fun f hf hl => skip_here (bs := bs) (f := f) hk0 hk1 hf hl
  rw [hV]
  obtain ⟨f, hf⟩ : ∃ f, skipV bs k = f := ⟨_, rfl⟩
  by_cases hfe : f = bs.length
  · subst hfe
    exact rnext_end hr hn last hk0 hk1 hf (by rw [hf])
  have hfl : f < bs.length := by omega
  obtain ⟨h37, hsp⟩ := hsh f hf hfl
  have hV2 : nextF bs (skipV bs k) last = nextF bs f last := by rw [hf]
  clear hV hsh
  by_cases hrg : isRg (bs.getD f 0) = true
  · by_cases he : f + runN (bs.drop f) = bs.length
    · cases last with
      | false => exact rnext_regmore hr hn false hk0 hk1 hf hfl hV2 hrg he rfl
      | true =>
        by_cases h43 : bs.getD f 0 = 43
        · exact rnext_43_end hr hn true hk0 hk1 hf hfl hV2 hrg he rfl h43
        by_cases h45 : bs.getD f 0 = 45
        · exact rnext_45_end hr hn true hk0 hk1 hf hfl hV2 hrg he rfl h45
        by_cases h46 : bs.getD f 0 = 46
        · exact rnext_46_end hr hn true hk0 hk1 hf hfl hV2 hrg he rfl h46
        by_cases hlo : (bs.getD f 0).toNat < 48
        · exact rnext_low_end hr hn true hk0 hk1 hf hfl hV2 hrg he rfl ⟨hlo, h43, h45, h46⟩
        by_cases hhi : 57 < (bs.getD f 0).toNat
        · exact rnext_high_end hr hn true hk0 hk1 hf hfl hV2 hrg he rfl hhi
        exact rnext_digit_end hr hn true hk0 hk1 hf hfl hV2 hrg he rfl ⟨by omega, by omega⟩
    · by_cases h43 : bs.getD f 0 = 43
      · exact rnext_43_in hr hn last hk0 hk1 hf hfl hV2 hrg he h43
      by_cases h45 : bs.getD f 0 = 45
      · exact rnext_45_in hr hn last hk0 hk1 hf hfl hV2 hrg he h45
      by_cases h46 : bs.getD f 0 = 46
      · exact rnext_46_in hr hn last hk0 hk1 hf hfl hV2 hrg he h46
      by_cases hlo : (bs.getD f 0).toNat < 48
      · exact rnext_low_in hr hn last hk0 hk1 hf hfl hV2 hrg he ⟨hlo, h43, h45, h46⟩
      by_cases hhi : 57 < (bs.getD f 0).toNat
      · exact rnext_high_in hr hn last hk0 hk1 hf hfl hV2 hrg he hhi
      exact rnext_digit_in hr hn last hk0 hk1 hf hfl hV2 hrg he ⟨by omega, by omega⟩
  have hdl : isDl (bs.getD f 0) = true := by
    unfold isRg at hrg
    rw [hsp] at hrg
    simpa using hrg
  by_cases h91 : bs.getD f 0 = 91
  · exact rnext_91 hr hn last hk0 hk1 hf hfl hV2 h91
  by_cases h93 : bs.getD f 0 = 93
  · exact rnext_93 hr hn last hk0 hk1 hf hfl hV2 h93
  by_cases h60 : bs.getD f 0 = 60
  · by_cases h1 : f + 1 < bs.length
    · by_cases h2 : bs.getD (f + 1) 0 = 60
      · exact rnext_6060 hr hn last hk0 hk1 hf hfl hV2 h60 h1 h2
      · exact rnext_hex hr hn last hk0 hk1 hf hfl hV2 h60 h1 h2
    · exact rnext_hexend hr hn last hk0 hk1 hf hfl hV2 h60 h1
  by_cases h62 : bs.getD f 0 = 62
  · by_cases h1 : f + 1 < bs.length
    · by_cases h2 : bs.getD (f + 1) 0 = 62
      · exact rnext_6262 hr hn last hk0 hk1 hf hfl hV2 h62 h1 h2
      · exact rnext_62form hr hn last hk0 hk1 hf hfl hV2 h62 h1 h2
    · cases last with
      | false => exact rnext_62more hr hn false hk0 hk1 hf hfl hV2 h62 (by omega) rfl
      | true => exact rnext_62last hr hn true hk0 hk1 hf hfl hV2 h62 (by omega) rfl
  by_cases h40 : bs.getD f 0 = 40
  · exact rnext_text hr hn last hk0 hk1 hf hfl hV2 h40
  by_cases h47 : bs.getD f 0 = 47
  · by_cases h1 : f + 1 + runN (bs.drop (f + 1)) = bs.length
    · cases last with
      | false => exact rnext_namemore hr hn false hk0 hk1 hf hfl hV2 h47 h1 rfl
      | true =>
        by_cases hcap : cap = f + 1
        · exact rnext_nameend hr hn true hk0 hk1 hf hfl hV2 h47 rfl hcap
        · exact rnext_namelast hr hn true hk0 hk1 hf hfl hV2 h47 (fun _ h => by cases h) h1 rfl hcap
    · by_cases hcap : cap = f + 1
      · exfalso
        have h2 := hr.2.1
        apply h1
        rw [drop_nil (by omega)]
        show f + 1 + 0 = _
        omega
      · exact rnext_name hr hn last hk0 hk1 hf hfl hV2 h47 (fun h _ => h1 h) h1 hcap
  exact rnext_dl hr hn last hk0 hk1 hf hfl hV2 hdl h91 h93 h60 h62 h40 h47
end Go.Proofs.YtnkodejgiabamaaGreat
/-
  A region that draws its order, whose operations only read and whose callees read or lay new memory: walked once, in the order of the text.
-/
namespace Go.Proofs.YtnkodejgiabamaaGreat
open Go.RowKit

/-- A world that leaves W's memory as it was. -/
structure BelowW (W : World) where
  w : World
  h : Below W.heap.size W w

instance BelowW.there (W : World) : Nonempty (BelowW W) := ⟨⟨W, Below.refl _ _⟩⟩

theorem wp_region_below {P : Program} {id : Nat} {Q : Exit → Act → World → Prop} {a : Act} {W : World} {l : List Oper} (hm : P.follows .mixedOrders = true) (hB : Region.lexB .any l.toArray = true)
    (h : wpQuiet P l.toArray (fun w' => ∃ p : BelowW W, w' = p.w) (fun a' => ∀ w', (∃ p : BelowW W, w' = p.w) → Q .normal a' w') l a) : (Code.region id l.toArray true).wp P Q a W :=
  wp_region_quiet (C := fun w' => ∃ p : BelowW W, w' = p.w) hm hB ⟨⟨W.drew, (Below.refl _ _).drew⟩, rfl⟩ (by simpa using h)

theorem Calls.below_of {P : Program} {f : FuncId} {args : Array Value} {W : World} {p : BelowW W} {v : Value}
    (h : Calls P f args p.w fun e w' => e = .returned v ∧ Below p.w.heap.size p.w w') : Calls P f args p.w fun e w'' => e = .returned v ∧ ∃ p' : BelowW W, w'' = p'.w :=
  h.mono fun _ w' ⟨he, hb⟩ => ⟨he, ⟨w', p.h.trans (hb.mono p.h.size)⟩, rfl⟩
theorem BelowW.cell {W : World} {b o : Nat} {v : Value} (hc : W.cell? ⟨b, o, none⟩ = some v) (p : BelowW W) : p.w.cell? ⟨b, o, none⟩ = some v := cell?_keep p.h hc
end Go.Proofs.YtnkodejgiabamaaGreat
