/-
  The document's Next, walked: regular bytes, of which more may come.
-/
import Derived.Test.YtkolfecjlbnfkaaLexS
namespace Go.Proofs.Ytkolfecjlbnfkaa
open Go.RowKit

set_option maxRecDepth 8000 in
set_option maxHeartbeats 8000000 in
theorem rnext_regmore {w : World} {a : Option Addr} {cap : Nat} {bs : List UInt8} (hr : Row w 1 a bs.length cap (bs.map u8C)) (hn : bs.length ≤ 100000) {k : Int} (last : Bool) (hk0 : 0 ≤ k) (hk1 : k ≤ bs.length) {f : Nat} (hf : skipV bs k = f) (hfl : f < bs.length) {V : Tk × Int × Int × Int} (hV : V = nextF bs f last) (hreg : isRg (bs.getD f 0) = true) (h1 : f + runN (bs.drop f) = bs.length) (hla : last = false) :
    Calls Try.prog 10 #[.slice a bs.length cap, .int .i64 k, .bool last] w (NextEnd w V) := by
  have HT := Lib.hid (show tokV last (bs.getD f 0) (bs.drop (f + 1)) = _ from tokV_reg (X := ⟨none, 0, bs, last⟩) (k := f) hfl hreg)
  have HV := Lib.hid (hV.trans (nextF_no (e := 6) hfl rfl (by rw [HT.out]; unfold rgV; rw [if_pos ⟨show runN (bs.drop f) = (bs.drop f).length by rw [List.length_drop]; omega, hla⟩]) (by decide)))
  clear HT
  subst hla
  have hdl : isDl (bs.getD f 0) = false := by
    have h := hreg
    unfold isRg at h
    cases hh : isDl (bs.getD f 0) with
    | false => rfl
    | true => rw [hh] at h; simp at h
  have n91 : bs.getD f 0 ≠ 91 := fun e => by rw [e] at hreg; exact absurd hreg (by decide)
  have n93 : bs.getD f 0 ≠ 93 := fun e => by rw [e] at hreg; exact absurd hreg (by decide)
  have n60 : bs.getD f 0 ≠ 60 := fun e => by rw [e] at hreg; exact absurd hreg (by decide)
  have n62 : bs.getD f 0 ≠ 62 := fun e => by rw [e] at hreg; exact absurd hreg (by decide)
  have n40 : bs.getD f 0 ≠ 40 := fun e => by rw [e] at hreg; exact absurd hreg (by decide)
  have n47 : bs.getD f 0 ≠ 47 := fun e => by rw [e] at hreg; exact absurd hreg (by decide)
  have e91 := u8_ne n91 91 rfl
  have e93 := u8_ne n93 93 rfl
  have e60 := u8_ne n60 60 rfl
  have e62 := u8_ne n62 62 rfl
  have e40 := u8_ne n40 40 rfl
  have e47 := u8_ne n47 47 rfl
  obtain ⟨b, off, ha, hbW, hc⟩ := hr.at 0 f hfl
  subst ha
  unfold u8C at hc
  have HRW := Lib.hid hr
  have HC := Lib.hid hc
  have hcap := hr.2.1
  have hcm := hr.i64c
  have hkd : decide (k < 0) = false := decide_eq_false (by omega)
  have hkd2 : decide ((bs.length : Int) < k) = false := decide_eq_false (by omega)
  have HS := Lib.hid (fun (W : World) (h : Below w.heap.size w W) => rskip_any (HRW.out.mono h) hn k)
  rw [hf] at HS
  have hrl := runN_le (bs.drop f)
  rw [List.length_drop] at hrl
  have HRN := Lib.hid (fun (W : World) (h : Below w.heap.size w W) => rrun_any (HRW.out.mono h) hn f (by omega))
  obtain ⟨R, hR⟩ : ∃ R, R = f + runN (bs.drop f) := ⟨_, rfl⟩
  rw [← hR] at HRN
  have HRR := Lib.hid hR
  have HRL := Lib.hid (show R ≤ bs.length by omega)
  have hff : ((f : Int) == (bs.length : Int)) = false := by rw [beq_eq_false_iff_ne]; omega
  have hffn : decide (f = bs.length) = false := decide_eq_false (by omega)
  have hfi : (f : Int) < bs.length := by omega
  have hf9 : f ≤ 99999 := by omega
  obtain ⟨r, hrr⟩ : ∃ r, r = w.heap.size := ⟨_, rfl⟩
  have HRE := Lib.hid hrr
  have HZ := Lib.hid (show (w.alloc (.cells #[.int .i64 0, .int .i64 0, .int .i64 0, .int .i64 0, .int .i64 0, .string ⟨#[]⟩, .slice none 0 0, .string ⟨#[]⟩] 32)).heap[r]? = some (.cells #[.int .i64 0, .int .i64 0, .int .i64 0, .int .i64 0, .int .i64 0, .string ⟨#[]⟩, .slice none 0 0, .string ⟨#[]⟩] 32 (0, 0)) from heapA_new _ hrr)
  have HB0 := Lib.hid (belowA w (.cells #[.int .i64 0, .int .i64 0, .int .i64 0, .int .i64 0, .int .i64 0, .string ⟨#[]⟩, .slice none 0 0, .string ⟨#[]⟩] 32))
  have hcf := hc f hfl
  obtain ⟨x, hx⟩ : ∃ x, (bs.getD f 0).toNat = x := ⟨_, rfl⟩
  rw [hx] at hcf
  have HDL := Lib.hid (fun W => rdelim_any (bs.getD f 0).toNat W)
  rw [← dlI_eq, hdl] at HDL
  rw [hx] at HDL e91 e93 e60 e62 e40 e47
  clear n91 n93 n60 n62 n40 n47 hdl hreg
  obtain rfl : R = bs.length := hR.trans h1
  clear h1
  clear hr hf hR hrr hrl hk0 hk1 hc hV hx
  go_enter Try.func10, Try.ntmps10
  go_wp2_with fail
  refine (HS.out _ HB0.out).mono ?_
  rintro e w' ⟨rfl, rfl⟩
  rw [← HRE.out]
  generalize w.alloc _ = W1 at *
  have hcj1 := cell?_keep HB0.out hcf
  have hcj := cell?_keep (HB0.out.alloc HB0.out.size (.cells #[.int .i64 0, .int .i64 f, .int .i64 f, .int .i64 0, .int .i64 0, .string ⟨#[]⟩, .slice none 0 0, .string ⟨#[]⟩] 32)) hcf
  have hbn : ¬ b = W1.heap.size := by have := HB0.out.size; omega
  have hbl : b < W1.heap.size := by have := HB0.out.size; omega
  have HX := Lib.hid (show Rx w r W1.heap.size f (W1.alloc (.cells #[.int .i64 0, .int .i64 f, .int .i64 f, .int .i64 0, .int .i64 0, .string ⟨#[]⟩, .slice none 0 0, .string ⟨#[]⟩] 32)) from ⟨heapA_old _ HZ.out, heapA_new _ rfl, HB0.out.alloc HB0.out.size _, by rw [HRE.out]; exact Nat.le_refl _⟩)
  clear hcf
  go_wp2_with fail
  refine (HRN.out _ HX.out.bel).mono ?_
  rintro e w' ⟨rfl, rfl⟩
  clear hcj1 hcj hbn hbl
  generalize W1.alloc _ = W2 at *
  generalize W1.heap.size = p at *
  clear HZ HB0
  obtain ⟨⟨k0, k1, k2, k3, k4, k5, k6, k7⟩, m0, m1, m2, m3, m4, m5, m6, m7⟩ := cells8 HX.out.blk
  obtain ⟨⟨n0, n1, n2, n3, n4, n5, n6, n7⟩, -⟩ := cells8 HX.out.no
  go_wp2_with (go_at_call 16; refine (HDL.out _).mono ?_; rintro e w' ⟨rfl, rfl⟩)
  refine bodyPost_ret (results_val rfl _ _ r 32 _ (0, 0) _ rfl (set8 HX.out.blk _ _ _ _ _ _ _ _) Try.underlying32 rfl infoRTok _ rfl) rfl ?_
  exact next_fin (x := { kind := 0 }) HX.out.bel HX.out.wr HV.out _ _ _ _ _ _ _ _
end Go.Proofs.Ytkolfecjlbnfkaa
