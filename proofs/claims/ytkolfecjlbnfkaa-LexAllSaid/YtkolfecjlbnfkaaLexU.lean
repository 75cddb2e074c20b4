/-
  The document's Next, walked: texts.
-/
import Derived.Test.YtkolfecjlbnfkaaLexS
namespace Go.Proofs.Ytkolfecjlbnfkaa
open Go.RowKit

set_option maxRecDepth 8000 in
set_option maxHeartbeats 8000000 in
theorem rnext_hexend {w : World} {a : Option Addr} {cap : Nat} {bs : List UInt8} (hr : Row w 1 a bs.length cap (bs.map u8C)) (hn : bs.length ≤ 100000) {k : Int} (last : Bool) (hk0 : 0 ≤ k) (hk1 : k ≤ bs.length) {f : Nat} (hf : skipV bs k = f) (hfl : f < bs.length) {V : Tk × Int × Int × Int} (hV : V = nextF bs f last) (hc0 : bs.getD f 0 = 60) (h1 : ¬ f + 1 < bs.length) :
    Calls Try.prog 10 #[.slice a bs.length cap, .int .i64 k, .bool last] w (NextEnd w V) := by
  obtain ⟨H, hH⟩ : ∃ H, hexV [] (-1) (bs.drop (f + 1)) = H := ⟨_, rfl⟩
  have HH := Lib.hid hH
  have ht : tokV last 60 (bs.drop (f + 1)) = hexK last H := by rw [← hH]; exact tokV_60 last _ (fun u e => by rw [drop_nil h1] at e; cases e)
  have HT := Lib.hid ht
  have HC0 := Lib.hid hc0
  have HVV := Lib.hid hV
  have HFL := Lib.hid hfl
  clear ht hH
  obtain ⟨b, off, ha, hbW, hc⟩ := hr.at 0 f hfl
  subst ha
  unfold u8C at hc
  have HRW := Lib.hid hr
  have HC := Lib.hid hc
  have hcap := hr.2.1
  have hcm := hr.i64c
  have hkd : decide (k < 0) = false := decide_eq_false (by omega)
  have hkd2 : decide ((bs.length : Int) < k) = false := decide_eq_false (by omega)
  have HS := Lib.hid (fun (W : World) (h : Below w.heap.size w W) => rskip_any (HRW.out.mono h) hn k)
  rw [hf] at HS
  have hrl := runN_le (bs.drop f)
  rw [List.length_drop] at hrl
  have HRN := Lib.hid (fun (W : World) (h : Below w.heap.size w W) => rrun_any (HRW.out.mono h) hn f (by omega))
  obtain ⟨R, hR⟩ : ∃ R, R = f + runN (bs.drop f) := ⟨_, rfl⟩
  rw [← hR] at HRN
  have HRR := Lib.hid hR
  have HRL := Lib.hid (show R ≤ bs.length by omega)
  have hff : ((f : Int) == (bs.length : Int)) = false := by rw [beq_eq_false_iff_ne]; omega
  have hffn : decide (f = bs.length) = false := decide_eq_false (by omega)
  have hfi : (f : Int) < bs.length := by omega
  have hf9 : f ≤ 99999 := by omega
  obtain ⟨r, hrr⟩ : ∃ r, r = w.heap.size := ⟨_, rfl⟩
  have HRE := Lib.hid hrr
  have HZ := Lib.hid (show (w.alloc (.cells #[.int .i64 0, .int .i64 0, .int .i64 0, .int .i64 0, .int .i64 0, .string ⟨#[]⟩, .slice none 0 0, .string ⟨#[]⟩] 32)).heap[r]? = some (.cells #[.int .i64 0, .int .i64 0, .int .i64 0, .int .i64 0, .int .i64 0, .string ⟨#[]⟩, .slice none 0 0, .string ⟨#[]⟩] 32 (0, 0)) from heapA_new _ hrr)
  have HB0 := Lib.hid (belowA w (.cells #[.int .i64 0, .int .i64 0, .int .i64 0, .int .i64 0, .int .i64 0, .string ⟨#[]⟩, .slice none 0 0, .string ⟨#[]⟩] 32))
  have hcf := hc f hfl
  obtain ⟨x, hx⟩ : ∃ x, (bs.getD f 0).toNat = x := ⟨_, rfl⟩
  rw [hx] at hcf
  obtain rfl : x = 60 := by rw [← hx, hc0]; rfl
  have HF1 := Lib.hid (show f + 1 ≤ bs.length by omega)
  have hn1 : decide ((f : Int) + 1 < bs.length) = false := decide_eq_false (by omega)
  clear h1
  clear hr hf hR hrr hrl hk0 hk1 hc hV hx
  go_enter Try.func10, Try.ntmps10
  go_wp2_with fail
  refine (HS.out _ HB0.out).mono ?_
  rintro e w' ⟨rfl, rfl⟩
  rw [← HRE.out]
  generalize w.alloc _ = W1 at *
  have hcj1 := cell?_keep HB0.out hcf
  have hcj := cell?_keep (HB0.out.alloc HB0.out.size (.cells #[.int .i64 0, .int .i64 f, .int .i64 f, .int .i64 0, .int .i64 0, .string ⟨#[]⟩, .slice none 0 0, .string ⟨#[]⟩] 32)) hcf
  have hbn : ¬ b = W1.heap.size := by have := HB0.out.size; omega
  have hbl : b < W1.heap.size := by have := HB0.out.size; omega
  have HX := Lib.hid (show Rx w r W1.heap.size f (W1.alloc (.cells #[.int .i64 0, .int .i64 f, .int .i64 f, .int .i64 0, .int .i64 0, .string ⟨#[]⟩, .slice none 0 0, .string ⟨#[]⟩] 32)) from ⟨heapA_old _ HZ.out, heapA_new _ rfl, HB0.out.alloc HB0.out.size _, by rw [HRE.out]; exact Nat.le_refl _⟩)
  clear hcf
  go_wp2_with fail
  refine (HRN.out _ HX.out.bel).mono ?_
  rintro e w' ⟨rfl, rfl⟩
  clear hcj1 hcj hbn hbl
  generalize W1.alloc _ = W2 at *
  generalize W1.heap.size = p at *
  clear HZ HB0
  go_wp2_with fail
  have HHX := Lib.hid (rhexes_any (HRW.out.mono HX.out.bel) hn (f + 1) HF1.out last)
  rw [HH.out] at HHX
  unfold HexREnd at HHX
  refine HHX.out.mono ?_
  rintro e w3 ⟨hb3, h3⟩
  have HX3 := Lib.hid (HX.out.on hb3)
  clear hb3 HHX
  rcases h3 with ⟨h1, rfl⟩ | ⟨h1, rfl⟩ | ⟨h1, v, rfl, hO, hl⟩
  · have HV := Lib.hid (HVV.out.trans (nextF_no (e := openE last) HFL.out HC0.out (by rw [HT.out]; unfold hexK; rw [if_neg (by rw [h1]; decide), if_pos h1]) (openE_ne last)))
    have ho1 : (openE last != 0) = true := by cases last <;> rfl
    generalize openE last = oe at *
    clear h1
    obtain ⟨⟨k0, k1, k2, k3, k4, k5, k6, k7⟩, m0, m1, m2, m3, m4, m5, m6, m7⟩ := cells8 HX3.out.blk
    obtain ⟨⟨n0, n1, n2, n3, n4, n5, n6, n7⟩, -⟩ := cells8 HX3.out.no
    go_wp2
    refine bodyPost_ret (results_val rfl _ _ r 32 _ (0, 0) _ rfl (set8 HX3.out.blk _ _ _ _ _ _ _ _) Try.underlying32 rfl infoRTok _ rfl) rfl ?_
    exact next_fin (x := { kind := 0 }) HX3.out.bel HX3.out.wr HV.out _ _ _ _ _ _ _ _
  · have HV := Lib.hid (HVV.out.trans (nextF_no (e := 11) HFL.out HC0.out (by rw [HT.out]; unfold hexK; rw [if_neg (by rw [h1]; decide), if_neg (by rw [h1]; decide)]) (by decide)))
    clear h1
    obtain ⟨⟨k0, k1, k2, k3, k4, k5, k6, k7⟩, m0, m1, m2, m3, m4, m5, m6, m7⟩ := cells8 HX3.out.blk
    obtain ⟨⟨n0, n1, n2, n3, n4, n5, n6, n7⟩, -⟩ := cells8 HX3.out.no
    go_wp2
    refine bodyPost_ret (results_val rfl _ _ r 32 _ (0, 0) _ rfl (set8 HX3.out.blk _ _ _ _ _ _ _ _) Try.underlying32 rfl infoRTok _ rfl) rfl ?_
    exact next_fin (x := { kind := 0 }) HX3.out.bel HX3.out.wr HV.out _ _ _ _ _ _ _ _
  · have HV := Lib.hid (HVV.out.trans (nextF_len HFL.out HC0.out (x := { kind := 1, vk := 4, vs := H.2.1 }) (r := H.2.2) (by rw [HT.out]; unfold hexK; rw [if_pos h1]) hl))
    have hcv := conv_own hO
    obtain ⟨a3, c3, hv3, -⟩ := Row.of_owns hO
    subst hv3
    clear h1 hO hl
    obtain ⟨⟨k0, k1, k2, k3, k4, k5, k6, k7⟩, m0, m1, m2, m3, m4, m5, m6, m7⟩ := cells8 HX3.out.blk
    obtain ⟨⟨n0, n1, n2, n3, n4, n5, n6, n7⟩, -⟩ := cells8 HX3.out.no
    go_wp2
    refine bodyPost_ret (results_val rfl _ _ r 32 _ (0, 0) _ rfl (set8 HX3.out.blk _ _ _ _ _ _ _ _) Try.underlying32 rfl infoRTok _ rfl) rfl ?_
    exact next_fin (x := { kind := 1, vk := 4, vs := H.2.1 }) HX3.out.bel HX3.out.wr HV.out _ _ _ _ _ _ _ _
set_option maxRecDepth 8000 in
set_option maxHeartbeats 8000000 in
theorem rnext_hex {w : World} {a : Option Addr} {cap : Nat} {bs : List UInt8} (hr : Row w 1 a bs.length cap (bs.map u8C)) (hn : bs.length ≤ 100000) {k : Int} (last : Bool) (hk0 : 0 ≤ k) (hk1 : k ≤ bs.length) {f : Nat} (hf : skipV bs k = f) (hfl : f < bs.length) {V : Tk × Int × Int × Int} (hV : V = nextF bs f last) (hc0 : bs.getD f 0 = 60) (h1 : f + 1 < bs.length) (h2 : bs.getD (f + 1) 0 ≠ 60) :
    Calls Try.prog 10 #[.slice a bs.length cap, .int .i64 k, .bool last] w (NextEnd w V) := by
  obtain ⟨H, hH⟩ : ∃ H, hexV [] (-1) (bs.drop (f + 1)) = H := ⟨_, rfl⟩
  have HH := Lib.hid hH
  have ht : tokV last 60 (bs.drop (f + 1)) = hexK last H := by rw [← hH]; exact tokV_60 last _ (fun u e => by rw [drop_cons h1] at e; exact h2 (List.cons.inj e).1)
  have HT := Lib.hid ht
  have HC0 := Lib.hid hc0
  have HVV := Lib.hid hV
  have HFL := Lib.hid hfl
  clear ht hH
  obtain ⟨b, off, ha, hbW, hc⟩ := hr.at 0 f hfl
  subst ha
  unfold u8C at hc
  have HRW := Lib.hid hr
  have HC := Lib.hid hc
  have hcap := hr.2.1
  have hcm := hr.i64c
  have hkd : decide (k < 0) = false := decide_eq_false (by omega)
  have hkd2 : decide ((bs.length : Int) < k) = false := decide_eq_false (by omega)
  have HS := Lib.hid (fun (W : World) (h : Below w.heap.size w W) => rskip_any (HRW.out.mono h) hn k)
  rw [hf] at HS
  have hrl := runN_le (bs.drop f)
  rw [List.length_drop] at hrl
  have HRN := Lib.hid (fun (W : World) (h : Below w.heap.size w W) => rrun_any (HRW.out.mono h) hn f (by omega))
  obtain ⟨R, hR⟩ : ∃ R, R = f + runN (bs.drop f) := ⟨_, rfl⟩
  rw [← hR] at HRN
  have HRR := Lib.hid hR
  have HRL := Lib.hid (show R ≤ bs.length by omega)
  have hff : ((f : Int) == (bs.length : Int)) = false := by rw [beq_eq_false_iff_ne]; omega
  have hffn : decide (f = bs.length) = false := decide_eq_false (by omega)
  have hfi : (f : Int) < bs.length := by omega
  have hf9 : f ≤ 99999 := by omega
  obtain ⟨r, hrr⟩ : ∃ r, r = w.heap.size := ⟨_, rfl⟩
  have HRE := Lib.hid hrr
  have HZ := Lib.hid (show (w.alloc (.cells #[.int .i64 0, .int .i64 0, .int .i64 0, .int .i64 0, .int .i64 0, .string ⟨#[]⟩, .slice none 0 0, .string ⟨#[]⟩] 32)).heap[r]? = some (.cells #[.int .i64 0, .int .i64 0, .int .i64 0, .int .i64 0, .int .i64 0, .string ⟨#[]⟩, .slice none 0 0, .string ⟨#[]⟩] 32 (0, 0)) from heapA_new _ hrr)
  have HB0 := Lib.hid (belowA w (.cells #[.int .i64 0, .int .i64 0, .int .i64 0, .int .i64 0, .int .i64 0, .string ⟨#[]⟩, .slice none 0 0, .string ⟨#[]⟩] 32))
  have hcf := hc f hfl
  obtain ⟨x, hx⟩ : ∃ x, (bs.getD f 0).toNat = x := ⟨_, rfl⟩
  rw [hx] at hcf
  obtain rfl : x = 60 := by rw [← hx, hc0]; rfl
  have HF1 := Lib.hid (show f + 1 ≤ bs.length by omega)
  have HC1 := Lib.hid (hc (f + 1) h1)
  have e2 := u8_ne h2 60 rfl
  generalize (bs.getD (f + 1) 0).toNat = y at *
  have hn1 : decide ((f : Int) + 1 < bs.length) = true := decide_eq_true (by omega)
  have hn1i : (f : Int) + 1 < bs.length := by omega
  clear h1 h2
  clear hr hf hR hrr hrl hk0 hk1 hc hV hx
  go_enter Try.func10, Try.ntmps10
  go_wp2_with fail
  refine (HS.out _ HB0.out).mono ?_
  rintro e w' ⟨rfl, rfl⟩
  rw [← HRE.out]
  generalize w.alloc _ = W1 at *
  have hcj1 := cell?_keep HB0.out hcf
  have hcj := cell?_keep (HB0.out.alloc HB0.out.size (.cells #[.int .i64 0, .int .i64 f, .int .i64 f, .int .i64 0, .int .i64 0, .string ⟨#[]⟩, .slice none 0 0, .string ⟨#[]⟩] 32)) hcf
  have hbn : ¬ b = W1.heap.size := by have := HB0.out.size; omega
  have hbl : b < W1.heap.size := by have := HB0.out.size; omega
  have HX := Lib.hid (show Rx w r W1.heap.size f (W1.alloc (.cells #[.int .i64 0, .int .i64 f, .int .i64 f, .int .i64 0, .int .i64 0, .string ⟨#[]⟩, .slice none 0 0, .string ⟨#[]⟩] 32)) from ⟨heapA_old _ HZ.out, heapA_new _ rfl, HB0.out.alloc HB0.out.size _, by rw [HRE.out]; exact Nat.le_refl _⟩)
  clear hcf
  go_wp2_with fail
  refine (HRN.out _ HX.out.bel).mono ?_
  rintro e w' ⟨rfl, rfl⟩
  clear hcj1 hcj hbn hbl
  generalize W1.alloc _ = W2 at *
  generalize W1.heap.size = p at *
  clear HZ HB0
  have hc1 := cell?_keep HX.out.bel HC1.out
  go_wp2_with fail
  have HHX := Lib.hid (rhexes_any (HRW.out.mono HX.out.bel) hn (f + 1) HF1.out last)
  rw [HH.out] at HHX
  unfold HexREnd at HHX
  refine HHX.out.mono ?_
  rintro e w3 ⟨hb3, h3⟩
  have HX3 := Lib.hid (HX.out.on hb3)
  clear hb3 HHX
  rcases h3 with ⟨h1, rfl⟩ | ⟨h1, rfl⟩ | ⟨h1, v, rfl, hO, hl⟩
  · have HV := Lib.hid (HVV.out.trans (nextF_no (e := openE last) HFL.out HC0.out (by rw [HT.out]; unfold hexK; rw [if_neg (by rw [h1]; decide), if_pos h1]) (openE_ne last)))
    have ho1 : (openE last != 0) = true := by cases last <;> rfl
    generalize openE last = oe at *
    clear h1
    obtain ⟨⟨k0, k1, k2, k3, k4, k5, k6, k7⟩, m0, m1, m2, m3, m4, m5, m6, m7⟩ := cells8 HX3.out.blk
    obtain ⟨⟨n0, n1, n2, n3, n4, n5, n6, n7⟩, -⟩ := cells8 HX3.out.no
    go_wp2
    refine bodyPost_ret (results_val rfl _ _ r 32 _ (0, 0) _ rfl (set8 HX3.out.blk _ _ _ _ _ _ _ _) Try.underlying32 rfl infoRTok _ rfl) rfl ?_
    exact next_fin (x := { kind := 0 }) HX3.out.bel HX3.out.wr HV.out _ _ _ _ _ _ _ _
  · have HV := Lib.hid (HVV.out.trans (nextF_no (e := 11) HFL.out HC0.out (by rw [HT.out]; unfold hexK; rw [if_neg (by rw [h1]; decide), if_neg (by rw [h1]; decide)]) (by decide)))
    clear h1
    obtain ⟨⟨k0, k1, k2, k3, k4, k5, k6, k7⟩, m0, m1, m2, m3, m4, m5, m6, m7⟩ := cells8 HX3.out.blk
    obtain ⟨⟨n0, n1, n2, n3, n4, n5, n6, n7⟩, -⟩ := cells8 HX3.out.no
    go_wp2
    refine bodyPost_ret (results_val rfl _ _ r 32 _ (0, 0) _ rfl (set8 HX3.out.blk _ _ _ _ _ _ _ _) Try.underlying32 rfl infoRTok _ rfl) rfl ?_
    exact next_fin (x := { kind := 0 }) HX3.out.bel HX3.out.wr HV.out _ _ _ _ _ _ _ _
  · have HV := Lib.hid (HVV.out.trans (nextF_len HFL.out HC0.out (x := { kind := 1, vk := 4, vs := H.2.1 }) (r := H.2.2) (by rw [HT.out]; unfold hexK; rw [if_pos h1]) hl))
    have hcv := conv_own hO
    obtain ⟨a3, c3, hv3, -⟩ := Row.of_owns hO
    subst hv3
    clear h1 hO hl
    obtain ⟨⟨k0, k1, k2, k3, k4, k5, k6, k7⟩, m0, m1, m2, m3, m4, m5, m6, m7⟩ := cells8 HX3.out.blk
    obtain ⟨⟨n0, n1, n2, n3, n4, n5, n6, n7⟩, -⟩ := cells8 HX3.out.no
    go_wp2
    refine bodyPost_ret (results_val rfl _ _ r 32 _ (0, 0) _ rfl (set8 HX3.out.blk _ _ _ _ _ _ _ _) Try.underlying32 rfl infoRTok _ rfl) rfl ?_
    exact next_fin (x := { kind := 1, vk := 4, vs := H.2.1 }) HX3.out.bel HX3.out.wr HV.out _ _ _ _ _ _ _ _
set_option maxRecDepth 8000 in
set_option maxHeartbeats 8000000 in
theorem rnext_text {w : World} {a : Option Addr} {cap : Nat} {bs : List UInt8} (hr : Row w 1 a bs.length cap (bs.map u8C)) (hn : bs.length ≤ 100000) {k : Int} (last : Bool) (hk0 : 0 ≤ k) (hk1 : k ≤ bs.length) {f : Nat} (hf : skipV bs k = f) (hfl : f < bs.length) {V : Tk × Int × Int × Int} (hV : V = nextF bs f last) (hc0 : bs.getD f 0 = 40) :
    Calls Try.prog 10 #[.slice a bs.length cap, .int .i64 k, .bool last] w (NextEnd w V) := by
  obtain ⟨H, hH⟩ : ∃ H, textV last 1 [] (bs.drop (f + 1)) = H := ⟨_, rfl⟩
  have HH := Lib.hid hH
  have HT := Lib.hid (show tokV last 40 (bs.drop (f + 1)) = txK last H by rw [tokV_text, hH])
  have HC0 := Lib.hid hc0
  have HVV := Lib.hid hV
  have HFL := Lib.hid hfl
  clear hH
  obtain ⟨b, off, ha, hbW, hc⟩ := hr.at 0 f hfl
  subst ha
  unfold u8C at hc
  have HRW := Lib.hid hr
  have HC := Lib.hid hc
  have hcap := hr.2.1
  have hcm := hr.i64c
  have hkd : decide (k < 0) = false := decide_eq_false (by omega)
  have hkd2 : decide ((bs.length : Int) < k) = false := decide_eq_false (by omega)
  have HS := Lib.hid (fun (W : World) (h : Below w.heap.size w W) => rskip_any (HRW.out.mono h) hn k)
  rw [hf] at HS
  have hrl := runN_le (bs.drop f)
  rw [List.length_drop] at hrl
  have HRN := Lib.hid (fun (W : World) (h : Below w.heap.size w W) => rrun_any (HRW.out.mono h) hn f (by omega))
  obtain ⟨R, hR⟩ : ∃ R, R = f + runN (bs.drop f) := ⟨_, rfl⟩
  rw [← hR] at HRN
  have HRR := Lib.hid hR
  have HRL := Lib.hid (show R ≤ bs.length by omega)
  have hff : ((f : Int) == (bs.length : Int)) = false := by rw [beq_eq_false_iff_ne]; omega
  have hffn : decide (f = bs.length) = false := decide_eq_false (by omega)
  have hfi : (f : Int) < bs.length := by omega
  have hf9 : f ≤ 99999 := by omega
  obtain ⟨r, hrr⟩ : ∃ r, r = w.heap.size := ⟨_, rfl⟩
  have HRE := Lib.hid hrr
  have HZ := Lib.hid (show (w.alloc (.cells #[.int .i64 0, .int .i64 0, .int .i64 0, .int .i64 0, .int .i64 0, .string ⟨#[]⟩, .slice none 0 0, .string ⟨#[]⟩] 32)).heap[r]? = some (.cells #[.int .i64 0, .int .i64 0, .int .i64 0, .int .i64 0, .int .i64 0, .string ⟨#[]⟩, .slice none 0 0, .string ⟨#[]⟩] 32 (0, 0)) from heapA_new _ hrr)
  have HB0 := Lib.hid (belowA w (.cells #[.int .i64 0, .int .i64 0, .int .i64 0, .int .i64 0, .int .i64 0, .string ⟨#[]⟩, .slice none 0 0, .string ⟨#[]⟩] 32))
  have hcf := hc f hfl
  obtain ⟨x, hx⟩ : ∃ x, (bs.getD f 0).toNat = x := ⟨_, rfl⟩
  rw [hx] at hcf
  obtain rfl : x = 40 := by rw [← hx, hc0]; rfl
  have HF1 := Lib.hid (show f + 1 ≤ bs.length by omega)
  clear hr hf hR hrr hrl hk0 hk1 hc hV hx
  go_enter Try.func10, Try.ntmps10
  go_wp2_with fail
  refine (HS.out _ HB0.out).mono ?_
  rintro e w' ⟨rfl, rfl⟩
  rw [← HRE.out]
  generalize w.alloc _ = W1 at *
  have hcj1 := cell?_keep HB0.out hcf
  have hcj := cell?_keep (HB0.out.alloc HB0.out.size (.cells #[.int .i64 0, .int .i64 f, .int .i64 f, .int .i64 0, .int .i64 0, .string ⟨#[]⟩, .slice none 0 0, .string ⟨#[]⟩] 32)) hcf
  have hbn : ¬ b = W1.heap.size := by have := HB0.out.size; omega
  have hbl : b < W1.heap.size := by have := HB0.out.size; omega
  have HX := Lib.hid (show Rx w r W1.heap.size f (W1.alloc (.cells #[.int .i64 0, .int .i64 f, .int .i64 f, .int .i64 0, .int .i64 0, .string ⟨#[]⟩, .slice none 0 0, .string ⟨#[]⟩] 32)) from ⟨heapA_old _ HZ.out, heapA_new _ rfl, HB0.out.alloc HB0.out.size _, by rw [HRE.out]; exact Nat.le_refl _⟩)
  clear hcf
  go_wp2_with fail
  refine (HRN.out _ HX.out.bel).mono ?_
  rintro e w' ⟨rfl, rfl⟩
  clear hcj1 hcj hbn hbl
  generalize W1.alloc _ = W2 at *
  generalize W1.heap.size = p at *
  clear HZ HB0
  go_wp2_with fail
  refine (rhexes_any (HRW.out.mono HX.out.bel) hn (f + 1) HF1.out last).mono ?_
  intro e w3 h3
  obtain ⟨v3, n3, er3, rfl, hb3⟩ := h3.some_end
  have HX3 := Lib.hid (HX.out.on hb3)
  clear hb3 h3
  go_wp2_with fail
  have HTX := Lib.hid (rtext_any (HRW.out.mono HX3.out.bel) hn (f + 1) HF1.out last)
  rw [HH.out] at HTX
  unfold TxtREnd at HTX
  refine HTX.out.mono ?_
  clear HTX HH
  cases H with
  | none =>
    rintro e w4 ⟨hb4, rfl⟩
    have HX4 := Lib.hid (HX3.out.on hb4)
    have HV := Lib.hid (HVV.out.trans (nextF_no (e := openE last) HFL.out HC0.out (by rw [HT.out]; rfl) (openE_ne last)))
    have ho1 : (openE last != 0) = true := by cases last <;> rfl
    generalize openE last = oe at *
    clear hb4
    obtain ⟨⟨k0, k1, k2, k3, k4, k5, k6, k7⟩, m0, m1, m2, m3, m4, m5, m6, m7⟩ := cells8 HX4.out.blk
    obtain ⟨⟨n0, n1, n2, n3, n4, n5, n6, n7⟩, -⟩ := cells8 HX4.out.no
    go_wp2
    refine bodyPost_ret (results_val rfl _ _ r 32 _ (0, 0) _ rfl (set8 HX4.out.blk _ _ _ _ _ _ _ _) Try.underlying32 rfl infoRTok _ rfl) rfl ?_
    exact next_fin (x := { kind := 0 }) HX4.out.bel HX4.out.wr HV.out _ _ _ _ _ _ _ _
  | some y =>
    obtain ⟨o, rr⟩ := y
    rintro e w4 ⟨hb4, v, rfl, hO, hl⟩
    have HX4 := Lib.hid (HX3.out.on hb4)
    have HV := Lib.hid (HVV.out.trans (nextF_len HFL.out HC0.out (x := { kind := 1, vk := 4, vs := o }) (r := rr) (by rw [HT.out]; rfl) hl))
    have hcv := conv_own hO
    obtain ⟨a3, c3, hv3, -⟩ := Row.of_owns hO
    subst hv3
    clear hb4 hO hl
    obtain ⟨⟨k0, k1, k2, k3, k4, k5, k6, k7⟩, m0, m1, m2, m3, m4, m5, m6, m7⟩ := cells8 HX4.out.blk
    obtain ⟨⟨n0, n1, n2, n3, n4, n5, n6, n7⟩, -⟩ := cells8 HX4.out.no
    go_wp2
    refine bodyPost_ret (results_val rfl _ _ r 32 _ (0, 0) _ rfl (set8 HX4.out.blk _ _ _ _ _ _ _ _) Try.underlying32 rfl infoRTok _ rfl) rfl ?_
    exact next_fin (x := { kind := 1, vk := 4, vs := o }) HX4.out.bel HX4.out.wr HV.out _ _ _ _ _ _ _ _
end Go.Proofs.Ytkolfecjlbnfkaa
