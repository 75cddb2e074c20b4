/-
  Our texts LexT to LexU, in one.
-/
import Derived.Test.YtnkodejgiabamaaGreatPkW12
/-
  The document's Next, walked: tokens of one sign, or two.
-/
namespace Go.Proofs.YtnkodejgiabamaaGreat
open Go.RowKit

set_option maxRecDepth 8000 in
set_option maxHeartbeats 8000000 in
theorem rnext_91 {w : World} {a : Option Addr} {cap : Nat} {bs : List UInt8} (hr : Row w 1 a bs.length cap (bs.map u8C)) (hn : bs.length ≤ 100000) {k : Int} (last : Bool) (hk0 : 0 ≤ k) (hk1 : k ≤ bs.length) {f : Nat} (hf : skipV bs k = f) (hfl : f < bs.length) {V : Tk × Int × Int × Int} (hV : V = nextF bs f last) (hc0 : bs.getD f 0 = 91) :
    Calls Tryz.prog 15 #[.slice a bs.length cap, .int .i64 k, .bool last] w (NextEnd w V) := by
  have HV := Lib.hid (hV.trans (nextF_ok (j := f + 1) hfl hc0 (tokV_91 last _) (by omega)))
  obtain ⟨b, off, ha, hbW, hc⟩ := hr.at 0 f hfl
  subst ha
  unfold u8C at hc
  have HRW := Lib.hid hr
  have HC := Lib.hid hc
  have hcap := hr.2.1
  have hcm := hr.i64c
  have hkd : decide (k < 0) = false := decide_eq_false (by omega)
  have hkd2 : decide ((bs.length : Int) < k) = false := decide_eq_false (by omega)
  have HS := Lib.hid (fun (W : World) (h : Below w.heap.size w W) => rskip_any (HRW.out.mono h) hn k)
  rw [hf] at HS
  have hrl := runN_le (bs.drop f)
  rw [List.length_drop] at hrl
  have HRN := Lib.hid (fun (W : World) (h : Below w.heap.size w W) => rrun_any (HRW.out.mono h) hn f (by omega))
  obtain ⟨R, hR⟩ : ∃ R, R = f + runN (bs.drop f) := ⟨_, rfl⟩
  rw [← hR] at HRN
  have HRR := Lib.hid hR
  have HRL := Lib.hid (show R ≤ bs.length by omega)
  have hff : ((f : Int) == (bs.length : Int)) = false := by rw [beq_eq_false_iff_ne]; omega
  have hffn : decide (f = bs.length) = false := decide_eq_false (by omega)
  have hfi : (f : Int) < bs.length := by omega
  have hf9 : f ≤ 99999 := by omega
  obtain ⟨r, hrr⟩ : ∃ r, r = w.heap.size := ⟨_, rfl⟩
  have HRE := Lib.hid hrr
  have HZ := Lib.hid (show (w.alloc (.cells #[.int .i64 0, .int .i64 0, .int .i64 0, .int .i64 0, .int .i64 0, .string ⟨#[]⟩, .slice none 0 0, .string ⟨#[]⟩] 50)).heap[r]? = some (.cells #[.int .i64 0, .int .i64 0, .int .i64 0, .int .i64 0, .int .i64 0, .string ⟨#[]⟩, .slice none 0 0, .string ⟨#[]⟩] 50 (0, 0)) from heapA_new _ hrr)
  have HB0 := Lib.hid (belowA w (.cells #[.int .i64 0, .int .i64 0, .int .i64 0, .int .i64 0, .int .i64 0, .string ⟨#[]⟩, .slice none 0 0, .string ⟨#[]⟩] 50))
  have hcf := hc f hfl
  obtain ⟨x, hx⟩ : ∃ x, (bs.getD f 0).toNat = x := ⟨_, rfl⟩
  rw [hx] at hcf
  obtain rfl : x = 91 := by rw [← hx, hc0]; rfl
  clear hr hf hR hrr hrl hk0 hk1 hc hV hx
  go_enter Tryz.func15, Tryz.ntmps15
  go_wp2_with fail
  refine (HS.out _ HB0.out).mono ?_
  rintro e w' ⟨rfl, rfl⟩
  rw [← HRE.out]
  generalize w.alloc _ = W1 at *
  have hcj1 := cell?_keep HB0.out hcf
  have hcj := cell?_keep (HB0.out.alloc HB0.out.size (.cells #[.int .i64 0, .int .i64 f, .int .i64 f, .int .i64 0, .int .i64 0, .string ⟨#[]⟩, .slice none 0 0, .string ⟨#[]⟩] 50)) hcf
  have hbn : ¬ b = W1.heap.size := by have := HB0.out.size; omega
  have hbl : b < W1.heap.size := by have := HB0.out.size; omega
  have HX := Lib.hid (show Rx w r W1.heap.size f (W1.alloc (.cells #[.int .i64 0, .int .i64 f, .int .i64 f, .int .i64 0, .int .i64 0, .string ⟨#[]⟩, .slice none 0 0, .string ⟨#[]⟩] 50)) from ⟨heapA_old _ HZ.out, heapA_new _ rfl, HB0.out.alloc HB0.out.size _, by rw [HRE.out]; exact Nat.le_refl _⟩)
  clear hcf
  go_wp2_with fail
  refine (HRN.out _ HX.out.bel).mono ?_
  rintro e w' ⟨rfl, rfl⟩
  clear hcj1 hcj hbn hbl
  generalize W1.alloc _ = W2 at *
  generalize W1.heap.size = p at *
  clear HZ HB0
  obtain ⟨⟨k0, k1, k2, k3, k4, k5, k6, k7⟩, m0, m1, m2, m3, m4, m5, m6, m7⟩ := cells8 HX.out.blk
  go_wp2
  refine bodyPost_ret (results_val rfl _ _ r 50 _ (0, 0) _ rfl (set8 HX.out.blk _ _ _ _ _ _ _ _) Tryz.underlying50 rfl infoRTok _ rfl) rfl ?_
  exact next_fin (x := { kind := 2 }) HX.out.bel HX.out.wr HV.out _ _ _ _ _ _ _ _
set_option maxRecDepth 8000 in
set_option maxHeartbeats 8000000 in
theorem rnext_93 {w : World} {a : Option Addr} {cap : Nat} {bs : List UInt8} (hr : Row w 1 a bs.length cap (bs.map u8C)) (hn : bs.length ≤ 100000) {k : Int} (last : Bool) (hk0 : 0 ≤ k) (hk1 : k ≤ bs.length) {f : Nat} (hf : skipV bs k = f) (hfl : f < bs.length) {V : Tk × Int × Int × Int} (hV : V = nextF bs f last) (hc0 : bs.getD f 0 = 93) :
    Calls Tryz.prog 15 #[.slice a bs.length cap, .int .i64 k, .bool last] w (NextEnd w V) := by
  have HV := Lib.hid (hV.trans (nextF_ok (j := f + 1) hfl hc0 (tokV_93 last _) (by omega)))
  obtain ⟨b, off, ha, hbW, hc⟩ := hr.at 0 f hfl
  subst ha
  unfold u8C at hc
  have HRW := Lib.hid hr
  have HC := Lib.hid hc
  have hcap := hr.2.1
  have hcm := hr.i64c
  have hkd : decide (k < 0) = false := decide_eq_false (by omega)
  have hkd2 : decide ((bs.length : Int) < k) = false := decide_eq_false (by omega)
  have HS := Lib.hid (fun (W : World) (h : Below w.heap.size w W) => rskip_any (HRW.out.mono h) hn k)
  rw [hf] at HS
  have hrl := runN_le (bs.drop f)
  rw [List.length_drop] at hrl
  have HRN := Lib.hid (fun (W : World) (h : Below w.heap.size w W) => rrun_any (HRW.out.mono h) hn f (by omega))
  obtain ⟨R, hR⟩ : ∃ R, R = f + runN (bs.drop f) := ⟨_, rfl⟩
  rw [← hR] at HRN
  have HRR := Lib.hid hR
  have HRL := Lib.hid (show R ≤ bs.length by omega)
  have hff : ((f : Int) == (bs.length : Int)) = false := by rw [beq_eq_false_iff_ne]; omega
  have hffn : decide (f = bs.length) = false := decide_eq_false (by omega)
  have hfi : (f : Int) < bs.length := by omega
  have hf9 : f ≤ 99999 := by omega
  obtain ⟨r, hrr⟩ : ∃ r, r = w.heap.size := ⟨_, rfl⟩
  have HRE := Lib.hid hrr
  have HZ := Lib.hid (show (w.alloc (.cells #[.int .i64 0, .int .i64 0, .int .i64 0, .int .i64 0, .int .i64 0, .string ⟨#[]⟩, .slice none 0 0, .string ⟨#[]⟩] 50)).heap[r]? = some (.cells #[.int .i64 0, .int .i64 0, .int .i64 0, .int .i64 0, .int .i64 0, .string ⟨#[]⟩, .slice none 0 0, .string ⟨#[]⟩] 50 (0, 0)) from heapA_new _ hrr)
  have HB0 := Lib.hid (belowA w (.cells #[.int .i64 0, .int .i64 0, .int .i64 0, .int .i64 0, .int .i64 0, .string ⟨#[]⟩, .slice none 0 0, .string ⟨#[]⟩] 50))
  have hcf := hc f hfl
  obtain ⟨x, hx⟩ : ∃ x, (bs.getD f 0).toNat = x := ⟨_, rfl⟩
  rw [hx] at hcf
  obtain rfl : x = 93 := by rw [← hx, hc0]; rfl
  clear hr hf hR hrr hrl hk0 hk1 hc hV hx
  go_enter Tryz.func15, Tryz.ntmps15
  go_wp2_with fail
  refine (HS.out _ HB0.out).mono ?_
  rintro e w' ⟨rfl, rfl⟩
  rw [← HRE.out]
  generalize w.alloc _ = W1 at *
  have hcj1 := cell?_keep HB0.out hcf
  have hcj := cell?_keep (HB0.out.alloc HB0.out.size (.cells #[.int .i64 0, .int .i64 f, .int .i64 f, .int .i64 0, .int .i64 0, .string ⟨#[]⟩, .slice none 0 0, .string ⟨#[]⟩] 50)) hcf
  have hbn : ¬ b = W1.heap.size := by have := HB0.out.size; omega
  have hbl : b < W1.heap.size := by have := HB0.out.size; omega
  have HX := Lib.hid (show Rx w r W1.heap.size f (W1.alloc (.cells #[.int .i64 0, .int .i64 f, .int .i64 f, .int .i64 0, .int .i64 0, .string ⟨#[]⟩, .slice none 0 0, .string ⟨#[]⟩] 50)) from ⟨heapA_old _ HZ.out, heapA_new _ rfl, HB0.out.alloc HB0.out.size _, by rw [HRE.out]; exact Nat.le_refl _⟩)
  clear hcf
  go_wp2_with fail
  refine (HRN.out _ HX.out.bel).mono ?_
  rintro e w' ⟨rfl, rfl⟩
  clear hcj1 hcj hbn hbl
  generalize W1.alloc _ = W2 at *
  generalize W1.heap.size = p at *
  clear HZ HB0
  obtain ⟨⟨k0, k1, k2, k3, k4, k5, k6, k7⟩, m0, m1, m2, m3, m4, m5, m6, m7⟩ := cells8 HX.out.blk
  go_wp2
  refine bodyPost_ret (results_val rfl _ _ r 50 _ (0, 0) _ rfl (set8 HX.out.blk _ _ _ _ _ _ _ _) Tryz.underlying50 rfl infoRTok _ rfl) rfl ?_
  exact next_fin (x := { kind := 3 }) HX.out.bel HX.out.wr HV.out _ _ _ _ _ _ _ _
set_option maxRecDepth 8000 in
set_option maxHeartbeats 8000000 in
theorem rnext_6060 {w : World} {a : Option Addr} {cap : Nat} {bs : List UInt8} (hr : Row w 1 a bs.length cap (bs.map u8C)) (hn : bs.length ≤ 100000) {k : Int} (last : Bool) (hk0 : 0 ≤ k) (hk1 : k ≤ bs.length) {f : Nat} (hf : skipV bs k = f) (hfl : f < bs.length) {V : Tk × Int × Int × Int} (hV : V = nextF bs f last) (hc0 : bs.getD f 0 = 60) (h1 : f + 1 < bs.length) (h2 : bs.getD (f + 1) 0 = 60) :
    Calls Tryz.prog 15 #[.slice a bs.length cap, .int .i64 k, .bool last] w (NextEnd w V) := by
  have HV := Lib.hid (hV.trans (nextF_ok (j := f + 2) (x := { kind := 4 }) hfl hc0 (by rw [drop_cons h1, h2]; rfl) (by omega)))
  obtain ⟨b, off, ha, hbW, hc⟩ := hr.at 0 f hfl
  subst ha
  unfold u8C at hc
  have HRW := Lib.hid hr
  have HC := Lib.hid hc
  have hcap := hr.2.1
  have hcm := hr.i64c
  have hkd : decide (k < 0) = false := decide_eq_false (by omega)
  have hkd2 : decide ((bs.length : Int) < k) = false := decide_eq_false (by omega)
  have HS := Lib.hid (fun (W : World) (h : Below w.heap.size w W) => rskip_any (HRW.out.mono h) hn k)
  rw [hf] at HS
  have hrl := runN_le (bs.drop f)
  rw [List.length_drop] at hrl
  have HRN := Lib.hid (fun (W : World) (h : Below w.heap.size w W) => rrun_any (HRW.out.mono h) hn f (by omega))
  obtain ⟨R, hR⟩ : ∃ R, R = f + runN (bs.drop f) := ⟨_, rfl⟩
  rw [← hR] at HRN
  have HRR := Lib.hid hR
  have HRL := Lib.hid (show R ≤ bs.length by omega)
  have hff : ((f : Int) == (bs.length : Int)) = false := by rw [beq_eq_false_iff_ne]; omega
  have hffn : decide (f = bs.length) = false := decide_eq_false (by omega)
  have hfi : (f : Int) < bs.length := by omega
  have hf9 : f ≤ 99999 := by omega
  obtain ⟨r, hrr⟩ : ∃ r, r = w.heap.size := ⟨_, rfl⟩
  have HRE := Lib.hid hrr
  have HZ := Lib.hid (show (w.alloc (.cells #[.int .i64 0, .int .i64 0, .int .i64 0, .int .i64 0, .int .i64 0, .string ⟨#[]⟩, .slice none 0 0, .string ⟨#[]⟩] 50)).heap[r]? = some (.cells #[.int .i64 0, .int .i64 0, .int .i64 0, .int .i64 0, .int .i64 0, .string ⟨#[]⟩, .slice none 0 0, .string ⟨#[]⟩] 50 (0, 0)) from heapA_new _ hrr)
  have HB0 := Lib.hid (belowA w (.cells #[.int .i64 0, .int .i64 0, .int .i64 0, .int .i64 0, .int .i64 0, .string ⟨#[]⟩, .slice none 0 0, .string ⟨#[]⟩] 50))
  have hcf := hc f hfl
  obtain ⟨x, hx⟩ : ∃ x, (bs.getD f 0).toNat = x := ⟨_, rfl⟩
  rw [hx] at hcf
  obtain rfl : x = 60 := by rw [← hx, hc0]; rfl
  have hc1 := hc (f + 1) h1
  rw [h2, show ((60 : UInt8).toNat : Int) = 60 from rfl] at hc1
  have HC1 := Lib.hid hc1
  have hn1 : decide ((f : Int) + 1 < bs.length) = true := decide_eq_true (by omega)
  have hn1i : (f : Int) + 1 < bs.length := by omega
  clear hc1 h1 h2
  clear hr hf hR hrr hrl hk0 hk1 hc hV hx
  go_enter Tryz.func15, Tryz.ntmps15
  go_wp2_with fail
  refine (HS.out _ HB0.out).mono ?_
  rintro e w' ⟨rfl, rfl⟩
  rw [← HRE.out]
  generalize w.alloc _ = W1 at *
  have hcj1 := cell?_keep HB0.out hcf
  have hcj := cell?_keep (HB0.out.alloc HB0.out.size (.cells #[.int .i64 0, .int .i64 f, .int .i64 f, .int .i64 0, .int .i64 0, .string ⟨#[]⟩, .slice none 0 0, .string ⟨#[]⟩] 50)) hcf
  have hbn : ¬ b = W1.heap.size := by have := HB0.out.size; omega
  have hbl : b < W1.heap.size := by have := HB0.out.size; omega
  have HX := Lib.hid (show Rx w r W1.heap.size f (W1.alloc (.cells #[.int .i64 0, .int .i64 f, .int .i64 f, .int .i64 0, .int .i64 0, .string ⟨#[]⟩, .slice none 0 0, .string ⟨#[]⟩] 50)) from ⟨heapA_old _ HZ.out, heapA_new _ rfl, HB0.out.alloc HB0.out.size _, by rw [HRE.out]; exact Nat.le_refl _⟩)
  clear hcf
  go_wp2_with fail
  refine (HRN.out _ HX.out.bel).mono ?_
  rintro e w' ⟨rfl, rfl⟩
  clear hcj1 hcj hbn hbl
  generalize W1.alloc _ = W2 at *
  generalize W1.heap.size = p at *
  clear HZ HB0
  have hc1 := cell?_keep HX.out.bel HC1.out
  obtain ⟨⟨k0, k1, k2, k3, k4, k5, k6, k7⟩, m0, m1, m2, m3, m4, m5, m6, m7⟩ := cells8 HX.out.blk
  go_wp2
  refine bodyPost_ret (results_val rfl _ _ r 50 _ (0, 0) _ rfl (set8 HX.out.blk _ _ _ _ _ _ _ _) Tryz.underlying50 rfl infoRTok _ rfl) rfl ?_
  exact next_fin (x := { kind := 4 }) HX.out.bel HX.out.wr HV.out _ _ _ _ _ _ _ _
set_option maxRecDepth 8000 in
set_option maxHeartbeats 8000000 in
theorem rnext_6262 {w : World} {a : Option Addr} {cap : Nat} {bs : List UInt8} (hr : Row w 1 a bs.length cap (bs.map u8C)) (hn : bs.length ≤ 100000) {k : Int} (last : Bool) (hk0 : 0 ≤ k) (hk1 : k ≤ bs.length) {f : Nat} (hf : skipV bs k = f) (hfl : f < bs.length) {V : Tk × Int × Int × Int} (hV : V = nextF bs f last) (hc0 : bs.getD f 0 = 62) (h1 : f + 1 < bs.length) (h2 : bs.getD (f + 1) 0 = 62) :
    Calls Tryz.prog 15 #[.slice a bs.length cap, .int .i64 k, .bool last] w (NextEnd w V) := by
  have HV := Lib.hid (hV.trans (nextF_ok (j := f + 2) (x := { kind := 5 }) hfl hc0 (by rw [drop_cons h1, h2]; rfl) (by omega)))
  obtain ⟨b, off, ha, hbW, hc⟩ := hr.at 0 f hfl
  subst ha
  unfold u8C at hc
  have HRW := Lib.hid hr
  have HC := Lib.hid hc
  have hcap := hr.2.1
  have hcm := hr.i64c
  have hkd : decide (k < 0) = false := decide_eq_false (by omega)
  have hkd2 : decide ((bs.length : Int) < k) = false := decide_eq_false (by omega)
  have HS := Lib.hid (fun (W : World) (h : Below w.heap.size w W) => rskip_any (HRW.out.mono h) hn k)
  rw [hf] at HS
  have hrl := runN_le (bs.drop f)
  rw [List.length_drop] at hrl
  have HRN := Lib.hid (fun (W : World) (h : Below w.heap.size w W) => rrun_any (HRW.out.mono h) hn f (by omega))
  obtain ⟨R, hR⟩ : ∃ R, R = f + runN (bs.drop f) := ⟨_, rfl⟩
  rw [← hR] at HRN
  have HRR := Lib.hid hR
  have HRL := Lib.hid (show R ≤ bs.length by omega)
  have hff : ((f : Int) == (bs.length : Int)) = false := by rw [beq_eq_false_iff_ne]; omega
  have hffn : decide (f = bs.length) = false := decide_eq_false (by omega)
  have hfi : (f : Int) < bs.length := by omega
  have hf9 : f ≤ 99999 := by omega
  obtain ⟨r, hrr⟩ : ∃ r, r = w.heap.size := ⟨_, rfl⟩
  have HRE := Lib.hid hrr
  have HZ := Lib.hid (show (w.alloc (.cells #[.int .i64 0, .int .i64 0, .int .i64 0, .int .i64 0, .int .i64 0, .string ⟨#[]⟩, .slice none 0 0, .string ⟨#[]⟩] 50)).heap[r]? = some (.cells #[.int .i64 0, .int .i64 0, .int .i64 0, .int .i64 0, .int .i64 0, .string ⟨#[]⟩, .slice none 0 0, .string ⟨#[]⟩] 50 (0, 0)) from heapA_new _ hrr)
  have HB0 := Lib.hid (belowA w (.cells #[.int .i64 0, .int .i64 0, .int .i64 0, .int .i64 0, .int .i64 0, .string ⟨#[]⟩, .slice none 0 0, .string ⟨#[]⟩] 50))
  have hcf := hc f hfl
  obtain ⟨x, hx⟩ : ∃ x, (bs.getD f 0).toNat = x := ⟨_, rfl⟩
  rw [hx] at hcf
  obtain rfl : x = 62 := by rw [← hx, hc0]; rfl
  have hc1 := hc (f + 1) h1
  rw [h2, show ((62 : UInt8).toNat : Int) = 62 from rfl] at hc1
  have HC1 := Lib.hid hc1
  have hn1 : decide ((f : Int) + 1 < bs.length) = true := decide_eq_true (by omega)
  have hn1i : (f : Int) + 1 < bs.length := by omega
  clear hc1 h1 h2
  clear hr hf hR hrr hrl hk0 hk1 hc hV hx
  go_enter Tryz.func15, Tryz.ntmps15
  go_wp2_with fail
  refine (HS.out _ HB0.out).mono ?_
  rintro e w' ⟨rfl, rfl⟩
  rw [← HRE.out]
  generalize w.alloc _ = W1 at *
  have hcj1 := cell?_keep HB0.out hcf
  have hcj := cell?_keep (HB0.out.alloc HB0.out.size (.cells #[.int .i64 0, .int .i64 f, .int .i64 f, .int .i64 0, .int .i64 0, .string ⟨#[]⟩, .slice none 0 0, .string ⟨#[]⟩] 50)) hcf
  have hbn : ¬ b = W1.heap.size := by have := HB0.out.size; omega
  have hbl : b < W1.heap.size := by have := HB0.out.size; omega
  have HX := Lib.hid (show Rx w r W1.heap.size f (W1.alloc (.cells #[.int .i64 0, .int .i64 f, .int .i64 f, .int .i64 0, .int .i64 0, .string ⟨#[]⟩, .slice none 0 0, .string ⟨#[]⟩] 50)) from ⟨heapA_old _ HZ.out, heapA_new _ rfl, HB0.out.alloc HB0.out.size _, by rw [HRE.out]; exact Nat.le_refl _⟩)
  clear hcf
  go_wp2_with fail
  refine (HRN.out _ HX.out.bel).mono ?_
  rintro e w' ⟨rfl, rfl⟩
  clear hcj1 hcj hbn hbl
  generalize W1.alloc _ = W2 at *
  generalize W1.heap.size = p at *
  clear HZ HB0
  have hc1 := cell?_keep HX.out.bel HC1.out
  obtain ⟨⟨k0, k1, k2, k3, k4, k5, k6, k7⟩, m0, m1, m2, m3, m4, m5, m6, m7⟩ := cells8 HX.out.blk
  go_wp2
  refine bodyPost_ret (results_val rfl _ _ r 50 _ (0, 0) _ rfl (set8 HX.out.blk _ _ _ _ _ _ _ _) Tryz.underlying50 rfl infoRTok _ rfl) rfl ?_
  exact next_fin (x := { kind := 5 }) HX.out.bel HX.out.wr HV.out _ _ _ _ _ _ _ _
set_option maxRecDepth 8000 in
set_option maxHeartbeats 8000000 in
theorem rnext_62more {w : World} {a : Option Addr} {cap : Nat} {bs : List UInt8} (hr : Row w 1 a bs.length cap (bs.map u8C)) (hn : bs.length ≤ 100000) {k : Int} (last : Bool) (hk0 : 0 ≤ k) (hk1 : k ≤ bs.length) {f : Nat} (hf : skipV bs k = f) (hfl : f < bs.length) {V : Tk × Int × Int × Int} (hV : V = nextF bs f last) (hc0 : bs.getD f 0 = 62) (h1 : f + 1 = bs.length) (hla : last = false) :
    Calls Tryz.prog 15 #[.slice a bs.length cap, .int .i64 k, .bool last] w (NextEnd w V) := by
  have HV := Lib.hid (hV.trans (nextF_no (e := 6) hfl hc0 (by rw [tokV_62, drop_nil (by omega), hla]; rfl) (by decide)))
  subst hla
  obtain ⟨b, off, ha, hbW, hc⟩ := hr.at 0 f hfl
  subst ha
  unfold u8C at hc
  have HRW := Lib.hid hr
  have HC := Lib.hid hc
  have hcap := hr.2.1
  have hcm := hr.i64c
  have hkd : decide (k < 0) = false := decide_eq_false (by omega)
  have hkd2 : decide ((bs.length : Int) < k) = false := decide_eq_false (by omega)
  have HS := Lib.hid (fun (W : World) (h : Below w.heap.size w W) => rskip_any (HRW.out.mono h) hn k)
  rw [hf] at HS
  have hrl := runN_le (bs.drop f)
  rw [List.length_drop] at hrl
  have HRN := Lib.hid (fun (W : World) (h : Below w.heap.size w W) => rrun_any (HRW.out.mono h) hn f (by omega))
  obtain ⟨R, hR⟩ : ∃ R, R = f + runN (bs.drop f) := ⟨_, rfl⟩
  rw [← hR] at HRN
  have HRR := Lib.hid hR
  have HRL := Lib.hid (show R ≤ bs.length by omega)
  have hff : ((f : Int) == (bs.length : Int)) = false := by rw [beq_eq_false_iff_ne]; omega
  have hffn : decide (f = bs.length) = false := decide_eq_false (by omega)
  have hfi : (f : Int) < bs.length := by omega
  have hf9 : f ≤ 99999 := by omega
  obtain ⟨r, hrr⟩ : ∃ r, r = w.heap.size := ⟨_, rfl⟩
  have HRE := Lib.hid hrr
  have HZ := Lib.hid (show (w.alloc (.cells #[.int .i64 0, .int .i64 0, .int .i64 0, .int .i64 0, .int .i64 0, .string ⟨#[]⟩, .slice none 0 0, .string ⟨#[]⟩] 50)).heap[r]? = some (.cells #[.int .i64 0, .int .i64 0, .int .i64 0, .int .i64 0, .int .i64 0, .string ⟨#[]⟩, .slice none 0 0, .string ⟨#[]⟩] 50 (0, 0)) from heapA_new _ hrr)
  have HB0 := Lib.hid (belowA w (.cells #[.int .i64 0, .int .i64 0, .int .i64 0, .int .i64 0, .int .i64 0, .string ⟨#[]⟩, .slice none 0 0, .string ⟨#[]⟩] 50))
  have hcf := hc f hfl
  obtain ⟨x, hx⟩ : ∃ x, (bs.getD f 0).toNat = x := ⟨_, rfl⟩
  rw [hx] at hcf
  obtain rfl : x = 62 := by rw [← hx, hc0]; rfl
  have hn1 : decide ((f : Int) + 1 < bs.length) = false := decide_eq_false (by omega)
  have hn2 : ((f : Int) + 1 == (bs.length : Int)) = true := by rw [beq_iff_eq]; omega
  have hn3 : decide ((f : Int) + 1 = (bs.length : Int)) = true := decide_eq_true (by omega)
  clear h1
  clear hr hf hR hrr hrl hk0 hk1 hc hV hx
  go_enter Tryz.func15, Tryz.ntmps15
  go_wp2_with fail
  refine (HS.out _ HB0.out).mono ?_
  rintro e w' ⟨rfl, rfl⟩
  rw [← HRE.out]
  generalize w.alloc _ = W1 at *
  have hcj1 := cell?_keep HB0.out hcf
  have hcj := cell?_keep (HB0.out.alloc HB0.out.size (.cells #[.int .i64 0, .int .i64 f, .int .i64 f, .int .i64 0, .int .i64 0, .string ⟨#[]⟩, .slice none 0 0, .string ⟨#[]⟩] 50)) hcf
  have hbn : ¬ b = W1.heap.size := by have := HB0.out.size; omega
  have hbl : b < W1.heap.size := by have := HB0.out.size; omega
  have HX := Lib.hid (show Rx w r W1.heap.size f (W1.alloc (.cells #[.int .i64 0, .int .i64 f, .int .i64 f, .int .i64 0, .int .i64 0, .string ⟨#[]⟩, .slice none 0 0, .string ⟨#[]⟩] 50)) from ⟨heapA_old _ HZ.out, heapA_new _ rfl, HB0.out.alloc HB0.out.size _, by rw [HRE.out]; exact Nat.le_refl _⟩)
  clear hcf
  go_wp2_with fail
  refine (HRN.out _ HX.out.bel).mono ?_
  rintro e w' ⟨rfl, rfl⟩
  clear hcj1 hcj hbn hbl
  generalize W1.alloc _ = W2 at *
  generalize W1.heap.size = p at *
  clear HZ HB0
  obtain ⟨⟨k0, k1, k2, k3, k4, k5, k6, k7⟩, m0, m1, m2, m3, m4, m5, m6, m7⟩ := cells8 HX.out.blk
  obtain ⟨⟨n0, n1, n2, n3, n4, n5, n6, n7⟩, -⟩ := cells8 HX.out.no
  go_wp2
  refine bodyPost_ret (results_val rfl _ _ r 50 _ (0, 0) _ rfl (set8 HX.out.blk _ _ _ _ _ _ _ _) Tryz.underlying50 rfl infoRTok _ rfl) rfl ?_
  exact next_fin (x := { kind := 0 }) HX.out.bel HX.out.wr HV.out _ _ _ _ _ _ _ _
set_option maxRecDepth 8000 in
set_option maxHeartbeats 8000000 in
theorem rnext_62last {w : World} {a : Option Addr} {cap : Nat} {bs : List UInt8} (hr : Row w 1 a bs.length cap (bs.map u8C)) (hn : bs.length ≤ 100000) {k : Int} (last : Bool) (hk0 : 0 ≤ k) (hk1 : k ≤ bs.length) {f : Nat} (hf : skipV bs k = f) (hfl : f < bs.length) {V : Tk × Int × Int × Int} (hV : V = nextF bs f last) (hc0 : bs.getD f 0 = 62) (h1 : f + 1 = bs.length) (hla : last = true) :
    Calls Tryz.prog 15 #[.slice a bs.length cap, .int .i64 k, .bool last] w (NextEnd w V) := by
  have HV := Lib.hid (hV.trans (nextF_no (e := 11) hfl hc0 (by rw [tokV_62, drop_nil (by omega), hla]; rfl) (by decide)))
  subst hla
  obtain ⟨b, off, ha, hbW, hc⟩ := hr.at 0 f hfl
  subst ha
  unfold u8C at hc
  have HRW := Lib.hid hr
  have HC := Lib.hid hc
  have hcap := hr.2.1
  have hcm := hr.i64c
  have hkd : decide (k < 0) = false := decide_eq_false (by omega)
  have hkd2 : decide ((bs.length : Int) < k) = false := decide_eq_false (by omega)
  have HS := Lib.hid (fun (W : World) (h : Below w.heap.size w W) => rskip_any (HRW.out.mono h) hn k)
  rw [hf] at HS
  have hrl := runN_le (bs.drop f)
  rw [List.length_drop] at hrl
  have HRN := Lib.hid (fun (W : World) (h : Below w.heap.size w W) => rrun_any (HRW.out.mono h) hn f (by omega))
  obtain ⟨R, hR⟩ : ∃ R, R = f + runN (bs.drop f) := ⟨_, rfl⟩
  rw [← hR] at HRN
  have HRR := Lib.hid hR
  have HRL := Lib.hid (show R ≤ bs.length by omega)
  have hff : ((f : Int) == (bs.length : Int)) = false := by rw [beq_eq_false_iff_ne]; omega
  have hffn : decide (f = bs.length) = false := decide_eq_false (by omega)
  have hfi : (f : Int) < bs.length := by omega
  have hf9 : f ≤ 99999 := by omega
  obtain ⟨r, hrr⟩ : ∃ r, r = w.heap.size := ⟨_, rfl⟩
  have HRE := Lib.hid hrr
  have HZ := Lib.hid (show (w.alloc (.cells #[.int .i64 0, .int .i64 0, .int .i64 0, .int .i64 0, .int .i64 0, .string ⟨#[]⟩, .slice none 0 0, .string ⟨#[]⟩] 50)).heap[r]? = some (.cells #[.int .i64 0, .int .i64 0, .int .i64 0, .int .i64 0, .int .i64 0, .string ⟨#[]⟩, .slice none 0 0, .string ⟨#[]⟩] 50 (0, 0)) from heapA_new _ hrr)
  have HB0 := Lib.hid (belowA w (.cells #[.int .i64 0, .int .i64 0, .int .i64 0, .int .i64 0, .int .i64 0, .string ⟨#[]⟩, .slice none 0 0, .string ⟨#[]⟩] 50))
  have hcf := hc f hfl
  obtain ⟨x, hx⟩ : ∃ x, (bs.getD f 0).toNat = x := ⟨_, rfl⟩
  rw [hx] at hcf
  obtain rfl : x = 62 := by rw [← hx, hc0]; rfl
  have hn1 : decide ((f : Int) + 1 < bs.length) = false := decide_eq_false (by omega)
  have hn2 : ((f : Int) + 1 == (bs.length : Int)) = true := by rw [beq_iff_eq]; omega
  have hn3 : decide ((f : Int) + 1 = (bs.length : Int)) = true := decide_eq_true (by omega)
  have HDL := Lib.hid (fun W => rdelim_any 62 W)
  rw [show dlI 62 = true from rfl] at HDL
  clear h1
  clear hr hf hR hrr hrl hk0 hk1 hc hV hx
  go_enter Tryz.func15, Tryz.ntmps15
  go_wp2_with fail
  refine (HS.out _ HB0.out).mono ?_
  rintro e w' ⟨rfl, rfl⟩
  rw [← HRE.out]
  generalize w.alloc _ = W1 at *
  have hcj1 := cell?_keep HB0.out hcf
  have hcj := cell?_keep (HB0.out.alloc HB0.out.size (.cells #[.int .i64 0, .int .i64 f, .int .i64 f, .int .i64 0, .int .i64 0, .string ⟨#[]⟩, .slice none 0 0, .string ⟨#[]⟩] 50)) hcf
  have hbn : ¬ b = W1.heap.size := by have := HB0.out.size; omega
  have hbl : b < W1.heap.size := by have := HB0.out.size; omega
  have HX := Lib.hid (show Rx w r W1.heap.size f (W1.alloc (.cells #[.int .i64 0, .int .i64 f, .int .i64 f, .int .i64 0, .int .i64 0, .string ⟨#[]⟩, .slice none 0 0, .string ⟨#[]⟩] 50)) from ⟨heapA_old _ HZ.out, heapA_new _ rfl, HB0.out.alloc HB0.out.size _, by rw [HRE.out]; exact Nat.le_refl _⟩)
  clear hcf
  go_wp2_with fail
  refine (HRN.out _ HX.out.bel).mono ?_
  rintro e w' ⟨rfl, rfl⟩
  clear hcj1 hcj hbn hbl
  generalize W1.alloc _ = W2 at *
  generalize W1.heap.size = p at *
  clear HZ HB0
  obtain ⟨⟨k0, k1, k2, k3, k4, k5, k6, k7⟩, m0, m1, m2, m3, m4, m5, m6, m7⟩ := cells8 HX.out.blk
  obtain ⟨⟨n0, n1, n2, n3, n4, n5, n6, n7⟩, -⟩ := cells8 HX.out.no
  go_wp2_with (go_at_call 32; refine (HDL.out _).mono ?_; rintro e w' ⟨rfl, rfl⟩)
  refine bodyPost_ret (results_val rfl _ _ r 50 _ (0, 0) _ rfl (set8 HX.out.blk _ _ _ _ _ _ _ _) Tryz.underlying50 rfl infoRTok _ rfl) rfl ?_
  exact next_fin (x := { kind := 0 }) HX.out.bel HX.out.wr HV.out _ _ _ _ _ _ _ _
set_option maxRecDepth 8000 in
set_option maxHeartbeats 8000000 in
theorem rnext_62form {w : World} {a : Option Addr} {cap : Nat} {bs : List UInt8} (hr : Row w 1 a bs.length cap (bs.map u8C)) (hn : bs.length ≤ 100000) {k : Int} (last : Bool) (hk0 : 0 ≤ k) (hk1 : k ≤ bs.length) {f : Nat} (hf : skipV bs k = f) (hfl : f < bs.length) {V : Tk × Int × Int × Int} (hV : V = nextF bs f last) (hc0 : bs.getD f 0 = 62) (h1 : f + 1 < bs.length) (h2 : bs.getD (f + 1) 0 ≠ 62) :
    Calls Tryz.prog 15 #[.slice a bs.length cap, .int .i64 k, .bool last] w (NextEnd w V) := by
  have HV := Lib.hid (hV.trans (nextF_no (e := 11) hfl hc0 (by rw [tokV_62, drop_cons h1]; simp only; rw [if_neg h2]) (by decide)))
  obtain ⟨b, off, ha, hbW, hc⟩ := hr.at 0 f hfl
  subst ha
  unfold u8C at hc
  have HRW := Lib.hid hr
  have HC := Lib.hid hc
  have hcap := hr.2.1
  have hcm := hr.i64c
  have hkd : decide (k < 0) = false := decide_eq_false (by omega)
  have hkd2 : decide ((bs.length : Int) < k) = false := decide_eq_false (by omega)
  have HS := Lib.hid (fun (W : World) (h : Below w.heap.size w W) => rskip_any (HRW.out.mono h) hn k)
  rw [hf] at HS
  have hrl := runN_le (bs.drop f)
  rw [List.length_drop] at hrl
  have HRN := Lib.hid (fun (W : World) (h : Below w.heap.size w W) => rrun_any (HRW.out.mono h) hn f (by omega))
  obtain ⟨R, hR⟩ : ∃ R, R = f + runN (bs.drop f) := ⟨_, rfl⟩
  rw [← hR] at HRN
  have HRR := Lib.hid hR
  have HRL := Lib.hid (show R ≤ bs.length by omega)
  have hff : ((f : Int) == (bs.length : Int)) = false := by rw [beq_eq_false_iff_ne]; omega
  have hffn : decide (f = bs.length) = false := decide_eq_false (by omega)
  have hfi : (f : Int) < bs.length := by omega
  have hf9 : f ≤ 99999 := by omega
  obtain ⟨r, hrr⟩ : ∃ r, r = w.heap.size := ⟨_, rfl⟩
  have HRE := Lib.hid hrr
  have HZ := Lib.hid (show (w.alloc (.cells #[.int .i64 0, .int .i64 0, .int .i64 0, .int .i64 0, .int .i64 0, .string ⟨#[]⟩, .slice none 0 0, .string ⟨#[]⟩] 50)).heap[r]? = some (.cells #[.int .i64 0, .int .i64 0, .int .i64 0, .int .i64 0, .int .i64 0, .string ⟨#[]⟩, .slice none 0 0, .string ⟨#[]⟩] 50 (0, 0)) from heapA_new _ hrr)
  have HB0 := Lib.hid (belowA w (.cells #[.int .i64 0, .int .i64 0, .int .i64 0, .int .i64 0, .int .i64 0, .string ⟨#[]⟩, .slice none 0 0, .string ⟨#[]⟩] 50))
  have hcf := hc f hfl
  obtain ⟨x, hx⟩ : ∃ x, (bs.getD f 0).toNat = x := ⟨_, rfl⟩
  rw [hx] at hcf
  obtain rfl : x = 62 := by rw [← hx, hc0]; rfl
  have HC1 := Lib.hid (hc (f + 1) h1)
  have e2 := u8_ne h2 62 rfl
  generalize (bs.getD (f + 1) 0).toNat = y at *
  have hn1 : decide ((f : Int) + 1 < bs.length) = true := decide_eq_true (by omega)
  have hn1i : (f : Int) + 1 < bs.length := by omega
  have hn2 : ((f : Int) + 1 == (bs.length : Int)) = false := by rw [beq_eq_false_iff_ne]; omega
  have hn3 : decide ((f : Int) + 1 = (bs.length : Int)) = false := decide_eq_false (by omega)
  have HDL := Lib.hid (fun W => rdelim_any 62 W)
  rw [show dlI 62 = true from rfl] at HDL
  clear h1 h2
  clear hr hf hR hrr hrl hk0 hk1 hc hV hx
  go_enter Tryz.func15, Tryz.ntmps15
  go_wp2_with fail
  refine (HS.out _ HB0.out).mono ?_
  rintro e w' ⟨rfl, rfl⟩
  rw [← HRE.out]
  generalize w.alloc _ = W1 at *
  have hcj1 := cell?_keep HB0.out hcf
  have hcj := cell?_keep (HB0.out.alloc HB0.out.size (.cells #[.int .i64 0, .int .i64 f, .int .i64 f, .int .i64 0, .int .i64 0, .string ⟨#[]⟩, .slice none 0 0, .string ⟨#[]⟩] 50)) hcf
  have hbn : ¬ b = W1.heap.size := by have := HB0.out.size; omega
  have hbl : b < W1.heap.size := by have := HB0.out.size; omega
  have HX := Lib.hid (show Rx w r W1.heap.size f (W1.alloc (.cells #[.int .i64 0, .int .i64 f, .int .i64 f, .int .i64 0, .int .i64 0, .string ⟨#[]⟩, .slice none 0 0, .string ⟨#[]⟩] 50)) from ⟨heapA_old _ HZ.out, heapA_new _ rfl, HB0.out.alloc HB0.out.size _, by rw [HRE.out]; exact Nat.le_refl _⟩)
  clear hcf
  go_wp2_with fail
  refine (HRN.out _ HX.out.bel).mono ?_
  rintro e w' ⟨rfl, rfl⟩
  clear hcj1 hcj hbn hbl
  generalize W1.alloc _ = W2 at *
  generalize W1.heap.size = p at *
  clear HZ HB0
  have hc1 := cell?_keep HX.out.bel HC1.out
  obtain ⟨⟨k0, k1, k2, k3, k4, k5, k6, k7⟩, m0, m1, m2, m3, m4, m5, m6, m7⟩ := cells8 HX.out.blk
  obtain ⟨⟨n0, n1, n2, n3, n4, n5, n6, n7⟩, -⟩ := cells8 HX.out.no
  go_wp2_with (go_at_call 32; refine (HDL.out _).mono ?_; rintro e w' ⟨rfl, rfl⟩)
  refine bodyPost_ret (results_val rfl _ _ r 50 _ (0, 0) _ rfl (set8 HX.out.blk _ _ _ _ _ _ _ _) Tryz.underlying50 rfl infoRTok _ rfl) rfl ?_
  exact next_fin (x := { kind := 0 }) HX.out.bel HX.out.wr HV.out _ _ _ _ _ _ _ _
set_option maxRecDepth 8000 in
set_option maxHeartbeats 8000000 in
theorem rnext_dl {w : World} {a : Option Addr} {cap : Nat} {bs : List UInt8} (hr : Row w 1 a bs.length cap (bs.map u8C)) (hn : bs.length ≤ 100000) {k : Int} (last : Bool) (hk0 : 0 ≤ k) (hk1 : k ≤ bs.length) {f : Nat} (hf : skipV bs k = f) (hfl : f < bs.length) {V : Tk × Int × Int × Int} (hV : V = nextF bs f last) (hd : isDl (bs.getD f 0) = true) (n1 : bs.getD f 0 ≠ 91) (n2 : bs.getD f 0 ≠ 93) (n3 : bs.getD f 0 ≠ 60) (n4 : bs.getD f 0 ≠ 62) (n5 : bs.getD f 0 ≠ 40) (n6 : bs.getD f 0 ≠ 47) :
    Calls Tryz.prog 15 #[.slice a bs.length cap, .int .i64 k, .bool last] w (NextEnd w V) := by
  have HV := Lib.hid (hV.trans (nextF_no (e := 11) hfl rfl (by rw [tokV_no _ _ _ (by unfold isRg; rw [hd]; simp) n1 n2 n3 n4 n5 n6]) (by decide)))
  obtain ⟨b, off, ha, hbW, hc⟩ := hr.at 0 f hfl
  subst ha
  unfold u8C at hc
  have HRW := Lib.hid hr
  have HC := Lib.hid hc
  have hcap := hr.2.1
  have hcm := hr.i64c
  have hkd : decide (k < 0) = false := decide_eq_false (by omega)
  have hkd2 : decide ((bs.length : Int) < k) = false := decide_eq_false (by omega)
  have HS := Lib.hid (fun (W : World) (h : Below w.heap.size w W) => rskip_any (HRW.out.mono h) hn k)
  rw [hf] at HS
  have hrl := runN_le (bs.drop f)
  rw [List.length_drop] at hrl
  have HRN := Lib.hid (fun (W : World) (h : Below w.heap.size w W) => rrun_any (HRW.out.mono h) hn f (by omega))
  obtain ⟨R, hR⟩ : ∃ R, R = f + runN (bs.drop f) := ⟨_, rfl⟩
  rw [← hR] at HRN
  have HRR := Lib.hid hR
  have HRL := Lib.hid (show R ≤ bs.length by omega)
  have hff : ((f : Int) == (bs.length : Int)) = false := by rw [beq_eq_false_iff_ne]; omega
  have hffn : decide (f = bs.length) = false := decide_eq_false (by omega)
  have hfi : (f : Int) < bs.length := by omega
  have hf9 : f ≤ 99999 := by omega
  obtain ⟨r, hrr⟩ : ∃ r, r = w.heap.size := ⟨_, rfl⟩
  have HRE := Lib.hid hrr
  have HZ := Lib.hid (show (w.alloc (.cells #[.int .i64 0, .int .i64 0, .int .i64 0, .int .i64 0, .int .i64 0, .string ⟨#[]⟩, .slice none 0 0, .string ⟨#[]⟩] 50)).heap[r]? = some (.cells #[.int .i64 0, .int .i64 0, .int .i64 0, .int .i64 0, .int .i64 0, .string ⟨#[]⟩, .slice none 0 0, .string ⟨#[]⟩] 50 (0, 0)) from heapA_new _ hrr)
  have HB0 := Lib.hid (belowA w (.cells #[.int .i64 0, .int .i64 0, .int .i64 0, .int .i64 0, .int .i64 0, .string ⟨#[]⟩, .slice none 0 0, .string ⟨#[]⟩] 50))
  have hcf := hc f hfl
  obtain ⟨x, hx⟩ : ∃ x, (bs.getD f 0).toNat = x := ⟨_, rfl⟩
  rw [hx] at hcf
  have e1 := u8_ne n1 91 rfl
  have e2 := u8_ne n2 93 rfl
  have e3 := u8_ne n3 60 rfl
  have e4 := u8_ne n4 62 rfl
  have e5 := u8_ne n5 40 rfl
  have e6 := u8_ne n6 47 rfl
  have HDL := Lib.hid (fun W => rdelim_any (bs.getD f 0).toNat W)
  rw [← dlI_eq, hd] at HDL
  rw [hx] at HDL e1 e2 e3 e4 e5 e6
  clear hd n1 n2 n3 n4 n5 n6
  clear hr hf hR hrr hrl hk0 hk1 hc hV hx
  go_enter Tryz.func15, Tryz.ntmps15
  go_wp2_with fail
  refine (HS.out _ HB0.out).mono ?_
  rintro e w' ⟨rfl, rfl⟩
  rw [← HRE.out]
  generalize w.alloc _ = W1 at *
  have hcj1 := cell?_keep HB0.out hcf
  have hcj := cell?_keep (HB0.out.alloc HB0.out.size (.cells #[.int .i64 0, .int .i64 f, .int .i64 f, .int .i64 0, .int .i64 0, .string ⟨#[]⟩, .slice none 0 0, .string ⟨#[]⟩] 50)) hcf
  have hbn : ¬ b = W1.heap.size := by have := HB0.out.size; omega
  have hbl : b < W1.heap.size := by have := HB0.out.size; omega
  have HX := Lib.hid (show Rx w r W1.heap.size f (W1.alloc (.cells #[.int .i64 0, .int .i64 f, .int .i64 f, .int .i64 0, .int .i64 0, .string ⟨#[]⟩, .slice none 0 0, .string ⟨#[]⟩] 50)) from ⟨heapA_old _ HZ.out, heapA_new _ rfl, HB0.out.alloc HB0.out.size _, by rw [HRE.out]; exact Nat.le_refl _⟩)
  clear hcf
  go_wp2_with fail
  refine (HRN.out _ HX.out.bel).mono ?_
  rintro e w' ⟨rfl, rfl⟩
  clear hcj1 hcj hbn hbl
  generalize W1.alloc _ = W2 at *
  generalize W1.heap.size = p at *
  clear HZ HB0
  obtain ⟨⟨k0, k1, k2, k3, k4, k5, k6, k7⟩, m0, m1, m2, m3, m4, m5, m6, m7⟩ := cells8 HX.out.blk
  obtain ⟨⟨n0, n1, n2, n3, n4, n5, n6, n7⟩, -⟩ := cells8 HX.out.no
  go_wp2_with (go_at_call 32; refine (HDL.out _).mono ?_; rintro e w' ⟨rfl, rfl⟩)
  refine bodyPost_ret (results_val rfl _ _ r 50 _ (0, 0) _ rfl (set8 HX.out.blk _ _ _ _ _ _ _ _) Tryz.underlying50 rfl infoRTok _ rfl) rfl ?_
  exact next_fin (x := { kind := 0 }) HX.out.bel HX.out.wr HV.out _ _ _ _ _ _ _ _
end Go.Proofs.YtnkodejgiabamaaGreat
/-
  The document's Next, walked: texts.
-/
namespace Go.Proofs.YtnkodejgiabamaaGreat
open Go.RowKit

set_option maxRecDepth 8000 in
set_option maxHeartbeats 8000000 in
theorem rnext_hexend {w : World} {a : Option Addr} {cap : Nat} {bs : List UInt8} (hr : Row w 1 a bs.length cap (bs.map u8C)) (hn : bs.length ≤ 100000) {k : Int} (last : Bool) (hk0 : 0 ≤ k) (hk1 : k ≤ bs.length) {f : Nat} (hf : skipV bs k = f) (hfl : f < bs.length) {V : Tk × Int × Int × Int} (hV : V = nextF bs f last) (hc0 : bs.getD f 0 = 60) (h1 : ¬ f + 1 < bs.length) :
    Calls Tryz.prog 15 #[.slice a bs.length cap, .int .i64 k, .bool last] w (NextEnd w V) := by
  obtain ⟨H, hH⟩ : ∃ H, hexV [] (-1) (bs.drop (f + 1)) = H := ⟨_, rfl⟩
  have HH := Lib.hid hH
  have ht : tokV last 60 (bs.drop (f + 1)) = hexK last H := by rw [← hH]; exact tokV_60 last _ (fun u e => by rw [drop_nil h1] at e; cases e)
  have HT := Lib.hid ht
  have HC0 := Lib.hid hc0
  have HVV := Lib.hid hV
  have HFL := Lib.hid hfl
  clear ht hH
  obtain ⟨b, off, ha, hbW, hc⟩ := hr.at 0 f hfl
  subst ha
  unfold u8C at hc
  have HRW := Lib.hid hr
  have HC := Lib.hid hc
  have hcap := hr.2.1
  have hcm := hr.i64c
  have hkd : decide (k < 0) = false := decide_eq_false (by omega)
  have hkd2 : decide ((bs.length : Int) < k) = false := decide_eq_false (by omega)
  have HS := Lib.hid (fun (W : World) (h : Below w.heap.size w W) => rskip_any (HRW.out.mono h) hn k)
  rw [hf] at HS
  have hrl := runN_le (bs.drop f)
  rw [List.length_drop] at hrl
  have HRN := Lib.hid (fun (W : World) (h : Below w.heap.size w W) => rrun_any (HRW.out.mono h) hn f (by omega))
  obtain ⟨R, hR⟩ : ∃ R, R = f + runN (bs.drop f) := ⟨_, rfl⟩
  rw [← hR] at HRN
  have HRR := Lib.hid hR
  have HRL := Lib.hid (show R ≤ bs.length by omega)
  have hff : ((f : Int) == (bs.length : Int)) = false := by rw [beq_eq_false_iff_ne]; omega
  have hffn : decide (f = bs.length) = false := decide_eq_false (by omega)
  have hfi : (f : Int) < bs.length := by omega
  have hf9 : f ≤ 99999 := by omega
  obtain ⟨r, hrr⟩ : ∃ r, r = w.heap.size := ⟨_, rfl⟩
  have HRE := Lib.hid hrr
  have HZ := Lib.hid (show (w.alloc (.cells #[.int .i64 0, .int .i64 0, .int .i64 0, .int .i64 0, .int .i64 0, .string ⟨#[]⟩, .slice none 0 0, .string ⟨#[]⟩] 50)).heap[r]? = some (.cells #[.int .i64 0, .int .i64 0, .int .i64 0, .int .i64 0, .int .i64 0, .string ⟨#[]⟩, .slice none 0 0, .string ⟨#[]⟩] 50 (0, 0)) from heapA_new _ hrr)
  have HB0 := Lib.hid (belowA w (.cells #[.int .i64 0, .int .i64 0, .int .i64 0, .int .i64 0, .int .i64 0, .string ⟨#[]⟩, .slice none 0 0, .string ⟨#[]⟩] 50))
  have hcf := hc f hfl
  obtain ⟨x, hx⟩ : ∃ x, (bs.getD f 0).toNat = x := ⟨_, rfl⟩
  rw [hx] at hcf
  obtain rfl : x = 60 := by rw [← hx, hc0]; rfl
  have HF1 := Lib.hid (show f + 1 ≤ bs.length by omega)
  have hn1 : decide ((f : Int) + 1 < bs.length) = false := decide_eq_false (by omega)
  clear h1
  clear hr hf hR hrr hrl hk0 hk1 hc hV hx
  go_enter Tryz.func15, Tryz.ntmps15
  go_wp2_with fail
  refine (HS.out _ HB0.out).mono ?_
  rintro e w' ⟨rfl, rfl⟩
  rw [← HRE.out]
  generalize w.alloc _ = W1 at *
  have hcj1 := cell?_keep HB0.out hcf
  have hcj := cell?_keep (HB0.out.alloc HB0.out.size (.cells #[.int .i64 0, .int .i64 f, .int .i64 f, .int .i64 0, .int .i64 0, .string ⟨#[]⟩, .slice none 0 0, .string ⟨#[]⟩] 50)) hcf
  have hbn : ¬ b = W1.heap.size := by have := HB0.out.size; omega
  have hbl : b < W1.heap.size := by have := HB0.out.size; omega
  have HX := Lib.hid (show Rx w r W1.heap.size f (W1.alloc (.cells #[.int .i64 0, .int .i64 f, .int .i64 f, .int .i64 0, .int .i64 0, .string ⟨#[]⟩, .slice none 0 0, .string ⟨#[]⟩] 50)) from ⟨heapA_old _ HZ.out, heapA_new _ rfl, HB0.out.alloc HB0.out.size _, by rw [HRE.out]; exact Nat.le_refl _⟩)
  clear hcf
  go_wp2_with fail
  refine (HRN.out _ HX.out.bel).mono ?_
  rintro e w' ⟨rfl, rfl⟩
  clear hcj1 hcj hbn hbl
  generalize W1.alloc _ = W2 at *
  generalize W1.heap.size = p at *
  clear HZ HB0
  go_wp2_with fail
  have HHX := Lib.hid (rhexes_any (HRW.out.mono HX.out.bel) hn (f + 1) HF1.out last)
  rw [HH.out] at HHX
  unfold HexREnd at HHX
  refine HHX.out.mono ?_
  rintro e w3 ⟨hb3, h3⟩
  have HX3 := Lib.hid (HX.out.on hb3)
  clear hb3 HHX
  rcases h3 with ⟨h1, rfl⟩ | ⟨h1, rfl⟩ | ⟨h1, v, rfl, hO, hl⟩
  · have HV := Lib.hid (HVV.out.trans (nextF_no (e := openE last) HFL.out HC0.out (by rw [HT.out]; unfold hexK; rw [if_neg (by rw [h1]; decide), if_pos h1]) (openE_ne last)))
    have ho1 : (openE last != 0) = true := by cases last <;> rfl
    generalize openE last = oe at *
    clear h1
    obtain ⟨⟨k0, k1, k2, k3, k4, k5, k6, k7⟩, m0, m1, m2, m3, m4, m5, m6, m7⟩ := cells8 HX3.out.blk
    obtain ⟨⟨n0, n1, n2, n3, n4, n5, n6, n7⟩, -⟩ := cells8 HX3.out.no
    go_wp2
    refine bodyPost_ret (results_val rfl _ _ r 50 _ (0, 0) _ rfl (set8 HX3.out.blk _ _ _ _ _ _ _ _) Tryz.underlying50 rfl infoRTok _ rfl) rfl ?_
    exact next_fin (x := { kind := 0 }) HX3.out.bel HX3.out.wr HV.out _ _ _ _ _ _ _ _
  · have HV := Lib.hid (HVV.out.trans (nextF_no (e := 11) HFL.out HC0.out (by rw [HT.out]; unfold hexK; rw [if_neg (by rw [h1]; decide), if_neg (by rw [h1]; decide)]) (by decide)))
    clear h1
    obtain ⟨⟨k0, k1, k2, k3, k4, k5, k6, k7⟩, m0, m1, m2, m3, m4, m5, m6, m7⟩ := cells8 HX3.out.blk
    obtain ⟨⟨n0, n1, n2, n3, n4, n5, n6, n7⟩, -⟩ := cells8 HX3.out.no
    go_wp2
    refine bodyPost_ret (results_val rfl _ _ r 50 _ (0, 0) _ rfl (set8 HX3.out.blk _ _ _ _ _ _ _ _) Tryz.underlying50 rfl infoRTok _ rfl) rfl ?_
    exact next_fin (x := { kind := 0 }) HX3.out.bel HX3.out.wr HV.out _ _ _ _ _ _ _ _
  · have HV := Lib.hid (HVV.out.trans (nextF_len HFL.out HC0.out (x := { kind := 1, vk := 4, vs := H.2.1 }) (r := H.2.2) (by rw [HT.out]; unfold hexK; rw [if_pos h1]) hl))
    have hcv := conv_own hO
    obtain ⟨a3, c3, hv3, -⟩ := Row.of_owns hO
    subst hv3
    clear h1 hO hl
    obtain ⟨⟨k0, k1, k2, k3, k4, k5, k6, k7⟩, m0, m1, m2, m3, m4, m5, m6, m7⟩ := cells8 HX3.out.blk
    obtain ⟨⟨n0, n1, n2, n3, n4, n5, n6, n7⟩, -⟩ := cells8 HX3.out.no
    go_wp2
    refine bodyPost_ret (results_val rfl _ _ r 50 _ (0, 0) _ rfl (set8 HX3.out.blk _ _ _ _ _ _ _ _) Tryz.underlying50 rfl infoRTok _ rfl) rfl ?_
    exact next_fin (x := { kind := 1, vk := 4, vs := H.2.1 }) HX3.out.bel HX3.out.wr HV.out _ _ _ _ _ _ _ _
set_option maxRecDepth 8000 in
set_option maxHeartbeats 8000000 in
theorem rnext_hex {w : World} {a : Option Addr} {cap : Nat} {bs : List UInt8} (hr : Row w 1 a bs.length cap (bs.map u8C)) (hn : bs.length ≤ 100000) {k : Int} (last : Bool) (hk0 : 0 ≤ k) (hk1 : k ≤ bs.length) {f : Nat} (hf : skipV bs k = f) (hfl : f < bs.length) {V : Tk × Int × Int × Int} (hV : V = nextF bs f last) (hc0 : bs.getD f 0 = 60) (h1 : f + 1 < bs.length) (h2 : bs.getD (f + 1) 0 ≠ 60) :
    Calls Tryz.prog 15 #[.slice a bs.length cap, .int .i64 k, .bool last] w (NextEnd w V) := by
  obtain ⟨H, hH⟩ : ∃ H, hexV [] (-1) (bs.drop (f + 1)) = H := ⟨_, rfl⟩
  have HH := Lib.hid hH
  have ht : tokV last 60 (bs.drop (f + 1)) = hexK last H := by rw [← hH]; exact tokV_60 last _ (fun u e => by rw [drop_cons h1] at e; exact h2 (List.cons.inj e).1)
  have HT := Lib.hid ht
  have HC0 := Lib.hid hc0
  have HVV := Lib.hid hV
  have HFL := Lib.hid hfl
  clear ht hH
  obtain ⟨b, off, ha, hbW, hc⟩ := hr.at 0 f hfl
  subst ha
  unfold u8C at hc
  have HRW := Lib.hid hr
  have HC := Lib.hid hc
  have hcap := hr.2.1
  have hcm := hr.i64c
  have hkd : decide (k < 0) = false := decide_eq_false (by omega)
  have hkd2 : decide ((bs.length : Int) < k) = false := decide_eq_false (by omega)
  have HS := Lib.hid (fun (W : World) (h : Below w.heap.size w W) => rskip_any (HRW.out.mono h) hn k)
  rw [hf] at HS
  have hrl := runN_le (bs.drop f)
  rw [List.length_drop] at hrl
  have HRN := Lib.hid (fun (W : World) (h : Below w.heap.size w W) => rrun_any (HRW.out.mono h) hn f (by omega))
  obtain ⟨R, hR⟩ : ∃ R, R = f + runN (bs.drop f) := ⟨_, rfl⟩
  rw [← hR] at HRN
  have HRR := Lib.hid hR
  have HRL := Lib.hid (show R ≤ bs.length by omega)
  have hff : ((f : Int) == (bs.length : Int)) = false := by rw [beq_eq_false_iff_ne]; omega
  have hffn : decide (f = bs.length) = false := decide_eq_false (by omega)
  have hfi : (f : Int) < bs.length := by omega
  have hf9 : f ≤ 99999 := by omega
  obtain ⟨r, hrr⟩ : ∃ r, r = w.heap.size := ⟨_, rfl⟩
  have HRE := Lib.hid hrr
  have HZ := Lib.hid (show (w.alloc (.cells #[.int .i64 0, .int .i64 0, .int .i64 0, .int .i64 0, .int .i64 0, .string ⟨#[]⟩, .slice none 0 0, .string ⟨#[]⟩] 50)).heap[r]? = some (.cells #[.int .i64 0, .int .i64 0, .int .i64 0, .int .i64 0, .int .i64 0, .string ⟨#[]⟩, .slice none 0 0, .string ⟨#[]⟩] 50 (0, 0)) from heapA_new _ hrr)
  have HB0 := Lib.hid (belowA w (.cells #[.int .i64 0, .int .i64 0, .int .i64 0, .int .i64 0, .int .i64 0, .string ⟨#[]⟩, .slice none 0 0, .string ⟨#[]⟩] 50))
  have hcf := hc f hfl
  obtain ⟨x, hx⟩ : ∃ x, (bs.getD f 0).toNat = x := ⟨_, rfl⟩
  rw [hx] at hcf
  obtain rfl : x = 60 := by rw [← hx, hc0]; rfl
  have HF1 := Lib.hid (show f + 1 ≤ bs.length by omega)
  have HC1 := Lib.hid (hc (f + 1) h1)
  have e2 := u8_ne h2 60 rfl
  generalize (bs.getD (f + 1) 0).toNat = y at *
  have hn1 : decide ((f : Int) + 1 < bs.length) = true := decide_eq_true (by omega)
  have hn1i : (f : Int) + 1 < bs.length := by omega
  clear h1 h2
  clear hr hf hR hrr hrl hk0 hk1 hc hV hx
  go_enter Tryz.func15, Tryz.ntmps15
  go_wp2_with fail
  refine (HS.out _ HB0.out).mono ?_
  rintro e w' ⟨rfl, rfl⟩
  rw [← HRE.out]
  generalize w.alloc _ = W1 at *
  have hcj1 := cell?_keep HB0.out hcf
  have hcj := cell?_keep (HB0.out.alloc HB0.out.size (.cells #[.int .i64 0, .int .i64 f, .int .i64 f, .int .i64 0, .int .i64 0, .string ⟨#[]⟩, .slice none 0 0, .string ⟨#[]⟩] 50)) hcf
  have hbn : ¬ b = W1.heap.size := by have := HB0.out.size; omega
  have hbl : b < W1.heap.size := by have := HB0.out.size; omega
  have HX := Lib.hid (show Rx w r W1.heap.size f (W1.alloc (.cells #[.int .i64 0, .int .i64 f, .int .i64 f, .int .i64 0, .int .i64 0, .string ⟨#[]⟩, .slice none 0 0, .string ⟨#[]⟩] 50)) from ⟨heapA_old _ HZ.out, heapA_new _ rfl, HB0.out.alloc HB0.out.size _, by rw [HRE.out]; exact Nat.le_refl _⟩)
  clear hcf
  go_wp2_with fail
  refine (HRN.out _ HX.out.bel).mono ?_
  rintro e w' ⟨rfl, rfl⟩
  clear hcj1 hcj hbn hbl
  generalize W1.alloc _ = W2 at *
  generalize W1.heap.size = p at *
  clear HZ HB0
  have hc1 := cell?_keep HX.out.bel HC1.out
  go_wp2_with fail
  have HHX := Lib.hid (rhexes_any (HRW.out.mono HX.out.bel) hn (f + 1) HF1.out last)
  rw [HH.out] at HHX
  unfold HexREnd at HHX
  refine HHX.out.mono ?_
  rintro e w3 ⟨hb3, h3⟩
  have HX3 := Lib.hid (HX.out.on hb3)
  clear hb3 HHX
  rcases h3 with ⟨h1, rfl⟩ | ⟨h1, rfl⟩ | ⟨h1, v, rfl, hO, hl⟩
  · have HV := Lib.hid (HVV.out.trans (nextF_no (e := openE last) HFL.out HC0.out (by rw [HT.out]; unfold hexK; rw [if_neg (by rw [h1]; decide), if_pos h1]) (openE_ne last)))
    have ho1 : (openE last != 0) = true := by cases last <;> rfl
    generalize openE last = oe at *
    clear h1
    obtain ⟨⟨k0, k1, k2, k3, k4, k5, k6, k7⟩, m0, m1, m2, m3, m4, m5, m6, m7⟩ := cells8 HX3.out.blk
    obtain ⟨⟨n0, n1, n2, n3, n4, n5, n6, n7⟩, -⟩ := cells8 HX3.out.no
    go_wp2
    refine bodyPost_ret (results_val rfl _ _ r 50 _ (0, 0) _ rfl (set8 HX3.out.blk _ _ _ _ _ _ _ _) Tryz.underlying50 rfl infoRTok _ rfl) rfl ?_
    exact next_fin (x := { kind := 0 }) HX3.out.bel HX3.out.wr HV.out _ _ _ _ _ _ _ _
  · have HV := Lib.hid (HVV.out.trans (nextF_no (e := 11) HFL.out HC0.out (by rw [HT.out]; unfold hexK; rw [if_neg (by rw [h1]; decide), if_neg (by rw [h1]; decide)]) (by decide)))
    clear h1
    obtain ⟨⟨k0, k1, k2, k3, k4, k5, k6, k7⟩, m0, m1, m2, m3, m4, m5, m6, m7⟩ := cells8 HX3.out.blk
    obtain ⟨⟨n0, n1, n2, n3, n4, n5, n6, n7⟩, -⟩ := cells8 HX3.out.no
    go_wp2
    refine bodyPost_ret (results_val rfl _ _ r 50 _ (0, 0) _ rfl (set8 HX3.out.blk _ _ _ _ _ _ _ _) Tryz.underlying50 rfl infoRTok _ rfl) rfl ?_
    exact next_fin (x := { kind := 0 }) HX3.out.bel HX3.out.wr HV.out _ _ _ _ _ _ _ _
  · have HV := Lib.hid (HVV.out.trans (nextF_len HFL.out HC0.out (x := { kind := 1, vk := 4, vs := H.2.1 }) (r := H.2.2) (by rw [HT.out]; unfold hexK; rw [if_pos h1]) hl))
    have hcv := conv_own hO
    obtain ⟨a3, c3, hv3, -⟩ := Row.of_owns hO
    subst hv3
    clear h1 hO hl
    obtain ⟨⟨k0, k1, k2, k3, k4, k5, k6, k7⟩, m0, m1, m2, m3, m4, m5, m6, m7⟩ := cells8 HX3.out.blk
    obtain ⟨⟨n0, n1, n2, n3, n4, n5, n6, n7⟩, -⟩ := cells8 HX3.out.no
    go_wp2
    refine bodyPost_ret (results_val rfl _ _ r 50 _ (0, 0) _ rfl (set8 HX3.out.blk _ _ _ _ _ _ _ _) Tryz.underlying50 rfl infoRTok _ rfl) rfl ?_
    exact next_fin (x := { kind := 1, vk := 4, vs := H.2.1 }) HX3.out.bel HX3.out.wr HV.out _ _ _ _ _ _ _ _
set_option maxRecDepth 8000 in
set_option maxHeartbeats 8000000 in
theorem rnext_text {w : World} {a : Option Addr} {cap : Nat} {bs : List UInt8} (hr : Row w 1 a bs.length cap (bs.map u8C)) (hn : bs.length ≤ 100000) {k : Int} (last : Bool) (hk0 : 0 ≤ k) (hk1 : k ≤ bs.length) {f : Nat} (hf : skipV bs k = f) (hfl : f < bs.length) {V : Tk × Int × Int × Int} (hV : V = nextF bs f last) (hc0 : bs.getD f 0 = 40) :
    Calls Tryz.prog 15 #[.slice a bs.length cap, .int .i64 k, .bool last] w (NextEnd w V) := by
  obtain ⟨H, hH⟩ : ∃ H, textV last 1 [] (bs.drop (f + 1)) = H := ⟨_, rfl⟩
  have HH := Lib.hid hH
  have HT := Lib.hid (show tokV last 40 (bs.drop (f + 1)) = txK last H by rw [tokV_text, hH])
  have HC0 := Lib.hid hc0
  have HVV := Lib.hid hV
  have HFL := Lib.hid hfl
  clear hH
  obtain ⟨b, off, ha, hbW, hc⟩ := hr.at 0 f hfl
  subst ha
  unfold u8C at hc
  have HRW := Lib.hid hr
  have HC := Lib.hid hc
  have hcap := hr.2.1
  have hcm := hr.i64c
  have hkd : decide (k < 0) = false := decide_eq_false (by omega)
  have hkd2 : decide ((bs.length : Int) < k) = false := decide_eq_false (by omega)
  have HS := Lib.hid (fun (W : World) (h : Below w.heap.size w W) => rskip_any (HRW.out.mono h) hn k)
  rw [hf] at HS
  have hrl := runN_le (bs.drop f)
  rw [List.length_drop] at hrl
  have HRN := Lib.hid (fun (W : World) (h : Below w.heap.size w W) => rrun_any (HRW.out.mono h) hn f (by omega))
  obtain ⟨R, hR⟩ : ∃ R, R = f + runN (bs.drop f) := ⟨_, rfl⟩
  rw [← hR] at HRN
  have HRR := Lib.hid hR
  have HRL := Lib.hid (show R ≤ bs.length by omega)
  have hff : ((f : Int) == (bs.length : Int)) = false := by rw [beq_eq_false_iff_ne]; omega
  have hffn : decide (f = bs.length) = false := decide_eq_false (by omega)
  have hfi : (f : Int) < bs.length := by omega
  have hf9 : f ≤ 99999 := by omega
  obtain ⟨r, hrr⟩ : ∃ r, r = w.heap.size := ⟨_, rfl⟩
  have HRE := Lib.hid hrr
  have HZ := Lib.hid (show (w.alloc (.cells #[.int .i64 0, .int .i64 0, .int .i64 0, .int .i64 0, .int .i64 0, .string ⟨#[]⟩, .slice none 0 0, .string ⟨#[]⟩] 50)).heap[r]? = some (.cells #[.int .i64 0, .int .i64 0, .int .i64 0, .int .i64 0, .int .i64 0, .string ⟨#[]⟩, .slice none 0 0, .string ⟨#[]⟩] 50 (0, 0)) from heapA_new _ hrr)
  have HB0 := Lib.hid (belowA w (.cells #[.int .i64 0, .int .i64 0, .int .i64 0, .int .i64 0, .int .i64 0, .string ⟨#[]⟩, .slice none 0 0, .string ⟨#[]⟩] 50))
  have hcf := hc f hfl
  obtain ⟨x, hx⟩ : ∃ x, (bs.getD f 0).toNat = x := ⟨_, rfl⟩
  rw [hx] at hcf
  obtain rfl : x = 40 := by rw [← hx, hc0]; rfl
  have HF1 := Lib.hid (show f + 1 ≤ bs.length by omega)
  clear hr hf hR hrr hrl hk0 hk1 hc hV hx
  go_enter Tryz.func15, Tryz.ntmps15
  go_wp2_with fail
  refine (HS.out _ HB0.out).mono ?_
  rintro e w' ⟨rfl, rfl⟩
  rw [← HRE.out]
  generalize w.alloc _ = W1 at *
  have hcj1 := cell?_keep HB0.out hcf
  have hcj := cell?_keep (HB0.out.alloc HB0.out.size (.cells #[.int .i64 0, .int .i64 f, .int .i64 f, .int .i64 0, .int .i64 0, .string ⟨#[]⟩, .slice none 0 0, .string ⟨#[]⟩] 50)) hcf
  have hbn : ¬ b = W1.heap.size := by have := HB0.out.size; omega
  have hbl : b < W1.heap.size := by have := HB0.out.size; omega
  have HX := Lib.hid (show Rx w r W1.heap.size f (W1.alloc (.cells #[.int .i64 0, .int .i64 f, .int .i64 f, .int .i64 0, .int .i64 0, .string ⟨#[]⟩, .slice none 0 0, .string ⟨#[]⟩] 50)) from ⟨heapA_old _ HZ.out, heapA_new _ rfl, HB0.out.alloc HB0.out.size _, by rw [HRE.out]; exact Nat.le_refl _⟩)
  clear hcf
  go_wp2_with fail
  refine (HRN.out _ HX.out.bel).mono ?_
  rintro e w' ⟨rfl, rfl⟩
  clear hcj1 hcj hbn hbl
  generalize W1.alloc _ = W2 at *
  generalize W1.heap.size = p at *
  clear HZ HB0
  go_wp2_with fail
  refine (rhexes_any (HRW.out.mono HX.out.bel) hn (f + 1) HF1.out last).mono ?_
  intro e w3 h3
  obtain ⟨v3, n3, er3, rfl, hb3⟩ := h3.some_end
  have HX3 := Lib.hid (HX.out.on hb3)
  clear hb3 h3
  go_wp2_with fail
  have HTX := Lib.hid (rtext_any (HRW.out.mono HX3.out.bel) hn (f + 1) HF1.out last)
  rw [HH.out] at HTX
  unfold TxtREnd at HTX
  refine HTX.out.mono ?_
  clear HTX HH
  cases H with
  | none =>
    rintro e w4 ⟨hb4, rfl⟩
    have HX4 := Lib.hid (HX3.out.on hb4)
    have HV := Lib.hid (HVV.out.trans (nextF_no (e := openE last) HFL.out HC0.out (by rw [HT.out]; rfl) (openE_ne last)))
    have ho1 : (openE last != 0) = true := by cases last <;> rfl
    generalize openE last = oe at *
    clear hb4
    obtain ⟨⟨k0, k1, k2, k3, k4, k5, k6, k7⟩, m0, m1, m2, m3, m4, m5, m6, m7⟩ := cells8 HX4.out.blk
    obtain ⟨⟨n0, n1, n2, n3, n4, n5, n6, n7⟩, -⟩ := cells8 HX4.out.no
    go_wp2
    refine bodyPost_ret (results_val rfl _ _ r 50 _ (0, 0) _ rfl (set8 HX4.out.blk _ _ _ _ _ _ _ _) Tryz.underlying50 rfl infoRTok _ rfl) rfl ?_
    exact next_fin (x := { kind := 0 }) HX4.out.bel HX4.out.wr HV.out _ _ _ _ _ _ _ _
  | some y =>
    obtain ⟨o, rr⟩ := y
    rintro e w4 ⟨hb4, v, rfl, hO, hl⟩
    have HX4 := Lib.hid (HX3.out.on hb4)
    have HV := Lib.hid (HVV.out.trans (nextF_len HFL.out HC0.out (x := { kind := 1, vk := 4, vs := o }) (r := rr) (by rw [HT.out]; rfl) hl))
    have hcv := conv_own hO
    obtain ⟨a3, c3, hv3, -⟩ := Row.of_owns hO
    subst hv3
    clear hb4 hO hl
    obtain ⟨⟨k0, k1, k2, k3, k4, k5, k6, k7⟩, m0, m1, m2, m3, m4, m5, m6, m7⟩ := cells8 HX4.out.blk
    obtain ⟨⟨n0, n1, n2, n3, n4, n5, n6, n7⟩, -⟩ := cells8 HX4.out.no
    go_wp2
    refine bodyPost_ret (results_val rfl _ _ r 50 _ (0, 0) _ rfl (set8 HX4.out.blk _ _ _ _ _ _ _ _) Tryz.underlying50 rfl infoRTok _ rfl) rfl ?_
    exact next_fin (x := { kind := 1, vk := 4, vs := o }) HX4.out.bel HX4.out.wr HV.out _ _ _ _ _ _ _ _
end Go.Proofs.YtnkodejgiabamaaGreat
