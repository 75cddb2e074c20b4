/-
  Our texts LexV to LexV1, in one.
-/
import Derived.Test.YtnkodejgiabamaaGreatPkW13
/-
  The document's Next, walked: names.
-/
namespace Go.Proofs.YtnkodejgiabamaaGreat
open Go.RowKit

theorem Row.cut {α : Type} {enc : α → Value} {w : World} {b off n cap : Nat} {l : List α} (h : Row w 1 (some ⟨b, off, none⟩) n cap (l.map enc)) (lo m : Nat) (hm : lo + m ≤ n) : Row w 1 (some ⟨b, off + lo, none⟩) ((l.drop lo).take m).length (cap - lo) (((l.drop lo).take m).map enc) := by
  have hl := h.len1
  obtain ⟨h1, h2, h3, h4, h5⟩ := h
  have e : ((l.drop lo).take m).length = m := by rw [List.length_take, List.length_drop]; omega
  rw [e]
  refine ⟨by simp; omega, by omega, by omega, fun h => (by cases h), fun h0 => ?_⟩
  obtain ⟨b', off', ha, hb, hc⟩ := h5 (by omega)
  cases ha
  refine ⟨b, off + lo, rfl, hb, fun j u hj => ?_⟩
  rw [Nat.add_assoc]
  refine hc (lo + j) u ?_
  rw [List.getElem?_map] at hj ⊢
  obtain ⟨x, hx, hxu⟩ := Option.map_eq_some_iff.1 hj
  rw [List.getElem?_take] at hx
  split at hx
  · rw [List.getElem?_drop] at hx
    rw [hx]; exact congrArg some hxu
  · cases hx
def nmK (N : Option (List UInt8)) (r : List UInt8) : Int × Tk × List UInt8 := match N with
  | none => (17, { kind := 0 }, [])
  | some o => (0, { kind := 1, vk := 5, vs := o }, r)
theorem tokV_name {last : Bool} {t : List UInt8} {N : Option (List UInt8)} (h : ¬ (runN t = t.length ∧ last = false)) (hN : nameV (regs t) = N) : tokV last 47 t = nmK N (t.drop (runN t)) := by
  rw [tokV_slash]; unfold slV; rw [if_neg h, hN]
  cases N <;> rfl
theorem Row.none1 {α : Type} {enc : α → Value} (w : World) (a : Addr) : Row w 1 (some a) ([] : List α).length 0 (([] : List α).map enc) := ⟨rfl, Nat.le_refl _, by unfold maxLen; omega, fun h => (by cases h), fun h => absurd h (by simp)⟩

set_option maxRecDepth 8000 in
set_option maxHeartbeats 8000000 in
theorem rnext_namemore {w : World} {a : Option Addr} {cap : Nat} {bs : List UInt8} (hr : Row w 1 a bs.length cap (bs.map u8C)) (hn : bs.length ≤ 100000) {k : Int} (last : Bool) (hk0 : 0 ≤ k) (hk1 : k ≤ bs.length) {f : Nat} (hf : skipV bs k = f) (hfl : f < bs.length) {V : Tk × Int × Int × Int} (hV : V = nextF bs f last) (hc0 : bs.getD f 0 = 47) (h1 : f + 1 + runN (bs.drop (f + 1)) = bs.length) (hla : last = false) :
    Calls Tryz.prog 15 #[.slice a bs.length cap, .int .i64 k, .bool last] w (NextEnd w V) := by
  have HV := Lib.hid (hV.trans (nextF_no (e := 6) hfl hc0 (by rw [tokV_slash]; unfold slV; rw [if_pos ⟨by rw [List.length_drop]; omega, hla⟩]) (by decide)))
  subst hla
  obtain ⟨b, off, ha, hbW, hc⟩ := hr.at 0 f hfl
  subst ha
  unfold u8C at hc
  have HRW := Lib.hid hr
  have HC := Lib.hid hc
  have hcap := hr.2.1
  have hcm := hr.i64c
  have hkd : decide (k < 0) = false := decide_eq_false (by omega)
  have hkd2 : decide ((bs.length : Int) < k) = false := decide_eq_false (by omega)
  have HS := Lib.hid (fun (W : World) (h : Below w.heap.size w W) => rskip_any (HRW.out.mono h) hn k)
  rw [hf] at HS
  have hrl := runN_le (bs.drop f)
  rw [List.length_drop] at hrl
  have HRN := Lib.hid (fun (W : World) (h : Below w.heap.size w W) => rrun_any (HRW.out.mono h) hn f (by omega))
  obtain ⟨R, hR⟩ : ∃ R, R = f + runN (bs.drop f) := ⟨_, rfl⟩
  rw [← hR] at HRN
  have HRR := Lib.hid hR
  have HRL := Lib.hid (show R ≤ bs.length by omega)
  have hff : ((f : Int) == (bs.length : Int)) = false := by rw [beq_eq_false_iff_ne]; omega
  have hffn : decide (f = bs.length) = false := decide_eq_false (by omega)
  have hfi : (f : Int) < bs.length := by omega
  have hf9 : f ≤ 99999 := by omega
  obtain ⟨r, hrr⟩ : ∃ r, r = w.heap.size := ⟨_, rfl⟩
  have HRE := Lib.hid hrr
  have HZ := Lib.hid (show (w.alloc (.cells #[.int .i64 0, .int .i64 0, .int .i64 0, .int .i64 0, .int .i64 0, .string ⟨#[]⟩, .slice none 0 0, .string ⟨#[]⟩] 50)).heap[r]? = some (.cells #[.int .i64 0, .int .i64 0, .int .i64 0, .int .i64 0, .int .i64 0, .string ⟨#[]⟩, .slice none 0 0, .string ⟨#[]⟩] 50 (0, 0)) from heapA_new _ hrr)
  have HB0 := Lib.hid (belowA w (.cells #[.int .i64 0, .int .i64 0, .int .i64 0, .int .i64 0, .int .i64 0, .string ⟨#[]⟩, .slice none 0 0, .string ⟨#[]⟩] 50))
  have hcf := hc f hfl
  obtain ⟨x, hx⟩ : ∃ x, (bs.getD f 0).toNat = x := ⟨_, rfl⟩
  rw [hx] at hcf
  obtain rfl : x = 47 := by rw [← hx, hc0]; rfl
  have hrl2 := runN_le (bs.drop (f + 1))
  rw [List.length_drop] at hrl2
  have HRN2 := Lib.hid (fun (W : World) (h : Below w.heap.size w W) => rrun_any (HRW.out.mono h) hn (f + 1) (by omega))
  obtain ⟨E, hE⟩ : ∃ E, E = f + 1 + runN (bs.drop (f + 1)) := ⟨_, rfl⟩
  rw [← hE] at HRN2
  have hEl : E ≤ bs.length := by omega
  have hEf : f + 1 ≤ E := by omega
  obtain rfl : E = bs.length := hE.trans h1
  clear h1 hE hrl2
  clear hr hf hR hrr hrl hk0 hk1 hc hV hx
  go_enter Tryz.func15, Tryz.ntmps15
  go_wp2_with fail
  refine (HS.out _ HB0.out).mono ?_
  rintro e w' ⟨rfl, rfl⟩
  rw [← HRE.out]
  generalize w.alloc _ = W1 at *
  have hcj1 := cell?_keep HB0.out hcf
  have hcj := cell?_keep (HB0.out.alloc HB0.out.size (.cells #[.int .i64 0, .int .i64 f, .int .i64 f, .int .i64 0, .int .i64 0, .string ⟨#[]⟩, .slice none 0 0, .string ⟨#[]⟩] 50)) hcf
  have hbn : ¬ b = W1.heap.size := by have := HB0.out.size; omega
  have hbl : b < W1.heap.size := by have := HB0.out.size; omega
  have HX := Lib.hid (show Rx w r W1.heap.size f (W1.alloc (.cells #[.int .i64 0, .int .i64 f, .int .i64 f, .int .i64 0, .int .i64 0, .string ⟨#[]⟩, .slice none 0 0, .string ⟨#[]⟩] 50)) from ⟨heapA_old _ HZ.out, heapA_new _ rfl, HB0.out.alloc HB0.out.size _, by rw [HRE.out]; exact Nat.le_refl _⟩)
  clear hcf
  go_wp2_with fail
  refine (HRN.out _ HX.out.bel).mono ?_
  rintro e w' ⟨rfl, rfl⟩
  clear hcj1 hcj hbn hbl
  generalize W1.alloc _ = W2 at *
  generalize W1.heap.size = p at *
  clear HZ HB0
  go_wp2_with fail
  refine (HRN2.out _ HX.out.bel).mono ?_
  rintro e w' ⟨rfl, rfl⟩
  obtain ⟨⟨k0, k1, k2, k3, k4, k5, k6, k7⟩, m0, m1, m2, m3, m4, m5, m6, m7⟩ := cells8 HX.out.blk
  obtain ⟨⟨n0, n1, n2, n3, n4, n5, n6, n7⟩, -⟩ := cells8 HX.out.no
  go_wp2
  refine bodyPost_ret (results_val rfl _ _ r 50 _ (0, 0) _ rfl (set8 HX.out.blk _ _ _ _ _ _ _ _) Tryz.underlying50 rfl infoRTok _ rfl) rfl ?_
  exact next_fin (x := { kind := 0 }) HX.out.bel HX.out.wr HV.out _ _ _ _ _ _ _ _
set_option maxRecDepth 8000 in
set_option maxHeartbeats 8000000 in
theorem rnext_name {w : World} {a : Option Addr} {cap : Nat} {bs : List UInt8} (hr : Row w 1 a bs.length cap (bs.map u8C)) (hn : bs.length ≤ 100000) {k : Int} (last : Bool) (hk0 : 0 ≤ k) (hk1 : k ≤ bs.length) {f : Nat} (hf : skipV bs k = f) (hfl : f < bs.length) {V : Tk × Int × Int × Int} (hV : V = nextF bs f last) (hc0 : bs.getD f 0 = 47) (hne : f + 1 + runN (bs.drop (f + 1)) = bs.length → last = false → False) (h1 : f + 1 + runN (bs.drop (f + 1)) ≠ bs.length) (hcf1 : ¬ cap = f + 1) :
    Calls Tryz.prog 15 #[.slice a bs.length cap, .int .i64 k, .bool last] w (NextEnd w V) := by
  obtain ⟨N, hN⟩ : ∃ N, nameV (regs (bs.drop (f + 1))) = N := ⟨_, rfl⟩
  have ht : tokV last 47 (bs.drop (f + 1)) = nmK N (bs.drop (f + 1 + runN (bs.drop (f + 1)))) := by
    rw [tokV_name (fun h => hne (by have h1 := h.1; rw [List.length_drop] at h1; omega) h.2) hN, List.drop_drop]
  have HT := Lib.hid ht
  have HN := Lib.hid hN
  have HC0 := Lib.hid hc0
  have HVV := Lib.hid hV
  have HFL := Lib.hid hfl
  clear ht hN hne
  obtain ⟨b, off, ha, hbW, hc⟩ := hr.at 0 f hfl
  subst ha
  unfold u8C at hc
  have HRW := Lib.hid hr
  have HC := Lib.hid hc
  have hcap := hr.2.1
  have hcm := hr.i64c
  have hkd : decide (k < 0) = false := decide_eq_false (by omega)
  have hkd2 : decide ((bs.length : Int) < k) = false := decide_eq_false (by omega)
  have HS := Lib.hid (fun (W : World) (h : Below w.heap.size w W) => rskip_any (HRW.out.mono h) hn k)
  rw [hf] at HS
  have hrl := runN_le (bs.drop f)
  rw [List.length_drop] at hrl
  have HRN := Lib.hid (fun (W : World) (h : Below w.heap.size w W) => rrun_any (HRW.out.mono h) hn f (by omega))
  obtain ⟨R, hR⟩ : ∃ R, R = f + runN (bs.drop f) := ⟨_, rfl⟩
  rw [← hR] at HRN
  have HRR := Lib.hid hR
  have HRL := Lib.hid (show R ≤ bs.length by omega)
  have hff : ((f : Int) == (bs.length : Int)) = false := by rw [beq_eq_false_iff_ne]; omega
  have hffn : decide (f = bs.length) = false := decide_eq_false (by omega)
  have hfi : (f : Int) < bs.length := by omega
  have hf9 : f ≤ 99999 := by omega
  obtain ⟨r, hrr⟩ : ∃ r, r = w.heap.size := ⟨_, rfl⟩
  have HRE := Lib.hid hrr
  have HZ := Lib.hid (show (w.alloc (.cells #[.int .i64 0, .int .i64 0, .int .i64 0, .int .i64 0, .int .i64 0, .string ⟨#[]⟩, .slice none 0 0, .string ⟨#[]⟩] 50)).heap[r]? = some (.cells #[.int .i64 0, .int .i64 0, .int .i64 0, .int .i64 0, .int .i64 0, .string ⟨#[]⟩, .slice none 0 0, .string ⟨#[]⟩] 50 (0, 0)) from heapA_new _ hrr)
  have HB0 := Lib.hid (belowA w (.cells #[.int .i64 0, .int .i64 0, .int .i64 0, .int .i64 0, .int .i64 0, .string ⟨#[]⟩, .slice none 0 0, .string ⟨#[]⟩] 50))
  have hcf := hc f hfl
  obtain ⟨x, hx⟩ : ∃ x, (bs.getD f 0).toNat = x := ⟨_, rfl⟩
  rw [hx] at hcf
  obtain rfl : x = 47 := by rw [← hx, hc0]; rfl
  have hrl2 := runN_le (bs.drop (f + 1))
  rw [List.length_drop] at hrl2
  have HRN2 := Lib.hid (fun (W : World) (h : Below w.heap.size w W) => rrun_any (HRW.out.mono h) hn (f + 1) (by omega))
  obtain ⟨E, hE⟩ : ∃ E, E = f + 1 + runN (bs.drop (f + 1)) := ⟨_, rfl⟩
  rw [← hE] at HRN2
  have hEl : E ≤ bs.length := by omega
  have hEf : f + 1 ≤ E := by omega
  rw [← hE] at HT
  have HEL := Lib.hid hEl
  have q1 : ((E : Int) == (bs.length : Int)) = false := by rw [beq_eq_false_iff_ne]; omega
  have q2 : decide (E = bs.length) = false := decide_eq_false (by omega)
  have HCU := Lib.hid (fun (W : World) (h : Below w.heap.size w W) => (HRW.out.mono h).cut (f + 1) (E - (f + 1)) (by omega))
  have hrg : (bs.drop (f + 1)).take (E - (f + 1)) = regs (bs.drop (f + 1)) := by rw [regs_take, hE, Nat.add_sub_cancel_left]
  rw [hrg] at HCU
  have hrgl : (regs (bs.drop (f + 1))).length = E - (f + 1) := by show runN _ = _; omega
  have HGL := Lib.hid hrgl
  have hce : ¬ cap = f + 1 := hcf1
  clear hcf1 hrg hrgl
  clear h1 hE hrl2
  clear hr hf hR hrr hrl hk0 hk1 hc hV hx
  go_enter Tryz.func15, Tryz.ntmps15
  go_wp2_with fail
  refine (HS.out _ HB0.out).mono ?_
  rintro e w' ⟨rfl, rfl⟩
  rw [← HRE.out]
  generalize w.alloc _ = W1 at *
  have hcj1 := cell?_keep HB0.out hcf
  have hcj := cell?_keep (HB0.out.alloc HB0.out.size (.cells #[.int .i64 0, .int .i64 f, .int .i64 f, .int .i64 0, .int .i64 0, .string ⟨#[]⟩, .slice none 0 0, .string ⟨#[]⟩] 50)) hcf
  have hbn : ¬ b = W1.heap.size := by have := HB0.out.size; omega
  have hbl : b < W1.heap.size := by have := HB0.out.size; omega
  have HX := Lib.hid (show Rx w r W1.heap.size f (W1.alloc (.cells #[.int .i64 0, .int .i64 f, .int .i64 f, .int .i64 0, .int .i64 0, .string ⟨#[]⟩, .slice none 0 0, .string ⟨#[]⟩] 50)) from ⟨heapA_old _ HZ.out, heapA_new _ rfl, HB0.out.alloc HB0.out.size _, by rw [HRE.out]; exact Nat.le_refl _⟩)
  clear hcf
  go_wp2_with fail
  refine (HRN.out _ HX.out.bel).mono ?_
  rintro e w' ⟨rfl, rfl⟩
  clear hcj1 hcj hbn hbl
  generalize W1.alloc _ = W2 at *
  generalize W1.heap.size = p at *
  clear HZ HB0
  go_wp2_with fail
  refine (HRN2.out _ HX.out.bel).mono ?_
  rintro e w' ⟨rfl, rfl⟩
  have HNM := Lib.hid (rname_any (HCU.out _ HX.out.bel) (by rw [HGL.out]; omega))
  rw [HGL.out] at HNM
  rw [HN.out] at HNM
  unfold NameEnd at HNM
  go_wp2_with fail
  refine HNM.out.mono ?_
  clear HNM HN
  cases N with
  | none =>
    rintro e w3 ⟨hb3, rfl⟩
    unfold valC noStr
    have HX3 := Lib.hid ((HX.out.on hb3).alloc (.cells #[.int .i64 0, .int .i64 0, .string ⟨#[]⟩, .slice none 0 0] 26))
    have HV := Lib.hid (HVV.out.trans (nextF_no (e := 17) HFL.out HC0.out (by rw [HT.out]; rfl) (by decide)))
    clear hb3
    obtain ⟨⟨k0, k1, k2, k3, k4, k5, k6, k7⟩, m0, m1, m2, m3, m4, m5, m6, m7⟩ := cells8 HX3.out.blk
    obtain ⟨⟨n0, n1, n2, n3, n4, n5, n6, n7⟩, -⟩ := cells8 HX3.out.no
    go_wp2
    refine bodyPost_ret (results_val rfl _ _ r 50 _ (0, 0) _ rfl (set8 HX3.out.blk _ _ _ _ _ _ _ _) Tryz.underlying50 rfl infoRTok _ rfl) rfl ?_
    exact next_fin (x := { kind := 0 }) HX3.out.bel HX3.out.wr HV.out _ _ _ _ _ _ _ _
  | some o =>
    rintro e w3 ⟨hb3, rfl⟩
    unfold valC
    have HX3 := Lib.hid ((HX.out.on hb3).alloc (.cells #[.int .i64 5, .int .i64 0, .string (mkB o), .slice none 0 0] 26))
    have HV := Lib.hid (HVV.out.trans (nextF_ok HFL.out HC0.out (x := { kind := 1, vk := 5, vs := o }) (j := E) (by rw [HT.out]; rfl) HEL.out))
    clear hb3
    obtain ⟨⟨k0, k1, k2, k3, k4, k5, k6, k7⟩, m0, m1, m2, m3, m4, m5, m6, m7⟩ := cells8 HX3.out.blk
    obtain ⟨⟨n0, n1, n2, n3, n4, n5, n6, n7⟩, -⟩ := cells8 HX3.out.no
    go_wp2
    refine bodyPost_ret (results_val rfl _ _ r 50 _ (0, 0) _ rfl (set8 HX3.out.blk _ _ _ _ _ _ _ _) Tryz.underlying50 rfl infoRTok _ rfl) rfl ?_
    exact next_fin (x := { kind := 1, vk := 5, vs := o }) HX3.out.bel HX3.out.wr HV.out _ _ _ _ _ _ _ _
set_option maxRecDepth 8000 in
set_option maxHeartbeats 8000000 in
theorem rnext_namelast {w : World} {a : Option Addr} {cap : Nat} {bs : List UInt8} (hr : Row w 1 a bs.length cap (bs.map u8C)) (hn : bs.length ≤ 100000) {k : Int} (last : Bool) (hk0 : 0 ≤ k) (hk1 : k ≤ bs.length) {f : Nat} (hf : skipV bs k = f) (hfl : f < bs.length) {V : Tk × Int × Int × Int} (hV : V = nextF bs f last) (hc0 : bs.getD f 0 = 47) (hne : f + 1 + runN (bs.drop (f + 1)) = bs.length → last = false → False) (h1 : f + 1 + runN (bs.drop (f + 1)) = bs.length) (hla : last = true) (hcf1 : ¬ cap = f + 1) :
    Calls Tryz.prog 15 #[.slice a bs.length cap, .int .i64 k, .bool last] w (NextEnd w V) := by
  obtain ⟨N, hN⟩ : ∃ N, nameV (regs (bs.drop (f + 1))) = N := ⟨_, rfl⟩
  have ht : tokV last 47 (bs.drop (f + 1)) = nmK N (bs.drop (f + 1 + runN (bs.drop (f + 1)))) := by
    rw [tokV_name (fun h => hne (by have h1 := h.1; rw [List.length_drop] at h1; omega) h.2) hN, List.drop_drop]
  have HT := Lib.hid ht
  have HN := Lib.hid hN
  have HC0 := Lib.hid hc0
  have HVV := Lib.hid hV
  have HFL := Lib.hid hfl
  clear ht hN hne
  obtain ⟨b, off, ha, hbW, hc⟩ := hr.at 0 f hfl
  subst ha
  unfold u8C at hc
  have HRW := Lib.hid hr
  have HC := Lib.hid hc
  have hcap := hr.2.1
  have hcm := hr.i64c
  have hkd : decide (k < 0) = false := decide_eq_false (by omega)
  have hkd2 : decide ((bs.length : Int) < k) = false := decide_eq_false (by omega)
  have HS := Lib.hid (fun (W : World) (h : Below w.heap.size w W) => rskip_any (HRW.out.mono h) hn k)
  rw [hf] at HS
  have hrl := runN_le (bs.drop f)
  rw [List.length_drop] at hrl
  have HRN := Lib.hid (fun (W : World) (h : Below w.heap.size w W) => rrun_any (HRW.out.mono h) hn f (by omega))
  obtain ⟨R, hR⟩ : ∃ R, R = f + runN (bs.drop f) := ⟨_, rfl⟩
  rw [← hR] at HRN
  have HRR := Lib.hid hR
  have HRL := Lib.hid (show R ≤ bs.length by omega)
  have hff : ((f : Int) == (bs.length : Int)) = false := by rw [beq_eq_false_iff_ne]; omega
  have hffn : decide (f = bs.length) = false := decide_eq_false (by omega)
  have hfi : (f : Int) < bs.length := by omega
  have hf9 : f ≤ 99999 := by omega
  obtain ⟨r, hrr⟩ : ∃ r, r = w.heap.size := ⟨_, rfl⟩
  have HRE := Lib.hid hrr
  have HZ := Lib.hid (show (w.alloc (.cells #[.int .i64 0, .int .i64 0, .int .i64 0, .int .i64 0, .int .i64 0, .string ⟨#[]⟩, .slice none 0 0, .string ⟨#[]⟩] 50)).heap[r]? = some (.cells #[.int .i64 0, .int .i64 0, .int .i64 0, .int .i64 0, .int .i64 0, .string ⟨#[]⟩, .slice none 0 0, .string ⟨#[]⟩] 50 (0, 0)) from heapA_new _ hrr)
  have HB0 := Lib.hid (belowA w (.cells #[.int .i64 0, .int .i64 0, .int .i64 0, .int .i64 0, .int .i64 0, .string ⟨#[]⟩, .slice none 0 0, .string ⟨#[]⟩] 50))
  have hcf := hc f hfl
  obtain ⟨x, hx⟩ : ∃ x, (bs.getD f 0).toNat = x := ⟨_, rfl⟩
  rw [hx] at hcf
  obtain rfl : x = 47 := by rw [← hx, hc0]; rfl
  have hrl2 := runN_le (bs.drop (f + 1))
  rw [List.length_drop] at hrl2
  have HRN2 := Lib.hid (fun (W : World) (h : Below w.heap.size w W) => rrun_any (HRW.out.mono h) hn (f + 1) (by omega))
  obtain ⟨E, hE⟩ : ∃ E, E = f + 1 + runN (bs.drop (f + 1)) := ⟨_, rfl⟩
  rw [← hE] at HRN2
  have hEl : E ≤ bs.length := by omega
  have hEf : f + 1 ≤ E := by omega
  rw [← hE] at HT
  have HEL := Lib.hid hEl
  subst hla
  have HCU := Lib.hid (fun (W : World) (h : Below w.heap.size w W) => (HRW.out.mono h).cut (f + 1) (E - (f + 1)) (by omega))
  have hrg : (bs.drop (f + 1)).take (E - (f + 1)) = regs (bs.drop (f + 1)) := by rw [regs_take, hE, Nat.add_sub_cancel_left]
  rw [hrg] at HCU
  have hrgl : (regs (bs.drop (f + 1))).length = E - (f + 1) := by show runN _ = _; omega
  have HGL := Lib.hid hrgl
  have hce : ¬ cap = f + 1 := hcf1
  clear hcf1 hrg hrgl
  obtain rfl : E = bs.length := hE.trans h1
  clear h1 hE hrl2
  clear hr hf hR hrr hrl hk0 hk1 hc hV hx
  go_enter Tryz.func15, Tryz.ntmps15
  go_wp2_with fail
  refine (HS.out _ HB0.out).mono ?_
  rintro e w' ⟨rfl, rfl⟩
  rw [← HRE.out]
  generalize w.alloc _ = W1 at *
  have hcj1 := cell?_keep HB0.out hcf
  have hcj := cell?_keep (HB0.out.alloc HB0.out.size (.cells #[.int .i64 0, .int .i64 f, .int .i64 f, .int .i64 0, .int .i64 0, .string ⟨#[]⟩, .slice none 0 0, .string ⟨#[]⟩] 50)) hcf
  have hbn : ¬ b = W1.heap.size := by have := HB0.out.size; omega
  have hbl : b < W1.heap.size := by have := HB0.out.size; omega
  have HX := Lib.hid (show Rx w r W1.heap.size f (W1.alloc (.cells #[.int .i64 0, .int .i64 f, .int .i64 f, .int .i64 0, .int .i64 0, .string ⟨#[]⟩, .slice none 0 0, .string ⟨#[]⟩] 50)) from ⟨heapA_old _ HZ.out, heapA_new _ rfl, HB0.out.alloc HB0.out.size _, by rw [HRE.out]; exact Nat.le_refl _⟩)
  clear hcf
  go_wp2_with fail
  refine (HRN.out _ HX.out.bel).mono ?_
  rintro e w' ⟨rfl, rfl⟩
  clear hcj1 hcj hbn hbl
  generalize W1.alloc _ = W2 at *
  generalize W1.heap.size = p at *
  clear HZ HB0
  go_wp2_with fail
  refine (HRN2.out _ HX.out.bel).mono ?_
  rintro e w' ⟨rfl, rfl⟩
  have HNM := Lib.hid (rname_any (HCU.out _ HX.out.bel) (by rw [HGL.out]; omega))
  rw [HGL.out] at HNM
  rw [HN.out] at HNM
  unfold NameEnd at HNM
  go_wp2_with fail
  refine HNM.out.mono ?_
  clear HNM HN
  cases N with
  | none =>
    rintro e w3 ⟨hb3, rfl⟩
    unfold valC noStr
    have HX3 := Lib.hid ((HX.out.on hb3).alloc (.cells #[.int .i64 0, .int .i64 0, .string ⟨#[]⟩, .slice none 0 0] 26))
    have HV := Lib.hid (HVV.out.trans (nextF_no (e := 17) HFL.out HC0.out (by rw [HT.out]; rfl) (by decide)))
    clear hb3
    obtain ⟨⟨k0, k1, k2, k3, k4, k5, k6, k7⟩, m0, m1, m2, m3, m4, m5, m6, m7⟩ := cells8 HX3.out.blk
    obtain ⟨⟨n0, n1, n2, n3, n4, n5, n6, n7⟩, -⟩ := cells8 HX3.out.no
    go_wp2
    refine bodyPost_ret (results_val rfl _ _ r 50 _ (0, 0) _ rfl (set8 HX3.out.blk _ _ _ _ _ _ _ _) Tryz.underlying50 rfl infoRTok _ rfl) rfl ?_
    exact next_fin (x := { kind := 0 }) HX3.out.bel HX3.out.wr HV.out _ _ _ _ _ _ _ _
  | some o =>
    rintro e w3 ⟨hb3, rfl⟩
    unfold valC
    have HX3 := Lib.hid ((HX.out.on hb3).alloc (.cells #[.int .i64 5, .int .i64 0, .string (mkB o), .slice none 0 0] 26))
    have HV := Lib.hid (HVV.out.trans (nextF_ok HFL.out HC0.out (x := { kind := 1, vk := 5, vs := o }) (j := bs.length) (by rw [HT.out]; rfl) HEL.out))
    clear hb3
    obtain ⟨⟨k0, k1, k2, k3, k4, k5, k6, k7⟩, m0, m1, m2, m3, m4, m5, m6, m7⟩ := cells8 HX3.out.blk
    obtain ⟨⟨n0, n1, n2, n3, n4, n5, n6, n7⟩, -⟩ := cells8 HX3.out.no
    go_wp2
    refine bodyPost_ret (results_val rfl _ _ r 50 _ (0, 0) _ rfl (set8 HX3.out.blk _ _ _ _ _ _ _ _) Tryz.underlying50 rfl infoRTok _ rfl) rfl ?_
    exact next_fin (x := { kind := 1, vk := 5, vs := o }) HX3.out.bel HX3.out.wr HV.out _ _ _ _ _ _ _ _
set_option maxRecDepth 8000 in
set_option maxHeartbeats 8000000 in
theorem rnext_nameend {w : World} {a : Option Addr} {cap : Nat} {bs : List UInt8} (hr : Row w 1 a bs.length cap (bs.map u8C)) (hn : bs.length ≤ 100000) {k : Int} (last : Bool) (hk0 : 0 ≤ k) (hk1 : k ≤ bs.length) {f : Nat} (hf : skipV bs k = f) (hfl : f < bs.length) {V : Tk × Int × Int × Int} (hV : V = nextF bs f last) (hc0 : bs.getD f 0 = 47) (hla : last = true) (hcf1 : cap = f + 1) :
    Calls Tryz.prog 15 #[.slice a bs.length cap, .int .i64 k, .bool last] w (NextEnd w V) := by
  have hcap0 := hr.2.1
  have HV := Lib.hid (hV.trans (nextF_ok (last := last) hfl hc0 (x := { kind := 1, vk := 5, vs := [] }) (j := bs.length) (by rw [drop_nil (by omega), List.drop_length, hla]; rfl) (by omega)))
  subst hla
  obtain ⟨b, off, ha, hbW, hc⟩ := hr.at 0 f hfl
  subst ha
  unfold u8C at hc
  have HRW := Lib.hid hr
  have HC := Lib.hid hc
  have hcap := hr.2.1
  have hcm := hr.i64c
  have hkd : decide (k < 0) = false := decide_eq_false (by omega)
  have hkd2 : decide ((bs.length : Int) < k) = false := decide_eq_false (by omega)
  have HS := Lib.hid (fun (W : World) (h : Below w.heap.size w W) => rskip_any (HRW.out.mono h) hn k)
  rw [hf] at HS
  have hrl := runN_le (bs.drop f)
  rw [List.length_drop] at hrl
  have HRN := Lib.hid (fun (W : World) (h : Below w.heap.size w W) => rrun_any (HRW.out.mono h) hn f (by omega))
  obtain ⟨R, hR⟩ : ∃ R, R = f + runN (bs.drop f) := ⟨_, rfl⟩
  rw [← hR] at HRN
  have HRR := Lib.hid hR
  have HRL := Lib.hid (show R ≤ bs.length by omega)
  have hff : ((f : Int) == (bs.length : Int)) = false := by rw [beq_eq_false_iff_ne]; omega
  have hffn : decide (f = bs.length) = false := decide_eq_false (by omega)
  have hfi : (f : Int) < bs.length := by omega
  have hf9 : f ≤ 99999 := by omega
  obtain ⟨r, hrr⟩ : ∃ r, r = w.heap.size := ⟨_, rfl⟩
  have HRE := Lib.hid hrr
  have HZ := Lib.hid (show (w.alloc (.cells #[.int .i64 0, .int .i64 0, .int .i64 0, .int .i64 0, .int .i64 0, .string ⟨#[]⟩, .slice none 0 0, .string ⟨#[]⟩] 50)).heap[r]? = some (.cells #[.int .i64 0, .int .i64 0, .int .i64 0, .int .i64 0, .int .i64 0, .string ⟨#[]⟩, .slice none 0 0, .string ⟨#[]⟩] 50 (0, 0)) from heapA_new _ hrr)
  have HB0 := Lib.hid (belowA w (.cells #[.int .i64 0, .int .i64 0, .int .i64 0, .int .i64 0, .int .i64 0, .string ⟨#[]⟩, .slice none 0 0, .string ⟨#[]⟩] 50))
  have hcf := hc f hfl
  obtain ⟨x, hx⟩ : ∃ x, (bs.getD f 0).toNat = x := ⟨_, rfl⟩
  rw [hx] at hcf
  obtain rfl : x = 47 := by rw [← hx, hc0]; rfl
  have HRN2 := Lib.hid (fun (W : World) (h : Below w.heap.size w W) => rrun_any (HRW.out.mono h) hn bs.length (Nat.le_refl _))
  rw [show bs.length + runN (bs.drop bs.length) = bs.length by rw [List.drop_length]; rfl] at HRN2
  have hfe : f + 1 = bs.length := by omega
  have hfei : (f : Int) + 1 = (bs.length : Int) := by omega
  obtain rfl : cap = bs.length := hcf1.trans hfe
  clear hcf1 hcap0
  clear hr hf hR hrr hrl hk0 hk1 hc hV hx
  go_enter Tryz.func15, Tryz.ntmps15
  go_wp2_with fail
  refine (HS.out _ HB0.out).mono ?_
  rintro e w' ⟨rfl, rfl⟩
  rw [← HRE.out]
  generalize w.alloc _ = W1 at *
  have hcj1 := cell?_keep HB0.out hcf
  have hcj := cell?_keep (HB0.out.alloc HB0.out.size (.cells #[.int .i64 0, .int .i64 f, .int .i64 f, .int .i64 0, .int .i64 0, .string ⟨#[]⟩, .slice none 0 0, .string ⟨#[]⟩] 50)) hcf
  have hbn : ¬ b = W1.heap.size := by have := HB0.out.size; omega
  have hbl : b < W1.heap.size := by have := HB0.out.size; omega
  have HX := Lib.hid (show Rx w r W1.heap.size f (W1.alloc (.cells #[.int .i64 0, .int .i64 f, .int .i64 f, .int .i64 0, .int .i64 0, .string ⟨#[]⟩, .slice none 0 0, .string ⟨#[]⟩] 50)) from ⟨heapA_old _ HZ.out, heapA_new _ rfl, HB0.out.alloc HB0.out.size _, by rw [HRE.out]; exact Nat.le_refl _⟩)
  clear hcf
  go_wp2_with fail
  refine (HRN.out _ HX.out.bel).mono ?_
  rintro e w' ⟨rfl, rfl⟩
  clear hcj1 hcj hbn hbl
  generalize W1.alloc _ = W2 at *
  generalize W1.heap.size = p at *
  clear HZ HB0
  go_wp2_with fail
  refine (HRN2.out _ HX.out.bel).mono ?_
  rintro e w' ⟨rfl, rfl⟩
  have HNM := Lib.hid (rname_any (bs := []) (Row.none1 W2 ⟨b, off, none⟩) (by simp))
  rw [show nameV [] = some [] from rfl] at HNM
  unfold NameEnd at HNM
  go_wp2_with fail
  refine HNM.out.mono ?_
  clear HNM
  rintro e w3 ⟨hb3, rfl⟩
  unfold valC
  have HX3 := Lib.hid ((HX.out.on hb3).alloc (.cells #[.int .i64 5, .int .i64 0, .string (mkB []), .slice none 0 0] 26))
  clear hb3
  obtain ⟨⟨k0, k1, k2, k3, k4, k5, k6, k7⟩, m0, m1, m2, m3, m4, m5, m6, m7⟩ := cells8 HX3.out.blk
  obtain ⟨⟨n0, n1, n2, n3, n4, n5, n6, n7⟩, -⟩ := cells8 HX3.out.no
  go_wp2
  refine bodyPost_ret (results_val rfl _ _ r 50 _ (0, 0) _ rfl (set8 HX3.out.blk _ _ _ _ _ _ _ _) Tryz.underlying50 rfl infoRTok _ rfl) rfl ?_
  exact next_fin (x := { kind := 1, vk := 5, vs := [] }) HX3.out.bel HX3.out.wr HV.out _ _ _ _ _ _ _ _
end Go.Proofs.YtnkodejgiabamaaGreat
/-
  The document's Next, walked: regular bytes, of which more may come.
-/
namespace Go.Proofs.YtnkodejgiabamaaGreat
open Go.RowKit

set_option maxRecDepth 8000 in
set_option maxHeartbeats 8000000 in
theorem rnext_regmore {w : World} {a : Option Addr} {cap : Nat} {bs : List UInt8} (hr : Row w 1 a bs.length cap (bs.map u8C)) (hn : bs.length ≤ 100000) {k : Int} (last : Bool) (hk0 : 0 ≤ k) (hk1 : k ≤ bs.length) {f : Nat} (hf : skipV bs k = f) (hfl : f < bs.length) {V : Tk × Int × Int × Int} (hV : V = nextF bs f last) (hreg : isRg (bs.getD f 0) = true) (h1 : f + runN (bs.drop f) = bs.length) (hla : last = false) :
    Calls Tryz.prog 15 #[.slice a bs.length cap, .int .i64 k, .bool last] w (NextEnd w V) := by
  have HT := Lib.hid (show tokV last (bs.getD f 0) (bs.drop (f + 1)) = _ from tokV_reg (X := ⟨none, 0, bs, last⟩) (k := f) hfl hreg)
  have HV := Lib.hid (hV.trans (nextF_no (e := 6) hfl rfl (by rw [HT.out]; unfold rgV; rw [if_pos ⟨show runN (bs.drop f) = (bs.drop f).length by rw [List.length_drop]; omega, hla⟩]) (by decide)))
  clear HT
  subst hla
  have hdl : isDl (bs.getD f 0) = false := by
    have h := hreg
    unfold isRg at h
    cases hh : isDl (bs.getD f 0) with
    | false => rfl
    | true => rw [hh] at h; simp at h
  have n91 : bs.getD f 0 ≠ 91 := fun e => by rw [e] at hreg; exact absurd hreg (by decide)
  have n93 : bs.getD f 0 ≠ 93 := fun e => by rw [e] at hreg; exact absurd hreg (by decide)
  have n60 : bs.getD f 0 ≠ 60 := fun e => by rw [e] at hreg; exact absurd hreg (by decide)
  have n62 : bs.getD f 0 ≠ 62 := fun e => by rw [e] at hreg; exact absurd hreg (by decide)
  have n40 : bs.getD f 0 ≠ 40 := fun e => by rw [e] at hreg; exact absurd hreg (by decide)
  have n47 : bs.getD f 0 ≠ 47 := fun e => by rw [e] at hreg; exact absurd hreg (by decide)
  have e91 := u8_ne n91 91 rfl
  have e93 := u8_ne n93 93 rfl
  have e60 := u8_ne n60 60 rfl
  have e62 := u8_ne n62 62 rfl
  have e40 := u8_ne n40 40 rfl
  have e47 := u8_ne n47 47 rfl
  obtain ⟨b, off, ha, hbW, hc⟩ := hr.at 0 f hfl
  subst ha
  unfold u8C at hc
  have HRW := Lib.hid hr
  have HC := Lib.hid hc
  have hcap := hr.2.1
  have hcm := hr.i64c
  have hkd : decide (k < 0) = false := decide_eq_false (by omega)
  have hkd2 : decide ((bs.length : Int) < k) = false := decide_eq_false (by omega)
  have HS := Lib.hid (fun (W : World) (h : Below w.heap.size w W) => rskip_any (HRW.out.mono h) hn k)
  rw [hf] at HS
  have hrl := runN_le (bs.drop f)
  rw [List.length_drop] at hrl
  have HRN := Lib.hid (fun (W : World) (h : Below w.heap.size w W) => rrun_any (HRW.out.mono h) hn f (by omega))
  obtain ⟨R, hR⟩ : ∃ R, R = f + runN (bs.drop f) := ⟨_, rfl⟩
  rw [← hR] at HRN
  have HRR := Lib.hid hR
  have HRL := Lib.hid (show R ≤ bs.length by omega)
  have hff : ((f : Int) == (bs.length : Int)) = false := by rw [beq_eq_false_iff_ne]; omega
  have hffn : decide (f = bs.length) = false := decide_eq_false (by omega)
  have hfi : (f : Int) < bs.length := by omega
  have hf9 : f ≤ 99999 := by omega
  obtain ⟨r, hrr⟩ : ∃ r, r = w.heap.size := ⟨_, rfl⟩
  have HRE := Lib.hid hrr
  have HZ := Lib.hid (show (w.alloc (.cells #[.int .i64 0, .int .i64 0, .int .i64 0, .int .i64 0, .int .i64 0, .string ⟨#[]⟩, .slice none 0 0, .string ⟨#[]⟩] 50)).heap[r]? = some (.cells #[.int .i64 0, .int .i64 0, .int .i64 0, .int .i64 0, .int .i64 0, .string ⟨#[]⟩, .slice none 0 0, .string ⟨#[]⟩] 50 (0, 0)) from heapA_new _ hrr)
  have HB0 := Lib.hid (belowA w (.cells #[.int .i64 0, .int .i64 0, .int .i64 0, .int .i64 0, .int .i64 0, .string ⟨#[]⟩, .slice none 0 0, .string ⟨#[]⟩] 50))
  have hcf := hc f hfl
  obtain ⟨x, hx⟩ : ∃ x, (bs.getD f 0).toNat = x := ⟨_, rfl⟩
  rw [hx] at hcf
  have HDL := Lib.hid (fun W => rdelim_any (bs.getD f 0).toNat W)
  rw [← dlI_eq, hdl] at HDL
  rw [hx] at HDL e91 e93 e60 e62 e40 e47
  clear n91 n93 n60 n62 n40 n47 hdl hreg
  obtain rfl : R = bs.length := hR.trans h1
  clear h1
  clear hr hf hR hrr hrl hk0 hk1 hc hV hx
  go_enter Tryz.func15, Tryz.ntmps15
  go_wp2_with fail
  refine (HS.out _ HB0.out).mono ?_
  rintro e w' ⟨rfl, rfl⟩
  rw [← HRE.out]
  generalize w.alloc _ = W1 at *
  have hcj1 := cell?_keep HB0.out hcf
  have hcj := cell?_keep (HB0.out.alloc HB0.out.size (.cells #[.int .i64 0, .int .i64 f, .int .i64 f, .int .i64 0, .int .i64 0, .string ⟨#[]⟩, .slice none 0 0, .string ⟨#[]⟩] 50)) hcf
  have hbn : ¬ b = W1.heap.size := by have := HB0.out.size; omega
  have hbl : b < W1.heap.size := by have := HB0.out.size; omega
  have HX := Lib.hid (show Rx w r W1.heap.size f (W1.alloc (.cells #[.int .i64 0, .int .i64 f, .int .i64 f, .int .i64 0, .int .i64 0, .string ⟨#[]⟩, .slice none 0 0, .string ⟨#[]⟩] 50)) from ⟨heapA_old _ HZ.out, heapA_new _ rfl, HB0.out.alloc HB0.out.size _, by rw [HRE.out]; exact Nat.le_refl _⟩)
  clear hcf
  go_wp2_with fail
  refine (HRN.out _ HX.out.bel).mono ?_
  rintro e w' ⟨rfl, rfl⟩
  clear hcj1 hcj hbn hbl
  generalize W1.alloc _ = W2 at *
  generalize W1.heap.size = p at *
  clear HZ HB0
  obtain ⟨⟨k0, k1, k2, k3, k4, k5, k6, k7⟩, m0, m1, m2, m3, m4, m5, m6, m7⟩ := cells8 HX.out.blk
  obtain ⟨⟨n0, n1, n2, n3, n4, n5, n6, n7⟩, -⟩ := cells8 HX.out.no
  go_wp2_with (go_at_call 32; refine (HDL.out _).mono ?_; rintro e w' ⟨rfl, rfl⟩)
  refine bodyPost_ret (results_val rfl _ _ r 50 _ (0, 0) _ rfl (set8 HX.out.blk _ _ _ _ _ _ _ _) Tryz.underlying50 rfl infoRTok _ rfl) rfl ?_
  exact next_fin (x := { kind := 0 }) HX.out.bel HX.out.wr HV.out _ _ _ _ _ _ _ _
end Go.Proofs.YtnkodejgiabamaaGreat
