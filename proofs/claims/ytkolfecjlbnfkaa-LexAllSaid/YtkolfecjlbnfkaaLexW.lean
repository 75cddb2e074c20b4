/-
  The document's Next, walked: at any place, all ways joined.
-/
import Derived.Test.YtkolfecjlbnfkaaLexT
import Derived.Test.YtkolfecjlbnfkaaLexU
import Derived.Test.YtkolfecjlbnfkaaLexV
import Derived.Test.YtkolfecjlbnfkaaLexV1
import Derived.Test.YtkolfecjlbnfkaaLexV2
import Derived.Test.YtkolfecjlbnfkaaLexV3
namespace Go.Proofs.Ytkolfecjlbnfkaa
open Go.RowKit

set_option maxRecDepth 8000 in
set_option maxHeartbeats 4000000 in
theorem rnext_out {w : World} {a : Option Addr} {cap n : Nat} {k : Int} (last : Bool) (hi : (n : Int) ≤ 9223372036854775807) (h : k < 0 ∨ (n : Int) < k) {V : Tk × Int × Int × Int} (hV : V = ({ kind := 0 }, 0, 0, 2)) :
    Calls Try.prog 10 #[.slice a n cap, .int .i64 k, .bool last] w (NextEnd w V) := by
  have HV := Lib.hid hV
  have HZ := Lib.hid (show (w.alloc (.cells #[.int .i64 0, .int .i64 0, .int .i64 0, .int .i64 0, .int .i64 0, .string ⟨#[]⟩, .slice none 0 0, .string ⟨#[]⟩] 32)).heap[w.heap.size]? = some (.cells #[.int .i64 0, .int .i64 0, .int .i64 0, .int .i64 0, .int .i64 0, .string ⟨#[]⟩, .slice none 0 0, .string ⟨#[]⟩] 32 (0, 0)) from heapA_new _ rfl)
  have HB0 := Lib.hid (belowA w (.cells #[.int .i64 0, .int .i64 0, .int .i64 0, .int .i64 0, .int .i64 0, .string ⟨#[]⟩, .slice none 0 0, .string ⟨#[]⟩] 32))
  clear hV
  by_cases hk0 : k < 0
  · have hkd : decide (k < 0) = true := decide_eq_true hk0
    clear h
    go_enter Try.func10, Try.ntmps10
    go_wp2
    refine bodyPost_ret (results_val rfl _ _ w.heap.size 32 _ (0, 0) _ rfl (heapA_new _ rfl) Try.underlying32 rfl (by exact infoRTok) _ rfl) rfl ?_
    rw [HV.out]
    exact ⟨rfl, belowA _ _⟩
  · have hk1 : (n : Int) < k := by omega
    have hkd : decide (k < 0) = false := decide_eq_false hk0
    have hkd2 : decide ((n : Int) < k) = true := decide_eq_true hk1
    clear h hk0 hk1
    go_enter Try.func10, Try.ntmps10
    go_wp2
    refine bodyPost_ret (results_val rfl _ _ w.heap.size 32 _ (0, 0) _ rfl (heapA_new _ rfl) Try.underlying32 rfl (by exact infoRTok) _ rfl) rfl ?_
    rw [HV.out]
    exact ⟨rfl, belowA _ _⟩

set_option maxRecDepth 8000 in
set_option maxHeartbeats 4000000 in
theorem rnext_end {w : World} {a : Option Addr} {cap : Nat} {bs : List UInt8} (hr : Row w 1 a bs.length cap (bs.map u8C)) (hn : bs.length ≤ 100000) {k : Int} (last : Bool) (hk0 : 0 ≤ k) (hk1 : k ≤ bs.length) (hf : skipV bs k = bs.length) {V : Tk × Int × Int × Int} (hV : V = nextF bs bs.length last) :
    Calls Try.prog 10 #[.slice a bs.length cap, .int .i64 k, .bool last] w (NextEnd w V) := by
  rw [nextF_nil last (by simp)] at hV
  have HV := Lib.hid hV
  have HRW := Lib.hid hr
  have hcm := hr.i64c
  have hkd : decide (k < 0) = false := decide_eq_false (by omega)
  have hkd2 : decide ((bs.length : Int) < k) = false := decide_eq_false (by omega)
  have HS := Lib.hid (fun (W : World) (h : Below w.heap.size w W) => rskip_any (HRW.out.mono h) hn k)
  rw [hf] at HS
  obtain ⟨r, hrr⟩ : ∃ r, r = w.heap.size := ⟨_, rfl⟩
  have HRE := Lib.hid hrr
  have HZ := Lib.hid (show (w.alloc (.cells #[.int .i64 0, .int .i64 0, .int .i64 0, .int .i64 0, .int .i64 0, .string ⟨#[]⟩, .slice none 0 0, .string ⟨#[]⟩] 32)).heap[r]? = some (.cells #[.int .i64 0, .int .i64 0, .int .i64 0, .int .i64 0, .int .i64 0, .string ⟨#[]⟩, .slice none 0 0, .string ⟨#[]⟩] 32 (0, 0)) from heapA_new _ hrr)
  have HB0 := Lib.hid (belowA w (.cells #[.int .i64 0, .int .i64 0, .int .i64 0, .int .i64 0, .int .i64 0, .string ⟨#[]⟩, .slice none 0 0, .string ⟨#[]⟩] 32))
  clear hr hf hrr hk0 hk1 hV
  generalize bs.length = f at *
  go_enter Try.func10, Try.ntmps10
  go_wp2_with fail
  refine (HS.out _ HB0.out).mono ?_
  rintro e w' ⟨rfl, rfl⟩
  rw [← HRE.out]
  generalize w.alloc _ = W1 at *
  have HX := Lib.hid (show Rx w r W1.heap.size f (W1.alloc (.cells #[.int .i64 0, .int .i64 f, .int .i64 f, .int .i64 0, .int .i64 0, .string ⟨#[]⟩, .slice none 0 0, .string ⟨#[]⟩] 32)) from ⟨heapA_old _ HZ.out, heapA_new _ rfl, HB0.out.alloc HB0.out.size _, by rw [HRE.out]; exact Nat.le_refl _⟩)
  obtain ⟨⟨k0, k1, k2, k3, k4, k5, k6, k7⟩, m0, m1, m2, m3, m4, m5, m6, m7⟩ := cells8 HX.out.blk
  obtain ⟨⟨n0, n1, n2, n3, n4, n5, n6, n7⟩, -⟩ := cells8 HX.out.no
  cases last
  · go_wp2
    refine bodyPost_ret (results_val rfl _ _ r 32 _ (0, 0) _ rfl (set8 HX.out.blk _ _ _ _ _ _ _ _) Try.underlying32 rfl infoRTok _ rfl) rfl ?_
    exact next_fin (x := { kind := 0 }) HX.out.bel HX.out.wr HV.out _ _ _ _ _ _ _ _
  · go_wp2
    refine bodyPost_ret (results_val rfl _ _ r 32 _ (0, 0) _ rfl (set8 HX.out.blk _ _ _ _ _ _ _ _) Try.underlying32 rfl infoRTok _ rfl) rfl ?_
    exact next_fin (x := { kind := 0 }) HX.out.bel HX.out.wr HV.out _ _ _ _ _ _ _ _

theorem rnext_any {w : World} {a : Option Addr} {cap : Nat} {bs : List UInt8} (hr : Row w 1 a bs.length cap (bs.map u8C)) (hn : bs.length ≤ 100000) (k : Int) (last : Bool) :
    Calls Try.prog 10 #[.slice a bs.length cap, .int .i64 k, .bool last] w (NextEnd w (nextV bs k last)) := by
  by_cases hk : k < 0 ∨ (bs.length : Int) < k
  · exact rnext_out last hr.i64 hk (by unfold nextV; rw [if_pos hk])
  have hk0 : 0 ≤ k := by omega
  have hk1 : k ≤ bs.length := by omega
  have hV := nextV_in (bs := bs) last hk0 hk1
  have hfle := (skipV_bd hk0 hk1).2
  have hsh := fun f hf hl => skip_here (bs := bs) (f := f) hk0 hk1 hf hl
  rw [hV]
  obtain ⟨f, hf⟩ : ∃ f, skipV bs k = f := ⟨_, rfl⟩
  by_cases hfe : f = bs.length
  · subst hfe
    exact rnext_end hr hn last hk0 hk1 hf (by rw [hf])
  have hfl : f < bs.length := by omega
  obtain ⟨h37, hsp⟩ := hsh f hf hfl
  have hV2 : nextF bs (skipV bs k) last = nextF bs f last := by rw [hf]
  clear hV hsh
  by_cases hrg : isRg (bs.getD f 0) = true
  · by_cases he : f + runN (bs.drop f) = bs.length
    · cases last with
      | false => exact rnext_regmore hr hn false hk0 hk1 hf hfl hV2 hrg he rfl
      | true =>
        by_cases h43 : bs.getD f 0 = 43
        · exact rnext_43_end hr hn true hk0 hk1 hf hfl hV2 hrg he rfl h43
        by_cases h45 : bs.getD f 0 = 45
        · exact rnext_45_end hr hn true hk0 hk1 hf hfl hV2 hrg he rfl h45
        by_cases h46 : bs.getD f 0 = 46
        · exact rnext_46_end hr hn true hk0 hk1 hf hfl hV2 hrg he rfl h46
        by_cases hlo : (bs.getD f 0).toNat < 48
        · exact rnext_low_end hr hn true hk0 hk1 hf hfl hV2 hrg he rfl ⟨hlo, h43, h45, h46⟩
        by_cases hhi : 57 < (bs.getD f 0).toNat
        · exact rnext_high_end hr hn true hk0 hk1 hf hfl hV2 hrg he rfl hhi
        exact rnext_digit_end hr hn true hk0 hk1 hf hfl hV2 hrg he rfl ⟨by omega, by omega⟩
    · by_cases h43 : bs.getD f 0 = 43
      · exact rnext_43_in hr hn last hk0 hk1 hf hfl hV2 hrg he h43
      by_cases h45 : bs.getD f 0 = 45
      · exact rnext_45_in hr hn last hk0 hk1 hf hfl hV2 hrg he h45
      by_cases h46 : bs.getD f 0 = 46
      · exact rnext_46_in hr hn last hk0 hk1 hf hfl hV2 hrg he h46
      by_cases hlo : (bs.getD f 0).toNat < 48
      · exact rnext_low_in hr hn last hk0 hk1 hf hfl hV2 hrg he ⟨hlo, h43, h45, h46⟩
      by_cases hhi : 57 < (bs.getD f 0).toNat
      · exact rnext_high_in hr hn last hk0 hk1 hf hfl hV2 hrg he hhi
      exact rnext_digit_in hr hn last hk0 hk1 hf hfl hV2 hrg he ⟨by omega, by omega⟩
  have hdl : isDl (bs.getD f 0) = true := by
    unfold isRg at hrg
    rw [hsp] at hrg
    simpa using hrg
  by_cases h91 : bs.getD f 0 = 91
  · exact rnext_91 hr hn last hk0 hk1 hf hfl hV2 h91
  by_cases h93 : bs.getD f 0 = 93
  · exact rnext_93 hr hn last hk0 hk1 hf hfl hV2 h93
  by_cases h60 : bs.getD f 0 = 60
  · by_cases h1 : f + 1 < bs.length
    · by_cases h2 : bs.getD (f + 1) 0 = 60
      · exact rnext_6060 hr hn last hk0 hk1 hf hfl hV2 h60 h1 h2
      · exact rnext_hex hr hn last hk0 hk1 hf hfl hV2 h60 h1 h2
    · exact rnext_hexend hr hn last hk0 hk1 hf hfl hV2 h60 h1
  by_cases h62 : bs.getD f 0 = 62
  · by_cases h1 : f + 1 < bs.length
    · by_cases h2 : bs.getD (f + 1) 0 = 62
      · exact rnext_6262 hr hn last hk0 hk1 hf hfl hV2 h62 h1 h2
      · exact rnext_62form hr hn last hk0 hk1 hf hfl hV2 h62 h1 h2
    · cases last with
      | false => exact rnext_62more hr hn false hk0 hk1 hf hfl hV2 h62 (by omega) rfl
      | true => exact rnext_62last hr hn true hk0 hk1 hf hfl hV2 h62 (by omega) rfl
  by_cases h40 : bs.getD f 0 = 40
  · exact rnext_text hr hn last hk0 hk1 hf hfl hV2 h40
  by_cases h47 : bs.getD f 0 = 47
  · by_cases h1 : f + 1 + runN (bs.drop (f + 1)) = bs.length
    · cases last with
      | false => exact rnext_namemore hr hn false hk0 hk1 hf hfl hV2 h47 h1 rfl
      | true =>
        by_cases hcap : cap = f + 1
        · exact rnext_nameend hr hn true hk0 hk1 hf hfl hV2 h47 rfl hcap
        · exact rnext_namelast hr hn true hk0 hk1 hf hfl hV2 h47 (fun _ h => by cases h) h1 rfl hcap
    · by_cases hcap : cap = f + 1
      · exfalso
        have h2 := hr.2.1
        apply h1
        rw [drop_nil (by omega)]
        show f + 1 + 0 = _
        omega
      · exact rnext_name hr hn last hk0 hk1 hf hfl hV2 h47 (fun h _ => h1 h) h1 hcap
  exact rnext_dl hr hn last hk0 hk1 hf hfl hV2 hdl h91 h93 h60 h62 h40 h47
end Go.Proofs.Ytkolfecjlbnfkaa
