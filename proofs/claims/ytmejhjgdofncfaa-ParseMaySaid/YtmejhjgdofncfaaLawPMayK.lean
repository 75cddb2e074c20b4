/-
  The law ParseMay, walked.
-/
import Derived.Test.YtmejhjgdofncfaaPkPLawPMay
namespace Go.Proofs.Ytmejhjgdofncfaa
open Go.RowKit

theorem stOk_nil : stOk [] := by simp [stOk]

set_option maxRecDepth 8000 in
set_option maxHeartbeats 8000000 in
theorem law_pmay {a : Option Addr} {cap : Nat} {bs : List UInt8} (k : Int) (last : Bool) (w : World) (hr : Row w 1 a bs.length cap (bs.map u8C)) :
    Calls Try.prog 4 #[.slice a bs.length cap, .int .i64 k, .bool last] w (PlEnd w) := by
  have hi := hr.i64
  have HW := Lib.hid (fun W => works_any W)
  by_cases hbig : 400 < bs.length
  · have hb2 : decide (400 < bs.length) = true := decide_eq_true hbig
    have hb3 : decide ((400 : Int) < bs.length) = true := decide_eq_true (by omega)
    clear hr hbig
    go_enter Try.func4, Try.ntmps4
    go_wp2_with (go_at_call 5; refine (HW.out _).mono ?_; rintro e w' ⟨rfl, hb⟩)
    go_ret
    exact ⟨rfl, hb⟩
  have hb2 : decide (400 < bs.length) = false := decide_eq_false hbig
  have hb3 : decide ((400 : Int) < bs.length) = false := decide_eq_false (by omega)
  have hl4 : bs.length ≤ 400 := by omega
  clear hbig
  obtain ⟨V, hV, hgood, hbad⟩ : ∃ V, valO bs last (bs.length + 2) [] k = some V ∧ (V.2.2 = 0 → firstC V.1 = 0 ∧ depthV V.1 ≤ 64 ∧ k < V.2.1 ∧ V.2.1 ≤ bs.length) ∧ (V.2.2 ≠ 0 → V.1 = PV.none ∧ V.2.1 = 0) := by
    by_cases ho : k < 0 ∨ (bs.length : Int) < k
    · refine ⟨(PV.none, 0, 2), valO_out ho, ?_, ?_⟩
      · intro e; exact absurd e (by decide)
      · intro _; exact ⟨rfl, rfl⟩
    · obtain ⟨V, hV⟩ := valO_some bs last (bs.length + 2) [] k (by omega) (by omega) (by omega)
      exact ⟨V, hV, valO_may _ _ _ _ (by omega) (by omega) stOk_nil hV⟩
  have HN := Lib.hid (value_any hr (by omega) k last V hV)
  obtain ⟨X, n, er⟩ := V
  simp only at hgood hbad
  clear hr hV
  by_cases he : er = 0
  case neg =>
    obtain ⟨rfl, rfl⟩ := hbad he
    have e6 : (er == 0) = false := by rw [beq_eq_false_iff_ne]; exact he
    have e7 : (er != 0) = true := by simp [bne, e6]
    have HS := Lib.hid (fun (W : World) (s1 s2 : Value) (h1 : IsV W anyF PV.none s1) (h2 : IsV W anyF PV.none s2) => same_any h1 h2)
    simp only [compare_self, pvA_0] at HS
    clear hgood hbad he
    go_enter Try.func4, Try.ntmps4
    go_wp2_with fail
    refine HN.out.mono ?_
    rintro e w1 h1
    obtain ⟨sl, rfl, hx1, hb1⟩ := h1
    simp only [pvA_0]
    obtain ⟨sa, sc, rfl, -, -, -⟩ := hx1.len
    have hl0 : PV.none.l.length = 0 := rfl
    rw [hl0] at hx1 ⊢
    have hx1 := hx1.below (belowA w1 (.cells #[.int .i64 0, .int .i64 0, .string ⟨#[]⟩, .slice sa 0 sc] 27))
    have HS1 := Lib.hid (HS.out _ _ _ hx1 (IsV.leaf _ _ _ rfl))
    have HB1 := Lib.hid (hb1.alloc hb1.size (.cells #[.int .i64 0, .int .i64 0, .string ⟨#[]⟩, .slice sa 0 sc] 27))
    have HK := Lib.hid (heapA_new (w := w1) (.cells #[.int .i64 0, .int .i64 0, .string ⟨#[]⟩, .slice sa 0 sc] 27) rfl)
    clear hx1 hb1 HN HS
    go_upto_region 5 with fail
    generalize w1.alloc _ = W4 at *
    generalize w1.heap.size = r1 at *
    obtain ⟨⟨k0, k1, k2, k3⟩, -⟩ := cells4 HK.out
    go_wp2_with fail
    refine HS1.out.mono ?_
    rintro e w2 ⟨rfl, hb2⟩
    have HB2 := Lib.hid (HB1.out.trans (hb2.mono HB1.out.size))
    clear hb2 k0 k1 k2 k3 HS1
    go_wp2_with (go_at_call 5; refine (HW.out _).mono ?_; rintro e w' ⟨rfl, hb⟩)
    go_ret
    exact ⟨rfl, HB2.out.trans (hb.mono HB2.out.size)⟩
  subst he
  obtain ⟨h1, h2, h3, h4⟩ := hgood rfl
  have HC := Lib.hid (fun (W : World) (s1 : Value) (h : IsV W anyF X s1) => check_ok h h1 h2)
  simp only [pvA] at HC
  have hd1 : decide (k < n) = true := decide_eq_true h3
  have hd2 : decide (n ≤ (bs.length : Int)) = true := decide_eq_true h4
  clear hgood hbad h1 h2
  go_enter Try.func4, Try.ntmps4
  go_wp2_with fail
  refine HN.out.mono ?_
  rintro e w1 h1
  obtain ⟨sa1, sc1, rfl, hx1, hb1⟩ := h1.split
  have hx1 := hx1.below (belowA w1 (.cells #[.int .i64 X.kind, .int .i64 X.n, .string (mkB X.s), .slice sa1 X.l.length sc1] 27))
  have HC1 := Lib.hid (HC.out _ _ hx1)
  have HB1 := Lib.hid (hb1.alloc hb1.size (.cells #[.int .i64 X.kind, .int .i64 X.n, .string (mkB X.s), .slice sa1 X.l.length sc1] 27))
  have HK := Lib.hid (heapA_new (w := w1) (.cells #[.int .i64 X.kind, .int .i64 X.n, .string (mkB X.s), .slice sa1 X.l.length sc1] 27) rfl)
  clear h1 hx1 hb1 HN HC
  go_upto_region 6 with fail
  generalize w1.alloc _ = W4 at *
  generalize w1.heap.size = r1 at *
  generalize X.kind = x0 at *
  generalize X.n = x1 at *
  generalize mkB X.s = x2 at *
  generalize X.l.length = xl at *
  obtain ⟨⟨k0, k1, k2, k3⟩, -⟩ := cells4 HK.out
  go_wp2_with fail
  refine HC1.out.mono ?_
  rintro e w2 ⟨rfl, hb2⟩
  have HB2 := Lib.hid (HB1.out.trans (hb2.mono HB1.out.size))
  clear hb2 k0 k1 k2 k3 HC1
  go_wp2_with (go_at_call 5; refine (HW.out _).mono ?_; rintro e w' ⟨rfl, hb⟩)
  go_ret
  exact ⟨rfl, HB2.out.trans (hb.mono HB2.out.size)⟩
end Go.Proofs.Ytmejhjgdofncfaa
