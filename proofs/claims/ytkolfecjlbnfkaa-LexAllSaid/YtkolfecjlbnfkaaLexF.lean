/-
  Walks of layer 10: the token that begins with a byte.
-/
import Derived.Test.YtkolfecjlbnfkaaLexC
import Derived.Test.YtkolfecjlbnfkaaLexD
import Derived.Test.YtkolfecjlbnfkaaLexE
namespace Go.Proofs.Ytkolfecjlbnfkaa
open Go.RowKit

theorem drop_nil_iff (t : List UInt8) : t.drop (runN t) = [] ↔ runN t = t.length := by
  rw [List.drop_eq_nil_iff]
  have := runN_le t
  omega
theorem tokV_reg {X : Src} {k : Nat} (hk : k < X.bs.length) (h : isRg (X.bs.getD k 0) = true) : tokV X.last (X.bs.getD k 0) (X.bs.drop (k + 1)) = rgV X k := by
  unfold tokV rgV
  rw [if_pos h, ← drop_cons hk]
  simp only [regs_drop, drop_nil_iff]
  rfl
def slV (last : Bool) (t : List UInt8) : Int × Tk × List UInt8 :=
  if runN t = t.length ∧ last = false then (6, { kind := 0 }, [])
  else match nameV (regs t) with
    | none => (17, { kind := 0 }, [])
    | some o => (0, { kind := 1, vk := 5, vs := o }, t.drop (runN t))
theorem tokV_slash (last : Bool) (t : List UInt8) : tokV last 47 t = slV last t := by
  unfold tokV slV
  rw [if_neg (by decide), if_neg (by decide), if_neg (by decide), if_neg (by decide), if_neg (by decide), if_neg (by decide), if_pos rfl]
  simp only [regs_drop, drop_nil_iff]
  rfl
def txK (last : Bool) (H : Option (List UInt8 × List UInt8)) : Int × Tk × List UInt8 := match H with
  | none => (openE last, { kind := 0 }, [])
  | some (x, r) => (0, { kind := 1, vk := 4, vs := x }, r)
theorem tokV_text (last : Bool) (t : List UInt8) : tokV last 40 t = txK last (textV last 1 [] t) := by
  unfold tokV txK
  rw [if_neg (by decide), if_neg (by decide), if_neg (by decide), if_neg (by decide), if_neg (by decide), if_pos rfl]
  cases textV last 1 [] t <;> rfl
theorem tokV_close (X : Src) (k : Nat) : tokV X.last 62 (X.bs.drop k) = clV X k := by
  unfold tokV clV
  rw [if_neg (by decide), if_neg (by decide), if_neg (by decide), if_neg (by decide), if_pos rfl]
  cases X.bs.drop k <;> rfl
theorem tokV_open (X : Src) (k : Nat) : tokV X.last 60 (X.bs.drop k) = opV X k := by
  unfold tokV opV
  rw [if_neg (by decide), if_neg (by decide), if_neg (by decide), if_pos rfl]
  cases X.bs.drop k with
  | nil => rfl
  | cons d u => rfl
theorem tokV_91 (last : Bool) (t : List UInt8) : tokV last 91 t = (0, { kind := 2 }, t) := by
  unfold tokV; rw [if_neg (by decide), if_pos rfl]
theorem tokV_93 (last : Bool) (t : List UInt8) : tokV last 93 t = (0, { kind := 3 }, t) := by
  unfold tokV; rw [if_neg (by decide), if_neg (by decide), if_pos rfl]
theorem tokV_no (last : Bool) (c : UInt8) (t : List UInt8) (h : isRg c = false) (h1 : c ≠ 91) (h2 : c ≠ 93) (h3 : c ≠ 60) (h4 : c ≠ 62) (h5 : c ≠ 40) (h6 : c ≠ 47) : tokV last c t = (11, { kind := 0 }, []) := by
  unfold tokV; rw [if_neg (by simp [h]), if_neg h1, if_neg h2, if_neg h3, if_neg h4, if_neg h5, if_neg h6]

theorem Tn.pass {w W : World} {S : Nat → Prop} {p r : Nat} {X : Src} {V : Int × Tk × List UInt8} (h : Tn w S p r W) {k vk vn : Int} {vs s : ByteArray} {er : Int} (he : V.1 = er)
    (hf : V.1 = 0 → k = V.2.1.kind ∧ vk = V.2.1.vk ∧ vn = V.2.1.vn ∧ vs = mkB V.2.1.vs ∧ s = mkB V.2.1.s ∧ V.2.2.length ≤ X.bs.length ∧ W.cell? ⟨p, 3, none⟩ = some (.int .i64 ((X.bs.length - V.2.2.length : Nat) : Int))) (y0 y1 y2 y3 y4 y5 y6 y7 : Value) :
    TokEnd w S p X V (.returned (.tuple #[.agg (tokC k 0 0 vk vn vs s), .int .i64 er]))
      ((((((((W.setCell ⟨r, 0, none⟩ y0).setCell ⟨r, 1, none⟩ y1).setCell ⟨r, 2, none⟩ y2).setCell ⟨r, 3, none⟩ y3).setCell ⟨r, 4, none⟩ y4).setCell ⟨r, 5, none⟩ y5).setCell ⟨r, 6, none⟩ y6).setCell ⟨r, 7, none⟩ y7) := by
  refine ⟨keeps_set8 h.keeps h.wr _ _ _ _ _ _ _ _, k, vk, vn, vs, s, by rw [he], fun h0 => ?_⟩
  obtain ⟨a, b, c, d, e, f, g⟩ := hf h0
  exact ⟨a, b, c, d, e, f, by rw [set8_cell h.pr]; exact g⟩

set_option maxRecDepth 8000 in
set_option maxHeartbeats 8000000 in
theorem token_any {w : World} {S : Nat → Prop} {p : Nat} {X : Src} {k : Nat} (h : ScQ w S p X [] k) (hk : k < X.bs.length) :
    Calls Try.prog 20 #[.pointer (some ⟨p, 0, none⟩), .int .u8 (X.bs.getD k 0).toNat] w (TokEnd w S p X (tokV X.last (X.bs.getD k 0) (X.bs.drop (k + 1)))) := by
  obtain ⟨V, hV⟩ : ∃ V, V = tokV X.last (X.bs.getD k 0) (X.bs.drop (k + 1)) := ⟨_, rfl⟩
  rw [← hV]
  have hT := Tm.start h
  obtain ⟨r, hr⟩ : ∃ r, r = w.heap.size := ⟨_, rfl⟩
  rw [← hr] at hT
  have HT0 := Lib.hid hT
  have HR := Lib.hid hr
  have hsm := h.facts.2.2.2.1
  have hkb : k ≤ 99999 := by omega
  have HRG := Lib.hid (fun W => regular_any (X.bs.getD k 0) W)
  rw [← rgI_eq] at HRG
  clear hT hr h hsm
  by_cases hrg : isRg (X.bs.getD k 0) = true
  · have HV := Lib.hid (hV.trans (tokV_reg hk hrg))
    have HK := Lib.hid (show ∀ W : World, Tm w S p r X k W → Calls Try.prog 28 #[.pointer (some ⟨p, 0, none⟩)] W (TokEnd W S p X (rgV X k)) from fun _ h => regulars_any h.sc hk hrg)
    rw [hrg] at HRG
    clear hV hrg hk
    generalize (X.bs.getD k 0).toNat = x at *
    go_enter Try.func20, Try.ntmps20
    go_wp2_with (go_at_call 27; refine (HRG.out _).mono ?_; rintro e w' ⟨rfl, rfl⟩)
    rw [← HR.out]
    generalize w.alloc _ = W1 at *
    refine (HK.out _ HT0.out).mono ?_
    rintro e w2 ⟨hk2, a, b, c, s1, s2, rfl, hf⟩
    have HT2 := Lib.hid (Tn.of HT0.out hk2)
    obtain ⟨⟨k0, k1, k2, k3, k4, k5, k6, k7⟩, f0, f1, f2, f3, f4, f5, f6, f7⟩ := cells8 HT2.out.blk
    have HF := Lib.hid hf
    rw [HV.out]
    obtain ⟨er, her⟩ : ∃ er, (rgV X k).1 = er := ⟨_, rfl⟩
    rw [her]
    have HE := Lib.hid her
    unfold tokC
    clear hk2 hf her
    go_wp2
    refine bodyPost_ret (results_val rfl _ _ _ 28 _ (0, 0) _ rfl (set8 HT2.out.blk _ _ _ _ _ _ _ _) Try.underlying28 rfl infoTok _ rfl) rfl ?_
    rw [HV.out]
    exact HT2.out.pass HE.out HF.out _ _ _ _ _ _ _ _
  · have hrg' : isRg (X.bs.getD k 0) = false := by simpa using hrg
    rw [hrg'] at HRG
    have HRF := Lib.hid hrg'
    have HK := Lib.hid hk
    clear hrg hrg'
    by_cases h91 : X.bs.getD k 0 = 91
    · have hv := hV
      rw [h91, tokV_91 _ _] at hv
      have HV := Lib.hid hv
      have hx : (X.bs.getD k 0).toNat = 91 := by rw [h91]; rfl
      rw [hx] at HRG ⊢
      clear hV hv hx h91 hk
      go_enter Try.func20, Try.ntmps20
      go_wp2_with fail
      rw [← HR.out]
      generalize w.alloc _ = W1 at *
      refine (HRG.out _).mono ?_
      rintro e w' ⟨rfl, rfl⟩
      have HT2 := Lib.hid (HT0.out.next HK.out)
      obtain ⟨-, -, -, -, c3, c4, fr⟩ := HT0.out.sc.facts
      have f3 := fr 3
      clear fr
      obtain ⟨⟨k0, k1, k2, k3, k4, k5, k6, k7⟩, f0, f1, f2, f3', f4, f5, f6, f7⟩ := cells8 HT2.out.blk
      go_wp2
      refine bodyPost_ret (results_val rfl _ _ _ 28 _ (0, 0) _ rfl (set8 HT2.out.blk _ _ _ _ _ _ _ _) Try.underlying28 rfl infoTok _ rfl) rfl ?_
      exact HT2.out.ok (x := { kind := 2 }) HV.out _ _ _ _ _ _ _ _
    by_cases h93 : X.bs.getD k 0 = 93
    · have hv := hV
      rw [h93, tokV_93 _ _] at hv
      have HV := Lib.hid hv
      have hx : (X.bs.getD k 0).toNat = 93 := by rw [h93]; rfl
      rw [hx] at HRG ⊢
      clear hV hv hx h93 hk
      go_enter Try.func20, Try.ntmps20
      go_wp2_with fail
      rw [← HR.out]
      generalize w.alloc _ = W1 at *
      refine (HRG.out _).mono ?_
      rintro e w' ⟨rfl, rfl⟩
      have HT2 := Lib.hid (HT0.out.next HK.out)
      obtain ⟨-, -, -, -, c3, c4, fr⟩ := HT0.out.sc.facts
      have f3 := fr 3
      clear fr
      obtain ⟨⟨k0, k1, k2, k3, k4, k5, k6, k7⟩, f0, f1, f2, f3', f4, f5, f6, f7⟩ := cells8 HT2.out.blk
      go_wp2
      refine bodyPost_ret (results_val rfl _ _ _ 28 _ (0, 0) _ rfl (set8 HT2.out.blk _ _ _ _ _ _ _ _) Try.underlying28 rfl infoTok _ rfl) rfl ?_
      exact HT2.out.ok (x := { kind := 3 }) HV.out _ _ _ _ _ _ _ _
    by_cases h60 : X.bs.getD k 0 = 60
    · have hv := hV
      rw [h60, tokV_open X (k + 1)] at hv
      have HV := Lib.hid hv
      have hx : (X.bs.getD k 0).toNat = 60 := by rw [h60]; rfl
      rw [hx] at HRG ⊢
      clear hV hv hx h60 hk
      go_enter Try.func20, Try.ntmps20
      go_wp2_with fail
      rw [← HR.out]
      generalize w.alloc _ = W1 at *
      refine (HRG.out _).mono ?_
      rintro e w' ⟨rfl, rfl⟩
      have HT2 := Lib.hid (HT0.out.next HK.out)
      obtain ⟨-, -, -, -, c3, c4, fr⟩ := HT0.out.sc.facts
      have f3 := fr 3
      clear fr
      go_wp2_with fail
      refine (opening_any HT2.out.sc (by omega)).mono ?_
      rintro e w2 ⟨hk2, a, b, c, s1, s2, rfl, hf⟩
      have HT3 := Lib.hid (Tn.of HT2.out hk2)
      obtain ⟨⟨k0, k1, k2, k3, k4, k5, k6, k7⟩, f0, f1, f2, f3, f4, f5, f6, f7⟩ := cells8 HT3.out.blk
      have HF := Lib.hid hf
      obtain ⟨er, her⟩ : ∃ er, (opV X (k + 1)).1 = er := ⟨_, rfl⟩
      rw [her]
      have HE := Lib.hid her
      unfold tokC
      clear hk2 hf her c3 c4 
      go_wp2
      refine bodyPost_ret (results_val rfl _ _ _ 28 _ (0, 0) _ rfl (set8 HT3.out.blk _ _ _ _ _ _ _ _) Try.underlying28 rfl infoTok _ rfl) rfl ?_
      rw [HV.out]
      exact HT3.out.pass HE.out HF.out _ _ _ _ _ _ _ _
    by_cases h62 : X.bs.getD k 0 = 62
    · have hv := hV
      rw [h62, tokV_close X (k + 1)] at hv
      have HV := Lib.hid hv
      have hx : (X.bs.getD k 0).toNat = 62 := by rw [h62]; rfl
      rw [hx] at HRG ⊢
      clear hV hv hx h62 hk
      go_enter Try.func20, Try.ntmps20
      go_wp2_with fail
      rw [← HR.out]
      generalize w.alloc _ = W1 at *
      refine (HRG.out _).mono ?_
      rintro e w' ⟨rfl, rfl⟩
      have HT2 := Lib.hid (HT0.out.next HK.out)
      obtain ⟨-, -, -, -, c3, c4, fr⟩ := HT0.out.sc.facts
      have f3 := fr 3
      clear fr
      go_wp2_with fail
      refine (closing_any HT2.out.sc).mono ?_
      rintro e w2 ⟨hk2, a, b, c, s1, s2, rfl, hf⟩
      have HT3 := Lib.hid (Tn.of HT2.out hk2)
      obtain ⟨⟨k0, k1, k2, k3, k4, k5, k6, k7⟩, f0, f1, f2, f3, f4, f5, f6, f7⟩ := cells8 HT3.out.blk
      have HF := Lib.hid hf
      obtain ⟨er, her⟩ : ∃ er, (clV X (k + 1)).1 = er := ⟨_, rfl⟩
      rw [her]
      have HE := Lib.hid her
      unfold tokC
      clear hk2 hf her c3 c4 
      go_wp2
      refine bodyPost_ret (results_val rfl _ _ _ 28 _ (0, 0) _ rfl (set8 HT3.out.blk _ _ _ _ _ _ _ _) Try.underlying28 rfl infoTok _ rfl) rfl ?_
      rw [HV.out]
      exact HT3.out.pass HE.out HF.out _ _ _ _ _ _ _ _
    by_cases h40 : X.bs.getD k 0 = 40
    · have hv := hV
      rw [h40, tokV_text _ _] at hv
      have HV := Lib.hid hv
      have hx : (X.bs.getD k 0).toNat = 40 := by rw [h40]; rfl
      rw [hx] at HRG ⊢
      clear hV hv hx h40 hk
      go_enter Try.func20, Try.ntmps20
      go_wp2_with fail
      rw [← HR.out]
      generalize w.alloc _ = W1 at *
      refine (HRG.out _).mono ?_
      rintro e w' ⟨rfl, rfl⟩
      have HT2 := Lib.hid (HT0.out.next HK.out)
      obtain ⟨-, -, -, -, c3, c4, fr⟩ := HT0.out.sc.facts
      have f3 := fr 3
      clear fr
      have HTX := Lib.hid (text_any HT2.out.sc (by omega))
      generalize textV X.last 1 [] (X.bs.drop (k + 1)) = H at *
      go_wp2_with fail
      refine HTX.out.mono ?_
      rintro e w2 ⟨hk2, hh⟩
      have HT3 := Lib.hid (Tn.of HT2.out hk2)
      clear hk2 c3 c4 f3 HTX
      cases H
      · obtain rfl := hh
        have HN := Lib.hid (openE_ne X.last)
        have HL := Lib.hid (show V.1 = openE X.last by rw [HV.out]; rfl)
        generalize openE X.last = er at *
        have HT4 := Lib.hid (HT3.out.alloc (.cells (valC 0 0 noStr) 26))
        obtain ⟨⟨k0, k1, k2, k3, k4, k5, k6, k7⟩, f0, f1, f2, f3, f4, f5, f6, f7⟩ := cells8 HT4.out.blk
        unfold valC noStr at *
        go_wp2
        refine bodyPost_ret (results_val rfl _ _ _ 28 _ (0, 0) _ rfl (set8 HT4.out.blk _ _ _ _ _ _ _ _) Try.underlying28 rfl infoTok _ rfl) rfl ?_
        exact HT4.out.err HL.out HN.out _ _ _ _ _ _ _ _ _ _ _ _ _
      · rename_i val
        obtain ⟨xs, t⟩ := val
        obtain ⟨rfl, h2, h3⟩ := hh
        have HL := Lib.hid (show V = (0, { kind := 1, vk := 4, vs := xs }, t) from HV.out)
        have HA := Lib.hid (fun x => cell_alloc x h3)
        have HB := Lib.hid h2
        obtain ⟨B, hB⟩ : ∃ B, mkB xs = B := ⟨_, rfl⟩
        rw [hB]
        have HBB := Lib.hid hB
        have HT4 := Lib.hid (HT3.out.alloc (.cells (valC 4 0 B) 26))
        obtain ⟨⟨k0, k1, k2, k3, k4, k5, k6, k7⟩, f0, f1, f2, f3, f4, f5, f6, f7⟩ := cells8 HT4.out.blk
        unfold valC at *
        clear h2 h3 hB
        go_wp2
        refine bodyPost_ret (results_val rfl _ _ _ 28 _ (0, 0) _ rfl (set8 HT4.out.blk _ _ _ _ _ _ _ _) Try.underlying28 rfl infoTok _ rfl) rfl ?_
        have hbb := HBB.out
        subst hbb
        exact HT4.out.ok (x := { kind := 1, vk := 4, vs := xs }) HL.out HB.out (HA.out _) _ _ _ _ _ _ _ _
    by_cases h47 : X.bs.getD k 0 = 47
    · have hv := hV
      rw [h47, tokV_slash _ _] at hv
      have HV := Lib.hid hv
      have hx : (X.bs.getD k 0).toNat = 47 := by rw [h47]; rfl
      rw [hx] at HRG ⊢
      clear hV hv hx h47 hk
      go_enter Try.func20, Try.ntmps20
      go_wp2_with fail
      rw [← HR.out]
      generalize w.alloc _ = W1 at *
      refine (HRG.out _).mono ?_
      rintro e w' ⟨rfl, rfl⟩
      have HT2 := Lib.hid (HT0.out.next HK.out)
      obtain ⟨-, -, -, -, c3, c4, fr⟩ := HT0.out.sc.facts
      have f3 := fr 3
      clear fr
      have HW := Lib.hid (word_any HT2.out.sc (Nat.lt_of_le_of_lt (Nat.zero_le _) HK.out))
      have hdl : (X.bs.drop (k + 1)).length = X.bs.length - (k + 1) := by simp
      have hm := runN_le (X.bs.drop (k + 1))
      have hlen : (regs (X.bs.drop (k + 1))).length = runN (X.bs.drop (k + 1)) := rfl
      have hpos : X.bs.length - ((X.bs.drop (k + 1)).drop (runN (X.bs.drop (k + 1)))).length = k + 1 + runN (X.bs.drop (k + 1)) := by
        have := HK.out
        rw [List.length_drop, hdl]; omega
      have hle : ((X.bs.drop (k + 1)).drop (runN (X.bs.drop (k + 1)))).length ≤ X.bs.length := by rw [List.length_drop, hdl]; omega
      have hBB : (decide (k + 1 + runN (X.bs.drop (k + 1)) < X.bs.length) || X.last) = !decide (runN (X.bs.drop (k + 1)) = (X.bs.drop (k + 1)).length ∧ X.last = false) := by
        have := HK.out
        rw [hdl] at hm ⊢
        cases X.last
        · simp only [Bool.or_false, and_true]
          rw [Bool.eq_iff_iff]; simp; omega
        · simp
      have hv := HV.out
      unfold slV at hv
      unfold WordEnd at HW
      rw [hBB] at HW
      have hsm := HT2.out.sc.facts.2.2.2.1
      rw [hdl] at hm
      clear hBB hdl
      generalize (X.bs.drop (k + 1)).drop (runN (X.bs.drop (k + 1))) = t at *
      generalize regs (X.bs.drop (k + 1)) = R at *
      generalize runN (X.bs.drop (k + 1)) = m at *
      have HPOS := Lib.hid hpos
      have HLE := Lib.hid hle
      have hR1 : R.length ≤ 100000 := by omega
      clear hpos hle hm hlen hsm
      by_cases hb : m = (X.bs.drop (k + 1)).length ∧ X.last = false
      · rw [if_pos hb] at hv
        rw [decide_eq_true hb] at HW
        have HVV := Lib.hid hv
        clear hv hb
        go_wp2_with fail
        refine HW.out.mono ?_
        rintro e w2 ⟨rfl, S2, hq2, hk2, -⟩
        have HT3 := Lib.hid (Tn.of HT2.out hk2)
        clear c3 c4 f3 hq2 hk2
        obtain ⟨⟨k0, k1, k2, k3, k4, k5, k6, k7⟩, f0, f1, f2, f3, f4, f5, f6, f7⟩ := cells8 HT3.out.blk
        go_wp2
        refine bodyPost_ret (results_val rfl _ _ _ 28 _ (0, 0) _ rfl (set8 HT3.out.blk _ _ _ _ _ _ _ _) Try.underlying28 rfl infoTok _ rfl) rfl ?_
        exact HT3.out.err (by rw [HVV.out]) (by decide) _ _ _ _ _ _ _ _ _ _ _ _ _
      · rw [if_neg hb] at hv
        rw [decide_eq_false hb] at HW
        obtain ⟨s, hs⟩ : ∃ s, mkB R = s := ⟨_, rfl⟩
        have hs2 : s.size ≤ 100000 := by rw [← hs, mkB_size]; exact hR1
        rw [show R = bl s by rw [← hs]; rfl] at hv
        rw [Bool.not_false, hs] at HW
        have HVV := Lib.hid hv
        clear hv hb hs
        go_wp2_with fail
        refine HW.out.mono ?_
        rintro e w2 ⟨rfl, S2, hq2, hk2, -⟩
        have HT3 := Lib.hid (Tn.of HT2.out hk2)
        have HC := Lib.hid (hq2.facts.2.2.2.2.1)
        rw [← HPOS.out] at HC
        clear c3 c4 f3 hq2 hk2
        go_wp2_with fail
        refine (name_any s w2 hs2).mono ?_
        rintro e w3 ⟨hb3, hh⟩
        have HT4 := Lib.hid (HT3.out.on hb3)
        have HC4 := Lib.hid (cell?_keep hb3 HC.out)
        clear hb3
        generalize nameV (bl s) = N at *
        cases N
        · obtain rfl := hh
          have HT5 := Lib.hid (HT4.out.alloc (.cells (valC 0 0 noStr) 26))
          obtain ⟨⟨k0, k1, k2, k3, k4, k5, k6, k7⟩, f0, f1, f2, f3, f4, f5, f6, f7⟩ := cells8 HT5.out.blk
          unfold valC noStr at *
          go_wp2
          refine bodyPost_ret (results_val rfl _ _ _ 28 _ (0, 0) _ rfl (set8 HT5.out.blk _ _ _ _ _ _ _ _) Try.underlying28 rfl infoTok _ rfl) rfl ?_
          exact HT5.out.err (by rw [HVV.out]) (by decide) _ _ _ _ _ _ _ _ _ _ _ _ _
        · rename_i o
          obtain rfl := hh
          obtain ⟨B, hB⟩ : ∃ B, mkB o = B := ⟨_, rfl⟩
          rw [hB]
          have HBB := Lib.hid hB
          have HA := Lib.hid (fun x => cell_alloc x HC4.out)
          have HT5 := Lib.hid (HT4.out.alloc (.cells (valC 5 0 B) 26))
          obtain ⟨⟨k0, k1, k2, k3, k4, k5, k6, k7⟩, f0, f1, f2, f3, f4, f5, f6, f7⟩ := cells8 HT5.out.blk
          unfold valC at *
          clear hB
          go_wp2
          refine bodyPost_ret (results_val rfl _ _ _ 28 _ (0, 0) _ rfl (set8 HT5.out.blk _ _ _ _ _ _ _ _) Try.underlying28 rfl infoTok _ rfl) rfl ?_
          have hbb := HBB.out
          subst hbb
          exact HT5.out.ok (x := { kind := 1, vk := 5, vs := o }) HVV.out HLE.out (HA.out _) _ _ _ _ _ _ _ _
    have HV := Lib.hid (hV.trans (tokV_no _ _ _ HRF.out h91 h93 h60 h62 h40 h47))
    have hne : ∀ d : UInt8, X.bs.getD k 0 ≠ d → ((((X.bs.getD k 0).toNat : Nat) : Int) == (d.toNat : Int)) = false := fun d hd => by
      rw [beq_eq_false_iff_ne]; exact fun e => hd (UInt8.toNat_inj.1 (Int.ofNat_inj.1 e))
    have e1 := hne 91 h91
    have e2 := hne 93 h93
    have e3 := hne 60 h60
    have e4 := hne 62 h62
    have e5 := hne 40 h40
    have e6 := hne 47 h47
    simp only [show (91 : UInt8).toNat = 91 from rfl, show (93 : UInt8).toNat = 93 from rfl, show (60 : UInt8).toNat = 60 from rfl, show (62 : UInt8).toNat = 62 from rfl, show (40 : UInt8).toNat = 40 from rfl, show (47 : UInt8).toNat = 47 from rfl] at e1 e2 e3 e4 e5 e6
    clear hV h91 h93 h60 h62 h40 h47 hne hk
    generalize (X.bs.getD k 0).toNat = x at *
    go_enter Try.func20, Try.ntmps20
    go_wp2_with fail
    rw [← HR.out]
    generalize w.alloc _ = W1 at *
    refine (HRG.out _).mono ?_
    rintro e w' ⟨rfl, rfl⟩
    have HT2 := Lib.hid (HT0.out.next HK.out)
    obtain ⟨-, -, -, -, c3, c4, fr⟩ := HT0.out.sc.facts
    have f3 := fr 3
    clear fr
    obtain ⟨⟨k0, k1, k2, k3, k4, k5, k6, k7⟩, f0, f1, f2, f3', f4, f5, f6, f7⟩ := cells8 HT2.out.blk
    go_wp2
    refine bodyPost_ret (results_val rfl _ _ _ 28 _ (0, 0) _ rfl (set8 HT2.out.blk _ _ _ _ _ _ _ _) Try.underlying28 rfl infoTok _ rfl) rfl ?_
    exact HT2.out.err (by rw [HV.out]) (by decide) _ _ _ _ _ _ _ _ _ _ _ _ _
end Go.Proofs.Ytkolfecjlbnfkaa
