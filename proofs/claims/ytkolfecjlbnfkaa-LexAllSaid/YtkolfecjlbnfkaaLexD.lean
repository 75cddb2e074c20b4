/-
  Walks of layer 10: <<, and texts in hex.
-/
import Derived.Test.YtkolfecjlbnfkaaLexB
namespace Go.Proofs.Ytkolfecjlbnfkaa
open Go.RowKit

theorem openE_ne (l : Bool) : openE l ≠ 0 := by cases l <;> decide
/-- What a text in hex is as a token. -/
def hexK (last : Bool) (H : Int × List UInt8 × List UInt8) : Int × Tk × List UInt8 := if H.1 = 0 then (0, { kind := 1, vk := 4, vs := H.2.1 }, H.2.2) else if H.1 = 1 then (openE last, { kind := 0 }, []) else (11, { kind := 0 }, [])
def opV (X : Src) (k : Nat) : Int × Tk × List UInt8 := match X.bs.drop k with
  | [] => (openE X.last, { kind := 0 }, [])
  | d :: u => if d = 60 then (0, { kind := 4 }, u) else hexK X.last (hexV [] (-1) (d :: u))
theorem opV_in {X : Src} {k : Nat} (hk : k < X.bs.length) : opV X k = if X.bs.getD k 0 = 60 then (0, { kind := 4 }, X.bs.drop (k + 1)) else hexK X.last (hexV [] (-1) (X.bs.drop k)) := by
  unfold opV; rw [drop_cons hk]
theorem opV_out {X : Src} {k : Nat} (hk : ¬ k < X.bs.length) : opV X k = (openE X.last, { kind := 0 }, []) := by
  unfold opV; rw [drop_nil (by omega)]

set_option maxRecDepth 8000 in
set_option maxHeartbeats 4000000 in
theorem opening_any {w : World} {S : Nat → Prop} {p : Nat} {X : Src} {k : Nat} (h : ScQ w S p X [] k) (h1k : 1 ≤ k) :
    Calls Try.prog 29 #[.pointer (some ⟨p, 0, none⟩)] w (TokEnd w S p X (opV X k)) := by
  obtain ⟨V, hV⟩ : ∃ V, V = opV X k := ⟨_, rfl⟩
  rw [← hV]
  have hT := Tm.start h
  obtain ⟨r, hr⟩ : ∃ r, r = w.heap.size := ⟨_, rfl⟩
  rw [← hr] at hT
  have HT0 := Lib.hid hT
  have HR := Lib.hid hr
  have hP := peek_any hT.sc
  have hsm := h.facts.2.2.2.1
  clear hT hr h
  by_cases hk : k < X.bs.length
  · have hv := hV.trans (opV_in hk)
    unfold peekV u8C at hP
    rw [if_pos hk] at hP
    have HK := Lib.hid hk
    have H1K := Lib.hid h1k
    have hkb : k ≤ 99999 := by omega
    clear hsm
    generalize X.bs.getD k 0 = c at *
    have HP := Lib.hid hP
    clear hP hV hk
    by_cases hc : c = 60
    · rw [if_pos hc] at hv
      have HV := Lib.hid hv
      have hc2 : c.toNat = 60 := by rw [hc]; rfl
      rw [hc2] at HP
      clear hv hc hc2
      go_enter Try.func29, Try.ntmps29
      go_wp2_with fail
      refine HP.out.mono ?_
      rintro e w1 ⟨rfl, q, rfl⟩
      have HT1 := Lib.hid (HT0.out.drewN q)
      have HT2 := Lib.hid (HT1.out.next HK.out)
      obtain ⟨-, -, -, -, c3, c4, fr⟩ := HT1.out.sc.facts
      have f3 := fr 3
      rw [← HR.out]
      clear fr HT0
      generalize (w.alloc _).drewN q = W1 at *
      obtain ⟨⟨k0, k1, k2, k3, k4, k5, k6, k7⟩, f0, f1, f2, f3', f4, f5, f6, f7⟩ := cells8 HT2.out.blk
      go_wp2
      refine bodyPost_ret (results_val rfl _ _ _ 28 _ (0, 0) _ rfl (set8 HT2.out.blk _ _ _ _ _ _ _ _) Try.underlying28 rfl infoTok _ rfl) rfl ?_
      exact HT2.out.ok HV.out _ _ _ _ _ _ _ _
    · rw [if_neg hc] at hv
      have HV := Lib.hid hv
      have hc2 : ¬ c.toNat = 60 := fun h => hc (UInt8.toNat_inj.1 h)
      have hc3 : ((c.toNat : Int) == 60) = false := by rw [beq_eq_false_iff_ne]; omega
      generalize c.toNat = x at *
      clear hv hc
      go_enter Try.func29, Try.ntmps29
      go_wp2_with fail
      refine HP.out.mono ?_
      rintro e w1 ⟨rfl, q, rfl⟩
      have HT1 := Lib.hid (HT0.out.drewN q)
      rw [← HR.out]
      clear HT0
      generalize (w.alloc _).drewN q = W1 at *
      go_wp2_with fail
      refine (hexes_any HT1.out.sc H1K.out).mono ?_
      rintro e w2 ⟨hk2, hh⟩
      have HT2 := Lib.hid (Tn.of HT1.out hk2)
      generalize hexV [] (-1) (X.bs.drop k) = H at *
      rcases hh with ⟨h1, rfl⟩ | ⟨h1, rfl⟩ | ⟨h1, rfl, h2, h3⟩
      · have HL := Lib.hid (show V.1 = openE X.last by rw [HV.out, hexK, h1]; rfl)
        have HN := Lib.hid (openE_ne X.last)
        generalize openE X.last = er at *
        clear h1
        have HT3 := Lib.hid (HT2.out.alloc (.cells (valC 0 0 noStr) 26))
        obtain ⟨⟨k0, k1, k2, k3, k4, k5, k6, k7⟩, f0, f1, f2, f3, f4, f5, f6, f7⟩ := cells8 HT3.out.blk
        unfold valC noStr at *
        go_wp2
        refine bodyPost_ret (results_val rfl _ _ _ 28 _ (0, 0) _ rfl (set8 HT3.out.blk _ _ _ _ _ _ _ _) Try.underlying28 rfl infoTok _ rfl) rfl ?_
        exact HT3.out.err HL.out HN.out _ _ _ _ _ _ _ _ _ _ _ _ _
      · have HL := Lib.hid (show V.1 = 11 by rw [HV.out, hexK, h1]; rfl)
        clear h1
        have HT3 := Lib.hid (HT2.out.alloc (.cells (valC 0 0 noStr) 26))
        obtain ⟨⟨k0, k1, k2, k3, k4, k5, k6, k7⟩, f0, f1, f2, f3, f4, f5, f6, f7⟩ := cells8 HT3.out.blk
        unfold valC noStr at *
        go_wp2
        refine bodyPost_ret (results_val rfl _ _ _ 28 _ (0, 0) _ rfl (set8 HT3.out.blk _ _ _ _ _ _ _ _) Try.underlying28 rfl infoTok _ rfl) rfl ?_
        exact HT3.out.err HL.out (by decide) _ _ _ _ _ _ _ _ _ _ _ _ _
      · have HL := Lib.hid (show V = (0, { kind := 1, vk := 4, vs := H.2.1 }, H.2.2) by rw [HV.out, hexK, if_pos h1])
        have HA := Lib.hid (fun x => cell_alloc x h3)
        have HB := Lib.hid h2
        obtain ⟨B, hB⟩ : ∃ B, mkB H.2.1 = B := ⟨_, rfl⟩
        rw [hB]
        have HBB := Lib.hid hB
        have HT3 := Lib.hid (HT2.out.alloc (.cells (valC 4 0 B) 26))
        obtain ⟨⟨k0, k1, k2, k3, k4, k5, k6, k7⟩, f0, f1, f2, f3, f4, f5, f6, f7⟩ := cells8 HT3.out.blk
        unfold valC at *
        clear h1 h2 h3 hB
        go_wp2
        refine bodyPost_ret (results_val rfl _ _ _ 28 _ (0, 0) _ rfl (set8 HT3.out.blk _ _ _ _ _ _ _ _) Try.underlying28 rfl infoTok _ rfl) rfl ?_
        have hbb := HBB.out
        subst hbb
        exact HT3.out.ok (x := { kind := 1, vk := 4, vs := H.2.1 }) HL.out HB.out (HA.out _) _ _ _ _ _ _ _ _
  · have HV := Lib.hid (hV.trans (opV_out hk))
    unfold peekV at hP
    rw [if_neg hk] at hP
    have HP := Lib.hid hP
    clear hV hk hP hsm
    go_enter Try.func29, Try.ntmps29
    go_wp2_with fail
    refine HP.out.mono ?_
    rintro e w1 ⟨rfl, q, rfl⟩
    have HT1 := Lib.hid (HT0.out.drewN q)
    rw [← HR.out]
    clear HT0
    generalize (w.alloc _).drewN q = W1 at *
    obtain ⟨⟨k0, k1, k2, k3, k4, k5, k6, k7⟩, f0, f1, f2, f3, f4, f5, f6, f7⟩ := cells8 HT1.out.blk
    go_wp2_with fail
    refine (open_any HT1.out.sc).mono ?_
    rintro e w2 ⟨rfl, rfl⟩
    have HN := Lib.hid (openE_ne X.last)
    go_wp2
    refine bodyPost_ret (results_val rfl _ _ _ 28 _ (0, 0) _ rfl (set8 HT1.out.blk _ _ _ _ _ _ _ _) Try.underlying28 rfl infoTok _ rfl) rfl ?_
    exact HT1.out.err (by rw [HV.out]) HN.out _ _ _ _ _ _ _ _ _ _ _ _ _
end Go.Proofs.Ytkolfecjlbnfkaa
