/-
  Walks of layer 10: >>.
-/
import Derived.Test.YtkolfecjlbnfkaaLexB
namespace Go.Proofs.Ytkolfecjlbnfkaa
open Go.RowKit

set_option maxRecDepth 8000 in
set_option maxHeartbeats 4000000 in
theorem closing_any {w : World} {S : Nat → Prop} {p : Nat} {X : Src} {k : Nat} (h : ScQ w S p X [] k) :
    Calls Try.prog 30 #[.pointer (some ⟨p, 0, none⟩)] w (TokEnd w S p X (clV X k)) := by
  obtain ⟨V, hV⟩ : ∃ V, V = clV X k := ⟨_, rfl⟩
  rw [← hV]
  have hT := Tm.start h
  obtain ⟨r, hr⟩ : ∃ r, r = w.heap.size := ⟨_, rfl⟩
  rw [← hr] at hT
  have HT0 := Lib.hid hT
  have HR := Lib.hid hr
  have hP := peek_any hT.sc
  have hsm := h.facts.2.2.2.1
  clear hT hr h
  by_cases hk : k < X.bs.length
  · have hv := hV.trans (clV_in hk)
    unfold peekV u8C at hP
    rw [if_pos hk] at hP
    have HK := Lib.hid hk
    have hkb : k ≤ 99999 := by omega
    clear hsm
    generalize X.bs.getD k 0 = c at *
    have HP := Lib.hid hP
    clear hP hV hk
    by_cases hc : c = 62
    · rw [if_pos hc] at hv
      have HV := Lib.hid hv
      have hc2 : c.toNat = 62 := by rw [hc]; rfl
      rw [hc2] at HP
      clear hv hc hc2
      go_enter Try.func30, Try.ntmps30
      go_wp2_with fail
      refine HP.out.mono ?_
      rintro e w1 ⟨rfl, q, rfl⟩
      have HT1 := Lib.hid (HT0.out.drewN q)
      have HT2 := Lib.hid (HT1.out.next HK.out)
      obtain ⟨-, -, -, -, c3, c4, fr⟩ := HT1.out.sc.facts
      have f3 := fr 3
      rw [← HR.out]
      clear fr HT0
      generalize (w.alloc _).drewN q = W1 at *
      obtain ⟨⟨k0, k1, k2, k3, k4, k5, k6, k7⟩, f0, f1, f2, f3', f4, f5, f6, f7⟩ := cells8 HT2.out.blk
      go_wp2
      refine bodyPost_ret (results_val rfl _ _ _ 28 _ (0, 0) _ rfl (set8 HT2.out.blk _ _ _ _ _ _ _ _) Try.underlying28 rfl infoTok _ rfl) rfl ?_
      exact HT2.out.ok HV.out _ _ _ _ _ _ _ _
    · rw [if_neg hc] at hv
      have HV := Lib.hid hv
      have hc2 : ¬ c.toNat = 62 := fun h => hc (UInt8.toNat_inj.1 h)
      have hc3 : ((c.toNat : Int) == 62) = false := by rw [beq_eq_false_iff_ne]; omega
      generalize c.toNat = x at *
      clear hv hc
      go_enter Try.func30, Try.ntmps30
      go_wp2_with fail
      refine HP.out.mono ?_
      rintro e w1 ⟨rfl, q, rfl⟩
      have HT1 := Lib.hid (HT0.out.drewN q)
      rw [← HR.out]
      clear HT0
      generalize (w.alloc _).drewN q = W1 at *
      obtain ⟨⟨k0, k1, k2, k3, k4, k5, k6, k7⟩, f0, f1, f2, f3, f4, f5, f6, f7⟩ := cells8 HT1.out.blk
      go_wp2
      refine bodyPost_ret (results_val rfl _ _ _ 28 _ (0, 0) _ rfl (set8 HT1.out.blk _ _ _ _ _ _ _ _) Try.underlying28 rfl infoTok _ rfl) rfl ?_
      exact HT1.out.err (by rw [HV.out]) (by decide) _ _ _ _ _ _ _ _ _ _ _ _ _
  · have hv := hV.trans (clV_out hk)
    unfold peekV at hP
    rw [if_neg hk] at hP
    have HP := Lib.hid hP
    obtain ⟨l, hl⟩ : ∃ l, X.last = l := ⟨_, rfl⟩
    rw [hl] at hv
    have HV := Lib.hid hv
    have HL := Lib.hid hl
    clear hv hV hk hP hsm hl
    cases l
    all_goals
      go_enter Try.func30, Try.ntmps30
      go_wp2_with fail
      refine HP.out.mono ?_
      rintro e w1 ⟨rfl, q, rfl⟩
      have HT1 := Lib.hid (HT0.out.drewN q)
      obtain ⟨-, -, -, -, -, c4, -⟩ := HT1.out.sc.facts
      rw [HL.out] at c4
      rw [← HR.out]
      clear HT0
      generalize (w.alloc _).drewN q = W1 at *
      obtain ⟨⟨k0, k1, k2, k3, k4, k5, k6, k7⟩, f0, f1, f2, f3, f4, f5, f6, f7⟩ := cells8 HT1.out.blk
      go_wp2
      refine bodyPost_ret (results_val rfl _ _ _ 28 _ (0, 0) _ rfl (set8 HT1.out.blk _ _ _ _ _ _ _ _) Try.underlying28 rfl infoTok _ rfl) rfl ?_
      exact HT1.out.err (by rw [HV.out]; rfl) (by decide) _ _ _ _ _ _ _ _ _ _ _ _ _
end Go.Proofs.Ytkolfecjlbnfkaa
