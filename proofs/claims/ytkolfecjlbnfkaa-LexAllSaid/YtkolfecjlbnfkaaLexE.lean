/-
  Walks of layer 10: tokens of regular bytes.
-/
import Derived.Test.YtkolfecjlbnfkaaLexB
import Derived.Test.YtkolfecjlbnfkaaNum4
namespace Go.Proofs.Ytkolfecjlbnfkaa
open Go.RowKit

/-- What a run of regular bytes is, and what stands behind it. -/
def rgV (X : Src) (k : Nat) : Int × Tk × List UInt8 :=
  if runN (X.bs.drop k) = (X.bs.drop k).length ∧ X.last = false then (6, { kind := 0 }, [])
  else if isDg (X.bs.getD k 0) = true ∨ X.bs.getD k 0 = 43 ∨ X.bs.getD k 0 = 45 ∨ X.bs.getD k 0 = 46 then ((parseV (regs (X.bs.drop k))).2.2, { kind := 1, vk := (parseV (regs (X.bs.drop k))).1, vn := (parseV (regs (X.bs.drop k))).2.1 }, (X.bs.drop k).drop (runN (X.bs.drop k)))
  else (0, { kind := 6, s := regs (X.bs.drop k) }, (X.bs.drop k).drop (runN (X.bs.drop k)))

def firstB (x : Nat) : Bool := (((decide (48 ≤ x) && decide (x ≤ 57)) || decide (x = 43)) || decide (x = 45)) || decide (x = 46)
theorem firstB_eq (c : UInt8) : firstB c.toNat = decide (isDg c = true ∨ c = 43 ∨ c = 45 ∨ c = 46) := by
  have h1 : ∀ d : UInt8, (c = d) ↔ c.toNat = d.toNat := fun d => UInt8.toNat_inj.symm
  unfold firstB isDg
  simp only [h1, show (43 : UInt8).toNat = 43 from rfl, show (45 : UInt8).toNat = 45 from rfl, show (46 : UInt8).toNat = 46 from rfl]
  rw [Bool.eq_iff_iff]
  simp [or_assoc]

set_option maxRecDepth 8000 in
set_option maxHeartbeats 4000000 in
theorem regulars_any {w : World} {S : Nat → Prop} {p : Nat} {X : Src} {k : Nat} (h : ScQ w S p X [] k) (hk : k < X.bs.length) (hrg : isRg (X.bs.getD k 0) = true) :
    Calls Try.prog 28 #[.pointer (some ⟨p, 0, none⟩)] w (TokEnd w S p X (rgV X k)) := by
  obtain ⟨V, hV⟩ : ∃ V, V = rgV X k := ⟨_, rfl⟩
  rw [← hV]
  have hT := Tm.start h
  obtain ⟨r, hr⟩ : ∃ r, r = w.heap.size := ⟨_, rfl⟩
  rw [← hr] at hT
  have HT0 := Lib.hid hT
  have HR := Lib.hid hr
  have HW := Lib.hid (word_any hT.sc (by omega))
  have hsm := h.facts.2.2.2.1
  have hdl : (X.bs.drop k).length = X.bs.length - k := by simp
  have hm := runN_le (X.bs.drop k)
  have hm1 : 1 ≤ runN (X.bs.drop k) := by rw [drop_cons hk, runN_yes _ hrg]; omega
  have hlen : (regs (X.bs.drop k)).length = runN (X.bs.drop k) := rfl
  have hhd : (regs (X.bs.drop k)).head? = some (X.bs.getD k 0) := by
    rw [drop_cons hk]; unfold regs; rw [List.takeWhile_cons_of_pos hrg]; rfl
  have hpos : X.bs.length - ((X.bs.drop k).drop (runN (X.bs.drop k))).length = k + runN (X.bs.drop k) := by
    rw [List.length_drop, hdl]; omega
  have hle : ((X.bs.drop k).drop (runN (X.bs.drop k))).length ≤ X.bs.length := by rw [List.length_drop, hdl]; omega
  have hBB : (decide (k + runN (X.bs.drop k) < X.bs.length) || X.last) = !decide (runN (X.bs.drop k) = (X.bs.drop k).length ∧ X.last = false) := by
    rw [hdl]
    cases X.last
    · simp only [Bool.or_false, and_true]
      rw [Bool.eq_iff_iff]; simp; omega
    · simp
  have hfb := firstB_eq (X.bs.getD k 0)
  unfold rgV at hV
  unfold WordEnd at HW
  rw [hBB] at HW
  rw [hdl] at hm
  clear hT hr h hBB hdl hrg
  generalize (X.bs.drop k).drop (runN (X.bs.drop k)) = t at *
  generalize regs (X.bs.drop k) = R at *
  generalize runN (X.bs.drop k) = m at *
  generalize X.bs.getD k 0 = c at *
  by_cases hb : m = (X.bs.drop k).length ∧ X.last = false
  · rw [if_pos hb] at hV
    rw [decide_eq_true hb] at HW
    have HV := Lib.hid hV
    clear hV hb hhd hfb hpos hle hlen
    go_enter Try.func28, Try.ntmps28
    go_wp2_with fail
    rw [← HR.out]
    generalize w.alloc _ = W1 at *
    refine HW.out.mono ?_
    rintro e w2 ⟨rfl, S2, hq2, hk2, -⟩
    have HT2 := Lib.hid (Tn.of HT0.out hk2)
    obtain ⟨⟨k0, k1, k2, k3, k4, k5, k6, k7⟩, f0, f1, f2, f3, f4, f5, f6, f7⟩ := cells8 HT2.out.blk
    clear hq2 hk2
    go_wp2
    refine bodyPost_ret (results_val rfl _ _ _ 28 _ (0, 0) _ rfl (set8 HT2.out.blk _ _ _ _ _ _ _ _) Try.underlying28 rfl infoTok _ rfl) rfl ?_
    exact HT2.out.err (by rw [HV.out]) (by decide) _ _ _ _ _ _ _ _ _ _ _ _ _
  · rw [if_neg hb] at hV
    rw [decide_eq_false hb] at HW
    obtain ⟨s, hs⟩ : ∃ s, mkB R = s := ⟨_, rfl⟩
    have hsR : bl s = R := by rw [← hs]; rfl
    have hsz : s.size = m := by rw [← bl_len, hsR, hlen]
    have hs1 : 0 < s.size := by omega
    have hs2 : s.size ≤ 100000 := by omega
    have hx : (s[0]'hs1).toNat = c.toNat := by
      rw [← hsR] at hhd
      have h2 : (bl s)[0]? = some c := by rw [← List.head?_eq_getElem?]; exact hhd
      have h3 : s[0] = c := by
        rw [List.getElem?_eq_getElem (by rw [bl_len]; omega), bl_get s 0 (by omega)] at h2
        exact Option.some.inj h2
      rw [h3]
    have hcx : c.toNat < 256 := c.toNat_lt
    obtain ⟨x, hxx⟩ : ∃ x, c.toNat = x := ⟨_, rfl⟩
    rw [hxx] at hx hcx hfb
    have HPOS := Lib.hid hpos
    have HLE := Lib.hid hle
    have HS := Lib.hid hs
    have HSR := Lib.hid hsR
    have hh : (48 ≤ x ∧ x ≤ 57) ∨ x = 43 ∨ x = 45 ∨ x = 46 ∨ (x < 48 ∧ x ≠ 43 ∧ x ≠ 45 ∧ x ≠ 46) ∨ 57 < x := by omega
    clear hlen hhd hb hpos hle hsR hsz hxx hm hm1
    rw [Bool.not_false, hs] at HW
    clear hs
    have HV0 := Lib.hid hV
    have HFB := Lib.hid hfb
    clear hV hfb
    rcases hh with ⟨h1, h2⟩ | rfl | rfl | rfl | ⟨h1, h2, h3, h4⟩ | h1
    case inr.inr.inr.inr.inl =>
      have HV := Lib.hid (show V = (0, { kind := 6, s := R }, t) by
        rw [HV0.out, if_neg (of_decide_eq_false (HFB.out.symm.trans (by unfold firstB; simp; omega)))])
      have e1 : decide ((48 : Int) ≤ x) = false := by simp; omega
      have e2 : ((x : Int) == 43) = false := by rw [beq_eq_false_iff_ne]; omega
      have e3 : ((x : Int) == 45) = false := by rw [beq_eq_false_iff_ne]; omega
      have e4 : ((x : Int) == 46) = false := by rw [beq_eq_false_iff_ne]; omega
      clear h1
      go_enter Try.func28, Try.ntmps28
      go_wp2_with fail
      rw [← HR.out]
      generalize w.alloc _ = W1 at *
      refine HW.out.mono ?_
      rintro e w2 ⟨rfl, S2, hq2, hk2, -⟩
      have HT2 := Lib.hid (Tn.of HT0.out hk2)
      have HC := Lib.hid (hq2.facts.2.2.2.2.1)
      rw [← HPOS.out] at HC
      obtain ⟨⟨k0, k1, k2, k3, k4, k5, k6, k7⟩, f0, f1, f2, f3, f4, f5, f6, f7⟩ := cells8 HT2.out.blk
      clear hq2 hk2 h2 h3 h4 hk hcx hsm
      go_wp2
      refine bodyPost_ret (results_val rfl _ _ _ 28 _ (0, 0) _ rfl (set8 HT2.out.blk _ _ _ _ _ _ _ _) Try.underlying28 rfl infoTok _ rfl) rfl ?_
      have hss := HS.out
      subst hss
      exact HT2.out.ok (x := { kind := 6, s := R }) HV.out HLE.out HC.out _ _ _ _ _ _ _ _
    case inr.inr.inr.inr.inr =>
      have HV := Lib.hid (show V = (0, { kind := 6, s := R }, t) by
        rw [HV0.out, if_neg (of_decide_eq_false (HFB.out.symm.trans (by unfold firstB; simp; omega)))])
      have e1 : decide ((48 : Int) ≤ x) = true := by simp; omega
      have e0 : decide ((x : Int) ≤ 57) = false := by simp; omega
      have e2 : ((x : Int) == 43) = false := by rw [beq_eq_false_iff_ne]; omega
      have e3 : ((x : Int) == 45) = false := by rw [beq_eq_false_iff_ne]; omega
      have e4 : ((x : Int) == 46) = false := by rw [beq_eq_false_iff_ne]; omega
      clear h1
      go_enter Try.func28, Try.ntmps28
      go_wp2_with fail
      rw [← HR.out]
      generalize w.alloc _ = W1 at *
      refine HW.out.mono ?_
      rintro e w2 ⟨rfl, S2, hq2, hk2, -⟩
      have HT2 := Lib.hid (Tn.of HT0.out hk2)
      have HC := Lib.hid (hq2.facts.2.2.2.2.1)
      rw [← HPOS.out] at HC
      obtain ⟨⟨k0, k1, k2, k3, k4, k5, k6, k7⟩, f0, f1, f2, f3, f4, f5, f6, f7⟩ := cells8 HT2.out.blk
      clear hq2 hk2 hk hcx hsm
      go_wp2
      refine bodyPost_ret (results_val rfl _ _ _ 28 _ (0, 0) _ rfl (set8 HT2.out.blk _ _ _ _ _ _ _ _) Try.underlying28 rfl infoTok _ rfl) rfl ?_
      have hss := HS.out
      subst hss
      exact HT2.out.ok (x := { kind := 6, s := R }) HV.out HLE.out HC.out _ _ _ _ _ _ _ _
    all_goals
      have HV := Lib.hid (show V = ((parseV (bl s)).2.2, { kind := 1, vk := (parseV (bl s)).1, vn := (parseV (bl s)).2.1 }, t) by
        rw [HSR.out, HV0.out, if_pos (of_decide_eq_true (HFB.out.symm.trans (by unfold firstB; simp; try omega)))])
      try have e1 : decide ((48 : Int) ≤ x) = true := by simp; omega
      try have e0 : decide ((x : Int) ≤ 57) = true := by simp; omega
      try clear h1 h2
      go_enter Try.func28, Try.ntmps28
      go_wp2_with fail
      rw [← HR.out]
      generalize w.alloc _ = W1 at *
      refine HW.out.mono ?_
      rintro e w2 ⟨rfl, S2, hq2, hk2, -⟩
      have HT2 := Lib.hid (Tn.of HT0.out hk2)
      have HC := Lib.hid (hq2.facts.2.2.2.2.1)
      rw [← HPOS.out] at HC
      clear hq2 hk2 hk hcx hsm HT0 HW
      go_wp2_with fail
      refine (parse_any s w2 hs2).mono ?_
      rintro e w3 ⟨rfl, hb3⟩
      generalize parseV (bl s) = P at *
      have HT3 := Lib.hid ((HT2.out.on hb3).alloc (.cells (valC P.1 P.2.1 noStr) 26))
      have HC3 := Lib.hid (cell_alloc (.cells (valC P.1 P.2.1 noStr) 26) (cell?_keep hb3 HC.out))
      obtain ⟨⟨k0, k1, k2, k3, k4, k5, k6, k7⟩, f0, f1, f2, f3, f4, f5, f6, f7⟩ := cells8 HT3.out.blk
      obtain ⟨P1, P2, P3⟩ := P
      simp only [] at *
      unfold valC noStr at *
      clear hb3 HT2 HC
      go_wp2
      refine bodyPost_ret (results_val rfl _ _ _ 28 _ (0, 0) _ rfl (set8 HT3.out.blk _ _ _ _ _ _ _ _) Try.underlying28 rfl infoTok _ rfl) rfl ?_
      exact HT3.out.any (x := { kind := 1, vk := P1, vn := P2 }) HV.out HLE.out HC3.out _ _ _ _ _ _ _ _
end Go.Proofs.Ytkolfecjlbnfkaa
