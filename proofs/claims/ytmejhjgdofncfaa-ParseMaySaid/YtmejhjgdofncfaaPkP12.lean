/-
  Our texts LexE to LexG, in one.
-/
import Derived.Test.YtmejhjgdofncfaaPkP11
/-
  Walks of layer 10: tokens of regular bytes.
-/
namespace Go.Proofs.Ytmejhjgdofncfaa
open Go.RowKit

/-- What a run of regular bytes is, and what stands behind it. -/
def rgV (X : Src) (k : Nat) : Int × Tk × List UInt8 :=
  if runN (X.bs.drop k) = (X.bs.drop k).length ∧ X.last = false then (6, { kind := 0 }, [])
  else if isDg (X.bs.getD k 0) = true ∨ X.bs.getD k 0 = 43 ∨ X.bs.getD k 0 = 45 ∨ X.bs.getD k 0 = 46 then ((parseV (regs (X.bs.drop k))).2.2, { kind := 1, vk := (parseV (regs (X.bs.drop k))).1, vn := (parseV (regs (X.bs.drop k))).2.1 }, (X.bs.drop k).drop (runN (X.bs.drop k)))
  else (0, { kind := 6, s := regs (X.bs.drop k) }, (X.bs.drop k).drop (runN (X.bs.drop k)))

def firstB (x : Nat) : Bool := (((decide (48 ≤ x) && decide (x ≤ 57)) || decide (x = 43)) || decide (x = 45)) || decide (x = 46)
theorem firstB_eq (c : UInt8) : firstB c.toNat = decide (isDg c = true ∨ c = 43 ∨ c = 45 ∨ c = 46) := by
  have h1 : ∀ d : UInt8, (c = d) ↔ c.toNat = d.toNat := fun d => UInt8.toNat_inj.symm
  unfold firstB isDg
  simp only [h1, show (43 : UInt8).toNat = 43 from rfl, show (45 : UInt8).toNat = 45 from rfl, show (46 : UInt8).toNat = 46 from rfl]
  rw [Bool.eq_iff_iff]
  simp [or_assoc]

set_option maxRecDepth 8000 in
set_option maxHeartbeats 4000000 in
theorem regulars_any {w : World} {S : Nat → Prop} {p : Nat} {X : Src} {k : Nat} (h : ScQ w S p X [] k) (hk : k < X.bs.length) (hrg : isRg (X.bs.getD k 0) = true) :
    Calls Try.prog 33 #[.pointer (some ⟨p, 0, none⟩)] w (TokEnd w S p X (rgV X k)) := by
  obtain ⟨V, hV⟩ : ∃ V, V = rgV X k := ⟨_, rfl⟩
  rw [← hV]
  have hT := Tm.start h
  obtain ⟨r, hr⟩ : ∃ r, r = w.heap.size := ⟨_, rfl⟩
  rw [← hr] at hT
  have HT0 := Lib.hid hT
  have HR := Lib.hid hr
  have HW := Lib.hid (word_any hT.sc (by omega))
  have hsm := h.facts.2.2.2.1
  have hdl : (X.bs.drop k).length = X.bs.length - k := by simp
  have hm := runN_le (X.bs.drop k)
  have hm1 : 1 ≤ runN (X.bs.drop k) := by rw [drop_cons hk, runN_yes _ hrg]; omega
  have hlen : (regs (X.bs.drop k)).length = runN (X.bs.drop k) := rfl
  have hhd : (regs (X.bs.drop k)).head? = some (X.bs.getD k 0) := by
    rw [drop_cons hk]; unfold regs; rw [List.takeWhile_cons_of_pos hrg]; rfl
  have hpos : X.bs.length - ((X.bs.drop k).drop (runN (X.bs.drop k))).length = k + runN (X.bs.drop k) := by
    rw [List.length_drop, hdl]; omega
  have hle : ((X.bs.drop k).drop (runN (X.bs.drop k))).length ≤ X.bs.length := by rw [List.length_drop, hdl]; omega
  have hBB : (decide (k + runN (X.bs.drop k) < X.bs.length) || X.last) = !decide (runN (X.bs.drop k) = (X.bs.drop k).length ∧ X.last = false) := by
    rw [hdl]
    cases X.last
    · simp only [Bool.or_false, and_true]
      rw [Bool.eq_iff_iff]; simp; omega
    · simp
  have hfb := firstB_eq (X.bs.getD k 0)
  unfold rgV at hV
  unfold WordEnd at HW
  rw [hBB] at HW
  rw [hdl] at hm
  clear hT hr h hBB hdl hrg
  generalize (X.bs.drop k).drop (runN (X.bs.drop k)) = t at *
  generalize regs (X.bs.drop k) = R at *
  generalize runN (X.bs.drop k) = m at *
  generalize X.bs.getD k 0 = c at *
  by_cases hb : m = (X.bs.drop k).length ∧ X.last = false
  · rw [if_pos hb] at hV
    rw [decide_eq_true hb] at HW
    have HV := Lib.hid hV
    clear hV hb hhd hfb hpos hle hlen
    go_enter Try.func33, Try.ntmps33
    go_wp2_with fail
    rw [← HR.out]
    generalize w.alloc _ = W1 at *
    refine HW.out.mono ?_
    rintro e w2 ⟨rfl, S2, hq2, hk2, -⟩
    have HT2 := Lib.hid (Tn.of HT0.out hk2)
    obtain ⟨⟨k0, k1, k2, k3, k4, k5, k6, k7⟩, f0, f1, f2, f3, f4, f5, f6, f7⟩ := cells8 HT2.out.blk
    clear hq2 hk2
    go_wp2
    refine bodyPost_ret (results_val rfl _ _ _ 40 _ (0, 0) _ rfl (set8 HT2.out.blk _ _ _ _ _ _ _ _) Try.underlying40 rfl infoTok _ rfl) rfl ?_
    exact HT2.out.err (by rw [HV.out]) (by decide) _ _ _ _ _ _ _ _ _ _ _ _ _
  · rw [if_neg hb] at hV
    rw [decide_eq_false hb] at HW
    obtain ⟨s, hs⟩ : ∃ s, mkB R = s := ⟨_, rfl⟩
    have hsR : bl s = R := by rw [← hs]; rfl
    have hsz : s.size = m := by rw [← bl_len, hsR, hlen]
    have hs1 : 0 < s.size := by omega
    have hs2 : s.size ≤ 100000 := by omega
    have hx : (s[0]'hs1).toNat = c.toNat := by
      rw [← hsR] at hhd
      have h2 : (bl s)[0]? = some c := by rw [← List.head?_eq_getElem?]; exact hhd
      have h3 : s[0] = c := by
        rw [List.getElem?_eq_getElem (by rw [bl_len]; omega), bl_get s 0 (by omega)] at h2
        exact Option.some.inj h2
      rw [h3]
    have hcx : c.toNat < 256 := c.toNat_lt
    obtain ⟨x, hxx⟩ : ∃ x, c.toNat = x := ⟨_, rfl⟩
    rw [hxx] at hx hcx hfb
    have HPOS := Lib.hid hpos
    have HLE := Lib.hid hle
    have HS := Lib.hid hs
    have HSR := Lib.hid hsR
    have hh : (48 ≤ x ∧ x ≤ 57) ∨ x = 43 ∨ x = 45 ∨ x = 46 ∨ (x < 48 ∧ x ≠ 43 ∧ x ≠ 45 ∧ x ≠ 46) ∨ 57 < x := by omega
    clear hlen hhd hb hpos hle hsR hsz hxx hm hm1
    rw [Bool.not_false, hs] at HW
    clear hs
    have HV0 := Lib.hid hV
    have HFB := Lib.hid hfb
    clear hV hfb
    rcases hh with ⟨h1, h2⟩ | rfl | rfl | rfl | ⟨h1, h2, h3, h4⟩ | h1
    case inr.inr.inr.inr.inl =>
      have HV := Lib.hid (show V = (0, { kind := 6, s := R }, t) by
        rw [HV0.out, if_neg (of_decide_eq_false (HFB.out.symm.trans (by unfold firstB; simp; omega)))])
      have e1 : decide ((48 : Int) ≤ x) = false := by simp; omega
      have e2 : ((x : Int) == 43) = false := by rw [beq_eq_false_iff_ne]; omega
      have e3 : ((x : Int) == 45) = false := by rw [beq_eq_false_iff_ne]; omega
      have e4 : ((x : Int) == 46) = false := by rw [beq_eq_false_iff_ne]; omega
      clear h1
      go_enter Try.func33, Try.ntmps33
      go_wp2_with fail
      rw [← HR.out]
      generalize w.alloc _ = W1 at *
      refine HW.out.mono ?_
      rintro e w2 ⟨rfl, S2, hq2, hk2, -⟩
      have HT2 := Lib.hid (Tn.of HT0.out hk2)
      have HC := Lib.hid (hq2.facts.2.2.2.2.1)
      rw [← HPOS.out] at HC
      obtain ⟨⟨k0, k1, k2, k3, k4, k5, k6, k7⟩, f0, f1, f2, f3, f4, f5, f6, f7⟩ := cells8 HT2.out.blk
      clear hq2 hk2 h2 h3 h4 hk hcx hsm
      go_wp2
      refine bodyPost_ret (results_val rfl _ _ _ 40 _ (0, 0) _ rfl (set8 HT2.out.blk _ _ _ _ _ _ _ _) Try.underlying40 rfl infoTok _ rfl) rfl ?_
      have hss := HS.out
      subst hss
      exact HT2.out.ok (x := { kind := 6, s := R }) HV.out HLE.out HC.out _ _ _ _ _ _ _ _
    case inr.inr.inr.inr.inr =>
      have HV := Lib.hid (show V = (0, { kind := 6, s := R }, t) by
        rw [HV0.out, if_neg (of_decide_eq_false (HFB.out.symm.trans (by unfold firstB; simp; omega)))])
      have e1 : decide ((48 : Int) ≤ x) = true := by simp; omega
      have e0 : decide ((x : Int) ≤ 57) = false := by simp; omega
      have e2 : ((x : Int) == 43) = false := by rw [beq_eq_false_iff_ne]; omega
      have e3 : ((x : Int) == 45) = false := by rw [beq_eq_false_iff_ne]; omega
      have e4 : ((x : Int) == 46) = false := by rw [beq_eq_false_iff_ne]; omega
      clear h1
      go_enter Try.func33, Try.ntmps33
      go_wp2_with fail
      rw [← HR.out]
      generalize w.alloc _ = W1 at *
      refine HW.out.mono ?_
      rintro e w2 ⟨rfl, S2, hq2, hk2, -⟩
      have HT2 := Lib.hid (Tn.of HT0.out hk2)
      have HC := Lib.hid (hq2.facts.2.2.2.2.1)
      rw [← HPOS.out] at HC
      obtain ⟨⟨k0, k1, k2, k3, k4, k5, k6, k7⟩, f0, f1, f2, f3, f4, f5, f6, f7⟩ := cells8 HT2.out.blk
      clear hq2 hk2 hk hcx hsm
      go_wp2
      refine bodyPost_ret (results_val rfl _ _ _ 40 _ (0, 0) _ rfl (set8 HT2.out.blk _ _ _ _ _ _ _ _) Try.underlying40 rfl infoTok _ rfl) rfl ?_
      have hss := HS.out
      subst hss
      exact HT2.out.ok (x := { kind := 6, s := R }) HV.out HLE.out HC.out _ _ _ _ _ _ _ _
    all_goals
      have HV := Lib.hid (show V = ((parseV (bl s)).2.2, { kind := 1, vk := (parseV (bl s)).1, vn := (parseV (bl s)).2.1 }, t) by
        rw [HSR.out, HV0.out, if_pos (of_decide_eq_true (HFB.out.symm.trans (by unfold firstB; simp; try omega)))])
      try have e1 : decide ((48 : Int) ≤ x) = true := by simp; omega
      try have e0 : decide ((x : Int) ≤ 57) = true := by simp; omega
      try clear h1 h2
      go_enter Try.func33, Try.ntmps33
      go_wp2_with fail
      rw [← HR.out]
      generalize w.alloc _ = W1 at *
      refine HW.out.mono ?_
      rintro e w2 ⟨rfl, S2, hq2, hk2, -⟩
      have HT2 := Lib.hid (Tn.of HT0.out hk2)
      have HC := Lib.hid (hq2.facts.2.2.2.2.1)
      rw [← HPOS.out] at HC
      clear hq2 hk2 hk hcx hsm HT0 HW
      go_wp2_with fail
      refine (parse_any s w2 hs2).mono ?_
      rintro e w3 ⟨rfl, hb3⟩
      generalize parseV (bl s) = P at *
      have HT3 := Lib.hid ((HT2.out.on hb3).alloc (.cells (valC P.1 P.2.1 noStr) 27))
      have HC3 := Lib.hid (cell_alloc (.cells (valC P.1 P.2.1 noStr) 27) (cell?_keep hb3 HC.out))
      obtain ⟨⟨k0, k1, k2, k3, k4, k5, k6, k7⟩, f0, f1, f2, f3, f4, f5, f6, f7⟩ := cells8 HT3.out.blk
      obtain ⟨P1, P2, P3⟩ := P
      simp only [] at *
      unfold valC noStr at *
      clear hb3 HT2 HC
      go_wp2
      refine bodyPost_ret (results_val rfl _ _ _ 40 _ (0, 0) _ rfl (set8 HT3.out.blk _ _ _ _ _ _ _ _) Try.underlying40 rfl infoTok _ rfl) rfl ?_
      exact HT3.out.any (x := { kind := 1, vk := P1, vn := P2 }) HV.out HLE.out HC3.out _ _ _ _ _ _ _ _
end Go.Proofs.Ytmejhjgdofncfaa
/-
  Walks of layer 10: the token that begins with a byte.
-/
namespace Go.Proofs.Ytmejhjgdofncfaa
open Go.RowKit

theorem drop_nil_iff (t : List UInt8) : t.drop (runN t) = [] ↔ runN t = t.length := by
  rw [List.drop_eq_nil_iff]
  have := runN_le t
  omega
theorem tokV_reg {X : Src} {k : Nat} (hk : k < X.bs.length) (h : isRg (X.bs.getD k 0) = true) : tokV X.last (X.bs.getD k 0) (X.bs.drop (k + 1)) = rgV X k := by
  unfold tokV rgV
  rw [if_pos h, ← drop_cons hk]
  simp only [regs_drop, drop_nil_iff]
  rfl
def slV (last : Bool) (t : List UInt8) : Int × Tk × List UInt8 :=
  if runN t = t.length ∧ last = false then (6, { kind := 0 }, [])
  else match nameV (regs t) with
    | none => (17, { kind := 0 }, [])
    | some o => (0, { kind := 1, vk := 5, vs := o }, t.drop (runN t))
theorem tokV_slash (last : Bool) (t : List UInt8) : tokV last 47 t = slV last t := by
  unfold tokV slV
  rw [if_neg (by decide), if_neg (by decide), if_neg (by decide), if_neg (by decide), if_neg (by decide), if_neg (by decide), if_pos rfl]
  simp only [regs_drop, drop_nil_iff]
  rfl
def txK (last : Bool) (H : Option (List UInt8 × List UInt8)) : Int × Tk × List UInt8 := match H with
  | none => (openE last, { kind := 0 }, [])
  | some (x, r) => (0, { kind := 1, vk := 4, vs := x }, r)
theorem tokV_text (last : Bool) (t : List UInt8) : tokV last 40 t = txK last (textV last 1 [] t) := by
  unfold tokV txK
  rw [if_neg (by decide), if_neg (by decide), if_neg (by decide), if_neg (by decide), if_neg (by decide), if_pos rfl]
  cases textV last 1 [] t <;> rfl
theorem tokV_close (X : Src) (k : Nat) : tokV X.last 62 (X.bs.drop k) = clV X k := by
  unfold tokV clV
  rw [if_neg (by decide), if_neg (by decide), if_neg (by decide), if_neg (by decide), if_pos rfl]
  cases X.bs.drop k <;> rfl
theorem tokV_open (X : Src) (k : Nat) : tokV X.last 60 (X.bs.drop k) = opV X k := by
  unfold tokV opV
  rw [if_neg (by decide), if_neg (by decide), if_neg (by decide), if_pos rfl]
  cases X.bs.drop k with
  | nil => rfl
  | cons d u => rfl
theorem tokV_91 (last : Bool) (t : List UInt8) : tokV last 91 t = (0, { kind := 2 }, t) := by
  unfold tokV; rw [if_neg (by decide), if_pos rfl]
theorem tokV_93 (last : Bool) (t : List UInt8) : tokV last 93 t = (0, { kind := 3 }, t) := by
  unfold tokV; rw [if_neg (by decide), if_neg (by decide), if_pos rfl]
theorem tokV_no (last : Bool) (c : UInt8) (t : List UInt8) (h : isRg c = false) (h1 : c ≠ 91) (h2 : c ≠ 93) (h3 : c ≠ 60) (h4 : c ≠ 62) (h5 : c ≠ 40) (h6 : c ≠ 47) : tokV last c t = (11, { kind := 0 }, []) := by
  unfold tokV; rw [if_neg (by simp [h]), if_neg h1, if_neg h2, if_neg h3, if_neg h4, if_neg h5, if_neg h6]

theorem Tn.pass {w W : World} {S : Nat → Prop} {p r : Nat} {X : Src} {V : Int × Tk × List UInt8} (h : Tn w S p r W) {k vk vn : Int} {vs s : ByteArray} {er : Int} (he : V.1 = er)
    (hf : V.1 = 0 → k = V.2.1.kind ∧ vk = V.2.1.vk ∧ vn = V.2.1.vn ∧ vs = mkB V.2.1.vs ∧ s = mkB V.2.1.s ∧ V.2.2.length ≤ X.bs.length ∧ W.cell? ⟨p, 3, none⟩ = some (.int .i64 ((X.bs.length - V.2.2.length : Nat) : Int))) (y0 y1 y2 y3 y4 y5 y6 y7 : Value) :
    TokEnd w S p X V (.returned (.tuple #[.agg (tokC k 0 0 vk vn vs s), .int .i64 er]))
      ((((((((W.setCell ⟨r, 0, none⟩ y0).setCell ⟨r, 1, none⟩ y1).setCell ⟨r, 2, none⟩ y2).setCell ⟨r, 3, none⟩ y3).setCell ⟨r, 4, none⟩ y4).setCell ⟨r, 5, none⟩ y5).setCell ⟨r, 6, none⟩ y6).setCell ⟨r, 7, none⟩ y7) := by
  refine ⟨keeps_set8 h.keeps h.wr _ _ _ _ _ _ _ _, k, vk, vn, vs, s, by rw [he], fun h0 => ?_⟩
  obtain ⟨a, b, c, d, e, f, g⟩ := hf h0
  exact ⟨a, b, c, d, e, f, by rw [set8_cell h.pr]; exact g⟩

set_option maxRecDepth 8000 in
set_option maxHeartbeats 8000000 in
theorem token_any {w : World} {S : Nat → Prop} {p : Nat} {X : Src} {k : Nat} (h : ScQ w S p X [] k) (hk : k < X.bs.length) :
    Calls Try.prog 22 #[.pointer (some ⟨p, 0, none⟩), .int .u8 (X.bs.getD k 0).toNat] w (TokEnd w S p X (tokV X.last (X.bs.getD k 0) (X.bs.drop (k + 1)))) := by
  obtain ⟨V, hV⟩ : ∃ V, V = tokV X.last (X.bs.getD k 0) (X.bs.drop (k + 1)) := ⟨_, rfl⟩
  rw [← hV]
  have hT := Tm.start h
  obtain ⟨r, hr⟩ : ∃ r, r = w.heap.size := ⟨_, rfl⟩
  rw [← hr] at hT
  have HT0 := Lib.hid hT
  have HR := Lib.hid hr
  have hsm := h.facts.2.2.2.1
  have hkb : k ≤ 99999 := by omega
  have HRG := Lib.hid (fun W => regular_any (X.bs.getD k 0) W)
  rw [← rgI_eq] at HRG
  clear hT hr h hsm
  by_cases hrg : isRg (X.bs.getD k 0) = true
  · have HV := Lib.hid (hV.trans (tokV_reg hk hrg))
    have HK := Lib.hid (show ∀ W : World, Tm w S p r X k W → Calls Try.prog 33 #[.pointer (some ⟨p, 0, none⟩)] W (TokEnd W S p X (rgV X k)) from fun _ h => regulars_any h.sc hk hrg)
    rw [hrg] at HRG
    clear hV hrg hk
    generalize (X.bs.getD k 0).toNat = x at *
    go_enter Try.func22, Try.ntmps22
    go_wp2_with (go_at_call 32; refine (HRG.out _).mono ?_; rintro e w' ⟨rfl, rfl⟩)
    rw [← HR.out]
    generalize w.alloc _ = W1 at *
    refine (HK.out _ HT0.out).mono ?_
    rintro e w2 ⟨hk2, a, b, c, s1, s2, rfl, hf⟩
    have HT2 := Lib.hid (Tn.of HT0.out hk2)
    obtain ⟨⟨k0, k1, k2, k3, k4, k5, k6, k7⟩, f0, f1, f2, f3, f4, f5, f6, f7⟩ := cells8 HT2.out.blk
    have HF := Lib.hid hf
    rw [HV.out]
    obtain ⟨er, her⟩ : ∃ er, (rgV X k).1 = er := ⟨_, rfl⟩
    rw [her]
    have HE := Lib.hid her
    unfold tokC
    clear hk2 hf her
    go_wp2
    refine bodyPost_ret (results_val rfl _ _ _ 40 _ (0, 0) _ rfl (set8 HT2.out.blk _ _ _ _ _ _ _ _) Try.underlying40 rfl infoTok _ rfl) rfl ?_
    rw [HV.out]
    exact HT2.out.pass HE.out HF.out _ _ _ _ _ _ _ _
  · have hrg' : isRg (X.bs.getD k 0) = false := by simpa using hrg
    rw [hrg'] at HRG
    have HRF := Lib.hid hrg'
    have HK := Lib.hid hk
    clear hrg hrg'
    by_cases h91 : X.bs.getD k 0 = 91
    · have hv := hV
      rw [h91, tokV_91 _ _] at hv
      have HV := Lib.hid hv
      have hx : (X.bs.getD k 0).toNat = 91 := by rw [h91]; rfl
      rw [hx] at HRG ⊢
      clear hV hv hx h91 hk
      go_enter Try.func22, Try.ntmps22
      go_wp2_with fail
      rw [← HR.out]
      generalize w.alloc _ = W1 at *
      refine (HRG.out _).mono ?_
      rintro e w' ⟨rfl, rfl⟩
      have HT2 := Lib.hid (HT0.out.next HK.out)
      obtain ⟨-, -, -, -, c3, c4, fr⟩ := HT0.out.sc.facts
      have f3 := fr 3
      clear fr
      obtain ⟨⟨k0, k1, k2, k3, k4, k5, k6, k7⟩, f0, f1, f2, f3', f4, f5, f6, f7⟩ := cells8 HT2.out.blk
      go_wp2
      refine bodyPost_ret (results_val rfl _ _ _ 40 _ (0, 0) _ rfl (set8 HT2.out.blk _ _ _ _ _ _ _ _) Try.underlying40 rfl infoTok _ rfl) rfl ?_
      exact HT2.out.ok (x := { kind := 2 }) HV.out _ _ _ _ _ _ _ _
    by_cases h93 : X.bs.getD k 0 = 93
    · have hv := hV
      rw [h93, tokV_93 _ _] at hv
      have HV := Lib.hid hv
      have hx : (X.bs.getD k 0).toNat = 93 := by rw [h93]; rfl
      rw [hx] at HRG ⊢
      clear hV hv hx h93 hk
      go_enter Try.func22, Try.ntmps22
      go_wp2_with fail
      rw [← HR.out]
      generalize w.alloc _ = W1 at *
      refine (HRG.out _).mono ?_
      rintro e w' ⟨rfl, rfl⟩
      have HT2 := Lib.hid (HT0.out.next HK.out)
      obtain ⟨-, -, -, -, c3, c4, fr⟩ := HT0.out.sc.facts
      have f3 := fr 3
      clear fr
      obtain ⟨⟨k0, k1, k2, k3, k4, k5, k6, k7⟩, f0, f1, f2, f3', f4, f5, f6, f7⟩ := cells8 HT2.out.blk
      go_wp2
      refine bodyPost_ret (results_val rfl _ _ _ 40 _ (0, 0) _ rfl (set8 HT2.out.blk _ _ _ _ _ _ _ _) Try.underlying40 rfl infoTok _ rfl) rfl ?_
      exact HT2.out.ok (x := { kind := 3 }) HV.out _ _ _ _ _ _ _ _
    by_cases h60 : X.bs.getD k 0 = 60
    · have hv := hV
      rw [h60, tokV_open X (k + 1)] at hv
      have HV := Lib.hid hv
      have hx : (X.bs.getD k 0).toNat = 60 := by rw [h60]; rfl
      rw [hx] at HRG ⊢
      clear hV hv hx h60 hk
      go_enter Try.func22, Try.ntmps22
      go_wp2_with fail
      rw [← HR.out]
      generalize w.alloc _ = W1 at *
      refine (HRG.out _).mono ?_
      rintro e w' ⟨rfl, rfl⟩
      have HT2 := Lib.hid (HT0.out.next HK.out)
      obtain ⟨-, -, -, -, c3, c4, fr⟩ := HT0.out.sc.facts
      have f3 := fr 3
      clear fr
      go_wp2_with fail
      refine (opening_any HT2.out.sc (by omega)).mono ?_
      rintro e w2 ⟨hk2, a, b, c, s1, s2, rfl, hf⟩
      have HT3 := Lib.hid (Tn.of HT2.out hk2)
      obtain ⟨⟨k0, k1, k2, k3, k4, k5, k6, k7⟩, f0, f1, f2, f3, f4, f5, f6, f7⟩ := cells8 HT3.out.blk
      have HF := Lib.hid hf
      obtain ⟨er, her⟩ : ∃ er, (opV X (k + 1)).1 = er := ⟨_, rfl⟩
      rw [her]
      have HE := Lib.hid her
      unfold tokC
      clear hk2 hf her c3 c4 
      go_wp2
      refine bodyPost_ret (results_val rfl _ _ _ 40 _ (0, 0) _ rfl (set8 HT3.out.blk _ _ _ _ _ _ _ _) Try.underlying40 rfl infoTok _ rfl) rfl ?_
      rw [HV.out]
      exact HT3.out.pass HE.out HF.out _ _ _ _ _ _ _ _
    by_cases h62 : X.bs.getD k 0 = 62
    · have hv := hV
      rw [h62, tokV_close X (k + 1)] at hv
      have HV := Lib.hid hv
      have hx : (X.bs.getD k 0).toNat = 62 := by rw [h62]; rfl
      rw [hx] at HRG ⊢
      clear hV hv hx h62 hk
      go_enter Try.func22, Try.ntmps22
      go_wp2_with fail
      rw [← HR.out]
      generalize w.alloc _ = W1 at *
      refine (HRG.out _).mono ?_
      rintro e w' ⟨rfl, rfl⟩
      have HT2 := Lib.hid (HT0.out.next HK.out)
      obtain ⟨-, -, -, -, c3, c4, fr⟩ := HT0.out.sc.facts
      have f3 := fr 3
      clear fr
      go_wp2_with fail
      refine (closing_any HT2.out.sc).mono ?_
      rintro e w2 ⟨hk2, a, b, c, s1, s2, rfl, hf⟩
      have HT3 := Lib.hid (Tn.of HT2.out hk2)
      obtain ⟨⟨k0, k1, k2, k3, k4, k5, k6, k7⟩, f0, f1, f2, f3, f4, f5, f6, f7⟩ := cells8 HT3.out.blk
      have HF := Lib.hid hf
      obtain ⟨er, her⟩ : ∃ er, (clV X (k + 1)).1 = er := ⟨_, rfl⟩
      rw [her]
      have HE := Lib.hid her
      unfold tokC
      clear hk2 hf her c3 c4 
      go_wp2
      refine bodyPost_ret (results_val rfl _ _ _ 40 _ (0, 0) _ rfl (set8 HT3.out.blk _ _ _ _ _ _ _ _) Try.underlying40 rfl infoTok _ rfl) rfl ?_
      rw [HV.out]
      exact HT3.out.pass HE.out HF.out _ _ _ _ _ _ _ _
    by_cases h40 : X.bs.getD k 0 = 40
    · have hv := hV
      rw [h40, tokV_text _ _] at hv
      have HV := Lib.hid hv
      have hx : (X.bs.getD k 0).toNat = 40 := by rw [h40]; rfl
      rw [hx] at HRG ⊢
      clear hV hv hx h40 hk
      go_enter Try.func22, Try.ntmps22
      go_wp2_with fail
      rw [← HR.out]
      generalize w.alloc _ = W1 at *
      refine (HRG.out _).mono ?_
      rintro e w' ⟨rfl, rfl⟩
      have HT2 := Lib.hid (HT0.out.next HK.out)
      obtain ⟨-, -, -, -, c3, c4, fr⟩ := HT0.out.sc.facts
      have f3 := fr 3
      clear fr
      have HTX := Lib.hid (text_any HT2.out.sc (by omega))
      generalize textV X.last 1 [] (X.bs.drop (k + 1)) = H at *
      go_wp2_with fail
      refine HTX.out.mono ?_
      rintro e w2 ⟨hk2, hh⟩
      have HT3 := Lib.hid (Tn.of HT2.out hk2)
      clear hk2 c3 c4 f3 HTX
      cases H
      · obtain rfl := hh
        have HN := Lib.hid (openE_ne X.last)
        have HL := Lib.hid (show V.1 = openE X.last by rw [HV.out]; rfl)
        generalize openE X.last = er at *
        have HT4 := Lib.hid (HT3.out.alloc (.cells (valC 0 0 noStr) 27))
        obtain ⟨⟨k0, k1, k2, k3, k4, k5, k6, k7⟩, f0, f1, f2, f3, f4, f5, f6, f7⟩ := cells8 HT4.out.blk
        unfold valC noStr at *
        go_wp2
        refine bodyPost_ret (results_val rfl _ _ _ 40 _ (0, 0) _ rfl (set8 HT4.out.blk _ _ _ _ _ _ _ _) Try.underlying40 rfl infoTok _ rfl) rfl ?_
        exact HT4.out.err HL.out HN.out _ _ _ _ _ _ _ _ _ _ _ _ _
      · rename_i val
        obtain ⟨xs, t⟩ := val
        obtain ⟨rfl, h2, h3⟩ := hh
        have HL := Lib.hid (show V = (0, { kind := 1, vk := 4, vs := xs }, t) from HV.out)
        have HA := Lib.hid (fun x => cell_alloc x h3)
        have HB := Lib.hid h2
        obtain ⟨B, hB⟩ : ∃ B, mkB xs = B := ⟨_, rfl⟩
        rw [hB]
        have HBB := Lib.hid hB
        have HT4 := Lib.hid (HT3.out.alloc (.cells (valC 4 0 B) 27))
        obtain ⟨⟨k0, k1, k2, k3, k4, k5, k6, k7⟩, f0, f1, f2, f3, f4, f5, f6, f7⟩ := cells8 HT4.out.blk
        unfold valC at *
        clear h2 h3 hB
        go_wp2
        refine bodyPost_ret (results_val rfl _ _ _ 40 _ (0, 0) _ rfl (set8 HT4.out.blk _ _ _ _ _ _ _ _) Try.underlying40 rfl infoTok _ rfl) rfl ?_
        have hbb := HBB.out
        subst hbb
        exact HT4.out.ok (x := { kind := 1, vk := 4, vs := xs }) HL.out HB.out (HA.out _) _ _ _ _ _ _ _ _
    by_cases h47 : X.bs.getD k 0 = 47
    · have hv := hV
      rw [h47, tokV_slash _ _] at hv
      have HV := Lib.hid hv
      have hx : (X.bs.getD k 0).toNat = 47 := by rw [h47]; rfl
      rw [hx] at HRG ⊢
      clear hV hv hx h47 hk
      go_enter Try.func22, Try.ntmps22
      go_wp2_with fail
      rw [← HR.out]
      generalize w.alloc _ = W1 at *
      refine (HRG.out _).mono ?_
      rintro e w' ⟨rfl, rfl⟩
      have HT2 := Lib.hid (HT0.out.next HK.out)
      obtain ⟨-, -, -, -, c3, c4, fr⟩ := HT0.out.sc.facts
      have f3 := fr 3
      clear fr
      have HW := Lib.hid (word_any HT2.out.sc (Nat.lt_of_le_of_lt (Nat.zero_le _) HK.out))
      have hdl : (X.bs.drop (k + 1)).length = X.bs.length - (k + 1) := by simp
      have hm := runN_le (X.bs.drop (k + 1))
      have hlen : (regs (X.bs.drop (k + 1))).length = runN (X.bs.drop (k + 1)) := rfl
      have hpos : X.bs.length - ((X.bs.drop (k + 1)).drop (runN (X.bs.drop (k + 1)))).length = k + 1 + runN (X.bs.drop (k + 1)) := by
        have := HK.out
        rw [List.length_drop, hdl]; omega
      have hle : ((X.bs.drop (k + 1)).drop (runN (X.bs.drop (k + 1)))).length ≤ X.bs.length := by rw [List.length_drop, hdl]; omega
      have hBB : (decide (k + 1 + runN (X.bs.drop (k + 1)) < X.bs.length) || X.last) = !decide (runN (X.bs.drop (k + 1)) = (X.bs.drop (k + 1)).length ∧ X.last = false) := by
        have := HK.out
        rw [hdl] at hm ⊢
        cases X.last
        · simp only [Bool.or_false, and_true]
          rw [Bool.eq_iff_iff]; simp; omega
        · simp
      have hv := HV.out
      unfold slV at hv
      unfold WordEnd at HW
      rw [hBB] at HW
      have hsm := HT2.out.sc.facts.2.2.2.1
      rw [hdl] at hm
      clear hBB hdl
      generalize (X.bs.drop (k + 1)).drop (runN (X.bs.drop (k + 1))) = t at *
      generalize regs (X.bs.drop (k + 1)) = R at *
      generalize runN (X.bs.drop (k + 1)) = m at *
      have HPOS := Lib.hid hpos
      have HLE := Lib.hid hle
      have hR1 : R.length ≤ 100000 := by omega
      clear hpos hle hm hlen hsm
      by_cases hb : m = (X.bs.drop (k + 1)).length ∧ X.last = false
      · rw [if_pos hb] at hv
        rw [decide_eq_true hb] at HW
        have HVV := Lib.hid hv
        clear hv hb
        go_wp2_with fail
        refine HW.out.mono ?_
        rintro e w2 ⟨rfl, S2, hq2, hk2, -⟩
        have HT3 := Lib.hid (Tn.of HT2.out hk2)
        clear c3 c4 f3 hq2 hk2
        obtain ⟨⟨k0, k1, k2, k3, k4, k5, k6, k7⟩, f0, f1, f2, f3, f4, f5, f6, f7⟩ := cells8 HT3.out.blk
        go_wp2
        refine bodyPost_ret (results_val rfl _ _ _ 40 _ (0, 0) _ rfl (set8 HT3.out.blk _ _ _ _ _ _ _ _) Try.underlying40 rfl infoTok _ rfl) rfl ?_
        exact HT3.out.err (by rw [HVV.out]) (by decide) _ _ _ _ _ _ _ _ _ _ _ _ _
      · rw [if_neg hb] at hv
        rw [decide_eq_false hb] at HW
        obtain ⟨s, hs⟩ : ∃ s, mkB R = s := ⟨_, rfl⟩
        have hs2 : s.size ≤ 100000 := by rw [← hs, mkB_size]; exact hR1
        rw [show R = bl s by rw [← hs]; rfl] at hv
        rw [Bool.not_false, hs] at HW
        have HVV := Lib.hid hv
        clear hv hb hs
        go_wp2_with fail
        refine HW.out.mono ?_
        rintro e w2 ⟨rfl, S2, hq2, hk2, -⟩
        have HT3 := Lib.hid (Tn.of HT2.out hk2)
        have HC := Lib.hid (hq2.facts.2.2.2.2.1)
        rw [← HPOS.out] at HC
        clear c3 c4 f3 hq2 hk2
        go_wp2_with fail
        refine (name_any s w2 hs2).mono ?_
        rintro e w3 ⟨hb3, hh⟩
        have HT4 := Lib.hid (HT3.out.on hb3)
        have HC4 := Lib.hid (cell?_keep hb3 HC.out)
        clear hb3
        generalize nameV (bl s) = N at *
        cases N
        · obtain rfl := hh
          have HT5 := Lib.hid (HT4.out.alloc (.cells (valC 0 0 noStr) 27))
          obtain ⟨⟨k0, k1, k2, k3, k4, k5, k6, k7⟩, f0, f1, f2, f3, f4, f5, f6, f7⟩ := cells8 HT5.out.blk
          unfold valC noStr at *
          go_wp2
          refine bodyPost_ret (results_val rfl _ _ _ 40 _ (0, 0) _ rfl (set8 HT5.out.blk _ _ _ _ _ _ _ _) Try.underlying40 rfl infoTok _ rfl) rfl ?_
          exact HT5.out.err (by rw [HVV.out]) (by decide) _ _ _ _ _ _ _ _ _ _ _ _ _
        · rename_i o
          obtain rfl := hh
          obtain ⟨B, hB⟩ : ∃ B, mkB o = B := ⟨_, rfl⟩
          rw [hB]
          have HBB := Lib.hid hB
          have HA := Lib.hid (fun x => cell_alloc x HC4.out)
          have HT5 := Lib.hid (HT4.out.alloc (.cells (valC 5 0 B) 27))
          obtain ⟨⟨k0, k1, k2, k3, k4, k5, k6, k7⟩, f0, f1, f2, f3, f4, f5, f6, f7⟩ := cells8 HT5.out.blk
          unfold valC at *
          clear hB
          go_wp2
          refine bodyPost_ret (results_val rfl _ _ _ 40 _ (0, 0) _ rfl (set8 HT5.out.blk _ _ _ _ _ _ _ _) Try.underlying40 rfl infoTok _ rfl) rfl ?_
          have hbb := HBB.out
          subst hbb
          exact HT5.out.ok (x := { kind := 1, vk := 5, vs := o }) HVV.out HLE.out (HA.out _) _ _ _ _ _ _ _ _
    have HV := Lib.hid (hV.trans (tokV_no _ _ _ HRF.out h91 h93 h60 h62 h40 h47))
    have hne : ∀ d : UInt8, X.bs.getD k 0 ≠ d → ((((X.bs.getD k 0).toNat : Nat) : Int) == (d.toNat : Int)) = false := fun d hd => by
      rw [beq_eq_false_iff_ne]; exact fun e => hd (UInt8.toNat_inj.1 (Int.ofNat_inj.1 e))
    have e1 := hne 91 h91
    have e2 := hne 93 h93
    have e3 := hne 60 h60
    have e4 := hne 62 h62
    have e5 := hne 40 h40
    have e6 := hne 47 h47
    simp only [show (91 : UInt8).toNat = 91 from rfl, show (93 : UInt8).toNat = 93 from rfl, show (60 : UInt8).toNat = 60 from rfl, show (62 : UInt8).toNat = 62 from rfl, show (40 : UInt8).toNat = 40 from rfl, show (47 : UInt8).toNat = 47 from rfl] at e1 e2 e3 e4 e5 e6
    clear hV h91 h93 h60 h62 h40 h47 hne hk
    generalize (X.bs.getD k 0).toNat = x at *
    go_enter Try.func22, Try.ntmps22
    go_wp2_with fail
    rw [← HR.out]
    generalize w.alloc _ = W1 at *
    refine (HRG.out _).mono ?_
    rintro e w' ⟨rfl, rfl⟩
    have HT2 := Lib.hid (HT0.out.next HK.out)
    obtain ⟨-, -, -, -, c3, c4, fr⟩ := HT0.out.sc.facts
    have f3 := fr 3
    clear fr
    obtain ⟨⟨k0, k1, k2, k3, k4, k5, k6, k7⟩, f0, f1, f2, f3', f4, f5, f6, f7⟩ := cells8 HT2.out.blk
    go_wp2
    refine bodyPost_ret (results_val rfl _ _ _ 40 _ (0, 0) _ rfl (set8 HT2.out.blk _ _ _ _ _ _ _ _) Try.underlying40 rfl infoTok _ rfl) rfl ?_
    exact HT2.out.err (by rw [HV.out]) (by decide) _ _ _ _ _ _ _ _ _ _ _ _ _
end Go.Proofs.Ytmejhjgdofncfaa
/-
  Walks of layer 10: space and comments.
-/
namespace Go.Proofs.Ytmejhjgdofncfaa
open Go.RowKit

/-- Where space and comments end, from a place on; amid a comment or not. -/
def skN (bs : List UInt8) (b : Bool) (j : Nat) : Nat := if bs.length ≤ j then bs.length else j + skipN b (bs.drop j)
theorem skN_end {bs : List UInt8} {b : Bool} {j : Nat} (h : bs.length ≤ j) : skN bs b j = bs.length := by unfold skN; rw [if_pos h]
theorem skN_go {bs : List UInt8} {b b' : Bool} {j : Nat} (h : j < bs.length) (hs : skipN b (bs.getD j 0 :: bs.drop (j + 1)) = 1 + skipN b' (bs.drop (j + 1))) : skN bs b j = skN bs b' (j + 1) := by
  unfold skN
  rw [if_neg (by omega)]
  have hd : bs.drop j = bs.getD j 0 :: bs.drop (j + 1) := by
    rw [List.drop_eq_getElem_cons h]; simp [List.getD, h]
  rw [hd, hs]
  by_cases h1 : bs.length ≤ j + 1
  · rw [if_pos h1, List.drop_eq_nil_of_le h1]
    simp only [skipN]
    omega
  · rw [if_neg h1]; omega
theorem skN_stop {bs : List UInt8} {j : Nat} (h : j < bs.length) (h1 : bs.getD j 0 ≠ 37) (h2 : isSp (bs.getD j 0) = false) : skN bs false j = j := by
  unfold skN
  rw [if_neg (by omega)]
  have hd : bs.drop j = bs.getD j 0 :: bs.drop (j + 1) := by
    rw [List.drop_eq_getElem_cons h]; simp [List.getD, h]
  rw [hd, skipN, if_neg h1, if_neg (by rw [h2]; decide), Nat.add_zero]
theorem skipV_skN {bs : List UInt8} {k : Int} (h : 0 ≤ k) : skipV bs k = skN bs false k.toNat := by
  unfold skipV skN
  rw [if_neg (by omega)]
  by_cases h1 : (bs.length : Int) ≤ k
  · rw [if_pos h1, if_pos (by omega)]
  · rw [if_neg h1, if_neg (by omega)]

set_option maxRecDepth 8000 in
set_option maxHeartbeats 4000000 in
theorem skip_any {w : World} {a : Option Addr} {cap : Nat} {bs : List UInt8} (hr : Row w 1 a bs.length cap (bs.map u8C)) (hn : bs.length ≤ 100000) (k : Int) :
    Calls Try.prog 21 #[.slice a bs.length cap, .int .i64 k] w fun e w' => e = .returned (.int .i64 (skipV bs k : Nat)) ∧ w = w' := by
  obtain ⟨V, hV⟩ : ∃ V, V = skipV bs k := ⟨_, rfl⟩
  rw [← hV]
  by_cases hk : k < 0
  · have HV := Lib.hid (show V = 0 by rw [hV]; unfold skipV; rw [if_pos hk])
    have hkd : decide (k < 0) = true := decide_eq_true hk
    clear hV hr
    go_enter Try.func21, Try.ntmps21
    go_wp2
    go_ret
    exact ⟨by rw [HV.out]; rfl, rfl⟩
  · have hv := hV.trans (skipV_skN (by omega))
    obtain ⟨j0, hj0⟩ : ∃ j : Nat, k = j := ⟨k.toNat, by omega⟩
    subst hj0
    rw [Int.toNat_natCast] at hv
    have HV := Lib.hid hv
    have hkd : decide ((j0 : Int) < 0) = false := decide_eq_false (by omega)
    have HC := Lib.hid (fun j (hj : j < bs.length) => hr.at 0 j hj)
    clear hV hr hv hk
    go_enter Try.func21, Try.ntmps21
    go_wp2
    go_loop [1, 5] (fun i c => ∃ (j : Nat) (b : Bool), i = .int .i64 j ∧ c = .bool b ∧ Hid (V = skN bs b j))
      (fun i _ => bs.length - (intOf i).toNat)
    case atStart => exact ⟨j0, false, rfl, rfl, HV⟩
    case round =>
      obtain ⟨j, b, rfl, rfl, HJ⟩ := hrel
      by_cases hj : j < bs.length
      · obtain ⟨b0, off, rfl, -, hc⟩ := HC.out j hj
        have hcj := hc j hj
        unfold u8C at hcj
        have hji : decide ((j : Int) < bs.length) = true := by simp; exact hj
        have hjm : j ≤ 99999 := by omega
        have HSP := Lib.hid (fun W => space_any (bs.getD j 0).toNat W)
        rw [← spI_eq] at HSP
        have HG := Lib.hid (fun b b' => @skN_go bs b b' j hj)
        have HST := Lib.hid (fun h1 h2 => @skN_stop bs j hj h1 h2)
        have HM := Lib.hid (show bs.length - (j + 1) < bs.length - j by omega)
        have hjd : decide (j < bs.length) = true := decide_eq_true hj
        clear hc HC hn hkd
        generalize bs.getD j 0 = c at *
        cases b
        · by_cases h37 : c = 37
          · have hx : c.toNat = 37 := by rw [h37]; rfl
            have HV2 := Lib.hid (HJ.out.trans (HG.out false true (by rw [h37]; simp [skipN])))
            rw [hx] at hcj
            clear hx h37
            go_wp2
            go_round
            case rel => exact ⟨j + 1, true, by go_num, rfl, HV2⟩
            case measure => simpa [intOf] using HM.out
          · have hx : ((c.toNat : Int) == 37) = false := by rw [beq_eq_false_iff_ne]; exact fun e => h37 (UInt8.toNat_inj.1 (Int.ofNat_inj.1 e))
            obtain ⟨sp, hsp⟩ : ∃ sp, isSp c = sp := ⟨_, rfl⟩
            rw [hsp] at HSP
            have HS := Lib.hid hsp
            have H37 := Lib.hid h37
            clear h37 hsp
            cases sp
            · have HV2 := Lib.hid (HJ.out.trans (HST.out H37.out HS.out))
              generalize c.toNat = x at *
              go_wp2_with (go_at_call 31; refine (HSP.out _).mono ?_; rintro e w' ⟨rfl, rfl⟩)
              go_ret
              exact ⟨by rw [HV2.out]; rfl, rfl⟩
            · have HV2 := Lib.hid (HJ.out.trans (HG.out false false (by rw [skipN, if_neg H37.out, if_pos HS.out])))
              generalize c.toNat = x at *
              go_wp2_with (go_at_call 31; refine (HSP.out _).mono ?_; rintro e w' ⟨rfl, rfl⟩)
              go_round
              case rel => exact ⟨j + 1, false, by go_num, rfl, HV2⟩
              case measure => simpa [intOf] using HM.out
        · have HV2 := Lib.hid (HJ.out.trans (HG.out true (c != 10 && c != 13) (by rw [skipN])))
          by_cases h10 : c = 10
          · have hx : c.toNat = 10 := by rw [h10]; rfl
            rw [hx] at hcj
            rw [show (c != 10 && c != 13) = false by rw [h10]; rfl] at HV2
            clear hx h10
            go_wp2
            go_round
            case rel => exact ⟨j + 1, false, by go_num, rfl, HV2⟩
            case measure => simpa [intOf] using HM.out
          · by_cases h13 : c = 13
            · have hx : c.toNat = 13 := by rw [h13]; rfl
              rw [hx] at hcj
              rw [show (c != 10 && c != 13) = false by rw [h13]; rfl] at HV2
              clear hx h10 h13
              go_wp2
              go_round
              case rel => exact ⟨j + 1, false, by go_num, rfl, HV2⟩
              case measure => simpa [intOf] using HM.out
            · rw [show (c != 10 && c != 13) = true by simp [h10, h13]] at HV2
              have e1 : ((c.toNat : Int) == 10) = false := by rw [beq_eq_false_iff_ne]; exact fun e => h10 (UInt8.toNat_inj.1 (Int.ofNat_inj.1 e))
              have e2 : ((c.toNat : Int) == 13) = false := by rw [beq_eq_false_iff_ne]; exact fun e => h13 (UInt8.toNat_inj.1 (Int.ofNat_inj.1 e))
              have e3 : ((c.toNat : Int) != 10) = true := by simp only [bne, e1, Bool.not_false]
              have e4 : ((c.toNat : Int) != 13) = true := by simp only [bne, e2, Bool.not_false]
              clear h10 h13
              generalize c.toNat = x at *
              go_wp2
              go_round
              case rel => exact ⟨j + 1, true, by go_num, rfl, HV2⟩
              case measure => simpa [intOf] using HM.out
      · have hji : decide ((j : Int) < bs.length) = false := decide_eq_false (by omega)
        have HV2 := Lib.hid (HJ.out.trans (skN_end (by omega)))
        have hjd : decide (j < bs.length) = false := decide_eq_false hj
        clear hj HC
        go_wp2
        go_ret
        exact ⟨by rw [HV2.out]; rfl, rfl⟩
end Go.Proofs.Ytmejhjgdofncfaa
