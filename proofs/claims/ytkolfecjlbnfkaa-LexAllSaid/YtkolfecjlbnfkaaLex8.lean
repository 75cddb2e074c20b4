/-
  The walk of layer 10: a text in hex.
-/
import Derived.Test.YtkolfecjlbnfkaaLex7
namespace Go.Proofs.Ytkolfecjlbnfkaa
open Go.RowKit

/-- What a text in hex leaves. -/
def HexEnd (w : World) (S : Nat → Prop) (p : Nat) (X : Src) (V : Int × List UInt8 × List UInt8) (e : Ending) (w' : World) : Prop :=
  Keeps S w w' ∧ ((V.1 = 1 ∧ e = .returned (.tuple #[.agg (valC 0 0 noStr), .int .i64 (openE X.last)])) ∨ (V.1 = 11 ∧ e = .returned (.tuple #[.agg (valC 0 0 noStr), .int .i64 11])) ∨
    (V.1 = 0 ∧ e = .returned (.tuple #[.agg (valC 4 0 (mkB V.2.1)), .int .i64 0]) ∧ V.2.2.length ≤ X.bs.length ∧ w'.cell? ⟨p, 3, none⟩ = some (.int .i64 ((X.bs.length - V.2.2.length : Nat) : Int))))
theorem hex_some {w w' : World} {S : Nat → Prop} {p : Nat} {X : Src} {V : Int × List UInt8 × List UInt8} {x t : List UInt8} (hV : V = (0, x, t)) (hk : Keeps S w w') (ht : t.length ≤ X.bs.length)
    (hc : w'.cell? ⟨p, 3, none⟩ = some (.int .i64 ((X.bs.length - t.length : Nat) : Int))) : HexEnd w S p X V (.returned (.tuple #[.agg (valC 4 0 (mkB x)), .int .i64 0])) w' := by
  subst hV; exact ⟨hk, .inr (.inr ⟨rfl, rfl, ht, hc⟩)⟩
theorem hex_open {w w' : World} {S : Nat → Prop} {p : Nat} {X : Src} {V : Int × List UInt8 × List UInt8} (hV : V = (1, [], [])) (hk : Keeps S w w') : HexEnd w S p X V (.returned (.tuple #[.agg (valC 0 0 noStr), .int .i64 (openE X.last)])) w' := by
  subst hV; exact ⟨hk, .inl ⟨rfl, rfl⟩⟩
theorem hex_form {w w' : World} {S : Nat → Prop} {p : Nat} {X : Src} {V : Int × List UInt8 × List UInt8} (hV : V = (11, [], [])) (hk : Keeps S w w') : HexEnd w S p X V (.returned (.tuple #[.agg (valC 0 0 noStr), .int .i64 11])) w' := by
  subst hV; exact ⟨hk, .inr (.inl ⟨rfl, rfl⟩)⟩

/-- What holds where the loop begins. -/
structure HexAt (W0 : World) (S : Nat → Prop) (p : Nat) (X : Src) (V : Int × List UInt8 × List UInt8) (hf : Int) (k : Nat) (out : List UInt8) (w' : World) : Prop where
  h1 : -1 ≤ hf ∧ hf ≤ 15
  o : out.length < k
  le : k ≤ X.bs.length
  sc : ScNext W0 S p X out k w'
  v : V = hexV out hf (X.bs.drop k)
def HexI (W0 : World) (S : Nat → Prop) (p : Nat) (X : Src) (V : Int × List UInt8 × List UInt8) (r : Nat) (m : Nat) (a : Act) (w' : World) : Prop :=
  ∃ (hf : Int) (k : Nat) (out : List UInt8) (u5 u6 u7 u8 u9 u10 u11 u12 u13 u14 u15 u16 u17 u18 u19 u20 u21 u22 u23 u24 u25 u26 u27 u28 u29 u30 u31 u32 u33 u34 u35 u36 u37 u38 u39 u40 u41 u42 u43 u44 u45 u46 u47 u48 u49 u50 u51 u52 u53 u54 u55 u56 u57 u58 u59 u60 u61 u62 u63 u64 u65 u66 u67 u68 u69 u70 u71 u72 u73 : Value), m = X.bs.length - k ∧ Hid (HexAt W0 S p X V hf k out w') ∧ a = { tmps := #[.pointer (some ⟨p, 0, none⟩), undef, .pointer (some ⟨r, 0, none⟩), .int .i64 0, .int .i64 hf, u5, u6, u7, u8, u9, u10, u11, u12, u13, u14, u15, u16, u17, u18, u19, u20, u21, u22, u23, u24, u25, u26, u27, u28, u29, u30, u31, u32, u33, u34, u35, u36, u37, u38, u39, u40, u41, u42, u43, u44, u45, u46, u47, u48, u49, u50, u51, u52, u53, u54, u55, u56, u57, u58, u59, u60, u61, u62, u63, u64, u65, u66, u67, u68, u69, u70, u71, u72, u73], defers := [] }
theorem byte_of (x : Int) (h0 : 0 ≤ x) (h1 : x ≤ 255) : x = ((UInt8.ofNat x.toNat).toNat : Int) := by rw [UInt8.toNat_ofNat']; omega

set_option maxRecDepth 8000 in
set_option maxHeartbeats 16000000 in
theorem hexes_any {w : World} {S : Nat → Prop} {p : Nat} {X : Src} {k : Nat} (h : ScQ w S p X [] k) (hk : 1 ≤ k) :
    Calls Try.prog 41 #[.pointer (some ⟨p, 0, none⟩)] w (HexEnd w S p X (hexV [] (-1) (X.bs.drop k))) := by
  obtain ⟨V, hV⟩ : ∃ V, V = hexV [] (-1) (X.bs.drop k) := ⟨_, rfl⟩
  rw [← hV]
  obtain ⟨r, hr⟩ : ∃ r, r = w.heap.size := ⟨_, rfl⟩
  have hsm : X.bs.length ≤ 100000 := by obtain ⟨_, _, h⟩ := h; exact h.small
  have hSr : ¬ S r := by obtain ⟨_, _, h⟩ := h; intro e; have := (h.lt r e).2; omega
  have hle : k ≤ X.bs.length := by obtain ⟨_, _, h⟩ := h; exact h.le
  have HBX := Lib.hid (show (w.alloc (.cells #[.int .i64 0, .int .i64 0, .string ⟨#[]⟩, .slice none 0 0] 26)).heap[r]? = some (.cells #[.int .i64 0, .int .i64 0, .string ⟨#[]⟩, .slice none 0 0] 26 (0, 0)) from heapA_new _ hr)
  have HK0 := Lib.hid (show Keeps S w (w.alloc (.cells #[.int .i64 0, .int .i64 0, .string ⟨#[]⟩, .slice none 0 0] 26)) from (Keeps.refl S w).alloc _)
  have hq0 := h.keep (belowA w (.cells #[.int .i64 0, .int .i64 0, .string ⟨#[]⟩, .slice none 0 0] 26))
  have HAT := Lib.hid (show HexAt (w.alloc (.cells #[.int .i64 0, .int .i64 0, .string ⟨#[]⟩, .slice none 0 0] 26)) S p X V (-1) k [] _ from ⟨by omega, by simp; omega, hle, ScNext.refl hq0, hV⟩)
  have HR := Lib.hid hr
  have HRS := Lib.hid hSr
  have HSP := Lib.hid (show S p from (let ⟨_, _, h⟩ := h; h.own))
  have HRG := Lib.hid (show w.heap.size ≤ r by omega)
  clear hV hr hSr h hk hq0
  go_enter Try.func41, Try.ntmps41
  go_wp2
  rw [← HR.out]
  generalize w.alloc (.cells #[.int .i64 0, .int .i64 0, .string ⟨#[]⟩, .slice none 0 0] 26) = W0 at *
  refine wp_scope_ghost 0 (HexI W0 S p X V r) rfl ?first ?pass
  case first =>
    intro hpass
    have HPASS := Lib.hid hpass
    clear hpass
    go_wp2
    refine wp_label ?_
    rename_i K hK
    exact hK _ _ (HPASS.out _ _ _ ⟨-1, k, [], _, _, _, _, _, _, _, _, _, _, _, _, _, _, _, _, _, _, _, _, _, _, _, _, _, _, _, _, _, _, _, _, _, _, _, _, _, _, _, _, _, _, _, _, _, _, _, _, _, _, _, _, _, _, _, _, _, _, _, _, _, _, _, _, _, _, _, _, _, rfl, HAT, rfl⟩)
  case pass =>
    rintro m a w' ⟨hf, k, out, u5, u6, u7, u8, u9, u10, u11, u12, u13, u14, u15, u16, u17, u18, u19, u20, u21, u22, u23, u24, u25, u26, u27, u28, u29, u30, u31, u32, u33, u34, u35, u36, u37, u38, u39, u40, u41, u42, u43, u44, u45, u46, u47, u48, u49, u50, u51, u52, u53, u54, u55, u56, u57, u58, u59, u60, u61, u62, u63, u64, u65, u66, u67, u68, u69, u70, u71, u72, u73, hm, HA, rfl⟩
    obtain ⟨S1, hq1, hk1, hs1⟩ := HA.out.sc
    obtain ⟨hf0, hf1⟩ := HA.out.h1
    have ho := HA.out.o
    have hkl := HA.out.le
    have HV := Lib.hid HA.out.v
    have HQ1 := Lib.hid hq1
    have HK1 := Lib.hid hk1
    have HS1 := Lib.hid hs1
    have HB1 := Lib.hid (hk1.obj HBX.out HRS.out)
    have HM := Lib.hid hm
    have hP := peek_any hq1
    unfold peekV u8C at hP
    clear hk1 hs1 hm HAT HA
    by_cases hkn : k < X.bs.length
    case neg =>
      rw [if_neg hkn] at hP
      have HP := Lib.hid hP
      have HNONE := Lib.hid (show V = (1, [], []) by rw [HV.out, drop_nil hkn]; rfl)
      have HO := Lib.hid (fun q => open_any (hq1.drewN q))
      clear hP hq1 hkn
      go_wp2_with fail
      refine HP.out.mono ?_
      rintro e w1 ⟨rfl, q, rfl⟩
      go_wp2_with fail
      refine (HO.out q).mono ?_
      rintro e w2 ⟨rfl, rfl⟩
      have HB9 := Lib.hid (show (w'.drewN q).heap[r]? = _ from HB1.out)
      have HK9 := Lib.hid (Keeps.trans HK0.out (Keeps.trans HK1.out ((Keeps.refl S1 w').drewN q) HS1.out) (fun _ h => .inl h))
      generalize w'.drewN q = w2 at *
      obtain ⟨⟨k0, k1, k2, k3⟩, f0, f1, f2, f3⟩ := cells4 HB9.out
      go_wp2
      simp only [Exit.jump]
      refine bodyPost_ret (results_val rfl _ _ r 26 _ (0, 0) _ rfl (set4 HB9.out _ _ _ _) Try.underlying26 rfl infoVal _ rfl) rfl ?_
      exact hex_open HNONE.out (keeps_set4 HK9.out HRG.out _ _ _ _)
    case pos =>
      rw [if_pos hkn] at hP
      have hv := HV.out
      rw [drop_cons hkn, hexV] at hv
      have HMV := Lib.hid (fun q => (let ⟨_, _, h1⟩ := hq1.drewN q; h1.move (k + 1) (by omega) (by omega)))
      have HC3 := Lib.hid (fun q => (let ⟨_, _, h1⟩ := hq1.drewN q; (And.intro h1.cells.2.2.2.1 (h1.free 3))))
      have HP := Lib.hid hP
      obtain ⟨c, hc⟩ : ∃ c, c = X.bs.getD k 0 := ⟨_, rfl⟩
      rw [← hc] at HP hv
      have HHX := Lib.hid (fun W => hex_any c W)
      have hsp := fun W => space_any c.toNat W
      rw [← spI_eq] at hsp
      have hdb := hexD_bd c
      clear hP hc hq1
      by_cases h62 : c = 62
      · subst h62
        rw [if_pos rfl] at hv
        rw [show hexD 62 = -1 from rfl] at HHX
        clear hsp hdb
        by_cases hh : 0 ≤ hf
        · rw [if_pos hh] at hv
          have HVV := Lib.hid hv
          have HBY := Lib.hid (byte_of (16 * hf) (by omega) (by omega))
          clear hv
          go_wp2_with fail
          refine HP.out.mono ?_
          rintro e w1 ⟨rfl, q, rfl⟩
          obtain ⟨c3, f3⟩ := HC3.out q
          obtain ⟨S2, q2, k2, s2⟩ := HMV.out q
          have HQ2 := Lib.hid q2
          have HK2 := Lib.hid (Keeps.trans HK1.out (Keeps.trans ((Keeps.refl S1 w').drewN q) k2 (fun _ h => .inl h)) HS1.out)
          have HS2 := Lib.hid (fun b (hb : S2 b) => (s2 b hb).elim (HS1.out b) (fun h => Or.inr (Nat.le_trans HK1.out.size h)))
          have HB2 := Lib.hid (HK2.out.obj HBX.out HRS.out)
          clear q2 k2 s2
          go_wp2_with fail
          rw [show ((k : Int) + 1) = ((k + 1 : Nat) : Int) from rfl]
          generalize (w'.drewN q).setCell ⟨p, 3, none⟩ (.int .i64 ((k + 1 : Nat) : Int)) = w2 at *
          clear c3 f3
          refine (HHX.out _).mono ?_
          rintro e w3 ⟨rfl, rfl⟩
          have HWB := Lib.hid (writeByte_any HQ2.out (UInt8.ofNat (16 * hf).toNat) (16 * hf) HBY.out (by omega))
          go_wp2_with fail
          refine HWB.out.mono ?_
          rintro e w4 ⟨rfl, hn8⟩
          obtain ⟨S4, q4, k4, s4⟩ := hn8
          have HQ4 := Lib.hid q4
          have HK4 := Lib.hid (Keeps.trans HK2.out k4 HS2.out)
          have HS4 := Lib.hid (fun b (hb : S4 b) => (s4 b hb).elim (HS2.out b) (fun h => Or.inr (Nat.le_trans HK2.out.size h)))
          have HB4 := Lib.hid (HK4.out.obj HBX.out HRS.out)
          clear q4 k4 s4
          have HO := Lib.hid (string_any HQ4.out)
          go_wp2_with fail
          refine HO.out.mono ?_
          rintro e w5 ⟨rfl, hk3, hp3⟩
          have HRS2 := Lib.hid (show ¬ S4 r from fun e => (HS4.out r e).elim HRS.out (fun h => by have := (Array.getElem?_eq_some_iff.1 HBX.out).1; omega))
          have HB9 := Lib.hid (hk3.obj HB4.out HRS2.out)
          have HK9 := Lib.hid (Keeps.trans HK0.out (Keeps.trans HK4.out hk3 HS4.out) (fun _ h => .inl h))
          have HP3 := Lib.hid hp3
          clear hk3 hp3
          obtain ⟨⟨k0, k1, k2, k3⟩, f0, f1, f2, f3⟩ := cells4 HB9.out
          go_wp2
          simp only [Exit.jump]
          refine bodyPost_ret (results_val rfl _ _ r 26 _ (0, 0) _ rfl (set4 HB9.out _ _ _ _) Try.underlying26 rfl infoVal _ rfl) rfl ?_
          obtain ⟨ad9, v9, hsc⟩ := HQ4.out
          have hpr : p ≠ r := fun e => HRS.out (e ▸ HSP.out)
          refine hex_some HVV.out (keeps_set4 HK9.out HRG.out _ _ _ _) (by rw [List.length_drop]; omega) ?_
          rw [cell_of_row _ p 3 (scV X ad9 v9 (k + 1)) 54 (0, 0) ((set4_other hpr _ _ _ _).trans (HP3.out.trans hsc.blk)), List.length_drop, show X.bs.length - (X.bs.length - (k + 1)) = k + 1 from by omega]
          rfl
        · rw [if_neg hh] at hv
          have HVV := Lib.hid hv
          have hhd : decide (0 ≤ hf) = false := by simpa using hh
          clear hv hh
          go_wp2_with fail
          refine HP.out.mono ?_
          rintro e w1 ⟨rfl, q, rfl⟩
          obtain ⟨c3, f3⟩ := HC3.out q
          obtain ⟨S2, q2, k2, s2⟩ := HMV.out q
          have HQ2 := Lib.hid q2
          have HK2 := Lib.hid (Keeps.trans HK1.out (Keeps.trans ((Keeps.refl S1 w').drewN q) k2 (fun _ h => .inl h)) HS1.out)
          have HS2 := Lib.hid (fun b (hb : S2 b) => (s2 b hb).elim (HS1.out b) (fun h => Or.inr (Nat.le_trans HK1.out.size h)))
          have HB2 := Lib.hid (HK2.out.obj HBX.out HRS.out)
          clear q2 k2 s2
          go_wp2_with fail
          rw [show ((k : Int) + 1) = ((k + 1 : Nat) : Int) from rfl]
          generalize (w'.drewN q).setCell ⟨p, 3, none⟩ (.int .i64 ((k + 1 : Nat) : Int)) = w2 at *
          clear c3 f3
          refine (HHX.out _).mono ?_
          rintro e w3 ⟨rfl, rfl⟩
          have HO := Lib.hid (string_any HQ2.out)
          go_wp2_with fail
          refine HO.out.mono ?_
          rintro e w5 ⟨rfl, hk3, hp3⟩
          have HRS2 := Lib.hid (show ¬ S2 r from fun e => (HS2.out r e).elim HRS.out (fun h => by have := (Array.getElem?_eq_some_iff.1 HBX.out).1; omega))
          have HB9 := Lib.hid (hk3.obj HB2.out HRS2.out)
          have HK9 := Lib.hid (Keeps.trans HK0.out (Keeps.trans HK2.out hk3 HS2.out) (fun _ h => .inl h))
          have HP3 := Lib.hid hp3
          clear hk3 hp3
          obtain ⟨⟨k0, k1, k2, k3⟩, f0, f1, f2, f3⟩ := cells4 HB9.out
          go_wp2
          simp only [Exit.jump]
          refine bodyPost_ret (results_val rfl _ _ r 26 _ (0, 0) _ rfl (set4 HB9.out _ _ _ _) Try.underlying26 rfl infoVal _ rfl) rfl ?_
          obtain ⟨ad9, v9, hsc⟩ := HQ2.out
          have hpr : p ≠ r := fun e => HRS.out (e ▸ HSP.out)
          refine hex_some HVV.out (keeps_set4 HK9.out HRG.out _ _ _ _) (by rw [List.length_drop]; omega) ?_
          rw [cell_of_row _ p 3 (scV X ad9 v9 (k + 1)) 54 (0, 0) ((set4_other hpr _ _ _ _).trans (HP3.out.trans hsc.blk)), List.length_drop, show X.bs.length - (X.bs.length - (k + 1)) = k + 1 from by omega]
          rfl
      have h62d : ((c.toNat : Int) == 62) = false := by rw [beq_eq_false_iff_ne]; intro e; exact h62 (UInt8.toNat_inj.1 (Int.ofNat_inj.1 e))
      rw [if_neg h62] at hv
      clear h62
      obtain ⟨sp, hsp2⟩ : ∃ sp, isSp c = sp := ⟨_, rfl⟩
      rw [hsp2] at hv hsp
      have HSP2 := Lib.hid hsp
      clear hsp hsp2
      generalize hexD c = d at *
      cases sp
      case true =>
        rw [if_pos rfl] at hv
        have HVV := Lib.hid hv
        clear hv
        go_wp2_with fail
        refine HP.out.mono ?_
        rintro e w1 ⟨rfl, q, rfl⟩
        obtain ⟨c3, f3⟩ := HC3.out q
        obtain ⟨S2, q2, k2, s2⟩ := HMV.out q
        have HQ2 := Lib.hid q2
        have HK2 := Lib.hid (Keeps.trans HK1.out (Keeps.trans ((Keeps.refl S1 w').drewN q) k2 (fun _ h => .inl h)) HS1.out)
        have HS2 := Lib.hid (fun b (hb : S2 b) => (s2 b hb).elim (HS1.out b) (fun h => Or.inr (Nat.le_trans HK1.out.size h)))
        have HB2 := Lib.hid (HK2.out.obj HBX.out HRS.out)
        clear q2 k2 s2
        go_wp2_with fail
        rw [show ((k : Int) + 1) = ((k + 1 : Nat) : Int) from rfl]
        generalize (w'.drewN q).setCell ⟨p, 3, none⟩ (.int .i64 ((k + 1 : Nat) : Int)) = w2 at *
        clear c3 f3
        refine (HHX.out _).mono ?_
        rintro e w3 ⟨rfl, rfl⟩
        have HN := Lib.hid (show ScNext W0 S p X out (k + 1) w2 from ScNext.trans HK2.out HS2.out (ScNext.refl HQ2.out))
        go_wp2_with fail
        refine (HSP2.out _).mono ?_
        rintro e w3 ⟨rfl, rfl⟩
        go_wp2
        go_step3
        exact ⟨rfl, X.bs.length - (k + 1), by have := HM.out; omega, hf, k + 1, out, _, _, _, _, _, _, _, _, _, _, _, _, _, _, _, _, _, _, _, _, _, _, _, _, _, _, _, _, _, _, _, _, _, _, _, _, _, _, _, _, _, _, _, _, _, _, _, _, _, _, _, _, _, _, _, _, _, _, _, _, _, _, _, _, _, _, _, _, _, rfl, Lib.hid ⟨⟨hf0, hf1⟩, by first | omega | (simp; omega), by omega, HN.out, HVV.out⟩, rfl⟩
      rw [if_neg (by decide)] at hv
      by_cases hd0 : d < 0
      · rw [if_pos hd0] at hv
        have HNONE := Lib.hid hv
        clear hv
        go_wp2_with fail
        refine HP.out.mono ?_
        rintro e w1 ⟨rfl, q, rfl⟩
        obtain ⟨c3, f3⟩ := HC3.out q
        obtain ⟨S2, q2, k2, s2⟩ := HMV.out q
        have HQ2 := Lib.hid q2
        have HK2 := Lib.hid (Keeps.trans HK1.out (Keeps.trans ((Keeps.refl S1 w').drewN q) k2 (fun _ h => .inl h)) HS1.out)
        have HS2 := Lib.hid (fun b (hb : S2 b) => (s2 b hb).elim (HS1.out b) (fun h => Or.inr (Nat.le_trans HK1.out.size h)))
        have HB2 := Lib.hid (HK2.out.obj HBX.out HRS.out)
        clear q2 k2 s2
        go_wp2_with fail
        rw [show ((k : Int) + 1) = ((k + 1 : Nat) : Int) from rfl]
        generalize (w'.drewN q).setCell ⟨p, 3, none⟩ (.int .i64 ((k + 1 : Nat) : Int)) = w2 at *
        clear c3 f3
        refine (HHX.out _).mono ?_
        rintro e w3 ⟨rfl, rfl⟩
        go_wp2_with fail
        refine (HSP2.out _).mono ?_
        rintro e w3 ⟨rfl, rfl⟩
        have HB9 := HB2
        have HK9 := Lib.hid (Keeps.trans HK0.out HK2.out (fun _ h => .inl h))
        obtain ⟨⟨k0, k1, k2, k3⟩, f0, f1, f2, f3⟩ := cells4 HB9.out
        go_wp2
        simp only [Exit.jump]
        refine bodyPost_ret (results_val rfl _ _ r 26 _ (0, 0) _ rfl (set4 HB9.out _ _ _ _) Try.underlying26 rfl infoVal _ rfl) rfl ?_
        exact hex_form HNONE.out (keeps_set4 HK9.out HRG.out _ _ _ _)
      rw [if_neg hd0] at hv
      have hd0d : decide (d < 0) = false := by simpa using hd0
      have hd1 : 0 ≤ d := by omega
      clear hd0
      by_cases hh : hf < 0
      · rw [if_pos hh] at hv
        have HVV := Lib.hid hv
        clear hv
        go_wp2_with fail
        refine HP.out.mono ?_
        rintro e w1 ⟨rfl, q, rfl⟩
        obtain ⟨c3, f3⟩ := HC3.out q
        obtain ⟨S2, q2, k2, s2⟩ := HMV.out q
        have HQ2 := Lib.hid q2
        have HK2 := Lib.hid (Keeps.trans HK1.out (Keeps.trans ((Keeps.refl S1 w').drewN q) k2 (fun _ h => .inl h)) HS1.out)
        have HS2 := Lib.hid (fun b (hb : S2 b) => (s2 b hb).elim (HS1.out b) (fun h => Or.inr (Nat.le_trans HK1.out.size h)))
        have HB2 := Lib.hid (HK2.out.obj HBX.out HRS.out)
        clear q2 k2 s2
        go_wp2_with fail
        rw [show ((k : Int) + 1) = ((k + 1 : Nat) : Int) from rfl]
        generalize (w'.drewN q).setCell ⟨p, 3, none⟩ (.int .i64 ((k + 1 : Nat) : Int)) = w2 at *
        clear c3 f3
        refine (HHX.out _).mono ?_
        rintro e w3 ⟨rfl, rfl⟩
        have HN := Lib.hid (show ScNext W0 S p X out (k + 1) w2 from ScNext.trans HK2.out HS2.out (ScNext.refl HQ2.out))
        go_wp2_with fail
        refine (HSP2.out _).mono ?_
        rintro e w3 ⟨rfl, rfl⟩
        go_wp2
        go_step3
        exact ⟨rfl, X.bs.length - (k + 1), by have := HM.out; omega, d, k + 1, out, _, _, _, _, _, _, _, _, _, _, _, _, _, _, _, _, _, _, _, _, _, _, _, _, _, _, _, _, _, _, _, _, _, _, _, _, _, _, _, _, _, _, _, _, _, _, _, _, _, _, _, _, _, _, _, _, _, _, _, _, _, _, _, _, _, _, _, _, _, rfl, Lib.hid ⟨⟨by omega, hdb.2⟩, by first | omega | (simp; omega), by omega, HN.out, HVV.out⟩, rfl⟩
      · rw [if_neg hh] at hv
        have HVV := Lib.hid hv
        have hhd : decide (hf < 0) = false := by simpa using hh
        have hh1 : 0 ≤ hf := by omega
        have hdb2 := hdb.2
        have HBY := Lib.hid (byte_of (16 * hf + d) (by omega) (by omega))
        clear hv hh hdb
        go_wp2_with fail
        refine HP.out.mono ?_
        rintro e w1 ⟨rfl, q, rfl⟩
        obtain ⟨c3, f3⟩ := HC3.out q
        obtain ⟨S2, q2, k2, s2⟩ := HMV.out q
        have HQ2 := Lib.hid q2
        have HK2 := Lib.hid (Keeps.trans HK1.out (Keeps.trans ((Keeps.refl S1 w').drewN q) k2 (fun _ h => .inl h)) HS1.out)
        have HS2 := Lib.hid (fun b (hb : S2 b) => (s2 b hb).elim (HS1.out b) (fun h => Or.inr (Nat.le_trans HK1.out.size h)))
        have HB2 := Lib.hid (HK2.out.obj HBX.out HRS.out)
        clear q2 k2 s2
        go_wp2_with fail
        rw [show ((k : Int) + 1) = ((k + 1 : Nat) : Int) from rfl]
        generalize (w'.drewN q).setCell ⟨p, 3, none⟩ (.int .i64 ((k + 1 : Nat) : Int)) = w2 at *
        clear c3 f3
        refine (HHX.out _).mono ?_
        rintro e w3 ⟨rfl, rfl⟩
        go_wp2_with fail
        refine (HSP2.out _).mono ?_
        rintro e w3 ⟨rfl, rfl⟩
        have HWB := Lib.hid (writeByte_any HQ2.out (UInt8.ofNat (16 * hf + d).toNat) (16 * hf + d) HBY.out (by omega))
        go_wp2_with fail
        refine HWB.out.mono ?_
        rintro e w4 ⟨rfl, hn8⟩
        obtain ⟨S4, q4, k4, s4⟩ := hn8
        have HQ4 := Lib.hid q4
        have HK4 := Lib.hid (Keeps.trans HK2.out k4 HS2.out)
        have HS4 := Lib.hid (fun b (hb : S4 b) => (s4 b hb).elim (HS2.out b) (fun h => Or.inr (Nat.le_trans HK2.out.size h)))
        have HB4 := Lib.hid (HK4.out.obj HBX.out HRS.out)
        clear q4 k4 s4
        have HN := Lib.hid (show ScNext W0 S p X _ (k + 1) w4 from ScNext.trans HK4.out HS4.out (ScNext.refl HQ4.out))
        go_wp2
        go_step3
        exact ⟨rfl, X.bs.length - (k + 1), by have := HM.out; omega, -1, k + 1, _, _, _, _, _, _, _, _, _, _, _, _, _, _, _, _, _, _, _, _, _, _, _, _, _, _, _, _, _, _, _, _, _, _, _, _, _, _, _, _, _, _, _, _, _, _, _, _, _, _, _, _, _, _, _, _, _, _, _, _, _, _, _, _, _, _, _, _, _, _, rfl, Lib.hid ⟨by omega, by first | omega | (simp; omega), by omega, HN.out, HVV.out⟩, rfl⟩
end Go.Proofs.Ytkolfecjlbnfkaa
