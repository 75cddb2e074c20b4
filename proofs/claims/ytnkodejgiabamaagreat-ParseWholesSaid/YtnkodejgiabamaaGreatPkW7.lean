/-
  Our texts Lex8 to LexA, in one.
-/
import Derived.Test.YtnkodejgiabamaaGreatPkW6
import Derived.Laws.IdiomStrings
import Derived.Deep.LoopGhost
import Derived.Lib.BytesEntry
import Derived.PlainAid
/-
  The walk of layer 10: a text in hex.
-/
namespace Go.Proofs.YtnkodejgiabamaaGreat
open Go.RowKit

/-- What a text in hex leaves. -/
def HexEnd (w : World) (S : Nat → Prop) (p : Nat) (X : Src) (V : Int × List UInt8 × List UInt8) (e : Ending) (w' : World) : Prop :=
  Keeps S w w' ∧ ((V.1 = 1 ∧ e = .returned (.tuple #[.agg (valC 0 0 noStr), .int .i64 (openE X.last)])) ∨ (V.1 = 11 ∧ e = .returned (.tuple #[.agg (valC 0 0 noStr), .int .i64 11])) ∨
    (V.1 = 0 ∧ e = .returned (.tuple #[.agg (valC 4 0 (mkB V.2.1)), .int .i64 0]) ∧ V.2.2.length ≤ X.bs.length ∧ w'.cell? ⟨p, 3, none⟩ = some (.int .i64 ((X.bs.length - V.2.2.length : Nat) : Int))))
theorem hex_some {w w' : World} {S : Nat → Prop} {p : Nat} {X : Src} {V : Int × List UInt8 × List UInt8} {x t : List UInt8} (hV : V = (0, x, t)) (hk : Keeps S w w') (ht : t.length ≤ X.bs.length)
    (hc : w'.cell? ⟨p, 3, none⟩ = some (.int .i64 ((X.bs.length - t.length : Nat) : Int))) : HexEnd w S p X V (.returned (.tuple #[.agg (valC 4 0 (mkB x)), .int .i64 0])) w' := by
  subst hV; exact ⟨hk, .inr (.inr ⟨rfl, rfl, ht, hc⟩)⟩
theorem hex_open {w w' : World} {S : Nat → Prop} {p : Nat} {X : Src} {V : Int × List UInt8 × List UInt8} (hV : V = (1, [], [])) (hk : Keeps S w w') : HexEnd w S p X V (.returned (.tuple #[.agg (valC 0 0 noStr), .int .i64 (openE X.last)])) w' := by
  subst hV; exact ⟨hk, .inl ⟨rfl, rfl⟩⟩
theorem hex_form {w w' : World} {S : Nat → Prop} {p : Nat} {X : Src} {V : Int × List UInt8 × List UInt8} (hV : V = (11, [], [])) (hk : Keeps S w w') : HexEnd w S p X V (.returned (.tuple #[.agg (valC 0 0 noStr), .int .i64 11])) w' := by
  subst hV; exact ⟨hk, .inr (.inl ⟨rfl, rfl⟩)⟩

/-- What holds where the loop begins. -/
structure HexAt (W0 : World) (S : Nat → Prop) (p : Nat) (X : Src) (V : Int × List UInt8 × List UInt8) (hf : Int) (k : Nat) (out : List UInt8) (w' : World) : Prop where
  h1 : -1 ≤ hf ∧ hf ≤ 15
  o : out.length < k
  le : k ≤ X.bs.length
  sc : ScNext W0 S p X out k w'
  v : V = hexV out hf (X.bs.drop k)
def HexI (W0 : World) (S : Nat → Prop) (p : Nat) (X : Src) (V : Int × List UInt8 × List UInt8) (r : Nat) (m : Nat) (a : Act) (w' : World) : Prop :=
  ∃ (hf : Int) (k : Nat) (out : List UInt8) (u5 u6 u7 u8 u9 u10 u11 u12 u13 u14 u15 u16 u17 u18 u19 u20 u21 u22 u23 u24 u25 u26 u27 u28 u29 u30 u31 u32 u33 u34 u35 u36 u37 u38 u39 u40 u41 u42 u43 u44 u45 u46 u47 u48 u49 u50 u51 u52 u53 u54 u55 u56 u57 u58 u59 u60 u61 u62 u63 u64 u65 u66 u67 u68 u69 u70 u71 u72 u73 : Value), m = X.bs.length - k ∧ Hid (HexAt W0 S p X V hf k out w') ∧ a = { tmps := #[.pointer (some ⟨p, 0, none⟩), undef, .pointer (some ⟨r, 0, none⟩), .int .i64 0, .int .i64 hf, u5, u6, u7, u8, u9, u10, u11, u12, u13, u14, u15, u16, u17, u18, u19, u20, u21, u22, u23, u24, u25, u26, u27, u28, u29, u30, u31, u32, u33, u34, u35, u36, u37, u38, u39, u40, u41, u42, u43, u44, u45, u46, u47, u48, u49, u50, u51, u52, u53, u54, u55, u56, u57, u58, u59, u60, u61, u62, u63, u64, u65, u66, u67, u68, u69, u70, u71, u72, u73], defers := [] }
theorem byte_of (x : Int) (h0 : 0 ≤ x) (h1 : x ≤ 255) : x = ((UInt8.ofNat x.toNat).toNat : Int) := by rw [UInt8.toNat_ofNat']; omega

set_option maxRecDepth 8000 in
set_option maxHeartbeats 16000000 in
theorem hexes_any {w : World} {S : Nat → Prop} {p : Nat} {X : Src} {k : Nat} (h : ScQ w S p X [] k) (hk : 1 ≤ k) :
    Calls Tryz.prog 60 #[.pointer (some ⟨p, 0, none⟩)] w (HexEnd w S p X (hexV [] (-1) (X.bs.drop k))) := by
  obtain ⟨V, hV⟩ : ∃ V, V = hexV [] (-1) (X.bs.drop k) := ⟨_, rfl⟩
  rw [← hV]
  obtain ⟨r, hr⟩ : ∃ r, r = w.heap.size := ⟨_, rfl⟩
  have hsm : X.bs.length ≤ 100000 := by obtain ⟨_, _, h⟩ := h; exact h.small
  have hSr : ¬ S r := by obtain ⟨_, _, h⟩ := h; intro e; have := (h.lt r e).2; omega
  have hle : k ≤ X.bs.length := by obtain ⟨_, _, h⟩ := h; exact h.le
  have HBX := Lib.hid (show (w.alloc (.cells #[.int .i64 0, .int .i64 0, .string ⟨#[]⟩, .slice none 0 0] 26)).heap[r]? = some (.cells #[.int .i64 0, .int .i64 0, .string ⟨#[]⟩, .slice none 0 0] 26 (0, 0)) from heapA_new _ hr)
  have HK0 := Lib.hid (show Keeps S w (w.alloc (.cells #[.int .i64 0, .int .i64 0, .string ⟨#[]⟩, .slice none 0 0] 26)) from (Keeps.refl S w).alloc _)
  have hq0 := h.keep (belowA w (.cells #[.int .i64 0, .int .i64 0, .string ⟨#[]⟩, .slice none 0 0] 26))
  have HAT := Lib.hid (show HexAt (w.alloc (.cells #[.int .i64 0, .int .i64 0, .string ⟨#[]⟩, .slice none 0 0] 26)) S p X V (-1) k [] _ from ⟨by omega, by simp; omega, hle, ScNext.refl hq0, hV⟩)
  have HR := Lib.hid hr
  have HRS := Lib.hid hSr
  have HSP := Lib.hid (show S p from (let ⟨_, _, h⟩ := h; h.own))
  have HRG := Lib.hid (show w.heap.size ≤ r by omega)
  clear hV hr hSr h hk hq0
  go_enter Tryz.func60, Tryz.ntmps60
  go_wp2
  rw [← HR.out]
  generalize w.alloc (.cells #[.int .i64 0, .int .i64 0, .string ⟨#[]⟩, .slice none 0 0] 26) = W0 at *
  refine wp_scope_ghost 0 (HexI W0 S p X V r) rfl ?first ?pass
  case first =>
    intro hpass
    have HPASS := Lib.hid hpass
    clear hpass
    go_wp2
    refine wp_label ?_
    rename_i K hK
    exact hK _ _ (HPASS.out _ _ _ ⟨-1, k, [], _, _, _, _, _, _, _, _, _, _, _, _, _, _, _, _, _, _, _, _, _, _, _, _, _, _, _, _, _, _, _, _, _, _, _, _, _, _, _, _, _, _, _, _, _, _, _, _, _, _, _, _, _, _, _, _, _, _, _, _, _, _, _, _, _, _, _, _, _, rfl, HAT, rfl⟩)
  case pass =>
    rintro m a w' ⟨hf, k, out, u5, u6, u7, u8, u9, u10, u11, u12, u13, u14, u15, u16, u17, u18, u19, u20, u21, u22, u23, u24, u25, u26, u27, u28, u29, u30, u31, u32, u33, u34, u35, u36, u37, u38, u39, u40, u41, u42, u43, u44, u45, u46, u47, u48, u49, u50, u51, u52, u53, u54, u55, u56, u57, u58, u59, u60, u61, u62, u63, u64, u65, u66, u67, u68, u69, u70, u71, u72, u73, hm, HA, rfl⟩
    obtain ⟨S1, hq1, hk1, hs1⟩ := HA.out.sc
    obtain ⟨hf0, hf1⟩ := HA.out.h1
    have ho := HA.out.o
    have hkl := HA.out.le
    have HV := Lib.hid HA.out.v
    have HQ1 := Lib.hid hq1
    have HK1 := Lib.hid hk1
    have HS1 := Lib.hid hs1
    have HB1 := Lib.hid (hk1.obj HBX.out HRS.out)
    have HM := Lib.hid hm
    have hP := peek_any hq1
    unfold peekV u8C at hP
    clear hk1 hs1 hm HAT HA
    by_cases hkn : k < X.bs.length
    case neg =>
      rw [if_neg hkn] at hP
      have HP := Lib.hid hP
      have HNONE := Lib.hid (show V = (1, [], []) by rw [HV.out, drop_nil hkn]; rfl)
      have HO := Lib.hid (fun q => open_any (hq1.drewN q))
      clear hP hq1 hkn
      go_wp2_with fail
      refine HP.out.mono ?_
      rintro e w1 ⟨rfl, q, rfl⟩
      go_wp2_with fail
      refine (HO.out q).mono ?_
      rintro e w2 ⟨rfl, rfl⟩
      have HB9 := Lib.hid (show (w'.drewN q).heap[r]? = _ from HB1.out)
      have HK9 := Lib.hid (Keeps.trans HK0.out (Keeps.trans HK1.out ((Keeps.refl S1 w').drewN q) HS1.out) (fun _ h => .inl h))
      generalize w'.drewN q = w2 at *
      obtain ⟨⟨k0, k1, k2, k3⟩, f0, f1, f2, f3⟩ := cells4 HB9.out
      go_wp2
      simp only [Exit.jump]
      refine bodyPost_ret (results_val rfl _ _ r 26 _ (0, 0) _ rfl (set4 HB9.out _ _ _ _) Tryz.underlying26 rfl infoVal _ rfl) rfl ?_
      exact hex_open HNONE.out (keeps_set4 HK9.out HRG.out _ _ _ _)
    case pos =>
      rw [if_pos hkn] at hP
      have hv := HV.out
      rw [drop_cons hkn, hexV] at hv
      have HMV := Lib.hid (fun q => (let ⟨_, _, h1⟩ := hq1.drewN q; h1.move (k + 1) (by omega) (by omega)))
      have HC3 := Lib.hid (fun q => (let ⟨_, _, h1⟩ := hq1.drewN q; (And.intro h1.cells.2.2.2.1 (h1.free 3))))
      have HP := Lib.hid hP
      obtain ⟨c, hc⟩ : ∃ c, c = X.bs.getD k 0 := ⟨_, rfl⟩
      rw [← hc] at HP hv
      have HHX := Lib.hid (fun W => hex_any c W)
      have hsp := fun W => space_any c.toNat W
      rw [← spI_eq] at hsp
      have hdb := hexD_bd c
      clear hP hc hq1
      by_cases h62 : c = 62
      · subst h62
        rw [if_pos rfl] at hv
        rw [show hexD 62 = -1 from rfl] at HHX
        clear hsp hdb
        by_cases hh : 0 ≤ hf
        · rw [if_pos hh] at hv
          have HVV := Lib.hid hv
          have HBY := Lib.hid (byte_of (16 * hf) (by omega) (by omega))
          clear hv
          go_wp2_with fail
          refine HP.out.mono ?_
          rintro e w1 ⟨rfl, q, rfl⟩
          obtain ⟨c3, f3⟩ := HC3.out q
          obtain ⟨S2, q2, k2, s2⟩ := HMV.out q
          have HQ2 := Lib.hid q2
          have HK2 := Lib.hid (Keeps.trans HK1.out (Keeps.trans ((Keeps.refl S1 w').drewN q) k2 (fun _ h => .inl h)) HS1.out)
          have HS2 := Lib.hid (fun b (hb : S2 b) => (s2 b hb).elim (HS1.out b) (fun h => Or.inr (Nat.le_trans HK1.out.size h)))
          have HB2 := Lib.hid (HK2.out.obj HBX.out HRS.out)
          clear q2 k2 s2
          go_wp2_with fail
          rw [show ((k : Int) + 1) = ((k + 1 : Nat) : Int) from rfl]
          generalize (w'.drewN q).setCell ⟨p, 3, none⟩ (.int .i64 ((k + 1 : Nat) : Int)) = w2 at *
          clear c3 f3
          refine (HHX.out _).mono ?_
          rintro e w3 ⟨rfl, rfl⟩
          have HWB := Lib.hid (writeByte_any HQ2.out (UInt8.ofNat (16 * hf).toNat) (16 * hf) HBY.out (by omega))
          go_wp2_with fail
          refine HWB.out.mono ?_
          rintro e w4 ⟨rfl, hn8⟩
          obtain ⟨S4, q4, k4, s4⟩ := hn8
          have HQ4 := Lib.hid q4
          have HK4 := Lib.hid (Keeps.trans HK2.out k4 HS2.out)
          have HS4 := Lib.hid (fun b (hb : S4 b) => (s4 b hb).elim (HS2.out b) (fun h => Or.inr (Nat.le_trans HK2.out.size h)))
          have HB4 := Lib.hid (HK4.out.obj HBX.out HRS.out)
          clear q4 k4 s4
          have HO := Lib.hid (string_any HQ4.out)
          go_wp2_with fail
          refine HO.out.mono ?_
          rintro e w5 ⟨rfl, hk3, hp3⟩
          have HRS2 := Lib.hid (show ¬ S4 r from fun e => (HS4.out r e).elim HRS.out (fun h => by have := (Array.getElem?_eq_some_iff.1 HBX.out).1; omega))
          have HB9 := Lib.hid (hk3.obj HB4.out HRS2.out)
          have HK9 := Lib.hid (Keeps.trans HK0.out (Keeps.trans HK4.out hk3 HS4.out) (fun _ h => .inl h))
          have HP3 := Lib.hid hp3
          clear hk3 hp3
          obtain ⟨⟨k0, k1, k2, k3⟩, f0, f1, f2, f3⟩ := cells4 HB9.out
          go_wp2
          simp only [Exit.jump]
          refine bodyPost_ret (results_val rfl _ _ r 26 _ (0, 0) _ rfl (set4 HB9.out _ _ _ _) Tryz.underlying26 rfl infoVal _ rfl) rfl ?_
          obtain ⟨ad9, v9, hsc⟩ := HQ4.out
          have hpr : p ≠ r := fun e => HRS.out (e ▸ HSP.out)
          refine hex_some HVV.out (keeps_set4 HK9.out HRG.out _ _ _ _) (by rw [List.length_drop]; omega) ?_
          rw [cell_of_row _ p 3 (scV X ad9 v9 (k + 1)) 74 (0, 0) ((set4_other hpr _ _ _ _).trans (HP3.out.trans hsc.blk)), List.length_drop, show X.bs.length - (X.bs.length - (k + 1)) = k + 1 from by omega]
          rfl
        · rw [if_neg hh] at hv
          have HVV := Lib.hid hv
          have hhd : decide (0 ≤ hf) = false := by simpa using hh
          clear hv hh
          go_wp2_with fail
          refine HP.out.mono ?_
          rintro e w1 ⟨rfl, q, rfl⟩
          obtain ⟨c3, f3⟩ := HC3.out q
          obtain ⟨S2, q2, k2, s2⟩ := HMV.out q
          have HQ2 := Lib.hid q2
          have HK2 := Lib.hid (Keeps.trans HK1.out (Keeps.trans ((Keeps.refl S1 w').drewN q) k2 (fun _ h => .inl h)) HS1.out)
          have HS2 := Lib.hid (fun b (hb : S2 b) => (s2 b hb).elim (HS1.out b) (fun h => Or.inr (Nat.le_trans HK1.out.size h)))
          have HB2 := Lib.hid (HK2.out.obj HBX.out HRS.out)
          clear q2 k2 s2
          go_wp2_with fail
          rw [show ((k : Int) + 1) = ((k + 1 : Nat) : Int) from rfl]
          generalize (w'.drewN q).setCell ⟨p, 3, none⟩ (.int .i64 ((k + 1 : Nat) : Int)) = w2 at *
          clear c3 f3
          refine (HHX.out _).mono ?_
          rintro e w3 ⟨rfl, rfl⟩
          have HO := Lib.hid (string_any HQ2.out)
          go_wp2_with fail
          refine HO.out.mono ?_
          rintro e w5 ⟨rfl, hk3, hp3⟩
          have HRS2 := Lib.hid (show ¬ S2 r from fun e => (HS2.out r e).elim HRS.out (fun h => by have := (Array.getElem?_eq_some_iff.1 HBX.out).1; omega))
          have HB9 := Lib.hid (hk3.obj HB2.out HRS2.out)
          have HK9 := Lib.hid (Keeps.trans HK0.out (Keeps.trans HK2.out hk3 HS2.out) (fun _ h => .inl h))
          have HP3 := Lib.hid hp3
          clear hk3 hp3
          obtain ⟨⟨k0, k1, k2, k3⟩, f0, f1, f2, f3⟩ := cells4 HB9.out
          go_wp2
          simp only [Exit.jump]
          refine bodyPost_ret (results_val rfl _ _ r 26 _ (0, 0) _ rfl (set4 HB9.out _ _ _ _) Tryz.underlying26 rfl infoVal _ rfl) rfl ?_
          obtain ⟨ad9, v9, hsc⟩ := HQ2.out
          have hpr : p ≠ r := fun e => HRS.out (e ▸ HSP.out)
          refine hex_some HVV.out (keeps_set4 HK9.out HRG.out _ _ _ _) (by rw [List.length_drop]; omega) ?_
          rw [cell_of_row _ p 3 (scV X ad9 v9 (k + 1)) 74 (0, 0) ((set4_other hpr _ _ _ _).trans (HP3.out.trans hsc.blk)), List.length_drop, show X.bs.length - (X.bs.length - (k + 1)) = k + 1 from by omega]
          rfl
      have h62d : ((c.toNat : Int) == 62) = false := by rw [beq_eq_false_iff_ne]; intro e; exact h62 (UInt8.toNat_inj.1 (Int.ofNat_inj.1 e))
      rw [if_neg h62] at hv
      clear h62
      obtain ⟨sp, hsp2⟩ : ∃ sp, isSp c = sp := ⟨_, rfl⟩
      rw [hsp2] at hv hsp
      have HSP2 := Lib.hid hsp
      clear hsp hsp2
      generalize hexD c = d at *
      cases sp
      case true =>
        rw [if_pos rfl] at hv
        have HVV := Lib.hid hv
        clear hv
        go_wp2_with fail
        refine HP.out.mono ?_
        rintro e w1 ⟨rfl, q, rfl⟩
        obtain ⟨c3, f3⟩ := HC3.out q
        obtain ⟨S2, q2, k2, s2⟩ := HMV.out q
        have HQ2 := Lib.hid q2
        have HK2 := Lib.hid (Keeps.trans HK1.out (Keeps.trans ((Keeps.refl S1 w').drewN q) k2 (fun _ h => .inl h)) HS1.out)
        have HS2 := Lib.hid (fun b (hb : S2 b) => (s2 b hb).elim (HS1.out b) (fun h => Or.inr (Nat.le_trans HK1.out.size h)))
        have HB2 := Lib.hid (HK2.out.obj HBX.out HRS.out)
        clear q2 k2 s2
        go_wp2_with fail
        rw [show ((k : Int) + 1) = ((k + 1 : Nat) : Int) from rfl]
        generalize (w'.drewN q).setCell ⟨p, 3, none⟩ (.int .i64 ((k + 1 : Nat) : Int)) = w2 at *
        clear c3 f3
        refine (HHX.out _).mono ?_
        rintro e w3 ⟨rfl, rfl⟩
        have HN := Lib.hid (show ScNext W0 S p X out (k + 1) w2 from ScNext.trans HK2.out HS2.out (ScNext.refl HQ2.out))
        go_wp2_with fail
        refine (HSP2.out _).mono ?_
        rintro e w3 ⟨rfl, rfl⟩
        go_wp2
        go_step3
        exact ⟨rfl, X.bs.length - (k + 1), by have := HM.out; omega, hf, k + 1, out, _, _, _, _, _, _, _, _, _, _, _, _, _, _, _, _, _, _, _, _, _, _, _, _, _, _, _, _, _, _, _, _, _, _, _, _, _, _, _, _, _, _, _, _, _, _, _, _, _, _, _, _, _, _, _, _, _, _, _, _, _, _, _, _, _, _, _, _, _, rfl, Lib.hid ⟨⟨hf0, hf1⟩, by first | omega | (simp; omega), by omega, HN.out, HVV.out⟩, rfl⟩
      rw [if_neg (by decide)] at hv
      by_cases hd0 : d < 0
      · rw [if_pos hd0] at hv
        have HNONE := Lib.hid hv
        clear hv
        go_wp2_with fail
        refine HP.out.mono ?_
        rintro e w1 ⟨rfl, q, rfl⟩
        obtain ⟨c3, f3⟩ := HC3.out q
        obtain ⟨S2, q2, k2, s2⟩ := HMV.out q
        have HQ2 := Lib.hid q2
        have HK2 := Lib.hid (Keeps.trans HK1.out (Keeps.trans ((Keeps.refl S1 w').drewN q) k2 (fun _ h => .inl h)) HS1.out)
        have HS2 := Lib.hid (fun b (hb : S2 b) => (s2 b hb).elim (HS1.out b) (fun h => Or.inr (Nat.le_trans HK1.out.size h)))
        have HB2 := Lib.hid (HK2.out.obj HBX.out HRS.out)
        clear q2 k2 s2
        go_wp2_with fail
        rw [show ((k : Int) + 1) = ((k + 1 : Nat) : Int) from rfl]
        generalize (w'.drewN q).setCell ⟨p, 3, none⟩ (.int .i64 ((k + 1 : Nat) : Int)) = w2 at *
        clear c3 f3
        refine (HHX.out _).mono ?_
        rintro e w3 ⟨rfl, rfl⟩
        go_wp2_with fail
        refine (HSP2.out _).mono ?_
        rintro e w3 ⟨rfl, rfl⟩
        have HB9 := HB2
        have HK9 := Lib.hid (Keeps.trans HK0.out HK2.out (fun _ h => .inl h))
        obtain ⟨⟨k0, k1, k2, k3⟩, f0, f1, f2, f3⟩ := cells4 HB9.out
        go_wp2
        simp only [Exit.jump]
        refine bodyPost_ret (results_val rfl _ _ r 26 _ (0, 0) _ rfl (set4 HB9.out _ _ _ _) Tryz.underlying26 rfl infoVal _ rfl) rfl ?_
        exact hex_form HNONE.out (keeps_set4 HK9.out HRG.out _ _ _ _)
      rw [if_neg hd0] at hv
      have hd0d : decide (d < 0) = false := by simpa using hd0
      have hd1 : 0 ≤ d := by omega
      clear hd0
      by_cases hh : hf < 0
      · rw [if_pos hh] at hv
        have HVV := Lib.hid hv
        clear hv
        go_wp2_with fail
        refine HP.out.mono ?_
        rintro e w1 ⟨rfl, q, rfl⟩
        obtain ⟨c3, f3⟩ := HC3.out q
        obtain ⟨S2, q2, k2, s2⟩ := HMV.out q
        have HQ2 := Lib.hid q2
        have HK2 := Lib.hid (Keeps.trans HK1.out (Keeps.trans ((Keeps.refl S1 w').drewN q) k2 (fun _ h => .inl h)) HS1.out)
        have HS2 := Lib.hid (fun b (hb : S2 b) => (s2 b hb).elim (HS1.out b) (fun h => Or.inr (Nat.le_trans HK1.out.size h)))
        have HB2 := Lib.hid (HK2.out.obj HBX.out HRS.out)
        clear q2 k2 s2
        go_wp2_with fail
        rw [show ((k : Int) + 1) = ((k + 1 : Nat) : Int) from rfl]
        generalize (w'.drewN q).setCell ⟨p, 3, none⟩ (.int .i64 ((k + 1 : Nat) : Int)) = w2 at *
        clear c3 f3
        refine (HHX.out _).mono ?_
        rintro e w3 ⟨rfl, rfl⟩
        have HN := Lib.hid (show ScNext W0 S p X out (k + 1) w2 from ScNext.trans HK2.out HS2.out (ScNext.refl HQ2.out))
        go_wp2_with fail
        refine (HSP2.out _).mono ?_
        rintro e w3 ⟨rfl, rfl⟩
        go_wp2
        go_step3
        exact ⟨rfl, X.bs.length - (k + 1), by have := HM.out; omega, d, k + 1, out, _, _, _, _, _, _, _, _, _, _, _, _, _, _, _, _, _, _, _, _, _, _, _, _, _, _, _, _, _, _, _, _, _, _, _, _, _, _, _, _, _, _, _, _, _, _, _, _, _, _, _, _, _, _, _, _, _, _, _, _, _, _, _, _, _, _, _, _, _, rfl, Lib.hid ⟨⟨by omega, hdb.2⟩, by first | omega | (simp; omega), by omega, HN.out, HVV.out⟩, rfl⟩
      · rw [if_neg hh] at hv
        have HVV := Lib.hid hv
        have hhd : decide (hf < 0) = false := by simpa using hh
        have hh1 : 0 ≤ hf := by omega
        have hdb2 := hdb.2
        have HBY := Lib.hid (byte_of (16 * hf + d) (by omega) (by omega))
        clear hv hh hdb
        go_wp2_with fail
        refine HP.out.mono ?_
        rintro e w1 ⟨rfl, q, rfl⟩
        obtain ⟨c3, f3⟩ := HC3.out q
        obtain ⟨S2, q2, k2, s2⟩ := HMV.out q
        have HQ2 := Lib.hid q2
        have HK2 := Lib.hid (Keeps.trans HK1.out (Keeps.trans ((Keeps.refl S1 w').drewN q) k2 (fun _ h => .inl h)) HS1.out)
        have HS2 := Lib.hid (fun b (hb : S2 b) => (s2 b hb).elim (HS1.out b) (fun h => Or.inr (Nat.le_trans HK1.out.size h)))
        have HB2 := Lib.hid (HK2.out.obj HBX.out HRS.out)
        clear q2 k2 s2
        go_wp2_with fail
        rw [show ((k : Int) + 1) = ((k + 1 : Nat) : Int) from rfl]
        generalize (w'.drewN q).setCell ⟨p, 3, none⟩ (.int .i64 ((k + 1 : Nat) : Int)) = w2 at *
        clear c3 f3
        refine (HHX.out _).mono ?_
        rintro e w3 ⟨rfl, rfl⟩
        go_wp2_with fail
        refine (HSP2.out _).mono ?_
        rintro e w3 ⟨rfl, rfl⟩
        have HWB := Lib.hid (writeByte_any HQ2.out (UInt8.ofNat (16 * hf + d).toNat) (16 * hf + d) HBY.out (by omega))
        go_wp2_with fail
        refine HWB.out.mono ?_
        rintro e w4 ⟨rfl, hn8⟩
        obtain ⟨S4, q4, k4, s4⟩ := hn8
        have HQ4 := Lib.hid q4
        have HK4 := Lib.hid (Keeps.trans HK2.out k4 HS2.out)
        have HS4 := Lib.hid (fun b (hb : S4 b) => (s4 b hb).elim (HS2.out b) (fun h => Or.inr (Nat.le_trans HK2.out.size h)))
        have HB4 := Lib.hid (HK4.out.obj HBX.out HRS.out)
        clear q4 k4 s4
        have HN := Lib.hid (show ScNext W0 S p X _ (k + 1) w4 from ScNext.trans HK4.out HS4.out (ScNext.refl HQ4.out))
        go_wp2
        go_step3
        exact ⟨rfl, X.bs.length - (k + 1), by have := HM.out; omega, -1, k + 1, _, _, _, _, _, _, _, _, _, _, _, _, _, _, _, _, _, _, _, _, _, _, _, _, _, _, _, _, _, _, _, _, _, _, _, _, _, _, _, _, _, _, _, _, _, _, _, _, _, _, _, _, _, _, _, _, _, _, _, _, _, _, _, _, _, _, _, _, _, _, rfl, Lib.hid ⟨by omega, by first | omega | (simp; omega), by omega, HN.out, HVV.out⟩, rfl⟩
end Go.Proofs.YtnkodejgiabamaaGreat
/-
  The walk of layer 10: a run of regular bytes.
-/
namespace Go.Proofs.YtnkodejgiabamaaGreat
open Go.RowKit

def regs (l : List UInt8) : List UInt8 := l.takeWhile isRg
def runN (l : List UInt8) : Nat := (regs l).length
theorem runN_le (l : List UInt8) : runN l ≤ l.length := by unfold runN regs; exact List.Sublist.length_le (List.takeWhile_sublist _)
theorem runN_yes {c : UInt8} (l : List UInt8) (h : isRg c = true) : runN (c :: l) = 1 + runN l := by unfold runN regs; rw [List.takeWhile_cons_of_pos h]; simp; omega
theorem runN_no {c : UInt8} (l : List UInt8) (h : isRg c = false) : runN (c :: l) = 0 := by unfold runN regs; rw [List.takeWhile_cons_of_neg (by simp [h])]; rfl
theorem regs_take (l : List UInt8) : regs l = l.take (runN l) := by
  unfold runN regs
  induction l with
  | nil => rfl
  | cons c l ih =>
    by_cases h : isRg c = true
    · rw [List.takeWhile_cons_of_pos h, List.length_cons, List.take_succ_cons, ← ih]
    · rw [List.takeWhile_cons_of_neg h]; rfl
theorem regs_drop (l : List UInt8) : l.dropWhile isRg = l.drop (runN l) := by
  unfold runN regs
  induction l with
  | nil => rfl
  | cons c l ih =>
    by_cases h : isRg c = true
    · rw [List.takeWhile_cons_of_pos h, List.length_cons, List.drop_succ_cons, ← ih, List.dropWhile_cons_of_pos h]
    · rw [List.takeWhile_cons_of_neg h, List.dropWhile_cons_of_neg h]; rfl

/-- What a word leaves: the bytes, whether it is whole, a scanner behind it. -/
def WordEnd (w : World) (S : Nat → Prop) (p : Nat) (X : Src) (out : List UInt8) (k : Nat) (e : Ending) (w' : World) : Prop :=
  e = .returned (.tuple #[.string (mkB (regs (X.bs.drop k))), .bool (decide (k + runN (X.bs.drop k) < X.bs.length) || X.last)]) ∧ ScNext w S p X out (k + runN (X.bs.drop k)) w'

theorem conv_bytes {w : World} {b off cap : Nat} {X : Src} (hc : ∀ j, j < X.bs.length → w.cell? ⟨b, off + j, none⟩ = some (u8C (X.bs.getD j 0))) (k m : Nat) (hm : k + m ≤ X.bs.length) (W : World) (hW : Below w.heap.size w W) :
    (convert 22 9 (.slice (some ⟨b, off + k, none⟩) m cap)).run Tryz.prog W = .ok (.string (mkB ((X.bs.drop k).take m))) W := by
  have hl : ((X.bs.drop k).take m).length = m := by rw [List.length_take, List.length_drop]; omega
  have h := run_convert_bytes_back (P := Tryz.prog) W 22 9 5 ⟨b, off + k, none⟩ cap ((X.bs.drop k).take m) Tryz.underlying22 Tryz.underlying5 Tryz.underlying9 (fun j hj => by
    rw [hl] at hj
    rw [Addr.add_lit, Nat.add_assoc]
    refine cell?_keep hW ((hc (k + j) (by omega)).trans ?_)
    congr 1
    unfold u8C
    simp [List.getD, show k + j < X.bs.length from by omega])
  rw [hl] at h
  exact h

set_option maxRecDepth 8000 in
set_option maxHeartbeats 8000000 in
theorem word_any {w : World} {S : Nat → Prop} {p : Nat} {X : Src} {out : List UInt8} {k : Nat} (h : ScQ w S p X out k) (hne : 0 < X.bs.length) :
    Calls Tryz.prog 43 #[.pointer (some ⟨p, 0, none⟩)] w (WordEnd w S p X out k) := by
  have hsm : X.bs.length ≤ 100000 := by obtain ⟨_, _, h⟩ := h; exact h.small
  have hle : k ≤ X.bs.length := by obtain ⟨_, _, h⟩ := h; exact h.le
  have hcap : X.bs.length ≤ X.cap ∧ X.cap ≤ maxLen := by obtain ⟨_, _, h⟩ := h; exact ⟨h.src.2.1, h.src.2.2.1⟩
  have hc3 : w.cell? ⟨p, 3, none⟩ = some (.int .i64 k) := by obtain ⟨_, _, h⟩ := h; exact h.cells.2.2.2.1
  have HN := Lib.hid (ScNext.refl h)
  obtain ⟨m, hm⟩ : ∃ m, m = runN (X.bs.drop k) := ⟨_, rfl⟩
  have hml := runN_le (X.bs.drop k)
  rw [List.length_drop, ← hm] at hml
  have HM := Lib.hid hm
  unfold WordEnd
  rw [regs_take, ← hm]
  obtain ⟨l, hl⟩ : ∃ l, X.last = l := ⟨_, rfl⟩
  rw [hl]
  have HLL := Lib.hid hl
  obtain ⟨hc1, hc2⟩ := hcap
  have hc2' : X.cap ≤ 9223372036854775807 := by unfold maxLen at hc2; omega
  clear h hm hc2 hl
  go_enter Tryz.func43, Tryz.ntmps43
  go_wp2
  clear hc3
  go_loopg [] (X.bs.length - k) (fun g wr => ∃ j : Nat, g = X.bs.length - j ∧ k ≤ j ∧ j ≤ k + m ∧ Hid (ScNext w S p X out j wr) ∧ Hid (k + m = j + runN (X.bs.drop j)))
  case atStart => exact ⟨k, rfl, Nat.le_refl _, by omega, HN, Lib.hid (by rw [HM.out])⟩
  case round =>
    obtain ⟨j, hg, hkj, hjm, HS, HJ⟩ := hrel
    have HG := Lib.hid hg
    obtain ⟨S1, hq1, hk1, hs1⟩ := HS.out
    obtain ⟨ad, v, h1⟩ := hq1
    obtain ⟨-, -, c2, c3, c4⟩ := h1.cells
    have f3 := h1.free 3
    obtain ⟨b, off, ha, _, hcc⟩ := h1.src.at 0 0 hne
    have hcc2 : ∀ i, i < X.bs.length → wr.cell? ⟨b, off + i, none⟩ = some (u8C (X.bs.getD i 0)) := hcc
    rw [ha] at c2
    have HCC := Lib.hid hcc2
    have HK1 := Lib.hid hk1
    have HS1 := Lib.hid hs1
    have H1 := Lib.hid h1
    clear hk1 hs1 hg hcc hcc2 h1
    by_cases hj : j < X.bs.length
    · have hcj := HCC.out j hj
      have hv := HJ.out
      rw [drop_cons hj] at hv
      have hjd : decide ((j : Int) < X.bs.length) = true := by simp; omega
      have HMV := Lib.hid (fun q => (let h := H1.out.keep (below_drewN (Below.refl wr.heap.size wr) q); h.move (j + 1) (by omega) (by omega)))
      have hrg := fun W => regular_any (X.bs.getD j 0) W
      rw [← rgI_eq] at hrg
      unfold u8C at hcj
      obtain ⟨c, hc⟩ : ∃ c, c = X.bs.getD j 0 := ⟨_, rfl⟩
      rw [← hc] at hrg hcj hv
      obtain ⟨rg, hrg2⟩ : ∃ rg, isRg c = rg := ⟨_, rfl⟩
      rw [hrg2] at hrg
      have HRG := Lib.hid hrg
      have HR2 := Lib.hid hrg2
      have HV := Lib.hid hv
      clear hrg hrg2 hv hc
      cases rg
      · have hje : j = k + m := by have := HV.out; rw [runN_no _ HR2.out] at this; omega
        have HJE := Lib.hid hje
        clear hje
        have hcv : ∀ nq, (convert 22 9 (.slice (some ⟨b, off + k, none⟩) (j - k) (X.cap - k))).run Tryz.prog (wr.drewN nq) = .ok (.string (mkB ((X.bs.drop k).take (j - k)))) (wr.drewN nq) := fun nq => conv_bytes HCC.out k (j - k) (by omega) _ (below_drewN (Below.refl _ _) nq)
        have hcv0 : ∀ nq, (convert 22 9 (.slice (some ⟨b, off, none⟩) 0 0)).run Tryz.prog (wr.drewN nq) = .ok (.string (mkB [])) (wr.drewN nq) := fun nq => conv_bytes HCC.out 0 0 (by omega) _ (below_drewN (Below.refl _ _) nq)
        have HEND := Lib.hid (fun q => ScNext.trans HK1.out HS1.out (ScNext.drew q (ScNext.refl (⟨ad, v, H1.out.keep (below_drewN (Below.refl _ _) q)⟩ : ScQ (wr.drewN q) S1 p X out j))))
        rw [HLL.out] at c4
        go_wp2
        go_quiet ((go_at_call 38; exact (HRG.out _).mono fun _ _ ⟨he, hm⟩ => ⟨he, _, hm.symm⟩))
        go_wp2
        have HDD := Lib.hid (show decide (j < X.bs.length) = true from decide_eq_true hj)
        have hck : ¬ X.cap = k := by omega
        go_quiet (fail)
        go_wp2
        go_ret2
        exact ⟨by rw [show m = j - k from by have := HJE.out; omega, show k + (j - k) = j from by omega, HDD.out]; rfl, by rw [← HJE.out]; simpa using HEND.out _⟩
      · go_wp2
        go_quiet ((go_at_call 38; exact (HRG.out _).mono fun _ _ ⟨he, hm⟩ => ⟨he, _, hm.symm⟩))
        go_wp2
        go_roundg (X.bs.length - (j + 1))
        case rel =>
          refine ⟨j + 1, rfl, by omega, ?_, Lib.hid (ScNext.trans HK1.out HS1.out (ScNext.drew _ (HMV.out _))), Lib.hid ?_⟩
          · have := HV.out; rw [runN_yes _ HR2.out] at this; omega
          · have := HV.out; rw [runN_yes _ HR2.out] at this; omega
        case measure => have := HG.out; omega
    · have hje : j = X.bs.length := by omega
      have HJE := Lib.hid (show j = k + m by omega)
      have hjd : decide ((j : Int) < X.bs.length) = false := decide_eq_false (by omega)
      have hjd2 : decide (j < X.bs.length) = false := decide_eq_false (by omega)
      have hcv : ∀ nq, (convert 22 9 (.slice (some ⟨b, off + k, none⟩) (j - k) (X.cap - k))).run Tryz.prog (wr.drewN nq) = .ok (.string (mkB ((X.bs.drop k).take (j - k)))) (wr.drewN nq) := fun nq => conv_bytes HCC.out k (j - k) (by omega) _ (below_drewN (Below.refl _ _) nq)
      have hcv0 : ∀ nq, (convert 22 9 (.slice (some ⟨b, off, none⟩) 0 0)).run Tryz.prog (wr.drewN nq) = .ok (.string (mkB [])) (wr.drewN nq) := fun nq => conv_bytes HCC.out 0 0 (by omega) _ (below_drewN (Below.refl _ _) nq)
      have HEND := Lib.hid (fun q => ScNext.trans HK1.out HS1.out (ScNext.drew q (ScNext.refl (⟨ad, v, H1.out.keep (below_drewN (Below.refl _ _) q)⟩ : ScQ (wr.drewN q) S1 p X out j))))
      have HDD := Lib.hid (show decide (j < X.bs.length) = false from decide_eq_false (by omega))
      rw [HLL.out] at c4
      clear hje hj
      cases l
      all_goals
        go_wp2
        go_quiet (fail)
        go_wp2
        by_cases hck : X.cap = k
        · have hjk : j = k := by omega
          have HZ := Lib.hid (show (X.bs.drop k).take m = [] by rw [show m = 0 from by have := HJE.out; omega]; rfl)
          have hkd2 : decide (k < X.bs.length) = false := decide_eq_false (by omega)
          go_quiet (fail)
          go_wp2
          go_ret2
          exact ⟨by rw [HZ.out, ← HJE.out, HDD.out]; rfl, by rw [← HJE.out]; simpa using HEND.out _⟩
        · go_quiet (fail)
          go_wp2
          go_ret2
          exact ⟨by rw [show m = j - k from by have := HJE.out; omega, show k + (j - k) = j from by omega, HDD.out]; rfl, by rw [← HJE.out]; simpa using HEND.out _⟩
end Go.Proofs.YtnkodejgiabamaaGreat
/-
  The walk of layer 10: a name, of its bytes.
-/
namespace Go.Proofs.YtnkodejgiabamaaGreat
open Go.RowKit

theorem bytesOf_map (o : List UInt8) : Lib.bytesOf (o.map fun b => (b.toNat : Int)) = o := by
  unfold Lib.bytesOf
  rw [List.map_map]
  have : ((fun n : Int => UInt8.ofNat n.toNat) ∘ fun b : UInt8 => (b.toNat : Int)) = id := by funext b; simp
  rw [this, List.map_id]

set_option maxRecDepth 100000 in
set_option maxHeartbeats 1000000 in
theorem bidx_any {w : World} {base : Nat} {v : Value} {o : List UInt8} (hr : w.ownsRow base 5 1 v o.length (o.map u8C)) (cv : Int) :
    Calls Tryz.prog 66 #[v, .int .u8 cv] w fun e w' => e = .returned (.int .i64 (Lib.indexByte o cv.toNat.toUInt8)) ∧ w = w' := by
  have hX : (Extern.BytealgIndexByte.indexByte #[v, .int .u8 cv]).run Tryz.prog w = .ok (.int .i64 (Lib.indexByte o cv.toNat.toUInt8)) w := by
    rcases hr.2 with ⟨rfl, h0⟩ | ⟨g, cap, cur, rfl, _⟩
    · have ho : o = [] := List.eq_nil_of_length_eq_zero h0
      subst ho
      exact Lib.run_indexByteNil _ _ _ cv
    · have := Lib.run_indexByteSlice (P := Tryz.prog) (w := w) g 0 o.length cap (o.map fun b => (b.toNat : Int)) (by simp) (fun i hi => by
        have := hr.cells (g := g) rfl i (u8C (o.getD i 0)) (by simp [List.getD, hi])
        rw [Addr.add_lit] at this
        rw [this]; unfold u8C
        simp [List.getD, hi]) cv
      rw [bytesOf_map] at this
      exact this
  obtain ⟨a, cap, hv, -⟩ := Row.of_owns hr
  subst hv
  clear hr
  go_enter Tryz.func66, Tryz.ntmps66
  go_wp2
  rw [run_callFunc_extern Tryz.func84 (by kernel_rfl) (by kernel_rfl) (by kernel_rfl) (e := Extern.BytealgIndexByte.indexByte) (by kernel_rfl), hX]
  simp only [Result.andThen]
  rw [Oper.upon_value]
  go_wp2
  go_ret
  exact ⟨rfl, rfl⟩

def finN : Option (List UInt8) → Option (List UInt8)
  | none => none
  | some o => if 127 < o.length ∨ (0 : UInt8) ∈ o then none else some o
theorem nameV_fin (l : List UInt8) : nameV l = finN (nameGo [] l) := by unfold nameV finN; cases nameGo [] l <;> rfl
theorem nameGo_byte (o : List UInt8) (c : UInt8) (t : List UInt8) (h : c ≠ 35) : nameGo o (c :: t) = nameGo (o ++ [c]) t := by rw [nameGo.eq_def]; simp only; rw [if_neg h]
theorem nameGo_short (o : List UInt8) (t : List UInt8) (h : t.length < 2) : nameGo o (35 :: t) = none := by
  rw [nameGo.eq_def]
  simp only
  rw [if_pos trivial]
  match t, h with
  | [], _ => rfl
  | [_], _ => rfl
theorem nameGo_hex (o : List UInt8) (x y : UInt8) (u : List UInt8) : nameGo o (35 :: x :: y :: u) = if hexD x < 0 ∨ hexD y < 0 then none else nameGo (o ++ [UInt8.ofNat (16 * hexD x + hexD y).toNat]) u := by rw [nameGo.eq_def]; simp only; rw [if_pos trivial]

theorem hexI_bd (x : Int) : -1 ≤ hexI x ∧ hexI x ≤ 15 := by
  unfold hexI
  repeat' split
  all_goals omega
theorem byte_of9 (x : Int) (h0 : 0 ≤ x) (h1 : x ≤ 255) : x = ((UInt8.ofNat x.toNat).toNat : Int) := by rw [UInt8.toNat_ofNat']; omega
theorem idx_mem (o : List UInt8) (c : UInt8) : decide (0 ≤ Lib.indexByte o c) = decide (c ∈ o) := by
  have hg := Lib.indexByte_ge o c
  by_cases h : Lib.indexByte o c = -1
  · rw [h, decide_eq_false (idx_none _ _ h)]; rfl
  · obtain ⟨i, hi⟩ := Int.eq_ofNat_of_zero_le (show 0 ≤ Lib.indexByte o c by omega)
    obtain ⟨a, t, e, -, -⟩ := idx_some _ _ _ hi
    rw [hi, decide_eq_true (by omega), decide_eq_true (by rw [e]; simp)]
/-- What a name leaves. -/
def NameEnd (w : World) (V : Option (List UInt8)) (e : Ending) (w' : World) : Prop :=
  Below w.heap.size w w' ∧ match V with
  | none => e = .returned (.tuple #[.agg (valC 0 0 noStr), .int .i64 17])
  | some o => e = .returned (.tuple #[.agg (valC 5 0 (mkB o)), .int .i64 0])
theorem name_none {w w' : World} {V : Option (List UInt8)} (hV : V = none) (hb : Below w.heap.size w w') : NameEnd w V (.returned (.tuple #[.agg (valC 0 0 noStr), .int .i64 17])) w' := by subst hV; exact ⟨hb, rfl⟩
theorem name_some {w w' : World} {V : Option (List UInt8)} {o : List UInt8} (hV : V = some o) (hb : Below w.heap.size w w') : NameEnd w V (.returned (.tuple #[.agg (valC 5 0 (mkB o)), .int .i64 0])) w' := by subst hV; exact ⟨hb, rfl⟩
theorem conv_own {w : World} {base : Nat} {v : Value} {o : List UInt8} (hr : w.ownsRow base 5 1 v o.length (o.map u8C)) : (convert 22 9 v).run Tryz.prog w = .ok (.string (mkB o)) w := by
  rcases hr.2 with ⟨rfl, h0⟩ | ⟨g, cap, cur, rfl, _⟩
  · have ho : o = [] := List.eq_nil_of_length_eq_zero h0
    subst ho
    rw [run_convert_bytes_string w 22 9 5 none 0 0 Tryz.underlying22 Tryz.underlying5 Tryz.underlying9]
    rfl
  · refine run_convert_bytes_back (P := Tryz.prog) w 22 9 5 ⟨g, 0, none⟩ cap o Tryz.underlying22 Tryz.underlying5 Tryz.underlying9 (fun j hj => ?_)
    exact hr.cells (g := g) rfl j (u8C o[j]) (by simp [hj])

set_option maxRecDepth 8000 in
set_option maxHeartbeats 8000000 in
theorem name_any (s : ByteArray) (w : World) (hs : s.size ≤ 100000) :
    Calls Tryz.prog 44 #[.string s] w (NameEnd w (nameV (bl s))) := by
  obtain ⟨V, hV⟩ : ∃ V, V = nameV (bl s) := ⟨_, rfl⟩
  rw [← hV]
  rw [nameV_fin] at hV
  have HV := Lib.hid hV
  obtain ⟨r, hr⟩ : ∃ r, r = w.heap.size := ⟨_, rfl⟩
  have HBX := Lib.hid (show (w.alloc (.cells #[.int .i64 0, .int .i64 0, .string ⟨#[]⟩, .slice none 0 0] 26)).heap[r]? = some (.cells #[.int .i64 0, .int .i64 0, .string ⟨#[]⟩, .slice none 0 0] 26 (0, 0)) from heapA_new _ hr)
  have HB0 := Lib.hid (belowA w (.cells #[.int .i64 0, .int .i64 0, .string ⟨#[]⟩, .slice none 0 0] 26))
  have HRR := Lib.hid hr
  have hgb := PlainAid.get_bt s
  have HOK := Lib.hid (show ∀ i (h : i < s.size), (bl s).drop i = s[i] :: (bl s).drop (i + 1) from fun i h => bl_drop s i h)
  clear hV hr
  go_enter Tryz.func44, Tryz.ntmps44
  go_wp2
  rw [← HRR.out]
  generalize w.alloc (.cells #[.int .i64 0, .int .i64 0, .string ⟨#[]⟩, .slice none 0 0] 26) = W0 at *
  have hr0 := (Array.getElem?_eq_some_iff.1 HBX.out).1
  go_loopw [4, 5] (fun v i wr => ∃ (k : Nat) (o : List UInt8), k ≤ s.size ∧ i = .int .i64 k ∧ o.length ≤ k ∧ Hid (wr.ownsRow W0.heap.size 5 1 v o.length (o.map u8C)) ∧ Hid (Below W0.heap.size W0 wr) ∧ Hid (V = finN (nameGo o ((bl s).drop k)))) (fun _ i _ => s.size - (intOf i).toNat)
  case atStart => exact ⟨0, [], by omega, rfl, by simp, Lib.hid (World.ownsRow_nil _ _ _ _), Lib.hid (Below.refl _ _), HV⟩
  case round =>
    obtain ⟨k, o, hk, rfl, hok, HO, HB, HG⟩ := hrel
    have HBR := Lib.hid (block_keep HB.out HBX.out)
    have HBW := Lib.hid (HB0.out.trans (HB.out.mono HB0.out.size))
    have hsz := HB.out.size
    by_cases hlt : k < s.size
    · have hx : (s[k].toNat : Int) = PlainAid.bt s k := hgb k hlt
      have hg := HG.out
      rw [HOK.out k hlt] at hg
      have HX := Lib.hid hx
      clear hx
      by_cases h35 : PlainAid.bt s k = 35
      · have h35d : (PlainAid.bt s k == 35) = true := by rw [beq_iff_eq]; exact h35
        rw [show s[k] = 35 from UInt8.toNat_inj.1 (Int.ofNat_inj.1 (HX.out.trans h35))] at hg
        clear h35
        by_cases h2 : s.size ≤ k + 2
        · have HNONE := Lib.hid (show V = none by rw [hg, nameGo_short _ _ (by rw [List.length_drop, bl_len]; omega)]; rfl)
          have h2d : decide ((s.size : Int) ≤ (k : Int) + 2) = true := by simp; omega
          clear hg
          obtain ⟨⟨k0, k1, k2, k3⟩, f0, f1, f2, f3⟩ := cells4 HBR.out
          go_wp2
          refine bodyPost_ret (results_val rfl _ _ r 26 _ (0, 0) _ rfl (set4 HBR.out _ _ _ _) Tryz.underlying26 rfl infoVal _ rfl) rfl ?_
          exact name_none HNONE.out (below_set4 HBW.out (by have := HRR.out; omega) _ _ _ _)
        · have h2d : decide ((s.size : Int) ≤ (k : Int) + 2) = false := by simp; omega
          have h1' : k + 1 < s.size := by omega
          have h2' : k + 2 < s.size := by omega
          rw [HOK.out (k + 1) h1', HOK.out (k + 1 + 1) h2', nameGo_hex, hexI_eq, hexI_eq, hgb (k + 1) h1', show ((s[k + 1 + 1].toNat : Nat) : Int) = PlainAid.bt s (k + 2) from hgb (k + 2) h2'] at hg
          have hA := hexI_bd (PlainAid.bt s (k + 1))
          have hB := hexI_bd (PlainAid.bt s (k + 2))
          have HCA := Lib.hid (fun W => hx_65 (PlainAid.bt s (k + 1)) W (PlainAid.bt_nonneg _ _) (PlainAid.bt_le _ _))
          have HCB := Lib.hid (fun W => hx_65 (PlainAid.bt s (k + 2)) W (PlainAid.bt_nonneg _ _) (PlainAid.bt_le _ _))
          generalize hexI (PlainAid.bt s (k + 1)) = A at *
          generalize hexI (PlainAid.bt s (k + 2)) = B at *
          by_cases hAn : A < 0
          · have HNONE := Lib.hid (show V = none by rw [hg, if_pos (.inl hAn)]; rfl)
            clear hg
            obtain ⟨⟨k0, k1, k2, k3⟩, f0, f1, f2, f3⟩ := cells4 HBR.out
            go_wp2_with fail
            refine (HCA.out _).mono ?_
            rintro e w9 ⟨rfl, rfl⟩
            go_wp2
            refine bodyPost_ret (results_val rfl _ _ r 26 _ (0, 0) _ rfl (set4 HBR.out _ _ _ _) Tryz.underlying26 rfl infoVal _ rfl) rfl ?_
            exact name_none HNONE.out (below_set4 HBW.out (by have := HRR.out; omega) _ _ _ _)
          · have hAd : decide (A < 0) = false := by simpa using hAn
            by_cases hBn : B < 0
            · have HNONE := Lib.hid (show V = none by rw [hg, if_pos (.inr hBn)]; rfl)
              clear hg hAn
              obtain ⟨⟨k0, k1, k2, k3⟩, f0, f1, f2, f3⟩ := cells4 HBR.out
              go_wp2_with fail
              refine (HCA.out _).mono ?_
              rintro e w9 ⟨rfl, rfl⟩
              go_wp2_with fail
              refine (HCB.out _).mono ?_
              rintro e w9 ⟨rfl, rfl⟩
              go_wp2
              refine bodyPost_ret (results_val rfl _ _ r 26 _ (0, 0) _ rfl (set4 HBR.out _ _ _ _) Tryz.underlying26 rfl infoVal _ rfl) rfl ?_
              exact name_none HNONE.out (below_set4 HBW.out (by have := HRR.out; omega) _ _ _ _)
            · have hBd : decide (B < 0) = false := by simpa using hBn
              rw [if_neg (by rintro (h | h) <;> contradiction)] at hg
              have HG2 := Lib.hid hg
              have HBY := Lib.hid (byte_of9 (16 * A + B) (by omega) (by omega))
              have hA0 : 0 ≤ A := by omega
              have hB0 : 0 ≤ B := by omega
              obtain ⟨hA1, hA2⟩ := hA
              obtain ⟨hB1, hB2⟩ := hB
              clear hg hAn hBn
              go_wp2_with fail
              refine (HCA.out _).mono ?_
              rintro e w9 ⟨rfl, rfl⟩
              go_wp2_with fail
              refine (HCB.out _).mono ?_
              rintro e w9 ⟨rfl, rfl⟩
              go_wp2
              go_quiet ((first | (go_at_call 65; with_reducible exact (HCA.out _).mono fun _ _ ⟨he, hm⟩ => ⟨he, _, hm.symm⟩) | (go_at_call 65; with_reducible exact (HCB.out _).mono fun _ _ ⟨he, hm⟩ => ⟨he, _, hm.symm⟩)))
              have HO9 := Lib.hid (ownsRow_keep HO.out (below_drewN (Below.refl _ _) nq))
              have HB9 := Lib.hid (below_drewN HB.out nq)
              have hsz9 := HB9.out.size
              generalize wr.drewN nq = w3 at *
              go_wp2_with (at_builtin; refine append_row EByte rfl (.tmp 55) (.tmp 57) rfl W0.heap.size _ o.length _ rfl (HO9.out.alloc _) _ 1 _ _ rfl (row_new1 _ _ _) (one_mem rfl) (by unfold maxLen; omega) (by omega) (by rw [sizeA]; omega) ?_; intro v' w5 hO5 hg5 hnil5; have HO5 := Lib.hid hO5; have HG5 := Lib.hid hg5; clear hO5 hg5 hnil5)
              go_roundw
              case rel =>
                refine ⟨k + 3, o ++ [UInt8.ofNat (16 * A + B).toNat], by omega, by go_num, by simp; omega, Lib.hid ?_, Lib.hid ?_, Lib.hid HG2.out⟩
                · have := HO5.out
                  rw [HBY.out] at this
                  simpa [u8C] using this
                · exact (HB9.out.alloc hsz9 _).grown HG5.out (by rw [sizeA]; omega) (fun q hq => (HO9.out.lt q hq).1)
              case measure => simp [intOf]; omega
      · have h35d : (PlainAid.bt s k == 35) = false := by rw [beq_eq_false_iff_ne]; exact h35
        rw [nameGo_byte _ _ _ (fun e => h35 (by rw [← HX.out, e]; rfl))] at hg
        have HG2 := Lib.hid hg
        clear hg h35
        go_wp2_with (at_builtin; refine append_row EByte rfl (.tmp 55) (.tmp 57) rfl W0.heap.size _ o.length _ rfl (HO.out.alloc _) _ 1 _ _ rfl (row_new1 _ _ _) (one_mem rfl) (by unfold maxLen; omega) (by omega) (by rw [sizeA]; omega) ?_; intro v' w5 hO5 hg5 hnil5; have HO5 := Lib.hid hO5; have HG5 := Lib.hid hg5; clear hO5 hg5 hnil5)
        go_roundw
        case rel =>
          refine ⟨k + 1, o ++ [s[k]], by omega, by go_num, by simp; omega, Lib.hid ?_, Lib.hid ?_, HG2⟩
          · have := HO5.out
            rw [← HX.out] at this
            simpa [u8C] using this
          · exact (HB.out.alloc (by omega) _).grown HG5.out (by rw [sizeA]; omega) (fun q hq => (HO.out.lt q hq).1)
        case measure => simp [intOf]; omega
    · obtain rfl : k = s.size := by omega
      have hg := HG.out
      rw [show (bl s).drop s.size = [] from by rw [← bl_len]; exact List.drop_length] at hg
      have hg2 : V = if 127 < o.length ∨ (0 : UInt8) ∈ o then none else some o := hg
      have HCV := Lib.hid (conv_own HO.out)
      have HIX := Lib.hid (bidx_any HO.out 0)
      have hix : decide (0 ≤ Lib.indexByte o 0) = decide ((0 : UInt8) ∈ o) := idx_mem o 0
      obtain ⟨a1, cap1, hv1, hrow, -⟩ := Row.of_owns HO.out
      have hlen := hrow.len1
      subst hv1
      rw [show (0 : Int).toNat.toUInt8 = 0 from rfl] at HIX
      clear hg hrow
      by_cases h127 : 127 < o.length
      · have HNONE := Lib.hid (show V = none by rw [hg2, if_pos (.inl h127)])
        have h127d : decide ((127 : Int) < o.length) = true := by simp; omega
        clear hg2 hix
        obtain ⟨⟨k0, k1, k2, k3⟩, f0, f1, f2, f3⟩ := cells4 HBR.out
        go_wp2
        refine bodyPost_ret (results_val rfl _ _ r 26 _ (0, 0) _ rfl (set4 HBR.out _ _ _ _) Tryz.underlying26 rfl infoVal _ rfl) rfl ?_
        exact name_none HNONE.out (below_set4 HBW.out (by have := HRR.out; omega) _ _ _ _)
      · have h127d : decide ((127 : Int) < o.length) = false := by simp; omega
        have h127e : decide (127 < o.length) = false := decide_eq_false h127
        obtain ⟨b, hb⟩ : ∃ b, decide ((0 : UInt8) ∈ o) = b := ⟨_, rfl⟩
        rw [hb] at hix
        have HBB := Lib.hid hb
        generalize Lib.indexByte o 0 = ix at *
        clear hb
        cases b
        · have hn0 : ¬ (0 : UInt8) ∈ o := of_decide_eq_false HBB.out
          have HS := Lib.hid (show V = some o by rw [hg2, if_neg (by rintro (h | h) <;> contradiction)])
          clear hg2 h127 hn0
          go_wp2_with fail
          refine HIX.out.mono ?_
          rintro e w9 ⟨rfl, rfl⟩
          have hcv := HCV.out
          obtain ⟨⟨k0, k1, k2, k3⟩, f0, f1, f2, f3⟩ := cells4 HBR.out
          go_wp2
          refine bodyPost_ret (results_val rfl _ _ r 26 _ (0, 0) _ rfl (set4 HBR.out _ _ _ _) Tryz.underlying26 rfl infoVal _ rfl) rfl ?_
          exact name_some HS.out (below_set4 HBW.out (by have := HRR.out; omega) _ _ _ _)
        · have HNONE := Lib.hid (show V = none by rw [hg2, if_pos (.inr (of_decide_eq_true HBB.out))])
          clear hg2 h127
          obtain ⟨⟨k0, k1, k2, k3⟩, f0, f1, f2, f3⟩ := cells4 HBR.out
          go_wp2_with fail
          refine HIX.out.mono ?_
          rintro e w9 ⟨rfl, rfl⟩
          go_wp2
          refine bodyPost_ret (results_val rfl _ _ r 26 _ (0, 0) _ rfl (set4 HBR.out _ _ _ _) Tryz.underlying26 rfl infoVal _ rfl) rfl ?_
          exact name_none HNONE.out (below_set4 HBW.out (by have := HRR.out; omega) _ _ _ _)
end Go.Proofs.YtnkodejgiabamaaGreat
