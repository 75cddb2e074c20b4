/-
  Walks of layer 5: a block by codes that has nothing but bytes.
-/
import Derived.Test.YtlmdgaajkjbpgaaInf7
import Derived.Test.YtlmdgaajkjbpgaaScope
import Derived.Deep.LoopGhost
namespace Go.Proofs.Ytlmdgaajkjbpgaa
open Go.RowKit Go.Sort

/-- A block whose symbols are bytes, up to its end or an error. -/
def litV (bs : List UInt8) (most : Nat) (l : List Int) : Nat → IS → Option IS
  | 0, _ => none
  | n + 1, s => if (symV5 bs l s).2.e ≠ 0 ∨ (symV5 bs l s).1 = 256 then some (symV5 bs l s).2 else if (symV5 bs l s).1 < 256 then litV bs most l n (putV5 most (UInt8.ofNat (symV5 bs l s).1) (symV5 bs l s).2) else none
theorem putV5_len (most : Nat) (c : UInt8) (s : IS) : (putV5 most c s).out.length ≤ s.out.length + 1 := by
  unfold putV5 failV
  split
  · split <;> simp
  · simp
theorem symV5_out (bs : List UInt8) (l : List Int) (s : IS) : (symV5 bs l s).2.out = s.out := by
  unfold symV5; split <;> rfl
def CodAt (w wr : World) (U Bl : Nat → Prop) (sb r p : Nat) (bs : List UInt8) (most : Nat) (l : List Int) (g : Nat) (s' : IS) : Prop :=
  ∃ U1 s1, IsSt wr U1 sb r bs most s1 ∧ Keeps U w wr ∧ (∀ b, U1 b → U b ∨ w.heap.size ≤ b) ∧ IsTb wr Bl p l ∧ litV bs most l g s1 = some s' ∧ s1.out.length + g ≤ 1000

set_option maxRecDepth 100000 in
def CodI (w : World) (U Bl : Nat → Prop) (sb r p : Nat) (pd : Value) (bs : List UInt8) (most : Nat) (l : List Int) (s' : IS) (g : Nat) (a : Act) (wr : World) : Prop :=
  ∃ (u3 u4 u5 u6 u7 u8 u9 u10 u11 u12 u13 u14 u15 u16 u17 u18 u19 u20 u21 u22 u23 u24 u25 u26 u27 u28 u29 u30 u31 u32 u33 u34 u35 u36 u37 u38 u39 u40 u41 u42 u43 u44 u45 u46 u47 u48 u49 u50 u51 u52 u53 u54 u55 u56 u57 u58 u59 u60 u61 u62 u63 u64 u65 u66 u67 u68 u69 u70 u71 u72 u73 u74 u75 u76 u77 u78 u79 u80 : Value), Hid (CodAt w wr U Bl sb r p bs most l g s') ∧ a = { tmps := #[.pointer (some ⟨sb, 0, none⟩), .pointer (some ⟨p, 0, none⟩), pd, u3, u4, u5, u6, u7, u8, u9, u10, u11, u12, u13, u14, u15, u16, u17, u18, u19, u20, u21, u22, u23, u24, u25, u26, u27, u28, u29, u30, u31, u32, u33, u34, u35, u36, u37, u38, u39, u40, u41, u42, u43, u44, u45, u46, u47, u48, u49, u50, u51, u52, u53, u54, u55, u56, u57, u58, u59, u60, u61, u62, u63, u64, u65, u66, u67, u68, u69, u70, u71, u72, u73, u74, u75, u76, u77, u78, u79, u80], defers := [] }

set_option maxRecDepth 100000 in
set_option maxHeartbeats 4000000 in
theorem coded_lit {w : World} {U Bl : Nat → Prop} {sb r p : Nat} {bs : List UInt8} {most : Nat} {s s' : IS} {l : List Int} (h : IsSt w U sb r bs most s) (hT : IsTb w Bl p l) (hBl : ∀ b, Bl b → b < w.heap.size ∧ ¬ U b) (g : Nat) (hg : s.out.length + g ≤ 1000) (hl : litV bs most l g s = some s') (pd : Value) :
    Calls Try.prog 32 #[.pointer (some ⟨sb, 0, none⟩), .pointer (some ⟨p, 0, none⟩), pd] w fun x w' => x = .returned (.tuple #[]) ∧ StNext w U sb r bs most s' w' := by
  have HC := Lib.hid (show CodAt w w U Bl sb r p bs most l g s' from ⟨U, s, h, Keeps.refl _ _, fun _ h => .inl h, hT, hl, hg⟩)
  have HBL := Lib.hid hBl
  have HR := Lib.hid h.own.2
  have HLT := Lib.hid (fun b (hb : U b) => h.blt hb)
  clear h hT hBl hl hg
  go_enter Try.func32, Try.ntmps32
  go_wp2_with fail
  refine wp_scope_ghost 0 (CodI w U Bl sb r p pd bs most l s') rfl ?first ?pass
  case first =>
    intro hpass
    have HPASS := Lib.hid hpass
    clear hpass
    go_wp2
    refine wp_label ?_
    rename_i K hK
    exact hK _ _ (HPASS.out _ _ _ ⟨_, _, _, _, _, _, _, _, _, _, _, _, _, _, _, _, _, _, _, _, _, _, _, _, _, _, _, _, _, _, _, _, _, _, _, _, _, _, _, _, _, _, _, _, _, _, _, _, _, _, _, _, _, _, _, _, _, _, _, _, _, _, _, _, _, _, _, _, _, _, _, _, _, _, _, _, _, _, HC, rfl⟩)
  case pass =>
    rintro m a w' ⟨u3, u4, u5, u6, u7, u8, u9, u10, u11, u12, u13, u14, u15, u16, u17, u18, u19, u20, u21, u22, u23, u24, u25, u26, u27, u28, u29, u30, u31, u32, u33, u34, u35, u36, u37, u38, u39, u40, u41, u42, u43, u44, u45, u46, u47, u48, u49, u50, u51, u52, u53, u54, u55, u56, u57, u58, u59, u60, u61, u62, u63, u64, u65, u66, u67, u68, u69, u70, u71, u72, u73, u74, u75, u76, u77, u78, u79, u80, HA, rfl⟩
    obtain ⟨U1, s1, h1, h2, h3, h4, h5, h6⟩ := HA.out
    cases m with
    | zero => cases h5
    | succ m =>
    unfold litV at h5
    have hds : ∀ b, Bl b → ¬ U1 b := fun b hb hu => (h3 b hu).elim (HBL.out b hb).2 (fun e => by have := (HBL.out b hb).1; omega)
    have hrl : ¬ Bl r := fun e => hds r e h1.own.2
    have hsy := ssym_any h1 h4 hrl (some ⟨p, 0, none⟩) (fun _ => rfl)
    have hout := symV5_out bs l s1
    obtain ⟨x, hx⟩ : ∃ x, x = (symV5 bs l s1).1 := ⟨_, rfl⟩
    obtain ⟨s2, hs2⟩ : ∃ s2, s2 = (symV5 bs l s1).2 := ⟨_, rfl⟩
    rw [← hx, ← hs2] at h5 hsy
    rw [← hs2] at hout
    have HSY := Lib.hid hsy
    have hol : s2.out.length + (m + 1) ≤ 1000 := by rw [hout]; exact h6
    have H1 := Lib.hid h1
    have H2 := Lib.hid h2
    have H3 := Lib.hid h3
    have H4 := Lib.hid h4
    have H5 := Lib.hid h5
    have HDS := Lib.hid hds
    clear hsy hx hs2 hout h1 h2 h3 h4 h5 h6 hds hrl HA HC
    go_wp2_with fail
    refine HSY.out.mono ?_
    rintro e w1 ⟨rfl, hs, hk⟩
    obtain ⟨c0, c1, c3, f1, f2⟩ := hs.cells
    have HS := Lib.hid hs
    have HK := Lib.hid hk
    clear hs hk
    by_cases he : s2.e = 0
    · rw [he] at c1
      by_cases h256 : x = 256
      · subst h256
        have h5 := H5.out
        rw [if_pos (.inr rfl)] at h5
        have HE := Lib.hid (Option.some.inj h5)
        clear h5
        go_wp2
        simp only [Exit.jump]
        refine bodyPost_ret (results_none rfl _ _ _) rfl ?_
        exact ⟨rfl, by rw [← HE.out]; exact StNext.trans H2.out H3.out (IsSt.next ⟨HS.out, HK.out⟩)⟩
      · by_cases hlt : x < 256
        · have h5 := H5.out
          rw [if_neg (fun h => h.elim (fun h => h he) h256), if_pos hlt] at h5
          have H55 := Lib.hid h5
          have hp := sput5_any HS.out (UInt8.ofNat x) (by omega)
          have hcx : (UInt8.ofNat x).toNat = x := by rw [UInt8.toNat_ofNat']; exact Nat.mod_eq_of_lt hlt
          rw [hcx] at hp
          have HPU := Lib.hid hp
          have hne : ((x : Int) == 256) = false := by rw [beq_eq_false_iff_ne]; omega
          have hd : decide ((x : Int) < 256) = true := decide_eq_true (by omega)
          have hd2 : decide (x < 256) = true := decide_eq_true hlt
          have hw : IntKind.u8.wrap (x : Int) = (x : Int) := by unfold IntKind.wrap; simp [IntKind.bits, IntKind.signed]; omega
          clear h5 hp hcx
          go_wp2_with fail
          refine HPU.out.mono ?_
          rintro e w2 ⟨rfl, U2, g1, g2, g3⟩
          have hlen := putV5_len most (UInt8.ofNat x) s2
          have hsz := HK.out.size
          have hsz2 := H2.out.size
          have HNX := Lib.hid (show CodAt w w2 U Bl sb r p bs most l m s' from ⟨U2, _, g1, (H2.out.trans HK.out H3.out).trans g2 (fun b hb => H3.out b hb), fun b hb => (g3 b hb).elim (H3.out b) (fun h => .inr (by omega)), (H4.out.keeps HK.out HDS.out).keeps g2 HDS.out, H55.out, by omega⟩)
          clear g1 g2 g3 hlen
          go_wp2
          go_step3
          exact ⟨rfl, m, Nat.lt_succ_self m, _, _, _, _, _, _, _, _, _, _, _, _, _, _, _, _, _, _, _, _, _, _, _, _, _, _, _, _, _, _, _, _, _, _, _, _, _, _, _, _, _, _, _, _, _, _, _, _, _, _, _, _, _, _, _, _, _, _, _, _, _, _, _, _, _, _, _, _, _, _, _, _, _, _, _, _, _, _, HNX, rfl⟩
        · have h5 := H5.out
          rw [if_neg (fun h => h.elim (fun h => h he) h256), if_neg hlt] at h5
          cases h5
    · have h5 := H5.out
      rw [if_pos (.inl he)] at h5
      have HE := Lib.hid (Option.some.inj h5)
      clear h5
      go_wp2
      simp only [Exit.jump]
      refine bodyPost_ret (results_none rfl _ _ _) rfl ?_
      exact ⟨rfl, by rw [← HE.out]; exact StNext.trans H2.out H3.out (IsSt.next ⟨HS.out, HK.out⟩)⟩
end Go.Proofs.Ytlmdgaajkjbpgaa
