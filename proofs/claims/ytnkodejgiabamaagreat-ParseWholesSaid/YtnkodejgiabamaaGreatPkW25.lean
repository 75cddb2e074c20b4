/-
  Our texts PsD to PsX, in one.
-/
import Derived.Test.YtnkodejgiabamaaGreatPkW24
import Derived.Deep.AppendLies
import Derived.Deep.RegionLaw
import Derived.KernelRfl
import Derived.Lib.SlBytesConst
/-
  The walk of parse.Value. (Printed by a program: see NOTES.)
-/
namespace Go.Proofs.YtnkodejgiabamaaGreat
open Go.RowKit

set_option maxRecDepth 100000 in
set_option maxHeartbeats 8000000 in
theorem value_any {w : World} {a : Option Addr} {cap : Nat} {bs : List UInt8} (hr : Row w 1 a bs.length cap (bs.map u8C)) (hn : bs.length ≤ 100000) (at0 : Int) (last : Bool) (V : PV × Int × Int) (hV : valO bs last (bs.length + 2) [] at0 = some V) :
    Calls Tryz.prog 12 #[.slice a bs.length cap, .int .i64 at0, .bool last] w (ValEnd w V) := by
  obtain ⟨r, hrr⟩ : ∃ r, r = w.heap.size := ⟨_, rfl⟩
  have hs0 : IsStk w ((w.alloc (.cells #[.int .i64 0, .int .i64 0, .string ⟨#[]⟩, .slice none 0 0] 26)).alloc (.cells #[.slice a bs.length cap, .int .i64 at0, .bool last, .slice none 0 0] 60)) (fun _ => False) (fun b => b = r) (r + 1) a cap bs last [] at0 [] (.slice none 0 0) :=
    ⟨heapA_new _ (by rw [sizeA, hrr]), by omega, by omega, World.ownsRow_nil _ _ _ _, fun b hb => (by cases hb), rfl, fun b hb => hb.elim, fun b hb => by rw [sizeA, sizeA]; omega, belowA2 w _ _, hr, hn, by simp⟩
  have HAT := Lib.hid (show VAt w ((w.alloc (.cells #[.int .i64 0, .int .i64 0, .string ⟨#[]⟩, .slice none 0 0] 26)).alloc (.cells #[.slice a bs.length cap, .int .i64 at0, .bool last, .slice none 0 0] 60)) (fun _ => False) r (r + 1) a cap bs last V (bs.length + 2) [] at0 from
    ⟨⟨_, _, hs0⟩, heapA_old _ (heapA_new _ hrr), hV, fun v hv => (by cases hv), .inl rfl⟩)
  have HRR := Lib.hid hrr
  clear hs0 hV hr hn hrr
  go_enter Tryz.func12, Tryz.ntmps12
  go_wp2
  refine wp_scope_ghost 0 (ValI w r (r + 1) a cap bs last at0 V) rfl ?first ?pass
  case first =>
    intro hpass
    have HPASS := Lib.hid hpass
    clear hpass
    go_wp2
    rw [← HRR.out]
    refine wp_label ?_
    rename_i K hK
    exact hK _ _ (HPASS.out _ _ _ ⟨_, [], at0, _, _, _, _, _, _, _, _, _, _, _, _, _, _, _, _, _, _, _, _, _, _, _, _, _, _, _, _, _, _, _, _, _, _, _, _, _, _, _, _, _, _, _, _, _, _, _, _, _, _, _, _, HAT, rfl⟩)
  case pass =>
    rintro n act W ⟨F, st, at_, u10, u11, u12, u13, u14, u15, u16, u17, u18, u19, u20, u21, u22, u23, u24, u25, u26, u27, u28, u29, u30, u31, u32, u33, u34, u35, u36, u37, u38, u39, u40, u41, u42, u43, u44, u45, u46, u47, u48, u49, u50, u51, u52, u53, u54, u55, u56, u57, u58, u59, u60, u61, HA, rfl⟩
    obtain ⟨p, hp⟩ : ∃ p, p = r + 1 := ⟨_, rfl⟩
    rw [← hp] at HA ⊢
    have HP := Lib.hid hp
    clear hp HAT
    obtain ⟨gs, osl, hs⟩ := HA.out.stk
    have HS := Lib.hid hs
    have HNX := Lib.hid (pnext_any hs)
    have HFU := Lib.hid HA.out.fuel
    have HRES := Lib.hid HA.out.res
    have hrl : r < W.heap.size := lt_of_heap HA.out.res
    have hpr : p ≠ r := hs.gp
    have HLEN := Lib.hid HA.out.len
    have HSM := Lib.hid HA.out.small
    have HRNG := Lib.hid HA.out.rng
    have HHR := Lib.hid (show w.heap.size ≤ r by rw [HRR.out]; exact Nat.le_refl _)
    have hfu := HFU.out
    cases n with
    | zero => cases hfu
    | succ n =>
    unfold valO at hfu
    simp only at hfu
    obtain ⟨T, hT⟩ : ∃ T, T = nextV bs at_ last := ⟨_, rfl⟩
    rw [← hT] at hfu HNX
    have HT := Lib.hid hT
    obtain ⟨x, tf, tt, er⟩ := T
    simp only at hfu HNX
    clear hs hT HFU HA
    by_cases her : er = 0
    case neg =>
      have hv := hfu
      rw [if_pos her] at hv
      have HV := Lib.hid (Option.some.inj hv).symm
      have e1 : (er == 0) = false := by rw [beq_eq_false_iff_ne]; exact her
      have e2 : (er != 0) = true := by simp only [bne, e1, Bool.not_false]
      clear hfu hv her
      unfold tokN at HNX
      go_wp2_with fail
      refine HNX.out.mono ?_
      rintro e w1 ⟨rfl, hs1, hk1⟩
      have HR1 := Lib.hid ((hk1.alloc (.cells (tokN x tf tt) 45)).obj HRES.out (Ne.symm hpr))
      have HB1 := Lib.hid (hs1.bel.alloc hs1.bel.size (.cells (tokN x tf tt) 45))
      unfold tokN at HR1 HB1
      obtain ⟨⟨k0, k1, k2, k3⟩, m0, m1, m2, m3⟩ := cells4 HR1.out
      clear hs1 hk1
      go_upto_region 3 with fail
      generalize w1.alloc _ = W2 at *
      go_wp2
      try simp only [Exit.jump]
      refine bodyPost_ret (results_val3 rfl _ _ r 26 _ (0, 0) _ rfl (by exact set4 HR1.out _ _ _ _) Tryz.underlying26 rfl (by exact infoPV) _ _ rfl rfl) rfl ?_
      rw [HV.out]
      exact ⟨.slice none 0 0, rfl, IsV.leaf _ _ _ rfl, below_set4 HB1.out HHR.out _ _ _ _⟩
    subst her
    have hv := hfu
    rw [if_neg (by simp)] at hv
    have hrng : 0 ≤ at_ ∧ at_ ≤ bs.length := by
      have h := HT.out
      by_cases ho : at_ < 0 ∨ (bs.length : Int) < at_
      · unfold nextV at h
        rw [if_pos ho] at h
        have h2 := congrArg (fun z : Tk × Int × Int × Int => z.2.2.2) h
        simp at h2
      · omega
    have hst := fun w1 (h1 : IsStk w w1 F (fun b => b = r) p a cap bs last st tt gs osl) => step_any h1 x tf tt HSM.out
    have HST := Lib.hid hst
    have hat := fun h => nextV_far (bs := bs) (k := at_) (last := last) hrng.1 hrng.2 (by rw [← HT.out]) h
    rw [← HT.out] at hat
    have hto := nextV_to (bs := bs) (k := at_) last hrng.1 hrng.2
    rw [← HT.out] at hto
    simp only at hat hto
    have hsa := stepV_at (bs := bs) (last := last) (k := tt) (by omega) hto.2 st x
    have hsk := fun h => stepV_kind (bs := bs) (last := last) (k := tt) (st := st) (t := x) h
    have hsl := stepV_len (bs := bs) (last := last) (st := st) (k := tt) (t := x) (N := at_) hrng.1 HLEN.out
    obtain ⟨R, hRR⟩ : ∃ R, R = stepV bs last st tt x := ⟨_, rfl⟩
    rw [← hRR] at hsa hsk hsl hv
    have HST2 := Lib.hid (show ∀ w1, IsStk w w1 F (fun b => b = r) p a cap bs last st tt gs osl → Calls Tryz.prog 22 #[.pointer (some ⟨p, 0, none⟩), .agg (tokN x tf tt)] w1 (PStep w w1 F (fun b => b = r) p a cap bs last R) from fun w1 h1 => by rw [hRR]; exact hst w1 h1)
    obtain ⟨o, st2, at2, er2⟩ := R
    simp only at hsa hsk hsl hv
    have HV := Lib.hid hv
    have HSL := Lib.hid hsl
    have HSA := Lib.hid hsa
    have HSK := Lib.hid (fun h => hat (hsk h))
    have HTO := Lib.hid hto
    have HR0 := Lib.hid hrng
    clear hst HST hat hto hsa hsk hsl hRR hv hfu hrng HT
    unfold tokN at HNX HST2
    go_wp2_with fail
    refine HNX.out.mono ?_
    rintro e w1 ⟨rfl, hs1, hk1⟩
    have HR1 := Lib.hid (hk1.obj HRES.out (Ne.symm hpr))
    have HS1 := Lib.hid hs1
    clear hs1 hk1 HNX
    go_wp2_with fail
    refine (HST2.out _ (HS1.out.alloc _)).mono ?_
    rintro e w3 ⟨F', sa, sn, sc, X, rfl, hX, hN⟩
    have HX := Lib.hid hX
    have HN := Lib.hid hN
    have HR3 := Lib.hid (stays_obj hN.sg (heapA_old (.cells #[.int .i64 x.kind, .int .i64 tf, .int .i64 tt, .int .i64 x.vk, .int .i64 x.vn, .string (mkB x.vs), .slice none 0 0, .string (mkB x.s)] 45) HR1.out) rfl)
    have HB3 := Lib.hid (show Below w.heap.size w w3 from (let ⟨_, _, h⟩ := hN.stk; h.bel))
    clear hX hN HST2 HS1 HR1
    unfold pvA
    by_cases her2 : er2 = 0
    case neg =>
      have hv := HV.out
      rw [if_pos her2] at hv
      have HVV := Lib.hid (Option.some.inj hv).symm
      have e1 : (er2 == 0) = false := by rw [beq_eq_false_iff_ne]; exact her2
      have e2 : (er2 != 0) = true := by simp only [bne, e1, Bool.not_false]
      clear hv her2
      simp only
      generalize o.isSome = io at *
      go_upto_region 6 with fail
      have HR4 := Lib.hid (heapA_old (.cells #[.int .i64 X.kind, .int .i64 X.n, .string (mkB X.s), .slice sa sn sc] 26) HR3.out)
      have HB4 := Lib.hid (HB3.out.alloc HB3.out.size (.cells #[.int .i64 X.kind, .int .i64 X.n, .string (mkB X.s), .slice sa sn sc] 26))
      generalize w3.alloc _ = W4 at *
      obtain ⟨⟨k0, k1, k2, k3⟩, m0, m1, m2, m3⟩ := cells4 HR4.out
      go_wp2
      refine bodyPost_ret (results_val3 rfl _ _ r 26 _ (0, 0) _ rfl (by exact set4 HR4.out _ _ _ _) Tryz.underlying26 rfl (by exact infoPV) _ _ rfl rfl) rfl ?_
      rw [HVV.out]
      exact ⟨.slice none 0 0, rfl, IsV.leaf _ _ _ rfl, below_set4 HB4.out HHR.out _ _ _ _⟩
    subst her2
    have hv := HV.out
    rw [if_neg (by simp)] at hv
    have hlt : at_ < tt := HSK.out rfl
    have hrng := HR0.out
    have hsa := HSA.out
    have hsl := HSL.out
    cases o with
    | none =>
      simp only at hv
      have HVA := Lib.hid (show ∀ o : Obj, VAt w (w3.alloc o) F' r p a cap bs last V n st2 at2 from fun o =>
        ⟨(let ⟨gs2, osl2, h⟩ := HN.out.stk; ⟨gs2, osl2, h.alloc o⟩), heapA_old o HR3.out, hv, fun v hv => by have := hsl v hv; omega, .inr ⟨by omega, hsa.2⟩⟩)
      clear hv hlt hsa hsl HN HX hrng
      simp only [Option.isSome_none]
      go_wp2
      go_step3
      exact ⟨rfl, n, Nat.lt_succ_self _, F', st2, at2, _, _, _, _, _, _, _, _, _, _, _, _, _, _, _, _, _, _, _, _, _, _, _, _, _, _, _, _, _, _, _, _, _, _, _, _, _, _, _, _, _, _, _, _, _, _, _, _, _, _, _, _, Lib.hid (HVA.out _), rfl⟩
    | some x0 =>
      simp only [Option.isSome_some]
      obtain ⟨rfl, hv0⟩ := HX.out x0 rfl
      have HV0 := Lib.hid hv0
      obtain ⟨gs2, osl2, hs2⟩ := HN.out.stk
      have HS2 := Lib.hid hs2
      simp only at hv
      go_upto_region 9 with fail
      obtain ⟨v4, hv4⟩ : ∃ v4, v4 = w3.heap.size := ⟨_, rfl⟩
      have hb4 := belowA w3 (.cells #[.int .i64 X.kind, .int .i64 X.n, .string (mkB X.s), .slice sa sn sc] 26)
      have hk4 := heapA_new (w := w3) (b := v4) (.cells #[.int .i64 X.kind, .int .i64 X.n, .string (mkB X.s), .slice sa sn sc] 26) hv4
      have HS4 := Lib.hid (hs2.mono hb4)
      have HG4 := Lib.hid (hs2.res (G' := fun b => b = r ∨ b = v4) hb4 (fun b hb => hb.imp id fun e => by rw [e, hv4, sizeA]; omega))
      have HV4 := Lib.hid (hv0.below hb4)
      have HR4 := Lib.hid (block_keep hb4 HR3.out)
      have HB4 := Lib.hid (HB3.out.trans (hb4.mono HB3.out.size))
      have HK4 := Lib.hid hk4
      have HV3 := Lib.hid hv4
      have hv4r : v4 ≠ r := by have := lt_of_heap HR3.out; omega
      have hv4p : v4 ≠ p := by have := hs2.lt; omega
      rw [← hv4]
      clear hv0 hs2 HX HN HS2 HV0 HR3 HB3 hb4 hk4
      generalize w3.alloc _ = W4 at *
      clear hv4
      have HTOP := Lib.hid (top_any HS4.out)
      go_wp2_with fail
      refine HTOP.out.mono ?_
      rintro e w5 ⟨rfl, q, rfl⟩
      have HS5 := Lib.hid (HS4.out.drewN q)
      have HG5 := Lib.hid (HG4.out.drewN q)
      have HV5 := Lib.hid (HV4.out.below (below_drewN (Below.refl _ _) q))
      have HR5 := Lib.hid (show (W4.drewN q).heap[r]? = _ from HR4.out)
      have HB5 := Lib.hid (below_drewN HB4.out q)
      have HK5 := Lib.hid (show (W4.drewN q).heap[v4]? = _ from HK4.out)
      clear HS4 HG4 HV4 HR4 HB4 HK4 HTOP
      generalize W4.drewN q = W5 at *
      obtain ⟨⟨k0, k1, k2, k3⟩, m0, m1, m2, m3⟩ := cells4 HR5.out
      obtain ⟨⟨d0, d1, d2, d3⟩, -⟩ := cells4 HK5.out
      cases st2 with
      | nil =>
        have hg : gs2 = [] := List.eq_nil_of_length_eq_zero (by rw [HS5.out.lvs.len]; rfl)
        subst hg
        have HVV := Lib.hid (Option.some.inj hv).symm
        obtain ⟨⟨c0, c1, c2, c3⟩, -⟩ := HS5.out.cells
        clear hv hlt hsa hsl hrng
        unfold topP
        go_wp2
        go_region
        all_goals
          go_wp2
          refine bodyPost_ret (results_val3 rfl _ _ r 26 _ (0, 0) _ rfl (by exact set4 HR5.out _ _ _ _) Tryz.underlying26 rfl (by exact infoPV) _ _ rfl rfl) rfl ?_
          rw [HVV.out]
          exact ⟨_, rfl, (IsV.setr HV5.out HS5.out _ _ _ _).drew, (below_set4 HB5.out HHR.out _ _ _ _).drew⟩
      | cons top rest =>
        obtain ⟨g, t, ta, tc, cs, rfl, ht1, ht2, hgB, hgG, hgl, hO, hVs, hown⟩ := HG5.out.lastL
        obtain ⟨tn, htn⟩ : ∃ tn, tn = top.l.length := ⟨_, rfl⟩
        rw [← htn] at ht1 hO hgl hown
        have htn2 : tn ≤ 100000 := by
          have h1 := hsl top List.mem_cons_self
          have h2 := HS5.out.small
          omega
        have hgc : W5.cell? ⟨g, 1, none⟩ = some (.slice ta tn tc) := by rw [cell_of_row W5 g 1 _ _ _ hgl]; rfl
        have hgf : W5.frozen? ⟨g, 1, none⟩ = false := frozen_of_row W5 g 1 _ _ hgl
        have hv4l : v4 < W5.heap.size := lt_of_heap HK5.out
        have hgll : g < W5.heap.size := lt_of_heap hgl
        have hgt : (Value.slice ta tn tc).ownBlock ≠ some g := fun e => by obtain ⟨ds, hc⟩ := owns_type hO e; exact type_ne hc hgl (by decide) rfl
        have hvt : (Value.slice ta tn tc).ownBlock ≠ some v4 := fun e => (hown v4 e).2 (.inr rfl)
        have HC0 : Hid (S5v W5 v4 (.int .i64 X.kind) (.int .i64 X.n) (.string (mkB X.s)) (.slice sa sn sc)) := Lib.hid ⟨d0, d1, d2, d3⟩
        have HO := Lib.hid hO
        have HGL := Lib.hid hgl
        have HVS := Lib.hid hVs
        have HTN := Lib.hid htn
        have HBA := Lib.hid (HS5.out.bel.size)
        have HGT := Lib.hid hgt
        have HVT := Lib.hid hvt
        have HVG := Lib.hid (show v4 ≠ g from fun e => hgG (.inr e.symm))
        clear k0 k1 k2 k3 m0 m1 m2 m3 hO hgl hVs htn hown
        unfold topP
        go_upto_region 11 with fail
        have i1 : (0 : Int) ≤ (tn : Int) := by omega
        have i2 : (tn : Int) ≤ 100000 := by omega
        have i3 : (tn : Int) < (tn : Int) + 1 := by omega
        have i4 : (tn : Int) < ((tn + 1 : Nat) : Int) := by omega
        have i5 : tn < tn + 1 := by omega
        have i6 : (tn : Int).toNat = tn := by omega
        obtain ⟨iB, hiB, hzB, hsB, hbB⟩ := info_parts EPV.info
        go_region_law (first | (refine step_append_lies _ (by rfl) _ _ _ (by rfl) w.heap.size 26 iB _ 4 56 EPV.und hiB hzB hsB hbB rfl (by omega) (.slice ta tn tc) tn cs (by rfl) ((HO.out.alloc _).drew) ⟨W5.heap.size, 0, none⟩ 1 1 [.int .i64 0, .int .i64 0, .string ⟨#[]⟩, .slice none 0 0] (by rfl) (by rfl) (World.news_of_block (cs := #[.int .i64 0, .int .i64 0, .string ⟨#[]⟩, .slice none 0 0]) (t := 26) (fr := (0, 0)) (heap_alloc_new W5 _)) (by simp [Value.oneCell']) (by omega) (by unfold maxLen; omega) (by omega) (by simp; have := HBA.out; omega) (W5.heap.size + 1) (by simp) ?_; intro g7 cap7 w7 hO7 hgrow hat hlt7; have HGV : Hid (g ≠ g7 ∧ v4 ≠ g7) := (by rcases hat with e | e; exact Lib.hid ⟨fun e2 => hgt (e2 ▸ e), fun e2 => hvt (e2 ▸ e)⟩; exact Lib.hid ⟨by omega, by omega⟩); have hs7 := (HC0.out.alloc (.cells #[.int .i64 0, .int .i64 0, .string ⟨#[]⟩, .slice none 0 0] 26)).drew.grown hgrow hvt; obtain ⟨s0, s1, s2, s3⟩ := hs7; obtain ⟨⟨z0, z1, z2, z3⟩, zf⟩ := owns_lastC hO7; have hgl7 := Lib.hid ((hgrow.block g (show g < (W5.alloc _).heap.size by rw [sizeA]; omega) (fun e => hgt e.symm)).trans (heapA_old (.cells #[.int .i64 0, .int .i64 0, .string ⟨#[]⟩, .slice none 0 0] 26) HGL.out)); have hgf7 := frozen_of_row w7 g 1 _ _ hgl7.out; have hgne : g ≠ g7 := HGV.out.1; have zf0 := zf (tn * 4); have zf1 := zf (tn * 4 + 1); have zf2 := zf (tn * 4 + 2); have zf3 := zf (tn * 4 + 3); have hc7 : w7.cell? ⟨g, 1, none⟩ = some (.slice ta tn tc) := (by rw [cell_of_row w7 g 1 _ _ _ hgl7.out]; rfl); have HG7 := Lib.hid hgrow; have HO7 := Lib.hid hO7; have HAT := Lib.hid hat; clear zf hgrow hO7 hat hlt7))
        all_goals
          first
            | rw [setCell_comm4 w7 hgne]
            | skip
          have HVA := Lib.hid (VAt.put HG5.out HR5.out HGL.out HVS.out HV5.out HTN.out HG7.out HO7.out HAT.out hv (fun v hv => by have := hsl v hv; omega) ⟨by omega, hsa.2⟩)
          clear hv hlt hsa hsl hrng HG5 HR5 HGL HVS HV5 HTN HG7 HO7 HAT HO
          go_wp2
          go_step3
          exact ⟨rfl, n, Nat.lt_succ_self _, F', _, at2, _, _, _, _, _, _, _, _, _, _, _, _, _, _, _, _, _, _, _, _, _, _, _, _, _, _, _, _, _, _, _, _, _, _, _, _, _, _, _, _, _, _, _, _, _, _, _, _, _, _, _, _, HVA, rfl⟩
end Go.Proofs.YtnkodejgiabamaaGreat
/-
  Whole walked, of the program and of the document. (Printed by genwhole.py.)
-/
namespace Go.Proofs.YtnkodejgiabamaaGreat
open Go.RowKit

/-- A value that is all. -/
def wholW (bs : List UInt8) : PV × Int :=
  if (wholeD bs true 0).2.2 ≠ 0 then (PV.none, (wholeD bs true 0).2.2) else if (nextV bs (wholeD bs true 0).2.1 true).2.2.2 ≠ 0 then (PV.none, (nextV bs (wholeD bs true 0).2.1 true).2.2.2)
  else if (nextV bs (wholeD bs true 0).2.1 true).1.kind ≠ 0 then (PV.none, 11) else ((wholeD bs true 0).1, 0)
def WhEnd (w : World) (R : PV × Int) (e : Ending) (w' : World) : Prop := ∃ sl, e = .returned (.tuple #[pvA R.1 sl, .int .i64 R.2]) ∧ IsV w' anyF R.1 sl ∧ Below w.heap.size w w'
theorem whleaf {w W : World} {e : Int} (hb : Below w.heap.size w W) : WhEnd w (PV.none, e) (.returned (.tuple #[pvA PV.none (.slice none 0 0), .int .i64 e])) W := ⟨_, rfl, IsV.leaf _ _ _ rfl, hb⟩
/-- Values lie beside the block that is written. -/
theorem IsV.beside {W : World} {X : PV} {sl : Value} {Q B : Nat} (h : IsV W (fun b => Q ≤ b) X sl) (hB : B < Q) (y0 y1 y2 y3 : Value) :
    IsV ((((W.setCell ⟨B, 0, none⟩ y0).setCell ⟨B, 1, none⟩ y1).setCell ⟨B, 2, none⟩ y2).setCell ⟨B, 3, none⟩ y3) anyF X sl :=
  IsV.keep (F := fun b => Q ≤ b) ⟨by rw [set4_size]; exact Nat.le_refl _, fun b _ hb => set4_other (by omega) _ _ _ _⟩ (fun _ _ => trivial) _ h

set_option maxRecDepth 8000 in
set_option maxHeartbeats 4000000 in
theorem rwhole_any {w : World} {a : Option Addr} {cap : Nat} {bs : List UInt8} (hr : Row w 1 a bs.length cap (bs.map u8C)) (hn : bs.length ≤ 99999) :
    Calls Tryz.prog 6 #[.slice a bs.length cap] w (WhEnd w (wholW bs)) := by
  have HV := Lib.hid (fun (W : World) (h : Below w.heap.size w W) => show Calls Tryz.prog 14 #[.slice a bs.length cap, .int .i64 0, .bool true] W (DocEnd W (wholeD bs true 0)) from rvalue_any (hr.mono h) hn true 0)
  have HN := Lib.hid (fun (W : World) (h : Below w.heap.size w W) => rnext_any (hr.mono h) (by omega) (wholeD bs true 0).2.1 true)
  obtain ⟨R, hR⟩ : ∃ R, R = wholW bs := ⟨_, rfl⟩
  rw [← hR]
  unfold wholW at hR
  generalize nextV bs (wholeD bs true 0).2.1 true = V at *
  obtain ⟨V1, hV1⟩ : ∃ V1, V1 = wholeD bs true 0 := ⟨_, rfl⟩
  rw [← hV1] at HV HN hR
  clear hV1
  obtain ⟨X, n, ev⟩ := V1
  obtain ⟨x, f, t, er⟩ := V
  simp only at hR HN
  unfold NextEnd tokN at HN
  simp only at HN
  have HR := Lib.hid hR
  clear hr hR
  generalize x.kind = xk at *
  generalize x.vk = xvk at *
  generalize x.vn = xvn at *
  generalize mkB x.vs = xvb at *
  generalize mkB x.s = xb at *
  generalize bs.length = L at *
  go_enter Tryz.func6, Tryz.ntmps6
  obtain ⟨B, hB⟩ : ∃ B, B = w.heap.size := ⟨_, rfl⟩
  have HZ := Lib.hid (heapA_new (w := w) (b := B) (.cells #[.int .i64 0, .int .i64 0, .string ⟨#[]⟩, .slice none 0 0] 26) hB)
  have HBW := Lib.hid (belowA w (.cells #[.int .i64 0, .int .i64 0, .string ⟨#[]⟩, .slice none 0 0] 26))
  have HBB := Lib.hid (Nat.le_of_eq hB.symm)
  go_upto_region 1 with fail
  rw [← hB]
  clear hB
  generalize w.alloc _ = W1 at *
  go_wp2_with fail
  refine (HV.out _ HBW.out).mono ?_
  rintro e w2 h2
  obtain ⟨sl, rfl, hx2, hb2⟩ := h2
  obtain ⟨sa, sc, rfl, -, -, -⟩ := hx2.len
  simp only [pvA]
  have hb2a := hb2.alloc hb2.size (.cells #[.int .i64 X.kind, .int .i64 X.n, .string (mkB X.s), .slice sa X.l.length sc] 26)
  have HT2 := Lib.hid (heapA_new (w := w2) (b := w2.heap.size) (.cells #[.int .i64 X.kind, .int .i64 X.n, .string (mkB X.s), .slice sa X.l.length sc] 26) rfl)
  have HX2 := Lib.hid (hx2.below (belowA w2 (.cells #[.int .i64 X.kind, .int .i64 X.n, .string (mkB X.s), .slice sa X.l.length sc] 26)))
  have HZ2 := Lib.hid (block_keep hb2a HZ.out)
  have HB2 := Lib.hid (HBW.out.trans (hb2a.mono HBW.out.size))
  have HBQ := Lib.hid (lt_of_heap HZ.out)
  clear hb2 hb2a hx2 HV HZ
  go_upto_region 2 with fail
  obtain ⟨r2, hr2⟩ : ∃ r2, r2 = w2.heap.size := ⟨_, rfl⟩
  rw [← hr2] at HT2 ⊢
  clear hr2
  generalize w2.alloc _ = W2 at *
  obtain ⟨⟨t0, t1, t2, t3⟩, -⟩ := cells4 HT2.out
  obtain ⟨⟨r0, r1, r2', r3⟩, rf0, rf1, rf2, rf3⟩ := cells4 HZ2.out
  have hR := HR.out
  by_cases hev : ev = 0
  case neg =>
    have e0 : (ev == 0) = false := by rw [beq_eq_false_iff_ne]; exact hev
    have e1 : (ev != 0) = true := by simp only [bne, e0, Bool.not_false]
    rw [if_pos hev] at hR
    subst hR
    clear HR HN hev HX2
    go_wp2
    refine bodyPost_ret (results_val rfl _ _ B 26 _ (0, 0) _ rfl (by exact set4 HZ2.out _ _ _ _) Tryz.underlying26 rfl (by exact infoPV) _ rfl) rfl ?_
    exact whleaf (below_set4 HB2.out HBB.out _ _ _ _)
  subst hev
  rw [if_neg (by simp)] at hR
  clear HR
  have HR := Lib.hid hR
  clear hR
  go_wp2_with fail
  refine (HN.out _ HB2.out).mono ?_
  rintro e w3 ⟨rfl, hb3⟩
  have hb3a := hb3.alloc hb3.size (.cells #[.int .i64 xk, .int .i64 f, .int .i64 t, .int .i64 xvk, .int .i64 xvn, .string xvb, .slice none 0 0, .string xb] 50)
  have HK3 := Lib.hid (heapA_new (w := w3) (b := w3.heap.size) (.cells #[.int .i64 xk, .int .i64 f, .int .i64 t, .int .i64 xvk, .int .i64 xvn, .string xvb, .slice none 0 0, .string xb] 50) rfl)
  have HZ3 := Lib.hid (block_keep hb3a HZ2.out)
  have HT3 := Lib.hid (block_keep hb3a HT2.out)
  have HX3 := Lib.hid (HX2.out.below hb3a)
  have HB3 := Lib.hid (HB2.out.trans (hb3a.mono HB2.out.size))
  clear hb3 hb3a HN HZ2 HT2 HX2 HB2 t0 t1 t2 t3 r0 r1 r2' r3 rf0 rf1 rf2 rf3
  go_upto_region 5 with fail
  obtain ⟨q3, hq3⟩ : ∃ q3, q3 = w3.heap.size := ⟨_, rfl⟩
  rw [← hq3] at HK3 ⊢
  clear hq3
  generalize w3.alloc _ = W3 at *
  obtain ⟨⟨t0, t1, t2, t3⟩, -⟩ := cells4 HT3.out
  obtain ⟨⟨k0, k1, k2, k3, k4, k5, k6, k7⟩, -⟩ := cells8 HK3.out
  obtain ⟨⟨r0, r1, r2', r3⟩, rf0, rf1, rf2, rf3⟩ := cells4 HZ3.out
  have hR := HR.out
  by_cases her : er = 0
  case neg =>
    have e0 : (er == 0) = false := by rw [beq_eq_false_iff_ne]; exact her
    have e1 : (er != 0) = true := by simp only [bne, e0, Bool.not_false]
    rw [if_pos her] at hR
    subst hR
    clear HR her HX3
    go_wp2
    refine bodyPost_ret (results_val rfl _ _ B 26 _ (0, 0) _ rfl (by exact set4 HZ3.out _ _ _ _) Tryz.underlying26 rfl (by exact infoPV) _ rfl) rfl ?_
    exact whleaf (below_set4 HB3.out HBB.out _ _ _ _)
  subst her
  rw [if_neg (by simp)] at hR
  by_cases hk : xk = 0
  case neg =>
    have e0 : (xk == 0) = false := by rw [beq_eq_false_iff_ne]; exact hk
    have e1 : (xk != 0) = true := by simp only [bne, e0, Bool.not_false]
    rw [if_pos hk] at hR
    subst hR
    clear HR hk HX3
    go_wp2
    refine bodyPost_ret (results_val rfl _ _ B 26 _ (0, 0) _ rfl (by exact set4 HZ3.out _ _ _ _) Tryz.underlying26 rfl (by exact infoPV) _ rfl) rfl ?_
    exact whleaf (below_set4 HB3.out HBB.out _ _ _ _)
  subst hk
  rw [if_neg (by simp)] at hR
  subst hR
  clear HR
  go_wp2
  refine bodyPost_ret (results_val rfl _ _ B 26 _ (0, 0) _ rfl (by exact set4 HZ3.out _ _ _ _) Tryz.underlying26 rfl (by exact infoPV) _ rfl) rfl ?_
  exact ⟨_, rfl, HX3.out.beside HBQ.out _ _ _ _, below_set4 HB3.out HBB.out _ _ _ _⟩

set_option maxRecDepth 8000 in
set_option maxHeartbeats 4000000 in
theorem pwhole_any {w : World} {a : Option Addr} {cap : Nat} {bs : List UInt8} (hr : Row w 1 a bs.length cap (bs.map u8C)) (hn : bs.length ≤ 99999) :
    Calls Tryz.prog 5 #[.slice a bs.length cap] w (WhEnd w (wholW bs)) := by
  have HV := Lib.hid (fun (W : World) (h : Below w.heap.size w W) => show Calls Tryz.prog 12 #[.slice a bs.length cap, .int .i64 0, .bool true] W (DocEnd W (wholeD bs true 0)) from value_any (hr.mono h) (by omega) 0 true _ (parse_doc (by omega) (by omega)))
  have HN := Lib.hid (fun (W : World) (h : Below w.heap.size w W) => next_any (hr.mono h) (by omega) (wholeD bs true 0).2.1 true)
  obtain ⟨R, hR⟩ : ∃ R, R = wholW bs := ⟨_, rfl⟩
  rw [← hR]
  unfold wholW at hR
  generalize nextV bs (wholeD bs true 0).2.1 true = V at *
  obtain ⟨V1, hV1⟩ : ∃ V1, V1 = wholeD bs true 0 := ⟨_, rfl⟩
  rw [← hV1] at HV HN hR
  clear hV1
  obtain ⟨X, n, ev⟩ := V1
  obtain ⟨x, f, t, er⟩ := V
  simp only at hR HN
  unfold NextEnd tokN at HN
  simp only at HN
  have HR := Lib.hid hR
  clear hr hR
  generalize x.kind = xk at *
  generalize x.vk = xvk at *
  generalize x.vn = xvn at *
  generalize mkB x.vs = xvb at *
  generalize mkB x.s = xb at *
  generalize bs.length = L at *
  go_enter Tryz.func5, Tryz.ntmps5
  obtain ⟨B, hB⟩ : ∃ B, B = w.heap.size := ⟨_, rfl⟩
  have HZ := Lib.hid (heapA_new (w := w) (b := B) (.cells #[.int .i64 0, .int .i64 0, .string ⟨#[]⟩, .slice none 0 0] 26) hB)
  have HBW := Lib.hid (belowA w (.cells #[.int .i64 0, .int .i64 0, .string ⟨#[]⟩, .slice none 0 0] 26))
  have HBB := Lib.hid (Nat.le_of_eq hB.symm)
  go_upto_region 1 with fail
  rw [← hB]
  clear hB
  generalize w.alloc _ = W1 at *
  go_wp2_with fail
  refine (HV.out _ HBW.out).mono ?_
  rintro e w2 h2
  obtain ⟨sl, rfl, hx2, hb2⟩ := h2
  obtain ⟨sa, sc, rfl, -, -, -⟩ := hx2.len
  simp only [pvA]
  have hb2a := hb2.alloc hb2.size (.cells #[.int .i64 X.kind, .int .i64 X.n, .string (mkB X.s), .slice sa X.l.length sc] 26)
  have HT2 := Lib.hid (heapA_new (w := w2) (b := w2.heap.size) (.cells #[.int .i64 X.kind, .int .i64 X.n, .string (mkB X.s), .slice sa X.l.length sc] 26) rfl)
  have HX2 := Lib.hid (hx2.below (belowA w2 (.cells #[.int .i64 X.kind, .int .i64 X.n, .string (mkB X.s), .slice sa X.l.length sc] 26)))
  have HZ2 := Lib.hid (block_keep hb2a HZ.out)
  have HB2 := Lib.hid (HBW.out.trans (hb2a.mono HBW.out.size))
  have HBQ := Lib.hid (lt_of_heap HZ.out)
  clear hb2 hb2a hx2 HV HZ
  go_upto_region 2 with fail
  obtain ⟨r2, hr2⟩ : ∃ r2, r2 = w2.heap.size := ⟨_, rfl⟩
  rw [← hr2] at HT2 ⊢
  clear hr2
  generalize w2.alloc _ = W2 at *
  obtain ⟨⟨t0, t1, t2, t3⟩, -⟩ := cells4 HT2.out
  obtain ⟨⟨r0, r1, r2', r3⟩, rf0, rf1, rf2, rf3⟩ := cells4 HZ2.out
  have hR := HR.out
  by_cases hev : ev = 0
  case neg =>
    have e0 : (ev == 0) = false := by rw [beq_eq_false_iff_ne]; exact hev
    have e1 : (ev != 0) = true := by simp only [bne, e0, Bool.not_false]
    rw [if_pos hev] at hR
    subst hR
    clear HR HN hev HX2
    go_wp2
    refine bodyPost_ret (results_val rfl _ _ B 26 _ (0, 0) _ rfl (by exact set4 HZ2.out _ _ _ _) Tryz.underlying26 rfl (by exact infoPV) _ rfl) rfl ?_
    exact whleaf (below_set4 HB2.out HBB.out _ _ _ _)
  subst hev
  rw [if_neg (by simp)] at hR
  clear HR
  have HR := Lib.hid hR
  clear hR
  go_wp2_with fail
  refine (HN.out _ HB2.out).mono ?_
  rintro e w3 ⟨rfl, hb3⟩
  have hb3a := hb3.alloc hb3.size (.cells #[.int .i64 xk, .int .i64 f, .int .i64 t, .int .i64 xvk, .int .i64 xvn, .string xvb, .slice none 0 0, .string xb] 45)
  have HK3 := Lib.hid (heapA_new (w := w3) (b := w3.heap.size) (.cells #[.int .i64 xk, .int .i64 f, .int .i64 t, .int .i64 xvk, .int .i64 xvn, .string xvb, .slice none 0 0, .string xb] 45) rfl)
  have HZ3 := Lib.hid (block_keep hb3a HZ2.out)
  have HT3 := Lib.hid (block_keep hb3a HT2.out)
  have HX3 := Lib.hid (HX2.out.below hb3a)
  have HB3 := Lib.hid (HB2.out.trans (hb3a.mono HB2.out.size))
  clear hb3 hb3a HN HZ2 HT2 HX2 HB2 t0 t1 t2 t3 r0 r1 r2' r3 rf0 rf1 rf2 rf3
  go_upto_region 5 with fail
  obtain ⟨q3, hq3⟩ : ∃ q3, q3 = w3.heap.size := ⟨_, rfl⟩
  rw [← hq3] at HK3 ⊢
  clear hq3
  generalize w3.alloc _ = W3 at *
  obtain ⟨⟨t0, t1, t2, t3⟩, -⟩ := cells4 HT3.out
  obtain ⟨⟨k0, k1, k2, k3, k4, k5, k6, k7⟩, -⟩ := cells8 HK3.out
  obtain ⟨⟨r0, r1, r2', r3⟩, rf0, rf1, rf2, rf3⟩ := cells4 HZ3.out
  have hR := HR.out
  by_cases her : er = 0
  case neg =>
    have e0 : (er == 0) = false := by rw [beq_eq_false_iff_ne]; exact her
    have e1 : (er != 0) = true := by simp only [bne, e0, Bool.not_false]
    rw [if_pos her] at hR
    subst hR
    clear HR her HX3
    go_wp2
    refine bodyPost_ret (results_val rfl _ _ B 26 _ (0, 0) _ rfl (by exact set4 HZ3.out _ _ _ _) Tryz.underlying26 rfl (by exact infoPV) _ rfl) rfl ?_
    exact whleaf (below_set4 HB3.out HBB.out _ _ _ _)
  subst her
  rw [if_neg (by simp)] at hR
  by_cases hk : xk = 0
  case neg =>
    have e0 : (xk == 0) = false := by rw [beq_eq_false_iff_ne]; exact hk
    have e1 : (xk != 0) = true := by simp only [bne, e0, Bool.not_false]
    rw [if_pos hk] at hR
    subst hR
    clear HR hk HX3
    go_wp2
    refine bodyPost_ret (results_val rfl _ _ B 26 _ (0, 0) _ rfl (by exact set4 HZ3.out _ _ _ _) Tryz.underlying26 rfl (by exact infoPV) _ rfl) rfl ?_
    exact whleaf (below_set4 HB3.out HBB.out _ _ _ _)
  subst hk
  rw [if_neg (by simp)] at hR
  subst hR
  clear HR
  go_wp2
  refine bodyPost_ret (results_val rfl _ _ B 26 _ (0, 0) _ rfl (by exact set4 HZ3.out _ _ _ _) Tryz.underlying26 rfl (by exact infoPV) _ rfl) rfl ?_
  exact ⟨_, rfl, HX3.out.beside HBQ.out _ _ _ _, below_set4 HB3.out HBB.out _ _ _ _⟩
end Go.Proofs.YtnkodejgiabamaaGreat
/-
  Number and Word walked, of the program and of the document. (Printed by gennum12.py.)
-/
namespace Go.Proofs.YtnkodejgiabamaaGreat
open Go.RowKit

/-- The token, if it is of a kind. -/
def oneW (p : Tk → Bool) (V : Tk × Int × Int × Int) : Tk × Int × Int × Int :=
  if V.2.2.2 ≠ 0 then ({ kind := 0 }, 0, 0, V.2.2.2) else if V.1.kind = 0 then ({ kind := 0 }, 0, 0, 10) else if p V.1 = false then ({ kind := 0 }, 0, 0, 11) else (V.1, V.2.1, V.2.2.1, 0)
def wordT (s : List UInt8) (t : Tk) : Bool := t.kind == 6 && t.s == s
/-- What Number leaves. -/
def NumEnd12 (w : World) (V : Tk × Int × Int × Int) (e : Ending) (w' : World) : Prop := e = .returned (.tuple #[.int .i64 V.1.vn, .int .i64 V.2.2.1, .int .i64 V.2.2.2]) ∧ Below w.heap.size w w'
def WordEnd12 (w : World) (V : Tk × Int × Int × Int) (e : Ending) (w' : World) : Prop := e = .returned (.tuple #[.int .i64 V.2.2.1, .int .i64 V.2.2.2]) ∧ Below w.heap.size w w'
/-- What one leaves. -/
def OneEnd (w : World) (V : Tk × Int × Int × Int) (e : Ending) (w' : World) : Prop := e = .returned (.tuple #[.agg (tokN V.1 V.2.1 V.2.2.1), .int .i64 V.2.2.2]) ∧ Below w.heap.size w w'

set_option maxRecDepth 8000 in
set_option maxHeartbeats 4000000 in
theorem rnumber_any {w : World} {a : Option Addr} {cap : Nat} {bs : List UInt8} (hr : Row w 1 a bs.length cap (bs.map u8C)) (hn : bs.length ≤ 100000) (k : Int) (last : Bool) :
    Calls Tryz.prog 8 #[.slice a bs.length cap, .int .i64 k, .bool last] w (NumEnd12 w (oneW wholeV (nextV bs k last))) := by
  have HN := Lib.hid (rnext_any hr hn k last)
  obtain ⟨R, hR⟩ : ∃ R, R = oneW wholeV (nextV bs k last) := ⟨_, rfl⟩
  rw [← hR]
  unfold oneW at hR
  generalize nextV bs k last = V at *
  obtain ⟨x, f, t, er⟩ := V
  have HWH := Lib.hid (fun W => rwhole_tk x f t W)
  unfold tokN at HWH
  simp only at hR
  unfold NextEnd tokN at HN
  simp only at HN
  have HR := Lib.hid hR
  clear hr hR hn
  generalize hwx : wholeV x = xw at *
  clear hwx
  generalize x.kind = xk at *
  generalize x.vk = xvk at *
  obtain ⟨xvn, hxvn⟩ : ∃ n, n = x.vn := ⟨_, rfl⟩
  rw [← hxvn] at HN HWH
  have HXN := Lib.hid hxvn
  clear hxvn
  generalize mkB x.vs = xvb at *
  generalize mkB x.s = xb at *
  generalize bs.length = L at *
  go_enter Tryz.func8, Tryz.ntmps8
  go_wp2_with fail
  refine HN.out.mono ?_
  rintro e w2 ⟨rfl, hb2⟩
  have HB2 := Lib.hid (hb2.alloc hb2.size (.cells #[.int .i64 xk, .int .i64 f, .int .i64 t, .int .i64 xvk, .int .i64 xvn, .string xvb, .slice none 0 0, .string xb] 50))
  have HT2 := Lib.hid (heapA_new (w := w2) (b := w2.heap.size) (.cells #[.int .i64 xk, .int .i64 f, .int .i64 t, .int .i64 xvk, .int .i64 xvn, .string xvb, .slice none 0 0, .string xb] 50) rfl)
  clear hb2 HN
  go_upto_region 2 with fail
  obtain ⟨r2, hr2⟩ : ∃ r2, r2 = w2.heap.size := ⟨_, rfl⟩
  rw [← hr2] at HT2 ⊢
  clear hr2
  generalize w2.alloc _ = W2 at *
  obtain ⟨⟨t0, t1, t2, t3, t4, t5, t6, t7⟩, -⟩ := cells8 HT2.out
  have hR := HR.out
  by_cases her : er = 0
  case neg =>
    have e0 : (er == 0) = false := by rw [beq_eq_false_iff_ne]; exact her
    have e1 : (er != 0) = true := by simp only [bne, e0, Bool.not_false]
    rw [if_pos her] at hR
    subst hR
    clear HR her
    go_wp2
    go_ret3
    exact ⟨rfl, HB2.out⟩
  subst her
  rw [if_neg (by simp)] at hR
  by_cases hk : xk = 0
  · have e0 : (xk == 0) = true := by rw [hk]; rfl
    rw [if_pos hk] at hR
    subst hR
    clear HR hk
    go_wp2
    go_ret3
    exact ⟨rfl, HB2.out⟩
  have e0 : (xk == 0) = false := by rw [beq_eq_false_iff_ne]; exact hk
  rw [if_neg hk] at hR
  clear HR hk
  have HR := Lib.hid hR
  clear hR
  go_wp2_with fail
  refine (HWH.out _).mono ?_
  rintro e w3 ⟨rfl, hb3⟩
  have HB3 := Lib.hid (HB2.out.trans (hb3.mono HB2.out.size))
  have HT3 := Lib.hid (block_keep hb3 HT2.out)
  clear hb3 t0 t1 t2 t3 t4 t5 t6 t7
  obtain ⟨⟨t0, t1, t2, t3, t4, t5, t6, t7⟩, -⟩ := cells8 HT3.out
  cases xw with
  | false =>
    have hR := HR.out
    rw [if_pos rfl] at hR
    subst hR
    clear HR
    go_wp2
    go_ret3
    exact ⟨rfl, HB3.out⟩
  | true =>
    have hR := HR.out
    rw [if_neg (by decide)] at hR
    have HR2 := Lib.hid hR
    clear HR hR
    go_wp2
    go_quiet (fail)
    go_wp2
    go_ret3
    rw [HR2.out]
    exact ⟨by rw [HXN.out]; rfl, below_drewN HB3.out _⟩

set_option maxRecDepth 8000 in
set_option maxHeartbeats 4000000 in
theorem rword_any {w : World} {a : Option Addr} {cap : Nat} {bs : List UInt8} (hr : Row w 1 a bs.length cap (bs.map u8C)) (hn : bs.length ≤ 100000) (k : Int) (last : Bool) (s : List UInt8) :
    Calls Tryz.prog 11 #[.slice a bs.length cap, .int .i64 k, .bool last, .string (mkB s)] w (WordEnd12 w (oneW (wordT s) (nextV bs k last))) := by
  have HN := Lib.hid (rnext_any hr hn k last)
  obtain ⟨R, hR⟩ : ∃ R, R = oneW (wordT s) (nextV bs k last) := ⟨_, rfl⟩
  rw [← hR]
  unfold oneW at hR
  generalize nextV bs k last = V at *
  obtain ⟨x, f, t, er⟩ := V
  have HQ := Lib.hid (show ((mkB x.s).toList == (mkB s).toList) = decide (x.s = s) by rw [toList_mkB s]; exact eq_mkB x.s s)
  simp only at hR
  unfold NextEnd tokN at HN
  simp only at HN
  have HR := Lib.hid hR
  clear hr hR hn
  generalize hxs : x.s = xs at *
  generalize hxw : wordT s x = xw at *
  have HXW := Lib.hid (show xw = (x.kind == 6 && xs == s) by rw [← hxw, ← hxs]; rfl)
  clear hxs hxw
  generalize x.kind = xk at *
  generalize x.vk = xvk at *
  generalize x.vn = xvn at *
  generalize mkB x.vs = xvb at *
  generalize mkB xs = xb at *
  generalize mkB s = sb at *
  generalize bs.length = L at *
  go_enter Tryz.func11, Tryz.ntmps11
  go_wp2_with fail
  refine HN.out.mono ?_
  rintro e w2 ⟨rfl, hb2⟩
  have HB2 := Lib.hid (hb2.alloc hb2.size (.cells #[.int .i64 xk, .int .i64 f, .int .i64 t, .int .i64 xvk, .int .i64 xvn, .string xvb, .slice none 0 0, .string xb] 50))
  have HT2 := Lib.hid (heapA_new (w := w2) (b := w2.heap.size) (.cells #[.int .i64 xk, .int .i64 f, .int .i64 t, .int .i64 xvk, .int .i64 xvn, .string xvb, .slice none 0 0, .string xb] 50) rfl)
  clear hb2 HN
  go_upto_region 2 with fail
  obtain ⟨r2, hr2⟩ : ∃ r2, r2 = w2.heap.size := ⟨_, rfl⟩
  rw [← hr2] at HT2 ⊢
  clear hr2
  generalize w2.alloc _ = W2 at *
  obtain ⟨⟨t0, t1, t2, t3, t4, t5, t6, t7⟩, -⟩ := cells8 HT2.out
  have hR := HR.out
  by_cases her : er = 0
  case neg =>
    have e0 : (er == 0) = false := by rw [beq_eq_false_iff_ne]; exact her
    have e1 : (er != 0) = true := by simp only [bne, e0, Bool.not_false]
    rw [if_pos her] at hR
    subst hR
    clear HR her
    go_wp2
    go_ret2
    exact ⟨rfl, HB2.out⟩
  subst her
  rw [if_neg (by simp)] at hR
  by_cases hk : xk = 0
  · have e0 : (xk == 0) = true := by rw [hk]; rfl
    rw [if_pos hk] at hR
    subst hR
    clear HR hk
    go_wp2
    go_ret2
    exact ⟨rfl, HB2.out⟩
  have e0 : (xk == 0) = false := by rw [beq_eq_false_iff_ne]; exact hk
  rw [if_neg hk] at hR
  have hq := HQ.out
  have hxw := HXW.out
  by_cases h6 : xk = 6
  case neg =>
    have e6 : (xk == 6) = false := by rw [beq_eq_false_iff_ne]; exact h6
    have e7 : (xk != 6) = true := by simp only [bne, e6, Bool.not_false]
    rw [if_pos (by rw [hxw, e6]; rfl)] at hR
    subst hR
    clear HR hk h6 hq hxw HQ HXW
    go_wp2
    go_ret2
    exact ⟨rfl, HB2.out⟩
  have e6 : (xk == 6) = true := by rw [h6]; rfl
  have e7 : (xk != 6) = false := by simp only [bne, e6, Bool.not_true]
  by_cases hs : xs = s
  case neg =>
    rw [decide_eq_false hs] at hq
    have e8 : (xb.toList != sb.toList) = true := by simp only [bne, hq, Bool.not_false]
    rw [if_pos (by rw [hxw, e6]; simp [hs])] at hR
    subst hR
    clear HR hk h6 hxw HQ HXW hs
    go_wp2
    go_ret2
    exact ⟨rfl, HB2.out⟩
  rw [decide_eq_true hs] at hq
  have e8 : (xb.toList != sb.toList) = false := by simp only [bne, hq, Bool.not_true]
  rw [if_neg (by rw [hxw, e6, hs]; simp)] at hR
  subst hR
  clear HR hk h6 hxw HQ HXW hs
  go_wp2
  go_ret2
  exact ⟨rfl, HB2.out⟩

set_option maxRecDepth 8000 in
set_option maxHeartbeats 4000000 in
theorem one_any {w : World} {a : Option Addr} {cap : Nat} {bs : List UInt8} (hr : Row w 1 a bs.length cap (bs.map u8C)) (hn : bs.length ≤ 100000) (k : Int) (last : Bool) (g : FuncId) (cb : Array Value) (p : Tk → Bool)
    (henter : ∀ args w, (callFunc g args).run Tryz.prog w = .ok (.enter g args) w)
    (hp : ∀ W, Below w.heap.size w W → ∀ x f t, Calls Tryz.prog g (#[.agg (tokN x f t)] ++ cb) W fun e w' => e = .returned (.bool (p x)) ∧ Below W.heap.size W w') :
    Calls Tryz.prog 16 #[.slice a bs.length cap, .int .i64 k, .bool last, .func (.func g) #[] cb] w (OneEnd w (oneW p (nextV bs k last))) := by
  have HN := Lib.hid (fun (W : World) (h : Below w.heap.size w W) => next_any (hr.mono h) hn k last)
  obtain ⟨R, hR⟩ : ∃ R, R = oneW p (nextV bs k last) := ⟨_, rfl⟩
  rw [← hR]
  unfold oneW at hR
  generalize nextV bs k last = V at *
  obtain ⟨x, f, t, er⟩ := V
  have HP := Lib.hid (fun W h => hp W h x f t)
  simp only at hR
  unfold NextEnd tokN at HN
  unfold tokN at HP
  simp only at HN
  have HR := Lib.hid hR
  clear hr hR hn hp
  generalize p x = px at *
  obtain ⟨xk, xvk, xvn, xvs, xs⟩ := x
  simp only at HN HP HR
  generalize bs.length = L at *
  go_enter Tryz.func16, Tryz.ntmps16
  obtain ⟨B, hB⟩ : ∃ B, B = w.heap.size := ⟨_, rfl⟩
  have HZ := Lib.hid (heapA_new (w := w) (b := B) (.cells #[.int .i64 0, .int .i64 0, .int .i64 0, .int .i64 0, .int .i64 0, .string ⟨#[]⟩, .slice none 0 0, .string ⟨#[]⟩] 45) hB)
  have HBW := Lib.hid (belowA w (.cells #[.int .i64 0, .int .i64 0, .int .i64 0, .int .i64 0, .int .i64 0, .string ⟨#[]⟩, .slice none 0 0, .string ⟨#[]⟩] 45))
  have HBB := Lib.hid (Nat.le_of_eq hB.symm)
  go_upto_region 1 with fail
  rw [← hB]
  clear hB
  generalize w.alloc _ = W1 at *
  go_wp2_with fail
  refine (HN.out _ HBW.out).mono ?_
  rintro e w2 ⟨rfl, hb2⟩
  have hb2a := hb2.alloc hb2.size (.cells #[.int .i64 xk, .int .i64 f, .int .i64 t, .int .i64 xvk, .int .i64 xvn, .string (mkB xvs), .slice none 0 0, .string (mkB xs)] 45)
  have HB2 := Lib.hid (HBW.out.trans (hb2a.mono HBW.out.size))
  have HT2 := Lib.hid (heapA_new (w := w2) (b := w2.heap.size) (.cells #[.int .i64 xk, .int .i64 f, .int .i64 t, .int .i64 xvk, .int .i64 xvn, .string (mkB xvs), .slice none 0 0, .string (mkB xs)] 45) rfl)
  have HZ2 := Lib.hid (block_keep hb2a HZ.out)
  clear hb2 hb2a HN HZ
  go_upto_region 2 with fail
  obtain ⟨r2, hr2⟩ : ∃ r2, r2 = w2.heap.size := ⟨_, rfl⟩
  rw [← hr2] at HT2 ⊢
  clear hr2
  generalize w2.alloc _ = W2 at *
  obtain ⟨⟨t0, t1, t2, t3, t4, t5, t6, t7⟩, -⟩ := cells8 HT2.out
  obtain ⟨⟨z0, z1, z2, z3, z4, z5, z6, z7⟩, zf0, zf1, zf2, zf3, zf4, zf5, zf6, zf7⟩ := cells8 HZ2.out
  have hR := HR.out
  by_cases her : er = 0
  case neg =>
    have e0 : (er == 0) = false := by rw [beq_eq_false_iff_ne]; exact her
    have e1 : (er != 0) = true := by simp only [bne, e0, Bool.not_false]
    rw [if_pos her] at hR
    subst hR
    clear HR her HP henter
    go_wp2
    refine bodyPost_ret (results_val rfl _ _ B 45 _ (0, 0) _ rfl (by exact set8 HZ2.out _ _ _ _ _ _ _ _) Tryz.underlying45 rfl (by exact infoTok) _ rfl) rfl ?_
    exact ⟨rfl, below_set8 HB2.out HBB.out _ _ _ _ _ _ _ _⟩
  subst her
  rw [if_neg (by simp)] at hR
  by_cases hk : xk = 0
  · have e0 : (xk == 0) = true := by rw [hk]; rfl
    rw [if_pos hk] at hR
    subst hR
    clear HR hk HP henter
    go_wp2
    refine bodyPost_ret (results_val rfl _ _ B 45 _ (0, 0) _ rfl (by exact set8 HZ2.out _ _ _ _ _ _ _ _) Tryz.underlying45 rfl (by exact infoTok) _ rfl) rfl ?_
    exact ⟨rfl, below_set8 HB2.out HBB.out _ _ _ _ _ _ _ _⟩
  have e0 : (xk == 0) = false := by rw [beq_eq_false_iff_ne]; exact hk
  rw [if_neg hk] at hR
  clear HR
  have HR := Lib.hid hR
  clear hR hk
  go_wp2_with fail
  refine (HP.out _ HB2.out).mono ?_
  rintro e w3 ⟨rfl, hb3⟩
  have HB3 := Lib.hid (HB2.out.trans (hb3.mono HB2.out.size))
  have HT3 := Lib.hid (block_keep hb3 HT2.out)
  have HZ3 := Lib.hid (block_keep hb3 HZ2.out)
  clear hb3 HP henter t0 t1 t2 t3 t4 t5 t6 t7 z0 z1 z2 z3 z4 z5 z6 z7 zf0 zf1 zf2 zf3 zf4 zf5 zf6 zf7
  obtain ⟨⟨t0, t1, t2, t3, t4, t5, t6, t7⟩, -⟩ := cells8 HT3.out
  obtain ⟨⟨z0, z1, z2, z3, z4, z5, z6, z7⟩, zf0, zf1, zf2, zf3, zf4, zf5, zf6, zf7⟩ := cells8 HZ3.out
  have hR := HR.out
  cases px with
  | false =>
    rw [if_pos rfl] at hR
    subst hR
    clear HR
    go_wp2
    refine bodyPost_ret (results_val rfl _ _ B 45 _ (0, 0) _ rfl (by exact set8 HZ3.out _ _ _ _ _ _ _ _) Tryz.underlying45 rfl (by exact infoTok) _ rfl) rfl ?_
    exact ⟨rfl, below_set8 HB3.out HBB.out _ _ _ _ _ _ _ _⟩
  | true =>
    rw [if_neg (by decide)] at hR
    subst hR
    clear HR
    go_wp2
    refine bodyPost_ret (results_val rfl _ _ B 45 _ (0, 0) _ rfl (by exact set8 HZ3.out _ _ _ _ _ _ _ _) Tryz.underlying45 rfl (by exact infoTok) _ rfl) rfl ?_
    exact ⟨rfl, below_set8 HB3.out HBB.out _ _ _ _ _ _ _ _⟩

set_option maxRecDepth 8000 in
set_option maxHeartbeats 4000000 in
theorem pnumber_any {w : World} {a : Option Addr} {cap : Nat} {bs : List UInt8} (hr : Row w 1 a bs.length cap (bs.map u8C)) (hn : bs.length ≤ 100000) (k : Int) (last : Bool) :
    Calls Tryz.prog 7 #[.slice a bs.length cap, .int .i64 k, .bool last] w (NumEnd12 w (oneW wholeV (nextV bs k last))) := by
  have HO := Lib.hid (one_any hr hn k last 17 #[] wholeV (enters_of Tryz.func17 (by kernel_rfl) rfl) (fun W _ x f t => whole_tk x f t W))
  generalize oneW wholeV (nextV bs k last) = R at *
  obtain ⟨x, f, t, er⟩ := R
  unfold OneEnd tokN at HO
  unfold NumEnd12
  simp only at HO ⊢
  clear hr hn
  generalize x.kind = xk at *
  generalize x.vk = xvk at *
  generalize x.vn = xvn at *
  generalize mkB x.vs = xvb at *
  generalize mkB x.s = xb at *
  generalize bs.length = L at *
  go_enter Tryz.func7, Tryz.ntmps7
  go_wp2_with fail
  refine HO.out.mono ?_
  rintro e w2 ⟨rfl, hb2⟩
  have HB2 := Lib.hid (hb2.alloc hb2.size (.cells #[.int .i64 xk, .int .i64 f, .int .i64 t, .int .i64 xvk, .int .i64 xvn, .string xvb, .slice none 0 0, .string xb] 45))
  have HT2 := Lib.hid (heapA_new (w := w2) (b := w2.heap.size) (.cells #[.int .i64 xk, .int .i64 f, .int .i64 t, .int .i64 xvk, .int .i64 xvn, .string xvb, .slice none 0 0, .string xb] 45) rfl)
  clear hb2 HO
  go_upto_region 2 with fail
  obtain ⟨r2, hr2⟩ : ∃ r2, r2 = w2.heap.size := ⟨_, rfl⟩
  rw [← hr2] at HT2 ⊢
  clear hr2
  generalize w2.alloc _ = W2 at *
  obtain ⟨⟨t0, t1, t2, t3, t4, t5, t6, t7⟩, -⟩ := cells8 HT2.out
  go_wp2
  go_quiet (fail)
  go_wp2
  go_ret3
  exact ⟨rfl, below_drewN HB2.out _⟩

set_option maxHeartbeats 2000000 in
theorem pword1_any {w : World} {b : Nat} {s : List UInt8} (hb : w.cell? ⟨b, 0, none⟩ = some (.string (mkB s))) (x : Tk) (f t : Int) :
    Calls Tryz.prog 20 #[.agg (tokN x f t), .pointer (some ⟨b, 0, none⟩)] w fun e w' => e = .returned (.bool (wordT s x)) ∧ Below w.heap.size w w' := by
  have hq : ((mkB x.s).toList == (mkB s).toList) = decide (x.s = s) := by rw [toList_mkB s]; exact eq_mkB x.s s
  have hw : wordT s x = (x.kind == 6 && decide (x.s = s)) := by unfold wordT; by_cases e : x.s = s <;> simp [e]
  rw [hw]
  unfold tokN
  have hb2 := cell?_keep (belowA w (.cells #[.int .i64 x.kind, .int .i64 f, .int .i64 t, .int .i64 x.vk, .int .i64 x.vn, .string (mkB x.vs), .slice none 0 0, .string (mkB x.s)] 45)) hb
  generalize decide (x.s = s) = ds at *
  clear hw
  generalize x.kind = a0 at *
  generalize x.vk = a1 at *
  generalize x.vn = a2 at *
  generalize mkB x.vs = s1 at *
  generalize mkB x.s = s2 at *
  generalize mkB s = s3 at *
  have HK := Lib.hid (heapA_new (w := w) (b := w.heap.size) (.cells #[.int .i64 a0, .int .i64 f, .int .i64 t, .int .i64 a1, .int .i64 a2, .string s1, .slice none 0 0, .string s2] 45) rfl)
  have HB := Lib.hid (belowA w (.cells #[.int .i64 a0, .int .i64 f, .int .i64 t, .int .i64 a1, .int .i64 a2, .string s1, .slice none 0 0, .string s2] 45))
  cases h0 : (a0 == 6)
  · go_enter Tryz.func20, Tryz.ntmps20
    go_upto_region 1 with fail
    obtain ⟨r, hr⟩ : ∃ r, r = w.heap.size := ⟨_, rfl⟩
    rw [← hr] at HK ⊢
    clear hr
    generalize w.alloc _ = W1 at *
    obtain ⟨⟨k0, k1, k2, k3, k4, k5, k6, k7⟩, -⟩ := cells8 HK.out
    go_wp2
    go_ret
    exact ⟨rfl, HB.out⟩
  · cases ds
    · go_enter Tryz.func20, Tryz.ntmps20
      go_upto_region 1 with fail
      obtain ⟨r, hr⟩ : ∃ r, r = w.heap.size := ⟨_, rfl⟩
      rw [← hr] at HK ⊢
      clear hr
      generalize w.alloc _ = W1 at *
      obtain ⟨⟨k0, k1, k2, k3, k4, k5, k6, k7⟩, -⟩ := cells8 HK.out
      go_wp2
      go_ret
      exact ⟨rfl, HB.out⟩
    · go_enter Tryz.func20, Tryz.ntmps20
      go_upto_region 1 with fail
      obtain ⟨r, hr⟩ : ∃ r, r = w.heap.size := ⟨_, rfl⟩
      rw [← hr] at HK ⊢
      clear hr
      generalize w.alloc _ = W1 at *
      obtain ⟨⟨k0, k1, k2, k3, k4, k5, k6, k7⟩, -⟩ := cells8 HK.out
      go_wp2
      go_ret
      exact ⟨rfl, HB.out⟩

set_option maxRecDepth 8000 in
set_option maxHeartbeats 4000000 in
theorem pword12_any {w : World} {a : Option Addr} {cap : Nat} {bs : List UInt8} (hr : Row w 1 a bs.length cap (bs.map u8C)) (hn : bs.length ≤ 100000) (k : Int) (last : Bool) (s : List UInt8) :
    Calls Tryz.prog 10 #[.slice a bs.length cap, .int .i64 k, .bool last, .string (mkB s)] w (WordEnd12 w (oneW (wordT s) (nextV bs k last))) := by
  have hbw := belowA w (.cells #[.string (mkB s)] 9)
  have hkw := heapA_new (w := w) (b := w.heap.size) (.cells #[.string (mkB s)] 9) rfl
  have hcw : (w.alloc (.cells #[.string (mkB s)] 9)).cell? ⟨w.heap.size, 0, none⟩ = some (.string (mkB s)) := by rw [cell_of_row _ _ 0 _ _ _ hkw]; rfl
  have HO := Lib.hid (one_any (hr.mono hbw) hn k last 20 #[.pointer (some ⟨w.heap.size, 0, none⟩)] (wordT s) (enters_of Tryz.func20 (by kernel_rfl) rfl) (fun W hW x f t => pword1_any (cell?_keep hW hcw) x f t))
  have HBW := Lib.hid hbw
  generalize oneW (wordT s) (nextV bs k last) = R at *
  obtain ⟨x, f, t, er⟩ := R
  unfold OneEnd tokN at HO
  unfold WordEnd12
  simp only at HO ⊢
  clear hr hn hbw hkw hcw
  generalize x.kind = xk at *
  generalize x.vk = xvk at *
  generalize x.vn = xvn at *
  generalize mkB x.vs = xvb at *
  generalize mkB x.s = xb at *
  generalize bs.length = L at *
  generalize mkB s = sb at *
  go_enter Tryz.func10, Tryz.ntmps10
  go_upto_region 1 with fail
  obtain ⟨B, hB⟩ : ∃ B, B = w.heap.size := ⟨_, rfl⟩
  rw [← hB] at HO ⊢
  have HBB := Lib.hid (Nat.le_of_eq hB.symm)
  clear hB
  generalize w.alloc _ = W1 at *
  go_wp2_with fail
  refine HO.out.mono ?_
  rintro e w2 ⟨rfl, hb2⟩
  have HB2 := Lib.hid (HBW.out.trans ((hb2.alloc hb2.size (.cells #[.int .i64 xk, .int .i64 f, .int .i64 t, .int .i64 xvk, .int .i64 xvn, .string xvb, .slice none 0 0, .string xb] 45)).mono HBW.out.size))
  have HT2 := Lib.hid (heapA_new (w := w2) (b := w2.heap.size) (.cells #[.int .i64 xk, .int .i64 f, .int .i64 t, .int .i64 xvk, .int .i64 xvn, .string xvb, .slice none 0 0, .string xb] 45) rfl)
  clear hb2 HO
  go_upto_region 2 with fail
  obtain ⟨r2, hr2⟩ : ∃ r2, r2 = w2.heap.size := ⟨_, rfl⟩
  rw [← hr2] at HT2 ⊢
  clear hr2
  generalize w2.alloc _ = W2 at *
  obtain ⟨⟨t0, t1, t2, t3, t4, t5, t6, t7⟩, -⟩ := cells8 HT2.out
  go_wp2
  go_ret2
  exact ⟨rfl, HB2.out⟩
end Go.Proofs.YtnkodejgiabamaaGreat
/-
  What law 12 probes its parser with.
-/
namespace Go.Proofs.YtnkodejgiabamaaGreat
open Go.RowKit

theorem valO_next {bs : List UInt8} {last : Bool} {g : Nat} {st st2 : List Lv} {at_ f t at2 : Int} {x : Tk} (h : nextV bs at_ last = (x, f, t, 0)) (h2 : stepV bs last st t x = (none, st2, at2, 0)) : valO bs last (g + 1) st at_ = valO bs last g st2 at2 := by
  rw [valO]; simp only [h, h2]; rfl
theorem valO_put {bs : List UInt8} {last : Bool} {g : Nat} {st rest : List Lv} {top : Lv} {at_ f t at2 : Int} {x : Tk} {X : PV} (h : nextV bs at_ last = (x, f, t, 0)) (h2 : stepV bs last st t x = (some X, top :: rest, at2, 0)) : valO bs last (g + 1) st at_ = valO bs last g ({ top with l := top.l ++ [X] } :: rest) at2 := by
  rw [valO]; simp only [h, h2]; rfl
theorem valO_done {bs : List UInt8} {last : Bool} {g : Nat} {st : List Lv} {at_ f t at2 : Int} {x : Tk} {X : PV} (h : nextV bs at_ last = (x, f, t, 0)) (h2 : stepV bs last st t x = (some X, [], at2, 0)) : valO bs last (g + 1) st at_ = some (X, at2, 0) := by
  rw [valO]; simp only [h, h2]; rfl
theorem valO_fail {bs : List UInt8} {last : Bool} {g : Nat} {st st2 : List Lv} {at_ f t at2 e : Int} {x : Tk} {o : Option PV} (h : nextV bs at_ last = (x, f, t, 0)) (h2 : stepV bs last st t x = (o, st2, at2, e)) (he : e ≠ 0) : valO bs last (g + 1) st at_ = some (PV.none, 0, e) := by
  rw [valO]; simp only [h, h2, he, ne_eq, not_true_eq_false, if_false, not_false_eq_true, if_true]
def pv1 : PV := .mk 6 0 [] [.mk 8 1 [] [], .mk 2 3 [] []]
theorem val_ex1 : valO [91, 49, 32, 48, 32, 82, 32, 51, 93, 32] false 12 [] 0 = some (pv1, 9, 0) :=
  (valO_next (x := { kind := 2 }) (f := 0) (t := 1) (st2 := [{ dict := false, l := [] }]) (at2 := 1) (by kernel_rfl) (by kernel_rfl)).trans
    ((valO_put (x := { kind := 1, vk := 2, vn := 1 }) (f := 1) (t := 2) (X := .mk 8 1 [] []) (top := { dict := false, l := [] }) (rest := []) (at2 := 6) (by kernel_rfl) (by kernel_rfl)).trans
    ((valO_put (x := { kind := 1, vk := 2, vn := 3 }) (f := 7) (t := 8) (X := .mk 2 3 [] []) (top := { dict := false, l := [.mk 8 1 [] []] }) (rest := []) (at2 := 8) (by kernel_rfl) (by kernel_rfl)).trans
    (valO_done (x := { kind := 3 }) (f := 8) (t := 9) (X := pv1) (at2 := 9) (by kernel_rfl) (by kernel_rfl))))
theorem val_ex2 : valO [91, 49, 32, 50, 32, 82, 32, 51, 93] true 11 [] 0 = some (PV.none, 0, 26) :=
  (valO_next (x := { kind := 2 }) (f := 0) (t := 1) (st2 := [{ dict := false, l := [] }]) (at2 := 1) (by kernel_rfl) (by kernel_rfl)).trans
    (valO_fail (x := { kind := 1, vk := 2, vn := 1 }) (f := 1) (t := 2) (o := none) (st2 := [{ dict := false, l := [] }]) (at2 := 2) (e := 26) (by kernel_rfl) (by kernel_rfl) (by decide))
end Go.Proofs.YtnkodejgiabamaaGreat
/-
  law12.works is walked.
-/
namespace Go.Proofs.YtnkodejgiabamaaGreat
open Go.RowKit

theorem row_bs {w : World} (bs : List UInt8) (t : TypeId) (hb : bs.length ≤ 100) : Row (w.alloc (.cells (bs.map u8C).toArray t (bs.length, bs.length + 1))) 1 (some ⟨w.heap.size, 0, none⟩) bs.length bs.length (bs.map u8C) := by
  refine ⟨by simp, Nat.le_refl _, by unfold maxLen; omega, fun h => (by cases h), fun _ => ⟨_, _, rfl, (by rw [sizeA]; omega), fun j u hj => ?_⟩⟩
  rw [cell_of_row _ _ _ _ _ _ (heapA_new _ rfl)]
  simpa using hj
theorem pvA_1 (sl : Value) : pvA pv1 sl = .agg #[.int .i64 6, .int .i64 0, .string ⟨#[]⟩, sl] := rfl
theorem pvA_0 (sl : Value) : pvA PV.none sl = .agg #[.int .i64 0, .int .i64 0, .string ⟨#[]⟩, sl] := rfl

set_option maxRecDepth 8000 in
set_option maxHeartbeats 8000000 in
theorem works_any (w : World) : Calls Tryz.prog 4 #[] w fun e w' => e = .returned (.bool true) ∧ Below w.heap.size w w' := by
  have HN1 := Lib.hid (fun W : World => value_any (row_bs (w := W) [91, 49, 32, 48, 32, 82, 32, 51, 93, 32] 5 (by decide)) (by decide) 0 false _ val_ex1)
  have HN2 := Lib.hid (fun W : World => value_any (row_bs (w := W) [91, 49, 32, 50, 32, 82, 32, 51, 93] 5 (by decide)) (by decide) 0 true _ val_ex2)
  have hcv := fun (W : World) (C : Array Value) (n c : Nat) => Lib.run_convert_bytes_const (P := Tryz.prog) W 22 5 C n c Tryz.underlying22 Tryz.underlying5
  go_enter Tryz.func4, Tryz.ntmps4
  go_wp2_with fail
  refine (HN1.out w).mono ?_
  rintro e w1 ⟨sl, rfl, hV, hb1⟩
  simp only [pvA_1]
  have HB1 := Lib.hid ((belowA w _).trans (hb1.mono (by rw [sizeA]; omega)))
  obtain ⟨sa, sc, rfl, -, -, -⟩ := hV.len
  obtain ⟨-, hs1, hs2, b, off, rfl, hbl, -, hget⟩ := hV.at (by decide)
  obtain ⟨sx, -, hc8, -⟩ := hget 0 _ rfl
  have hl2 : pv1.l.length = 2 := rfl
  rw [hl2] at hs1 ⊢
  clear hget hV hl2
  have hcv2 := fun (o : Obj) (C : Array Value) (n c : Nat) => hcv (w1.alloc o) C n c
  simp only [sizeA] at hcv2
  have HN3 := Lib.hid (fun o : Obj => HN2.out (w1.alloc o))
  simp only [sizeA] at HN3
  have HC8 := Lib.hid hc8
  have HK1 := Lib.hid hb1
  clear hb1 hcv hc8 HN1 HN2
  go_wp2_with fail
  refine (HN3.out _).mono ?_
  rintro e w2 ⟨sl2, rfl, hV2, hb2⟩
  simp only [pvA_0]
  have hb2' := (belowA2 w1 _ _).trans (hb2.mono (by rw [sizeA, sizeA]; omega))
  have HB2 := Lib.hid (HB1.out.trans (hb2'.mono HB1.out.size))
  have hbk := block_keep (w' := w2) hb2 (heapA_old _ (heapA_new (w := w1) (.cells #[.int .i64 6, .int .i64 0, .string ⟨#[]⟩, .slice (some ⟨b, off, none⟩) 2 sc] 26) rfl))
  have hc8 : w2.cell? ⟨b, off, none⟩ = some (.int .i64 8) := (World.cell?_of_block (w := w1) (hb2'.block b hbl)).trans (by have h := HC8.out; rw [Nat.zero_mul, Nat.add_zero] at h; exact h)
  obtain ⟨⟨k0, k1, k2, k3⟩, -⟩ := cells4 (heapA_old (.cells #[.int .i64 0, .int .i64 0, .string ⟨#[]⟩, sl2] 26) hbk)
  have hc9 := cell_alloc (.cells #[.int .i64 0, .int .i64 0, .string ⟨#[]⟩, sl2] 26) hc8
  have hc10 : (w2.alloc (.cells #[.int .i64 0, .int .i64 0, .string ⟨#[]⟩, sl2] 26)).cell? ⟨b, off + 0 * 4, none⟩ = some (.int .i64 8) := by rw [Nat.zero_mul, Nat.add_zero]; exact hc9
  have HW := Lib.hid (HB2.out.alloc HB2.out.size (.cells #[.int .i64 0, .int .i64 0, .string ⟨#[]⟩, sl2] 26))
  obtain ⟨sa2, sc2, rfl, -, -, -⟩ := hV2.len
  clear hb2 hb2' hbk hcv2 HC8 HK1 hV2 HN3
  go_wp2
  go_ret
  exact ⟨rfl, HW.out⟩
end Go.Proofs.YtnkodejgiabamaaGreat
