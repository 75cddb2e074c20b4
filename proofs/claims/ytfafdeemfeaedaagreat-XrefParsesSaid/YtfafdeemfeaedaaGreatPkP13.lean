/-
  Our texts PsD to Xd1, in one.
-/
import Derived.Test.YtfafdeemfeaedaaGreatPkP12
import Derived.Deep.AppendLies
import Derived.Deep.RegionLaw
import Derived.PlainAid
import Derived.Test.YtfafdeemfeaedaaGreatProg
import Derived.Lib.Bytealg
import Derived.Deep.RegionHeld3
import Derived.WalkKit
import Derived.Lib.SlBytesConst
set_option maxRecDepth 8000
set_option maxHeartbeats 8000000
namespace Go.Proofs.YtfafdeemfeaedaaGreat
open Go.RowKit
set_option maxRecDepth 100000 in
theorem value_any {w : World} {a : Option Addr} {cap : Nat} {bs : List UInt8} (hr : Row w 1 a bs.length cap (bs.map u8C)) (hn : bs.length ≤ 400000) (at0 : Int) (last : Bool) (V : PV × Int × Int) (hV : valO bs last (bs.length + 2) [] at0 = some V) :
   Calls Tryz.prog 45 #[.slice a bs.length cap, .int .i64 at0, .bool last] w (ValEnd w V) := by
 obtain ⟨r, hrr⟩ : ∃ r, r = w.heap.size := ⟨_, rfl⟩
 have hs0 : IsStk w ((w.alloc (.cells #[.int .i64 0, .int .i64 0, .string ⟨#[]⟩, .slice none 0 0] 27)).alloc (.cells #[.slice a bs.length cap, .int .i64 at0, .bool last, .slice none 0 0] 160)) (fun _ => False) (fun b => b = r) (r + 1) a cap bs last [] at0 [] (.slice none 0 0) :=
   ⟨heapA_new _ (by rw [sizeA, hrr]), by omega, by omega, World.ownsRow_nil _ _ _ _, fun b hb => (by cases hb), rfl, fun b hb => hb.elim, fun b hb => by rw [sizeA, sizeA]; omega, belowA2 w _ _, hr, hn, by simp⟩
 have HAT := Lib.hid (show VAt w ((w.alloc (.cells #[.int .i64 0, .int .i64 0, .string ⟨#[]⟩, .slice none 0 0] 27)).alloc (.cells #[.slice a bs.length cap, .int .i64 at0, .bool last, .slice none 0 0] 160)) (fun _ => False) r (r + 1) a cap bs last V (bs.length + 2) [] at0 from
   ⟨⟨_, _, hs0⟩, heapA_old _ (heapA_new _ hrr), hV, fun v hv => (by cases hv), .inl rfl⟩)
 have HRR := Lib.hid hrr
 clear hs0 hV hr hn hrr
 go_enter Tryz.func45, Tryz.ntmps45
 go_wp2
 refine wp_scope_ghost 0 (ValI w r (r + 1) a cap bs last at0 V) rfl ?first ?pass
 case first =>
   intro hpass
   have HPASS := Lib.hid hpass
   clear hpass
   go_wp2
   rw [← HRR.out]
   refine wp_label ?_
   rename_i K hK
   exact hK _ _ (HPASS.out _ _ _ ⟨_, [], at0, _, _, _, _, _, _, _, _, _, _, _, _, _, _, _, _, _, _, _, _, _, _, _, _, _, _, _, _, _, _, _, _, _, _, _, _, _, _, _, _, _, _, _, _, _, _, _, _, _, _, _, _, HAT, rfl⟩)
 case pass =>
   rintro n act W ⟨F, st, at_, u10, u11, u12, u13, u14, u15, u16, u17, u18, u19, u20, u21, u22, u23, u24, u25, u26, u27, u28, u29, u30, u31, u32, u33, u34, u35, u36, u37, u38, u39, u40, u41, u42, u43, u44, u45, u46, u47, u48, u49, u50, u51, u52, u53, u54, u55, u56, u57, u58, u59, u60, u61, HA, rfl⟩
   obtain ⟨p, hp⟩ : ∃ p, p = r + 1 := ⟨_, rfl⟩
   rw [← hp] at HA ⊢
   have HP := Lib.hid hp
   clear hp HAT
   obtain ⟨gs, osl, hs⟩ := HA.out.stk
   have HS := Lib.hid hs
   have HNX := Lib.hid (pnext_any hs)
   have HFU := Lib.hid HA.out.fuel
   have HRES := Lib.hid HA.out.res
   have hrl : r < W.heap.size := lt_of_heap HA.out.res
   have hpr : p ≠ r := hs.gp
   have HLEN := Lib.hid HA.out.len
   have HSM := Lib.hid HA.out.small
   have HRNG := Lib.hid HA.out.rng
   have HHR := Lib.hid (show w.heap.size ≤ r by rw [HRR.out]; exact Nat.le_refl _)
   have hfu := HFU.out
   cases n with
   | zero => cases hfu
   | succ n =>
   unfold valO at hfu
   simp only at hfu
   obtain ⟨T, hT⟩ : ∃ T, T = nextV bs at_ last := ⟨_, rfl⟩
   rw [← hT] at hfu HNX
   have HT := Lib.hid hT
   obtain ⟨x, tf, tt, er⟩ := T
   simp only at hfu HNX
   clear hs hT HFU HA
   by_cases her : er = 0
   case neg =>
     have hv := hfu
     rw [if_pos her] at hv
     have HV := Lib.hid (Option.some.inj hv).symm
     have e1 : (er == 0) = false := by rw [beq_eq_false_iff_ne]; exact her
     have e2 : (er != 0) = true := by simp only [bne, e1, Bool.not_false]
     clear hfu hv her
     unfold tokN at HNX
     go_wp2_with fail
     refine HNX.out.mono ?_
     rintro e w1 ⟨rfl, hs1, hk1⟩
     have HR1 := Lib.hid ((hk1.alloc (.cells (tokN x tf tt) 150)).obj HRES.out (Ne.symm hpr))
     have HB1 := Lib.hid (hs1.bel.alloc hs1.bel.size (.cells (tokN x tf tt) 150))
     unfold tokN at HR1 HB1
     obtain ⟨⟨k0, k1, k2, k3⟩, m0, m1, m2, m3⟩ := cells4 HR1.out
     clear hs1 hk1
     go_upto_region 3 with fail
     generalize w1.alloc _ = W2 at *
     go_wp2
     try simp only [Exit.jump]
     refine bodyPost_ret (results_val3 rfl _ _ r 27 _ (0, 0) _ rfl (by exact set4 HR1.out _ _ _ _) Tryz.underlying27 rfl (by exact infoPV) _ _ rfl rfl) rfl ?_
     rw [HV.out]
     exact ⟨.slice none 0 0, rfl, IsV.leaf _ _ _ rfl, below_set4 HB1.out HHR.out _ _ _ _⟩
   subst her
   have hv := hfu
   rw [if_neg (by simp)] at hv
   have hrng : 0 ≤ at_ ∧ at_ ≤ bs.length := by
     have h := HT.out
     by_cases ho : at_ < 0 ∨ (bs.length : Int) < at_
     · unfold nextV at h
       rw [if_pos ho] at h
       have h2 := congrArg (fun z : Tk × Int × Int × Int => z.2.2.2) h
       simp at h2
     · omega
   have hst := fun w1 (h1 : IsStk w w1 F (fun b => b = r) p a cap bs last st tt gs osl) => step_any h1 x tf tt HSM.out
   have HST := Lib.hid hst
   have hat := fun h => nextV_far (bs := bs) (k := at_) (last := last) hrng.1 hrng.2 (by rw [← HT.out]) h
   rw [← HT.out] at hat
   have hto := nextV_to (bs := bs) (k := at_) last hrng.1 hrng.2
   rw [← HT.out] at hto
   simp only at hat hto
   have hsa := stepV_at (bs := bs) (last := last) (k := tt) (by omega) hto.2 st x
   have hsk := fun h => stepV_kind (bs := bs) (last := last) (k := tt) (st := st) (t := x) h
   have hsl := stepV_len (bs := bs) (last := last) (st := st) (k := tt) (t := x) (N := at_) hrng.1 HLEN.out
   obtain ⟨R, hRR⟩ : ∃ R, R = stepV bs last st tt x := ⟨_, rfl⟩
   rw [← hRR] at hsa hsk hsl hv
   have HST2 := Lib.hid (show ∀ w1, IsStk w w1 F (fun b => b = r) p a cap bs last st tt gs osl → Calls Tryz.prog 82 #[.pointer (some ⟨p, 0, none⟩), .agg (tokN x tf tt)] w1 (PStep w w1 F (fun b => b = r) p a cap bs last R) from fun w1 h1 => by rw [hRR]; exact hst w1 h1)
   obtain ⟨o, st2, at2, er2⟩ := R
   simp only at hsa hsk hsl hv
   have HV := Lib.hid hv
   have HSL := Lib.hid hsl
   have HSA := Lib.hid hsa
   have HSK := Lib.hid (fun h => hat (hsk h))
   have HTO := Lib.hid hto
   have HR0 := Lib.hid hrng
   clear hst HST hat hto hsa hsk hsl hRR hv hfu hrng HT
   unfold tokN at HNX HST2
   go_wp2_with fail
   refine HNX.out.mono ?_
   rintro e w1 ⟨rfl, hs1, hk1⟩
   have HR1 := Lib.hid (hk1.obj HRES.out (Ne.symm hpr))
   have HS1 := Lib.hid hs1
   clear hs1 hk1 HNX
   go_wp2_with fail
   refine (HST2.out _ (HS1.out.alloc _)).mono ?_
   rintro e w3 ⟨F', sa, sn, sc, X, rfl, hX, hN⟩
   have HX := Lib.hid hX
   have HN := Lib.hid hN
   have HR3 := Lib.hid (stays_obj hN.sg (heapA_old (.cells #[.int .i64 x.kind, .int .i64 tf, .int .i64 tt, .int .i64 x.vk, .int .i64 x.vn, .string (mkB x.vs), .slice none 0 0, .string (mkB x.s)] 150) HR1.out) rfl)
   have HB3 := Lib.hid (show Below w.heap.size w w3 from (let ⟨_, _, h⟩ := hN.stk; h.bel))
   clear hX hN HST2 HS1 HR1
   unfold pvA
   by_cases her2 : er2 = 0
   case neg =>
     have hv := HV.out
     rw [if_pos her2] at hv
     have HVV := Lib.hid (Option.some.inj hv).symm
     have e1 : (er2 == 0) = false := by rw [beq_eq_false_iff_ne]; exact her2
     have e2 : (er2 != 0) = true := by simp only [bne, e1, Bool.not_false]
     clear hv her2
     simp only
     generalize o.isSome = io at *
     go_upto_region 6 with fail
     have HR4 := Lib.hid (heapA_old (.cells #[.int .i64 X.kind, .int .i64 X.n, .string (mkB X.s), .slice sa sn sc] 27) HR3.out)
     have HB4 := Lib.hid (HB3.out.alloc HB3.out.size (.cells #[.int .i64 X.kind, .int .i64 X.n, .string (mkB X.s), .slice sa sn sc] 27))
     generalize w3.alloc _ = W4 at *
     obtain ⟨⟨k0, k1, k2, k3⟩, m0, m1, m2, m3⟩ := cells4 HR4.out
     go_wp2
     refine bodyPost_ret (results_val3 rfl _ _ r 27 _ (0, 0) _ rfl (by exact set4 HR4.out _ _ _ _) Tryz.underlying27 rfl (by exact infoPV) _ _ rfl rfl) rfl ?_
     rw [HVV.out]
     exact ⟨.slice none 0 0, rfl, IsV.leaf _ _ _ rfl, below_set4 HB4.out HHR.out _ _ _ _⟩
   subst her2
   have hv := HV.out
   rw [if_neg (by simp)] at hv
   have hlt : at_ < tt := HSK.out rfl
   have hrng := HR0.out
   have hsa := HSA.out
   have hsl := HSL.out
   cases o with
   | none =>
     simp only at hv
     have HVA := Lib.hid (show ∀ o : Obj, VAt w (w3.alloc o) F' r p a cap bs last V n st2 at2 from fun o =>
       ⟨(let ⟨gs2, osl2, h⟩ := HN.out.stk; ⟨gs2, osl2, h.alloc o⟩), heapA_old o HR3.out, hv, fun v hv => by have := hsl v hv; omega, .inr ⟨by omega, hsa.2⟩⟩)
     clear hv hlt hsa hsl HN HX hrng
     simp only [Option.isSome_none]
     go_wp2
     go_step3
     exact ⟨rfl, n, Nat.lt_succ_self _, F', st2, at2, _, _, _, _, _, _, _, _, _, _, _, _, _, _, _, _, _, _, _, _, _, _, _, _, _, _, _, _, _, _, _, _, _, _, _, _, _, _, _, _, _, _, _, _, _, _, _, _, _, _, _, _, Lib.hid (HVA.out _), rfl⟩
   | some x0 =>
     simp only [Option.isSome_some]
     obtain ⟨rfl, hv0⟩ := HX.out x0 rfl
     have HV0 := Lib.hid hv0
     obtain ⟨gs2, osl2, hs2⟩ := HN.out.stk
     have HS2 := Lib.hid hs2
     simp only at hv
     go_upto_region 9 with fail
     obtain ⟨v4, hv4⟩ : ∃ v4, v4 = w3.heap.size := ⟨_, rfl⟩
     have hb4 := belowA w3 (.cells #[.int .i64 X.kind, .int .i64 X.n, .string (mkB X.s), .slice sa sn sc] 27)
     have hk4 := heapA_new (w := w3) (b := v4) (.cells #[.int .i64 X.kind, .int .i64 X.n, .string (mkB X.s), .slice sa sn sc] 27) hv4
     have HS4 := Lib.hid (hs2.mono hb4)
     have HG4 := Lib.hid (hs2.res (G' := fun b => b = r ∨ b = v4) hb4 (fun b hb => hb.imp id fun e => by rw [e, hv4, sizeA]; omega))
     have HV4 := Lib.hid (hv0.below hb4)
     have HR4 := Lib.hid (block_keep hb4 HR3.out)
     have HB4 := Lib.hid (HB3.out.trans (hb4.mono HB3.out.size))
     have HK4 := Lib.hid hk4
     have HV3 := Lib.hid hv4
     have hv4r : v4 ≠ r := by have := lt_of_heap HR3.out; omega
     have hv4p : v4 ≠ p := by have := hs2.lt; omega
     rw [← hv4]
     clear hv0 hs2 HX HN HS2 HV0 HR3 HB3 hb4 hk4
     generalize w3.alloc _ = W4 at *
     clear hv4
     have HTOP := Lib.hid (top_any HS4.out)
     go_wp2_with fail
     refine HTOP.out.mono ?_
     rintro e w5 ⟨rfl, q, rfl⟩
     have HS5 := Lib.hid (HS4.out.drewN q)
     have HG5 := Lib.hid (HG4.out.drewN q)
     have HV5 := Lib.hid (HV4.out.below (below_drewN (Below.refl _ _) q))
     have HR5 := Lib.hid (show (W4.drewN q).heap[r]? = _ from HR4.out)
     have HB5 := Lib.hid (below_drewN HB4.out q)
     have HK5 := Lib.hid (show (W4.drewN q).heap[v4]? = _ from HK4.out)
     clear HS4 HG4 HV4 HR4 HB4 HK4 HTOP
     generalize W4.drewN q = W5 at *
     obtain ⟨⟨k0, k1, k2, k3⟩, m0, m1, m2, m3⟩ := cells4 HR5.out
     obtain ⟨⟨d0, d1, d2, d3⟩, -⟩ := cells4 HK5.out
     cases st2 with
     | nil =>
       have hg : gs2 = [] := List.eq_nil_of_length_eq_zero (by rw [HS5.out.lvs.len]; rfl)
       subst hg
       have HVV := Lib.hid (Option.some.inj hv).symm
       obtain ⟨⟨c0, c1, c2, c3⟩, -⟩ := HS5.out.cells
       clear hv hlt hsa hsl hrng
       unfold topP
       go_wp2
       go_region
       all_goals
         go_wp2
         refine bodyPost_ret (results_val3 rfl _ _ r 27 _ (0, 0) _ rfl (by exact set4 HR5.out _ _ _ _) Tryz.underlying27 rfl (by exact infoPV) _ _ rfl rfl) rfl ?_
         rw [HVV.out]
         exact ⟨_, rfl, (IsV.setr HV5.out HS5.out _ _ _ _).drew, (below_set4 HB5.out HHR.out _ _ _ _).drew⟩
     | cons top rest =>
       obtain ⟨g, t, ta, tc, cs, rfl, ht1, ht2, hgB, hgG, hgl, hO, hVs, hown⟩ := HG5.out.lastL
       obtain ⟨tn, htn⟩ : ∃ tn, tn = top.l.length := ⟨_, rfl⟩
       rw [← htn] at ht1 hO hgl hown
       have htn2 : tn ≤ 400000 := by
         have h1 := hsl top List.mem_cons_self
         have h2 := HS5.out.small
         omega
       have hgc : W5.cell? ⟨g, 1, none⟩ = some (.slice ta tn tc) := by rw [cell_of_row W5 g 1 _ _ _ hgl]; rfl
       have hgf : W5.frozen? ⟨g, 1, none⟩ = false := frozen_of_row W5 g 1 _ _ hgl
       have hv4l : v4 < W5.heap.size := lt_of_heap HK5.out
       have hgll : g < W5.heap.size := lt_of_heap hgl
       have hgt : (Value.slice ta tn tc).ownBlock ≠ some g := fun e => by obtain ⟨ds, hc⟩ := owns_type hO e; exact type_ne hc hgl (by decide) rfl
       have hvt : (Value.slice ta tn tc).ownBlock ≠ some v4 := fun e => (hown v4 e).2 (.inr rfl)
       have HC0 : Hid (S5v W5 v4 (.int .i64 X.kind) (.int .i64 X.n) (.string (mkB X.s)) (.slice sa sn sc)) := Lib.hid ⟨d0, d1, d2, d3⟩
       have HO := Lib.hid hO
       have HGL := Lib.hid hgl
       have HVS := Lib.hid hVs
       have HTN := Lib.hid htn
       have HBA := Lib.hid (HS5.out.bel.size)
       have HGT := Lib.hid hgt
       have HVT := Lib.hid hvt
       have HVG := Lib.hid (show v4 ≠ g from fun e => hgG (.inr e.symm))
       clear k0 k1 k2 k3 m0 m1 m2 m3 hO hgl hVs htn hown
       unfold topP
       go_upto_region 11 with fail
       have i1 : (0 : Int) ≤ (tn : Int) := by omega
       have i2 : (tn : Int) ≤ 400000 := by omega
       have i3 : (tn : Int) < (tn : Int) + 1 := by omega
       have i4 : (tn : Int) < ((tn + 1 : Nat) : Int) := by omega
       have i5 : tn < tn + 1 := by omega
       have i6 : (tn : Int).toNat = tn := by omega
       obtain ⟨iB, hiB, hzB, hsB, hbB⟩ := info_parts EPV.info
       go_region_law (first | (refine step_append_lies _ (by rfl) _ _ _ (by rfl) w.heap.size 27 iB _ 4 56 EPV.und hiB hzB hsB hbB rfl (by omega) (.slice ta tn tc) tn cs (by rfl) ((HO.out.alloc _).drew) ⟨W5.heap.size, 0, none⟩ 1 1 [.int .i64 0, .int .i64 0, .string ⟨#[]⟩, .slice none 0 0] (by rfl) (by rfl) (World.news_of_block (cs := #[.int .i64 0, .int .i64 0, .string ⟨#[]⟩, .slice none 0 0]) (t := 27) (fr := (0, 0)) (heap_alloc_new W5 _)) (by simp [Value.oneCell']) (by omega) (by unfold maxLen; omega) (by omega) (by simp; have := HBA.out; omega) (W5.heap.size + 1) (by simp) ?_; intro g7 cap7 w7 hO7 hgrow hat hlt7; have HGV : Hid (g ≠ g7 ∧ v4 ≠ g7) := (by rcases hat with e | e; exact Lib.hid ⟨fun e2 => hgt (e2 ▸ e), fun e2 => hvt (e2 ▸ e)⟩; exact Lib.hid ⟨by omega, by omega⟩); have hs7 := (HC0.out.alloc (.cells #[.int .i64 0, .int .i64 0, .string ⟨#[]⟩, .slice none 0 0] 27)).drew.grown hgrow hvt; obtain ⟨s0, s1, s2, s3⟩ := hs7; obtain ⟨⟨z0, z1, z2, z3⟩, zf⟩ := owns_lastC hO7; have hgl7 := Lib.hid ((hgrow.block g (show g < (W5.alloc _).heap.size by rw [sizeA]; omega) (fun e => hgt e.symm)).trans (heapA_old (.cells #[.int .i64 0, .int .i64 0, .string ⟨#[]⟩, .slice none 0 0] 27) HGL.out)); have hgf7 := frozen_of_row w7 g 1 _ _ hgl7.out; have hgne : g ≠ g7 := HGV.out.1; have zf0 := zf (tn * 4); have zf1 := zf (tn * 4 + 1); have zf2 := zf (tn * 4 + 2); have zf3 := zf (tn * 4 + 3); have hc7 : w7.cell? ⟨g, 1, none⟩ = some (.slice ta tn tc) := (by rw [cell_of_row w7 g 1 _ _ _ hgl7.out]; rfl); have HG7 := Lib.hid hgrow; have HO7 := Lib.hid hO7; have HAT := Lib.hid hat; clear zf hgrow hO7 hat hlt7))
       all_goals
         first
           | rw [setCell_comm4 w7 hgne]
           | skip
         have HVA := Lib.hid (VAt.put HG5.out HR5.out HGL.out HVS.out HV5.out HTN.out HG7.out HO7.out HAT.out hv (fun v hv => by have := hsl v hv; omega) ⟨by omega, hsa.2⟩)
         clear hv hlt hsa hsl hrng HG5 HR5 HGL HVS HV5 HTN HG7 HO7 HAT HO
         go_wp2
         go_step3
         exact ⟨rfl, n, Nat.lt_succ_self _, F', _, at2, _, _, _, _, _, _, _, _, _, _, _, _, _, _, _, _, _, _, _, _, _, _, _, _, _, _, _, _, _, _, _, _, _, _, _, _, _, _, _, _, _, _, _, _, _, _, _, _, _, _, _, _, HVA, rfl⟩
def oneW (p : Tk → Bool) (V : Tk × Int × Int × Int) : Tk × Int × Int × Int :=
 if V.2.2.2 ≠ 0 then ({ kind := 0 }, 0, 0, V.2.2.2) else if V.1.kind = 0 then ({ kind := 0 }, 0, 0, 10) else if p V.1 = false then ({ kind := 0 }, 0, 0, 11) else (V.1, V.2.1, V.2.2.1, 0)
def wordT (s : List UInt8) (t : Tk) : Bool := t.kind == 6 && t.s == s
def WordEnd12 (w : World) (V : Tk × Int × Int × Int) (e : Ending) (w' : World) : Prop := e = .returned (.tuple #[.int .i64 V.2.2.1, .int .i64 V.2.2.2]) ∧ Below w.heap.size w w'
def OneEnd (w : World) (V : Tk × Int × Int × Int) (e : Ending) (w' : World) : Prop := e = .returned (.tuple #[.agg (tokN V.1 V.2.1 V.2.2.1), .int .i64 V.2.2.2]) ∧ Below w.heap.size w w'
theorem rword_any {w : World} {a : Option Addr} {cap : Nat} {bs : List UInt8} (hr : Row w 1 a bs.length cap (bs.map u8C)) (hn : bs.length ≤ 400000) (k : Int) (last : Bool) (s : List UInt8) :
   Calls Tryz.prog 46 #[.slice a bs.length cap, .int .i64 k, .bool last, .string (mkB s)] w (WordEnd12 w (oneW (wordT s) (nextV bs k last))) := by
 have HN := Lib.hid (rnext_any hr hn k last)
 obtain ⟨R, hR⟩ : ∃ R, R = oneW (wordT s) (nextV bs k last) := ⟨_, rfl⟩
 rw [← hR]
 unfold oneW at hR
 generalize nextV bs k last = V at *
 obtain ⟨x, f, t, er⟩ := V
 have HQ := Lib.hid (show ((mkB x.s).toList == (mkB s).toList) = decide (x.s = s) by rw [toList_mkB s]; exact eq_mkB x.s s)
 simp only at hR
 unfold NextEnd tokN at HN
 simp only at HN
 have HR := Lib.hid hR
 clear hr hR hn
 generalize hxs : x.s = xs at *
 generalize hxw : wordT s x = xw at *
 have HXW := Lib.hid (show xw = (x.kind == 6 && xs == s) by rw [← hxw, ← hxs]; rfl)
 clear hxs hxw
 generalize x.kind = xk at *
 generalize x.vk = xvk at *
 generalize x.vn = xvn at *
 generalize mkB x.vs = xvb at *
 generalize mkB xs = xb at *
 generalize mkB s = sb at *
 generalize bs.length = L at *
 go_enter Tryz.func46, Tryz.ntmps46
 go_wp2_with fail
 refine HN.out.mono ?_
 rintro e w2 ⟨rfl, hb2⟩
 have HB2 := Lib.hid (hb2.alloc hb2.size (.cells #[.int .i64 xk, .int .i64 f, .int .i64 t, .int .i64 xvk, .int .i64 xvn, .string xvb, .slice none 0 0, .string xb] 111))
 have HT2 := Lib.hid (heapA_new (w := w2) (b := w2.heap.size) (.cells #[.int .i64 xk, .int .i64 f, .int .i64 t, .int .i64 xvk, .int .i64 xvn, .string xvb, .slice none 0 0, .string xb] 111) rfl)
 clear hb2 HN
 go_upto_region 2 with fail
 obtain ⟨r2, hr2⟩ : ∃ r2, r2 = w2.heap.size := ⟨_, rfl⟩
 rw [← hr2] at HT2 ⊢
 clear hr2
 generalize w2.alloc _ = W2 at *
 obtain ⟨⟨t0, t1, t2, t3, t4, t5, t6, t7⟩, -⟩ := cells8 HT2.out
 have hR := HR.out
 by_cases her : er = 0
 case neg =>
   have e0 : (er == 0) = false := by rw [beq_eq_false_iff_ne]; exact her
   have e1 : (er != 0) = true := by simp only [bne, e0, Bool.not_false]
   rw [if_pos her] at hR
   subst hR
   clear HR her
   go_wp2
   go_ret2
   exact ⟨rfl, HB2.out⟩
 subst her
 rw [if_neg (by simp)] at hR
 by_cases hk : xk = 0
 · have e0 : (xk == 0) = true := by rw [hk]; rfl
   rw [if_pos hk] at hR
   subst hR
   clear HR hk
   go_wp2
   go_ret2
   exact ⟨rfl, HB2.out⟩
 have e0 : (xk == 0) = false := by rw [beq_eq_false_iff_ne]; exact hk
 rw [if_neg hk] at hR
 have hq := HQ.out
 have hxw := HXW.out
 by_cases h6 : xk = 6
 case neg =>
   have e6 : (xk == 6) = false := by rw [beq_eq_false_iff_ne]; exact h6
   have e7 : (xk != 6) = true := by simp only [bne, e6, Bool.not_false]
   rw [if_pos (by rw [hxw, e6]; rfl)] at hR
   subst hR
   clear HR hk h6 hq hxw HQ HXW
   go_wp2
   go_ret2
   exact ⟨rfl, HB2.out⟩
 have e6 : (xk == 6) = true := by rw [h6]; rfl
 have e7 : (xk != 6) = false := by simp only [bne, e6, Bool.not_true]
 by_cases hs : xs = s
 case neg =>
   rw [decide_eq_false hs] at hq
   have e8 : (xb.toList != sb.toList) = true := by simp only [bne, hq, Bool.not_false]
   rw [if_pos (by rw [hxw, e6]; simp [hs])] at hR
   subst hR
   clear HR hk h6 hxw HQ HXW hs
   go_wp2
   go_ret2
   exact ⟨rfl, HB2.out⟩
 rw [decide_eq_true hs] at hq
 have e8 : (xb.toList != sb.toList) = false := by simp only [bne, hq, Bool.not_true]
 rw [if_neg (by rw [hxw, e6, hs]; simp)] at hR
 subst hR
 clear HR hk h6 hxw HQ HXW hs
 go_wp2
 go_ret2
 exact ⟨rfl, HB2.out⟩
theorem one_any {w : World} {a : Option Addr} {cap : Nat} {bs : List UInt8} (hr : Row w 1 a bs.length cap (bs.map u8C)) (hn : bs.length ≤ 400000) (k : Int) (last : Bool) (g : FuncId) (cb : Array Value) (p : Tk → Bool)
   (henter : ∀ args w, (callFunc g args).run Tryz.prog w = .ok (.enter g args) w)
   (hp : ∀ W, Below w.heap.size w W → ∀ x f t, Calls Tryz.prog g (#[.agg (tokN x f t)] ++ cb) W fun e w' => e = .returned (.bool (p x)) ∧ Below W.heap.size W w') :
   Calls Tryz.prog 76 #[.slice a bs.length cap, .int .i64 k, .bool last, .func (.func g) #[] cb] w (OneEnd w (oneW p (nextV bs k last))) := by
 have HN := Lib.hid (fun (W : World) (h : Below w.heap.size w W) => next_any (hr.mono h) hn k last)
 obtain ⟨R, hR⟩ : ∃ R, R = oneW p (nextV bs k last) := ⟨_, rfl⟩
 rw [← hR]
 unfold oneW at hR
 generalize nextV bs k last = V at *
 obtain ⟨x, f, t, er⟩ := V
 have HP := Lib.hid (fun W h => hp W h x f t)
 simp only at hR
 unfold NextEnd tokN at HN
 unfold tokN at HP
 simp only at HN
 have HR := Lib.hid hR
 clear hr hR hn hp
 generalize p x = px at *
 obtain ⟨xk, xvk, xvn, xvs, xs⟩ := x
 simp only at HN HP HR
 generalize bs.length = L at *
 go_enter Tryz.func76, Tryz.ntmps76
 obtain ⟨B, hB⟩ : ∃ B, B = w.heap.size := ⟨_, rfl⟩
 have HZ := Lib.hid (heapA_new (w := w) (b := B) (.cells #[.int .i64 0, .int .i64 0, .int .i64 0, .int .i64 0, .int .i64 0, .string ⟨#[]⟩, .slice none 0 0, .string ⟨#[]⟩] 150) hB)
 have HBW := Lib.hid (belowA w (.cells #[.int .i64 0, .int .i64 0, .int .i64 0, .int .i64 0, .int .i64 0, .string ⟨#[]⟩, .slice none 0 0, .string ⟨#[]⟩] 150))
 have HBB := Lib.hid (Nat.le_of_eq hB.symm)
 go_upto_region 1 with fail
 rw [← hB]
 clear hB
 generalize w.alloc _ = W1 at *
 go_wp2_with fail
 refine (HN.out _ HBW.out).mono ?_
 rintro e w2 ⟨rfl, hb2⟩
 have hb2a := hb2.alloc hb2.size (.cells #[.int .i64 xk, .int .i64 f, .int .i64 t, .int .i64 xvk, .int .i64 xvn, .string (mkB xvs), .slice none 0 0, .string (mkB xs)] 150)
 have HB2 := Lib.hid (HBW.out.trans (hb2a.mono HBW.out.size))
 have HT2 := Lib.hid (heapA_new (w := w2) (b := w2.heap.size) (.cells #[.int .i64 xk, .int .i64 f, .int .i64 t, .int .i64 xvk, .int .i64 xvn, .string (mkB xvs), .slice none 0 0, .string (mkB xs)] 150) rfl)
 have HZ2 := Lib.hid (block_keep hb2a HZ.out)
 clear hb2 hb2a HN HZ
 go_upto_region 2 with fail
 obtain ⟨r2, hr2⟩ : ∃ r2, r2 = w2.heap.size := ⟨_, rfl⟩
 rw [← hr2] at HT2 ⊢
 clear hr2
 generalize w2.alloc _ = W2 at *
 obtain ⟨⟨t0, t1, t2, t3, t4, t5, t6, t7⟩, -⟩ := cells8 HT2.out
 obtain ⟨⟨z0, z1, z2, z3, z4, z5, z6, z7⟩, zf0, zf1, zf2, zf3, zf4, zf5, zf6, zf7⟩ := cells8 HZ2.out
 have hR := HR.out
 by_cases her : er = 0
 case neg =>
   have e0 : (er == 0) = false := by rw [beq_eq_false_iff_ne]; exact her
   have e1 : (er != 0) = true := by simp only [bne, e0, Bool.not_false]
   rw [if_pos her] at hR
   subst hR
   clear HR her HP henter
   go_wp2
   refine bodyPost_ret (results_val rfl _ _ B 150 _ (0, 0) _ rfl (by exact set8 HZ2.out _ _ _ _ _ _ _ _) Tryz.underlying150 rfl (by exact infoTok) _ rfl) rfl ?_
   exact ⟨rfl, below_set8 HB2.out HBB.out _ _ _ _ _ _ _ _⟩
 subst her
 rw [if_neg (by simp)] at hR
 by_cases hk : xk = 0
 · have e0 : (xk == 0) = true := by rw [hk]; rfl
   rw [if_pos hk] at hR
   subst hR
   clear HR hk HP henter
   go_wp2
   refine bodyPost_ret (results_val rfl _ _ B 150 _ (0, 0) _ rfl (by exact set8 HZ2.out _ _ _ _ _ _ _ _) Tryz.underlying150 rfl (by exact infoTok) _ rfl) rfl ?_
   exact ⟨rfl, below_set8 HB2.out HBB.out _ _ _ _ _ _ _ _⟩
 have e0 : (xk == 0) = false := by rw [beq_eq_false_iff_ne]; exact hk
 rw [if_neg hk] at hR
 clear HR
 have HR := Lib.hid hR
 clear hR hk
 go_wp2_with fail
 refine (HP.out _ HB2.out).mono ?_
 rintro e w3 ⟨rfl, hb3⟩
 have HB3 := Lib.hid (HB2.out.trans (hb3.mono HB2.out.size))
 have HT3 := Lib.hid (block_keep hb3 HT2.out)
 have HZ3 := Lib.hid (block_keep hb3 HZ2.out)
 clear hb3 HP henter t0 t1 t2 t3 t4 t5 t6 t7 z0 z1 z2 z3 z4 z5 z6 z7 zf0 zf1 zf2 zf3 zf4 zf5 zf6 zf7
 obtain ⟨⟨t0, t1, t2, t3, t4, t5, t6, t7⟩, -⟩ := cells8 HT3.out
 obtain ⟨⟨z0, z1, z2, z3, z4, z5, z6, z7⟩, zf0, zf1, zf2, zf3, zf4, zf5, zf6, zf7⟩ := cells8 HZ3.out
 have hR := HR.out
 cases px with
 | false =>
   rw [if_pos rfl] at hR
   subst hR
   clear HR
   go_wp2
   refine bodyPost_ret (results_val rfl _ _ B 150 _ (0, 0) _ rfl (by exact set8 HZ3.out _ _ _ _ _ _ _ _) Tryz.underlying150 rfl (by exact infoTok) _ rfl) rfl ?_
   exact ⟨rfl, below_set8 HB3.out HBB.out _ _ _ _ _ _ _ _⟩
 | true =>
   rw [if_neg (by decide)] at hR
   subst hR
   clear HR
   go_wp2
   refine bodyPost_ret (results_val rfl _ _ B 150 _ (0, 0) _ rfl (by exact set8 HZ3.out _ _ _ _ _ _ _ _) Tryz.underlying150 rfl (by exact infoTok) _ rfl) rfl ?_
   exact ⟨rfl, below_set8 HB3.out HBB.out _ _ _ _ _ _ _ _⟩
theorem pword1_any {w : World} {b : Nat} {s : List UInt8} (hb : w.cell? ⟨b, 0, none⟩ = some (.string (mkB s))) (x : Tk) (f t : Int) :
   Calls Tryz.prog 77 #[.agg (tokN x f t), .pointer (some ⟨b, 0, none⟩)] w fun e w' => e = .returned (.bool (wordT s x)) ∧ Below w.heap.size w w' := by
 have hq : ((mkB x.s).toList == (mkB s).toList) = decide (x.s = s) := by rw [toList_mkB s]; exact eq_mkB x.s s
 have hw : wordT s x = (x.kind == 6 && decide (x.s = s)) := by unfold wordT; by_cases e : x.s = s <;> simp [e]
 rw [hw]
 unfold tokN
 have hb2 := cell?_keep (belowA w (.cells #[.int .i64 x.kind, .int .i64 f, .int .i64 t, .int .i64 x.vk, .int .i64 x.vn, .string (mkB x.vs), .slice none 0 0, .string (mkB x.s)] 150)) hb
 generalize decide (x.s = s) = ds at *
 clear hw
 generalize x.kind = a0 at *
 generalize x.vk = a1 at *
 generalize x.vn = a2 at *
 generalize mkB x.vs = s1 at *
 generalize mkB x.s = s2 at *
 generalize mkB s = s3 at *
 have HK := Lib.hid (heapA_new (w := w) (b := w.heap.size) (.cells #[.int .i64 a0, .int .i64 f, .int .i64 t, .int .i64 a1, .int .i64 a2, .string s1, .slice none 0 0, .string s2] 150) rfl)
 have HB := Lib.hid (belowA w (.cells #[.int .i64 a0, .int .i64 f, .int .i64 t, .int .i64 a1, .int .i64 a2, .string s1, .slice none 0 0, .string s2] 150))
 cases h0 : (a0 == 6)
 · go_enter Tryz.func77, Tryz.ntmps77
   go_upto_region 1 with fail
   obtain ⟨r, hr⟩ : ∃ r, r = w.heap.size := ⟨_, rfl⟩
   rw [← hr] at HK ⊢
   clear hr
   generalize w.alloc _ = W1 at *
   obtain ⟨⟨k0, k1, k2, k3, k4, k5, k6, k7⟩, -⟩ := cells8 HK.out
   go_wp2
   go_ret
   exact ⟨rfl, HB.out⟩
 · cases ds
   · go_enter Tryz.func77, Tryz.ntmps77
     go_upto_region 1 with fail
     obtain ⟨r, hr⟩ : ∃ r, r = w.heap.size := ⟨_, rfl⟩
     rw [← hr] at HK ⊢
     clear hr
     generalize w.alloc _ = W1 at *
     obtain ⟨⟨k0, k1, k2, k3, k4, k5, k6, k7⟩, -⟩ := cells8 HK.out
     go_wp2
     go_ret
     exact ⟨rfl, HB.out⟩
   · go_enter Tryz.func77, Tryz.ntmps77
     go_upto_region 1 with fail
     obtain ⟨r, hr⟩ : ∃ r, r = w.heap.size := ⟨_, rfl⟩
     rw [← hr] at HK ⊢
     clear hr
     generalize w.alloc _ = W1 at *
     obtain ⟨⟨k0, k1, k2, k3, k4, k5, k6, k7⟩, -⟩ := cells8 HK.out
     go_wp2
     go_ret
     exact ⟨rfl, HB.out⟩
theorem pword12_any {w : World} {a : Option Addr} {cap : Nat} {bs : List UInt8} (hr : Row w 1 a bs.length cap (bs.map u8C)) (hn : bs.length ≤ 400000) (k : Int) (last : Bool) (s : List UInt8) :
   Calls Tryz.prog 43 #[.slice a bs.length cap, .int .i64 k, .bool last, .string (mkB s)] w (WordEnd12 w (oneW (wordT s) (nextV bs k last))) := by
 have hbw := belowA w (.cells #[.string (mkB s)] 9)
 have hkw := heapA_new (w := w) (b := w.heap.size) (.cells #[.string (mkB s)] 9) rfl
 have hcw : (w.alloc (.cells #[.string (mkB s)] 9)).cell? ⟨w.heap.size, 0, none⟩ = some (.string (mkB s)) := by rw [cell_of_row _ _ 0 _ _ _ hkw]; rfl
 have HO := Lib.hid (one_any (hr.mono hbw) hn k last 77 #[.pointer (some ⟨w.heap.size, 0, none⟩)] (wordT s) (enters_of Tryz.func77 (by kernel_rfl) rfl) (fun W hW x f t => pword1_any (cell?_keep hW hcw) x f t))
 have HBW := Lib.hid hbw
 generalize oneW (wordT s) (nextV bs k last) = R at *
 obtain ⟨x, f, t, er⟩ := R
 unfold OneEnd tokN at HO
 unfold WordEnd12
 simp only at HO ⊢
 clear hr hn hbw hkw hcw
 generalize x.kind = xk at *
 generalize x.vk = xvk at *
 generalize x.vn = xvn at *
 generalize mkB x.vs = xvb at *
 generalize mkB x.s = xb at *
 generalize bs.length = L at *
 generalize mkB s = sb at *
 go_enter Tryz.func43, Tryz.ntmps43
 go_upto_region 1 with fail
 obtain ⟨B, hB⟩ : ∃ B, B = w.heap.size := ⟨_, rfl⟩
 rw [← hB] at HO ⊢
 have HBB := Lib.hid (Nat.le_of_eq hB.symm)
 clear hB
 generalize w.alloc _ = W1 at *
 go_wp2_with fail
 refine HO.out.mono ?_
 rintro e w2 ⟨rfl, hb2⟩
 have HB2 := Lib.hid (HBW.out.trans ((hb2.alloc hb2.size (.cells #[.int .i64 xk, .int .i64 f, .int .i64 t, .int .i64 xvk, .int .i64 xvn, .string xvb, .slice none 0 0, .string xb] 150)).mono HBW.out.size))
 have HT2 := Lib.hid (heapA_new (w := w2) (b := w2.heap.size) (.cells #[.int .i64 xk, .int .i64 f, .int .i64 t, .int .i64 xvk, .int .i64 xvn, .string xvb, .slice none 0 0, .string xb] 150) rfl)
 clear hb2 HO
 go_upto_region 2 with fail
 obtain ⟨r2, hr2⟩ : ∃ r2, r2 = w2.heap.size := ⟨_, rfl⟩
 rw [← hr2] at HT2 ⊢
 clear hr2
 generalize w2.alloc _ = W2 at *
 obtain ⟨⟨t0, t1, t2, t3, t4, t5, t6, t7⟩, -⟩ := cells8 HT2.out
 go_wp2
 go_ret2
 exact ⟨rfl, HB2.out⟩
theorem oneX_le {bs : List UInt8} {last : Bool} {k : Int} {p : Tk → Bool} (h : (oneX p (nextV bs k last)).2 = 0) : 0 ≤ (oneX p (nextV bs k last)).1 ∧ (oneX p (nextV bs k last)).1 ≤ bs.length := by
 by_cases hk : k < 0 ∨ (bs.length : Int) < k
 · unfold oneX nextV at h
   rw [if_pos hk] at h
   simp at h
 · obtain ⟨h1, h2⟩ := nextV_to (bs := bs) (k := k) last (by omega) (by omega)
   unfold oneX at h ⊢
   split
   · exact ⟨Int.le_refl _, by show (0 : Int) ≤ _; omega⟩
   · split
     · exact ⟨Int.le_refl _, by show (0 : Int) ≤ _; omega⟩
     · split
       · exact ⟨Int.le_refl _, by show (0 : Int) ≤ _; omega⟩
       · exact ⟨by show (0 : Int) ≤ (nextV bs k last).2.2.1; omega, h2⟩
theorem grps_le {bs : List UInt8} {last : Bool} : ∀ (g : Nat) (gs : List Grp) (k : Int), gs.length + g = 65 → 0 ≤ k → k ≤ bs.length → 0 ≤ (grpsV bs last g gs k).2.1 ∧ (grpsV bs last g gs k).2.1 ≤ bs.length
 | 0, _, _, _, _, _ => ⟨Int.le_refl _, by show (0 : Int) ≤ _; omega⟩
 | g + 1, gs, k, hg, h0, h1 => by
   have hto := nextV_to (bs := bs) (k := k) last h0 h1
   rw [← nxt_3] at hto
   by_cases he : (nxtV bs last k).2.2.2 = 0
   case neg => rw [grps_err he]; exact ⟨Int.le_refl _, by show (0 : Int) ≤ _; omega⟩
   cases ht : trailT (nxtV bs last k).1 with
   | true => rw [grps_trail he ht]; exact ⟨by show (0 : Int) ≤ (nxtV bs last k).2.2.1; omega, hto.2⟩
   | false =>
     by_cases hl : gs.length = 64
     · cases hw : wholeV (nxtV bs last k).1 with
       | false => rw [grps_bad he ht hw]; exact ⟨Int.le_refl _, by show (0 : Int) ≤ _; omega⟩
       | true => rw [grps_full he ht hw hl]; exact ⟨Int.le_refl _, by show (0 : Int) ≤ _; omega⟩
     · rw [grps_step he ht hl]
       split
       · exact ⟨Int.le_refl _, by show (0 : Int) ≤ _; omega⟩
       · obtain ⟨g1, g2⟩ := grp1_le (bs := bs) (last := last) (x := (nxtV bs last k).1) (k := (nxtV bs last k).2.2.1) (by omega) hto.2
         exact grps_le g _ _ (by rw [List.length_append]; simp; omega) g1 g2
theorem oneW_X (p : Tk → Bool) (V : Tk × Int × Int × Int) : (oneW p V).2.2.1 = (oneX p V).1 ∧ (oneW p V).2.2.2 = (oneX p V).2 := by
 unfold oneW oneX
 split
 · exact ⟨rfl, rfl⟩
 · split
   · exact ⟨rfl, rfl⟩
   · split
     · exact ⟨rfl, rfl⟩
     · exact ⟨rfl, rfl⟩
theorem set5 {w : World} {b : Nat} {x0 x1 x2 x3 x4 : Value} {t : TypeId} (h : w.heap[b]? = some (.cells #[x0, x1, x2, x3, x4] t (0, 0))) (y0 y1 y2 y3 y4 : Value) :
   (((((w.setCell ⟨b, 0, none⟩ y0).setCell ⟨b, 1, none⟩ y1).setCell ⟨b, 2, none⟩ y2).setCell ⟨b, 3, none⟩ y3).setCell ⟨b, 4, none⟩ y4).heap[b]? = some (.cells #[y0, y1, y2, y3, y4] t (0, 0)) := by
 rw [heap_setCell_same _ _ 4 _ _ _ (heap_setCell_same _ _ 3 _ _ _ (heap_setCell_same _ _ 2 _ _ _ (heap_setCell_same _ _ 1 _ _ _ (heap_setCell_same w _ 0 _ _ _ h))))]; rfl
theorem below_set5 {B : Nat} {w0 w : World} (h : Below B w0 w) {b : Nat} (hb : B ≤ b) (y0 y1 y2 y3 y4 : Value) : Below B w0 (((((w.setCell ⟨b, 0, none⟩ y0).setCell ⟨b, 1, none⟩ y1).setCell ⟨b, 2, none⟩ y2).setCell ⟨b, 3, none⟩ y3).setCell ⟨b, 4, none⟩ y4) :=
 ((((h.setCell hb _).setCell hb _).setCell hb _).setCell hb _).setCell hb _
theorem cells5 {w : World} {b : Nat} {x0 x1 x2 x3 x4 : Value} {t : TypeId} (h : w.heap[b]? = some (.cells #[x0, x1, x2, x3, x4] t (0, 0))) :
   (w.cell? ⟨b, 0, none⟩ = some x0 ∧ w.cell? ⟨b, 1, none⟩ = some x1 ∧ w.cell? ⟨b, 2, none⟩ = some x2 ∧ w.cell? ⟨b, 3, none⟩ = some x3 ∧ w.cell? ⟨b, 4, none⟩ = some x4) ∧
   (w.frozen? ⟨b, 0, none⟩ = false ∧ w.frozen? ⟨b, 1, none⟩ = false ∧ w.frozen? ⟨b, 2, none⟩ = false ∧ w.frozen? ⟨b, 3, none⟩ = false ∧ w.frozen? ⟨b, 4, none⟩ = false) := by
 refine ⟨⟨?_, ?_, ?_, ?_, ?_⟩, frozen_of_row w b 0 _ _ h, frozen_of_row w b 1 _ _ h, frozen_of_row w b 2 _ _ h, frozen_of_row w b 3 _ _ h, frozen_of_row w b 4 _ _ h⟩
 · rw [cell_of_row w b 0 _ _ _ h]; rfl
 · rw [cell_of_row w b 1 _ _ _ h]; rfl
 · rw [cell_of_row w b 2 _ _ _ h]; rfl
 · rw [cell_of_row w b 3 _ _ _ h]; rfl
 · rw [cell_of_row w b 4 _ _ _ h]; rfl
theorem sec_set5 {W : World} {s : Sec} {gv sl : Value} {B r : Nat} (h : IsSec W (fun b => B ≤ b) s gv sl) (hr : r < B) (y0 y1 y2 y3 y4 : Value) :
   IsSec (((((W.setCell ⟨r, 0, none⟩ y0).setCell ⟨r, 1, none⟩ y1).setCell ⟨r, 2, none⟩ y2).setCell ⟨r, 3, none⟩ y3).setCell ⟨r, 4, none⟩ y4) (fun b => B ≤ b) s gv sl :=
 h.keep ⟨by simp [World.setCell], fun b _ hF => by
   have hb : b ≠ r := by omega
   rw [heap_setCell_other _ _ _ _ hb, heap_setCell_other _ _ _ _ hb, heap_setCell_other _ _ _ _ hb, heap_setCell_other _ _ _ _ hb, heap_setCell_other _ _ _ _ hb]⟩ (fun _ h => h)
theorem infoSec : (Tryz.prog.info? 29).map (·.size) = some 5 := by kernel_rfl
def SecEnd (w : World) (V : Sec × Int × Int) (e : Ending) (w' : World) : Prop :=
 ∃ gv sl, e = .returned (.tuple #[secA V.1 gv sl, .int .i64 V.2.1, .int .i64 V.2.2]) ∧ IsSec w' (fun b => w.heap.size ≤ b) V.1 gv sl ∧ Below w.heap.size w w'
theorem sec_no {w W : World} {V : Sec × Int × Int} {e : Int} (hV : V = (Sec.none, 0, e)) {r : Nat} (hb : Below w.heap.size w W) (hr : w.heap.size ≤ r) (y0 y1 y2 y3 y4 : Value) :
   SecEnd w V (.returned (.tuple #[.agg #[.slice none 0 0, .int .i64 0, .int .i64 0, .string ⟨#[]⟩, .slice none 0 0], .int .i64 0, .int .i64 e])) (((((W.setCell ⟨r, 0, none⟩ y0).setCell ⟨r, 1, none⟩ y1).setCell ⟨r, 2, none⟩ y2).setCell ⟨r, 3, none⟩ y3).setCell ⟨r, 4, none⟩ y4) := by
 subst hV
 exact ⟨_, _, rfl, isSec_none _ _, below_set5 hb hr _ _ _ _ _⟩
theorem xparse_any {w : World} {a : Option Addr} {cap : Nat} {bs : List UInt8} (hr : Row w 1 a bs.length cap (bs.map u8C)) (hn : bs.length ≤ 390000) (k : Int) (last : Bool) :
   Calls Tryz.prog 11 #[.slice a bs.length cap, .int .i64 k, .bool last] w (SecEnd w (secV bs last k)) := by
 have HW := Lib.hid (fun (W : World) (h : Below w.heap.size w W) => pword12_any (hr.mono h) (by omega) k last [120, 114, 101, 102])
 have HOL := Lib.hid (fun h => oneX_le (bs := bs) (last := last) (k := k) (p := xrefT) h)
 obtain ⟨o1, o2⟩ := oneW_X xrefT (nextV bs k last)
 unfold WordEnd12 at HW
 rw [show wordT [120, 114, 101, 102] = xrefT from rfl, o1, o2] at HW
 clear o1 o2
 obtain ⟨V, hV⟩ : ∃ V, V = secV bs last k := ⟨_, rfl⟩
 rw [← hV]
 unfold secV at hV
 simp only at hV
 generalize oneX xrefT (nextV bs k last) = O at *
 obtain ⟨ot, oe⟩ := O
 simp only at hV HW HOL
 have HGV := Lib.hid (fun (W : World) (w0 : World) (p : Nat) (h : IsRd w0 W p a cap bs last ot) (h1 : 0 ≤ ot) (h2 : ot ≤ bs.length) => xgroups_any h h1 h2)
 have HGE := Lib.hid (fun (h1 : 0 ≤ ot) (h2 : ot ≤ bs.length) => grps_le (bs := bs) (last := last) 65 [] ot rfl h1 h2)
 generalize grpsV bs last 65 [] ot = G at *
 obtain ⟨gs, gt, ge⟩ := G
 unfold GsEnd at HGV
 simp only at hV HGV HGE
 have HPV := Lib.hid (fun (W : World) (h : Below w.heap.size w W) (h1 : 0 ≤ gt) (h2 : gt ≤ bs.length) => show Calls Tryz.prog 45 #[.slice a bs.length cap, .int .i64 gt, .bool last] W (DocEnd W (wholeD bs last gt)) from value_any (hr.mono h) (by omega) gt last _ (parse_doc h1 h2))
 generalize wholeD bs last gt = P at *
 obtain ⟨x, xt, xe⟩ := P
 unfold DocEnd at HPV
 simp only at hV HPV
 have HV := Lib.hid hV
 have HRB := Lib.hid hr
 clear hV hr
 obtain ⟨r, hr⟩ : ∃ r, r = w.heap.size := ⟨_, rfl⟩
 have HZ1 := Lib.hid (heapA_new (w := w) (b := r) (.cells #[.slice none 0 0, .int .i64 0, .int .i64 0, .string ⟨#[]⟩, .slice none 0 0] 29) hr)
 have HB1 := Lib.hid (belowA w (.cells #[.slice none 0 0, .int .i64 0, .int .i64 0, .string ⟨#[]⟩, .slice none 0 0] 29))
 have HRW := Lib.hid (Nat.le_of_eq hr.symm)
 go_enter Tryz.func11, Tryz.ntmps11
 go_upto_region 1 with fail
 rw [← hr]
 clear hr
 generalize w.alloc _ = W1 at *
 go_wp2_with fail
 refine (HW.out _ HB1.out).mono ?_
 rintro e w2 ⟨rfl, hb2⟩
 have HZ2 := Lib.hid (block_keep hb2 HZ1.out)
 have HB2 := Lib.hid (HB1.out.trans (hb2.mono HB1.out.size))
 clear HZ1 HB1 HW hb2
 obtain ⟨⟨z0, z1, z2, z3, z4⟩, y0, y1, y2, y3, y4⟩ := cells5 HZ2.out
 by_cases hoe : oe = 0
 case neg =>
   have HV2 := Lib.hid (HV.out.trans (if_pos hoe))
   have e0 : (oe == 0) = false := by rw [beq_eq_false_iff_ne]; exact hoe
   have e1 : (oe != 0) = true := by simp only [bne, e0, Bool.not_false]
   clear hoe
   go_wp2
   refine bodyPost_ret (results_val3 rfl _ _ r 29 _ (0, 0) _ rfl (by exact set5 HZ2.out _ _ _ _ _) Tryz.underlying29 rfl (by exact infoSec) _ _ rfl rfl) rfl ?_
   exact sec_no HV2.out HB2.out HRW.out _ _ _ _ _
 subst hoe
 have HV2 := Lib.hid (HV.out.trans (if_neg (by simp)))
 obtain ⟨ho1, ho2⟩ := HOL.out rfl
 have HO := Lib.hid (And.intro ho1 ho2)
 clear HV HOL ho1 ho2
 have HI3 := Lib.hid (show IsRd w2 (w2.alloc (.cells #[.slice a bs.length cap, .int .i64 ot, .bool last] 103)) w2.heap.size a cap bs last ot from ⟨heapA_new _ rfl, Nat.le_refl _, HRB.out.mono HB2.out, belowA _ _, by omega⟩)
 have HZ3 := Lib.hid (heapA_old (.cells #[.slice a bs.length cap, .int .i64 ot, .bool last] 103) HZ2.out)
 have HB3 := Lib.hid (HB2.out.alloc HB2.out.size (.cells #[.slice a bs.length cap, .int .i64 ot, .bool last] 103))
 have HPR := Lib.hid (show r ≠ w2.heap.size by have := lt_of_heap HZ2.out; omega)
 clear HZ2 z0 z1 z2 z3 z4 y0 y1 y2 y3 y4
 go_upto_region 5 with fail
 have HP2 := Lib.hid HB2.out.size
 generalize w2.heap.size = p at *
 generalize World.alloc _ _ = W3 at *
 go_wp2_with fail
 refine (HGV.out _ _ _ HI3.out HO.out.1 HO.out.2).mono ?_
 rintro e w4 ⟨gv, rfl, hg4, ⟨at2, hi4, hat⟩, hk4⟩
 have HZ4 := Lib.hid (hk4.obj HZ3.out HPR.out)
 have HB4 := Lib.hid (HB3.out.trans (hk4.below (B := w.heap.size) HB3.out.size (fun b hb => by rw [hb]; exact HP2.out)))
 have HI4 := Lib.hid hi4
 have HG4 := Lib.hid hg4
 have HAT := Lib.hid hat
 have HW3 := Lib.hid (show w.heap.size ≤ W3.heap.size ∧ r < W3.heap.size from ⟨HB3.out.size, lt_of_heap HZ3.out⟩)
 clear HZ3 HB3 HI3 hk4 hi4 hg4 hat HGV
 obtain ⟨⟨z0, z1, z2, z3, z4⟩, y0, y1, y2, y3, y4⟩ := cells5 HZ4.out
 obtain ⟨⟨c0, c1, c2⟩, f0, f1, f2⟩ := HI4.out.cells
 by_cases hge : ge = 0
 case neg =>
   have HV3 := Lib.hid (HV2.out.trans (if_pos hge))
   have e0 : (ge == 0) = false := by rw [beq_eq_false_iff_ne]; exact hge
   have e1 : (ge != 0) = true := by simp only [bne, e0, Bool.not_false]
   clear hge
   go_wp2
   refine bodyPost_ret (results_val3 rfl _ _ r 29 _ (0, 0) _ rfl (by exact set5 HZ4.out _ _ _ _ _) Tryz.underlying29 rfl (by exact infoSec) _ _ rfl rfl) rfl ?_
   exact sec_no HV3.out HB4.out HRW.out _ _ _ _ _
 subst hge
 have HV3 := Lib.hid (HV2.out.trans (if_neg (by simp)))
 obtain rfl : at2 = gt := HAT.out rfl
 have HGG := Lib.hid (HGE.out HO.out.1 HO.out.2)
 obtain ⟨ga, gc, rfl, -, -, -⟩ := HG4.out.len
 clear HV2 HAT HGE
 go_wp2_with fail
 refine (HPV.out _ HB4.out HGG.out.1 HGG.out.2).mono ?_
 rintro e w5 ⟨sl, rfl, hx5, hb5⟩
 obtain ⟨sa, sc, rfl, -, -, -⟩ := hx5.len
 simp only [pvA]
 have hb5a := hb5.alloc hb5.size (.cells #[.int .i64 x.kind, .int .i64 x.n, .string (mkB x.s), .slice sa x.l.length sc] 27)
 have HT5 := Lib.hid (heapA_new (w := w5) (b := w5.heap.size) (.cells #[.int .i64 x.kind, .int .i64 x.n, .string (mkB x.s), .slice sa x.l.length sc] 27) rfl)
 have HX5 := Lib.hid (hx5.below (belowA w5 (.cells #[.int .i64 x.kind, .int .i64 x.n, .string (mkB x.s), .slice sa x.l.length sc] 27)))
 have HG5 := Lib.hid (HG4.out.below hb5a)
 have HZ5 := Lib.hid (block_keep hb5a HZ4.out)
 have HB5 := Lib.hid (HB4.out.trans (hb5a.mono HB4.out.size))
 have HW4 := Lib.hid (show w.heap.size ≤ w4.heap.size ∧ r < w4.heap.size from ⟨HB4.out.size, lt_of_heap HZ4.out⟩)
 clear hb5 hb5a hx5 HPV HZ4 HB4 HG4 HI4 z0 z1 z2 z3 z4 y0 y1 y2 y3 y4 c0 c1 c2 f0 f1 f2
 go_upto_region 9 with fail
 generalize w5.heap.size = T at *
 generalize World.alloc _ _ = W5 at *
 obtain ⟨⟨t0, t1, t2, t3⟩, -⟩ := cells4 HT5.out
 obtain ⟨⟨z0, z1, z2, z3, z4⟩, y0, y1, y2, y3, y4⟩ := cells5 HZ5.out
 by_cases hxe : xe = 0
 case neg =>
   have HV4 := Lib.hid (HV3.out.trans (if_pos hxe))
   have e0 : (xe == 0) = false := by rw [beq_eq_false_iff_ne]; exact hxe
   have e1 : (xe != 0) = true := by simp only [bne, e0, Bool.not_false]
   clear hxe HX5 HG5
   go_wp2
   refine bodyPost_ret (results_val3 rfl _ _ r 29 _ (0, 0) _ rfl (by exact set5 HZ5.out _ _ _ _ _) Tryz.underlying29 rfl (by exact infoSec) _ _ rfl rfl) rfl ?_
   exact sec_no HV4.out HB5.out HRW.out _ _ _ _ _
 subst hxe
 have HV4 := Lib.hid (HV3.out.trans (if_neg (by simp)))
 clear HV3
 by_cases hxk : x.kind = 7
 case neg =>
   have HV5 := Lib.hid (HV4.out.trans (if_pos hxk))
   have e0 : (x.kind == 7) = false := by rw [beq_eq_false_iff_ne]; exact hxk
   have e1 : (x.kind != 7) = true := by simp only [bne, e0, Bool.not_false]
   clear hxk HX5 HG5 HV4
   generalize x.kind = xk at *
   go_wp2
   refine bodyPost_ret (results_val3 rfl _ _ r 29 _ (0, 0) _ rfl (by exact set5 HZ5.out _ _ _ _ _) Tryz.underlying29 rfl (by exact infoSec) _ _ rfl rfl) rfl ?_
   exact sec_no HV5.out HB5.out HRW.out _ _ _ _ _
 have HV5 := Lib.hid (HV4.out.trans (if_neg (fun h => h hxk)))
 have e0 : (x.kind == 7) = true := by rw [beq_iff_eq]; exact hxk
 have e1 : (x.kind != 7) = false := by simp only [bne, e0, Bool.not_true]
 clear hxk HV4
 have HSC := Lib.hid (show IsSec W5 (fun b => W3.heap.size ≤ b ∨ w4.heap.size ≤ b) ⟨gs, x⟩ (.slice ga gs.length gc) (.slice sa x.l.length sc) from ⟨HG5.out.keep (Stays.refl _ _) (fun b hb => .inl hb), HX5.out.weaken (fun b hb => .inr hb)⟩)
 have HS2 := Lib.hid (fun y0 y1 y2 y3 y4 => sec_set5 (s := ⟨gs, x⟩) (gv := .slice ga gs.length gc) (sl := .slice sa x.l.length sc) (B := r + 1) (HSC.out.keep (Stays.refl _ _) (fun b hb => by have := HW3.out.2; have := HW4.out.2; show r + 1 ≤ b; omega)) (Nat.lt_succ_self r) y0 y1 y2 y3 y4)
 clear HX5 HG5 HSC
 have HPA := Lib.hid (show secA ⟨gs, x⟩ (.slice ga gs.length gc) (.slice sa x.l.length sc) = .agg #[.slice ga gs.length gc, .int .i64 x.kind, .int .i64 x.n, .string (mkB x.s), .slice sa x.l.length sc] from rfl)
 generalize x.kind = xk at *
 generalize x.n = xn at *
 generalize mkB x.s = xb at *
 go_wp2
 refine bodyPost_ret (results_val3 rfl _ _ r 29 _ (0, 0) _ rfl (by exact set5 HZ5.out _ _ _ _ _) Tryz.underlying29 rfl (by exact infoSec) _ _ rfl rfl) rfl ?_
 rw [HV5.out]
 refine ⟨.slice ga gs.length gc, .slice sa x.l.length sc, by rw [HPA.out]; rfl, ?_, below_set5 HB5.out HRW.out _ _ _ _ _⟩
 exact (HS2.out _ _ _ _ _).keep (Stays.refl _ _) (fun b hb => by have := HRW.out; show w.heap.size ≤ b; omega)
theorem find_go {gs : List Grp} {c : Nat} {g : Grp} {n : Int} (hg : gs[c]? = some g) (h : ¬ (g.first ≤ n ∧ n - g.first < (g.es.length : Int))) : findV (gs.drop c) n = findV (gs.drop (c + 1)) n := by
 obtain ⟨hc, rfl⟩ := List.getElem?_eq_some_iff.1 hg
 rw [List.drop_eq_getElem_cons hc, findV, if_neg h]
theorem find_hit {gs : List Grp} {c : Nat} {g : Grp} {n : Int} (hg : gs[c]? = some g) (h : g.first ≤ n ∧ n - g.first < (g.es.length : Int)) : findV (gs.drop c) n = some (g.es.getD (n - g.first).toNat {}) := by
 obtain ⟨hc, rfl⟩ := List.getElem?_eq_some_iff.1 hg
 rw [List.drop_eq_getElem_cons hc, findV, if_pos h]
def smallG (gs : List Grp) : Prop := ∀ g ∈ gs, -2000000000000000000 ≤ g.first ∧ g.first ≤ 2000000000000000000
theorem xfind_any {w : World} {F : Nat → Prop} {s : Sec} {gv sl : Value} (h : IsSec w F s gv sl) (n : Int) (hs : smallG s.gs) (hn0 : -2000000000000000000 ≤ n) (hn1 : n ≤ 2000000000000000000) :
   Calls Tryz.prog 16 #[secA s gv sl, .int .i64 n] w fun e w' => e = .returned (.tuple #[entA (findP (findV s.gs n)).1, .bool (findP (findV s.gs n)).2]) ∧ Below w.heap.size w w' := by
 obtain ⟨gs, x⟩ := s
 simp only at hs ⊢
 obtain ⟨ga, gc, rfl, hgc, hgm, -⟩ := h.1.len
 simp only at hgc
 obtain ⟨V, hV⟩ : ∃ V, V = findV gs n := ⟨_, rfl⟩
 rw [← hV]
 have HV := Lib.hid hV
 have HS := Lib.hid hs
 have HGA := Lib.hid (fun (W : World) (hb : Below w.heap.size w W) => (h.1.below hb))
 simp only at HGA
 clear hV hs
 unfold secA
 simp only
 obtain ⟨sa, sc, rfl, -, -, -⟩ := h.2.len
 simp only at h ⊢
 clear h
 have hg63 : (gs.length : Int) ≤ 9223372036854775807 := by unfold maxLen at hgm; omega
 generalize x.kind = xk at *
 generalize x.n = xn at *
 generalize mkB x.s = xb at *
 generalize x.l.length = xl at *
 obtain ⟨B, hB⟩ : ∃ B, B = w.heap.size := ⟨_, rfl⟩
 have HB1 := Lib.hid (belowA2 w (.cells #[.slice ga gs.length gc, .int .i64 xk, .int .i64 xn, .string xb, .slice sa xl sc] 29) (.cells #[.int .i64 0, .int .i64 0, .bool false] 44))
 have HX1 := Lib.hid (heapA_old (w := w.alloc (.cells #[.slice ga gs.length gc, .int .i64 xk, .int .i64 xn, .string xb, .slice sa xl sc] 29)) (.cells #[.int .i64 0, .int .i64 0, .bool false] 44) (heapA_new (w := w) (b := B) (.cells #[.slice ga gs.length gc, .int .i64 xk, .int .i64 xn, .string xb, .slice sa xl sc] 29) hB))
 have HZ1 := Lib.hid (heapA_new (w := w.alloc (.cells #[.slice ga gs.length gc, .int .i64 xk, .int .i64 xn, .string xb, .slice sa xl sc] 29)) (b := B + 1) (.cells #[.int .i64 0, .int .i64 0, .bool false] 44) (by rw [sizeA, hB]))
 have HRW := Lib.hid (show w.heap.size ≤ B + 1 by omega)
 go_enter Tryz.func16, Tryz.ntmps16
 go_upto_region 1 with fail
 try rw [← hB]
 generalize World.alloc _ _ = W1 at *
 clear hB
 generalize B + 1 = r at *
 obtain ⟨⟨x0, x1, x2, x3, x4⟩, -⟩ := cells5 HX1.out
 go_wp2_with fail
 clear x0 x1 x2 x3 x4 HX1
 go_loopw [11] (fun v wr => ∃ c : Nat, v = .int .i64 c ∧ c ≤ gs.length ∧ Hid (Below w.heap.size w wr) ∧ Hid (wr.heap[r]? = some (.cells #[.int .i64 0, .int .i64 0, .bool false] 44 (0, 0))) ∧ Hid (V = findV (gs.drop c) n)) (fun v _ => gs.length - (intOf v).toNat)
 case atStart => exact ⟨0, rfl, Nat.zero_le _, HB1, HZ1, HV⟩
 case round =>
   obtain ⟨c, rfl, hc, HB, HZ, HQ⟩ := hrel
   by_cases hlt : c < gs.length
   · have hcd : decide ((c : Int) < (gs.length : Int)) = true := by simp; omega
     have hcd2 : decide (c < gs.length) = true := by simp; omega
     obtain ⟨-, -, -, b, off, ha, -, -, hat⟩ := (HGA.out wr HB.out).at (by omega)
     subst ha
     obtain ⟨g, hg⟩ : ∃ g, gs[c]? = some g := ⟨_, List.getElem?_eq_getElem hlt⟩
     obtain ⟨v, hv, g0, g1⟩ := hat c g hg
     obtain ⟨ea, ec, rfl, hel, hec, -⟩ := hv.len
     obtain ⟨hs1, hs2⟩ := HS.out g (List.mem_of_getElem? hg)
     have HIE := Lib.hid hv
     have HGO := Lib.hid (fun h => HQ.out.trans (find_go hg h))
     have HHT := Lib.hid (fun h => HQ.out.trans (find_hit hg h))
     have he63 : (g.es.length : Int) ≤ 9223372036854775807 := by unfold maxLen at hec; omega
     clear hat hv hg HQ
     obtain ⟨gf, ge⟩ := g
     simp only at *
     have HBA := Lib.hid (HB.out.alloc HB.out.size (.cells #[.int .i64 gf, .slice ea ge.length ec] 42))
     have HZA := Lib.hid (heapA_old (.cells #[.int .i64 gf, .slice ea ge.length ec] 42) HZ.out)
     by_cases h1 : gf ≤ n
     case neg =>
       have HQ2 := Lib.hid (HGO.out (fun h => h1 h.1))
       have hd : decide (gf ≤ n) = false := decide_eq_false h1
       go_wp2
       go_roundw
       case rel => exact ⟨c + 1, by go_num, by omega, HBA, HZA, HQ2⟩
       case measure => simp [intOf]; omega
     obtain ⟨m, hm⟩ : ∃ m : Nat, n - gf = (m : Int) := ⟨(n - gf).toNat, by omega⟩
     have hd : decide (gf ≤ n) = true := decide_eq_true h1
     by_cases h2 : m < ge.length
     case neg =>
       have HQ2 := Lib.hid (HGO.out (fun h => h2 (by omega)))
       have hd2 : decide (m < ge.length) = false := decide_eq_false h2
       have hd3 : decide ((m : Int) < (ge.length : Int)) = false := decide_eq_false (by omega)
       go_wp2
       go_roundw
       case rel => exact ⟨c + 1, by go_num, by omega, HBA, HZA, HQ2⟩
       case measure => simp [intOf]; omega
     have HQ2 := Lib.hid (HHT.out ⟨h1, by omega⟩)
     rw [hm, Int.toNat_natCast] at HQ2
     obtain ⟨-, -, -, be, oe, hae, hbe, -, hae2⟩ := HIE.out.at (by omega)
     subst hae
     obtain ⟨ee, hee⟩ : ∃ ee, ge[m]? = some ee := ⟨_, List.getElem?_eq_getElem h2⟩
     obtain ⟨e0, e1, e2⟩ := hae2 m ee hee
     have HEE := Lib.hid (show ge.getD m {} = ee by rw [List.getD_eq_getElem?_getD, hee]; rfl)
     rw [HEE.out] at HQ2
     have hd2 : decide (m < ge.length) = true := decide_eq_true h2
     have hd3 : decide ((m : Int) < (ge.length : Int)) = true := decide_eq_true (by omega)
     clear hae2 hee HEE HIE HGO HHT
     have e0 := cell_alloc (.cells #[.int .i64 gf, .slice (some ⟨be, oe, none⟩) ge.length ec] 42) e0
     have e1 := cell_alloc (.cells #[.int .i64 gf, .slice (some ⟨be, oe, none⟩) ge.length ec] 42) e1
     have e2 := cell_alloc (.cells #[.int .i64 gf, .slice (some ⟨be, oe, none⟩) ge.length ec] 42) e2
     obtain ⟨⟨z0, z1, z2⟩, y0, y1, y2⟩ := cells3 HZA.out
     go_wp2
     refine bodyPost_ret (results_val rfl _ _ r 44 _ (0, 0) _ rfl (by exact set3a HZA.out _ _ _) Tryz.underlying44 rfl (by exact infoEnt) _ rfl) rfl ?_
     rw [HQ2.out]
     exact ⟨rfl, ((HBA.out.setCell HRW.out _).setCell HRW.out _).setCell HRW.out _⟩
   · have hce : c = gs.length := by omega
     have hcd : decide ((c : Int) < (gs.length : Int)) = false := decide_eq_false (by omega)
     have hcd2 : decide (c < gs.length) = false := decide_eq_false (by omega)
     have HQ2 := Lib.hid (HQ.out.trans (show findV (gs.drop c) n = none by rw [hce, List.drop_length]; rfl))
     obtain ⟨⟨z0, z1, z2⟩, y0, y1, y2⟩ := cells3 HZ.out
     clear hce
     go_wp2
     refine bodyPost_ret (results_val rfl _ _ r 44 _ (0, 0) _ rfl (by exact set3a HZ.out _ _ _) Tryz.underlying44 rfl (by exact infoEnt) _ rfl) rfl ?_
     rw [HQ2.out]
     exact ⟨rfl, ((HB.out.setCell HRW.out _).setCell HRW.out _).setCell HRW.out _⟩
structure SmM (w W : World) (B1 B2 : Nat) (c1 c2 : Array Value) : Prop where
 bel : Below w.heap.size w W
 one : W.heap[B1]? = some (.cells c1 33 (0, 0))
 two : W.heap[B2]? = some (.cells c2 33 (0, 0))
theorem SmM.on {w W W' : World} {B1 B2 : Nat} {c1 c2 : Array Value} (h : SmM w W B1 B2 c1 c2) (hb : Below W.heap.size W W') : SmM w W' B1 B2 c1 c2 :=
 ⟨h.bel.trans (hb.mono h.bel.size), block_keep hb h.one, block_keep hb h.two⟩
structure GgM (W W' : World) (b1 b2 : Nat) (c1 c2 : Array Value) : Prop where
 bel : Below W.heap.size W W'
 one : W'.heap[b1]? = some (.cells c1 42 (0, 0))
 two : W'.heap[b2]? = some (.cells c2 42 (0, 0))
theorem GgM.on {w W W' : World} {B1 B2 : Nat} {c1 c2 : Array Value} (h : GgM w W B1 B2 c1 c2) (hb : Below W.heap.size W W') : GgM w W' B1 B2 c1 c2 :=
 ⟨h.bel.trans (hb.mono h.bel.size), block_keep hb h.one, block_keep hb h.two⟩
theorem dsame_eq {w : World} {F G : Nat → Prop} {s : Sec} {gv sl gv' sl' : Value} (h : IsSec w F s gv sl) (h' : IsSec w G s gv' sl') :
   Calls Tryz.prog 13 #[secA s gv sl, secA s gv' sl'] w fun e w' => e = .returned (.bool true) ∧ Below w.heap.size w w' := by
 obtain ⟨gs, x⟩ := s
 obtain ⟨ga, gc, rfl, hgc, hgm, -⟩ := h.1.len
 obtain ⟨ga', gc', rfl, -, hgm', -⟩ := h'.1.len
 obtain ⟨sa, sc, rfl, -, -, -⟩ := h.2.len
 obtain ⟨sa', sc', rfl, -, -, -⟩ := h'.2.len
 simp only at h h' hgc hgm
 have HG1 := Lib.hid (fun (W : World) (hb : Below w.heap.size w W) => h.1.below hb)
 have HG2 := Lib.hid (fun (W : World) (hb : Below w.heap.size w W) => h'.1.below hb)
 have HSA := Lib.hid (fun (W : World) (hb : Below w.heap.size w W) => same_any (h.2.below hb) (h'.2.below hb))
 simp only [compare_self, pvA] at HSA
 have hg63 : (gs.length : Int) ≤ 9223372036854775807 := by unfold maxLen at hgm; omega
 unfold secA
 simp only at HG1 HG2 ⊢
 clear h h' hgm' hgm hgc
 generalize x.kind = xk at *
 generalize x.n = xn at *
 generalize mkB x.s = xb at *
 generalize x.l.length = xl at *
 obtain ⟨B, hB⟩ : ∃ B, B = w.heap.size := ⟨_, rfl⟩
 have HM1 := Lib.hid (show SmM w ((w.alloc (.cells #[.slice ga gs.length gc, .int .i64 xk, .int .i64 xn, .string xb, .slice sa xl sc] 33)).alloc (.cells #[.slice ga' gs.length gc', .int .i64 xk, .int .i64 xn, .string xb, .slice sa' xl sc'] 33)) B (B + 1) #[.slice ga gs.length gc, .int .i64 xk, .int .i64 xn, .string xb, .slice sa xl sc] #[.slice ga' gs.length gc', .int .i64 xk, .int .i64 xn, .string xb, .slice sa' xl sc'] from
   ⟨belowA2 w _ _, heapA_old _ (heapA_new _ hB), heapA_new _ (by rw [sizeA, hB])⟩)
 have hLL : ((gs.length : Int) != gs.length) = false := by simp
 go_enter Tryz.func13, Tryz.ntmps13
 go_upto_region 1 with fail
 try rw [← hB]
 generalize World.alloc _ _ = W1 at *
 clear hB
 generalize B + 1 = B2 at *
 obtain ⟨⟨a0, a1, a2, a3, a4⟩, -⟩ := cells5 HM1.out.one
 obtain ⟨⟨b0, b1, b2, b3, b4⟩, -⟩ := cells5 HM1.out.two
 go_wp2_with (go_at_call 51; refine (HSA.out _ HM1.out.bel).mono ?_; rintro e w2 ⟨rfl, hb2⟩; have HM2 := Lib.hid (HM1.out.on hb2); clear hb2 a0 a1 a2 a3 a4 b0 b1 b2 b3 b4 HM1)
 go_loopw [5] (fun v wr => ∃ c : Nat, v = .int .i64 c ∧ c ≤ gs.length ∧ Hid (SmM w wr B B2 #[.slice ga gs.length gc, .int .i64 xk, .int .i64 xn, .string xb, .slice sa xl sc] #[.slice ga' gs.length gc', .int .i64 xk, .int .i64 xn, .string xb, .slice sa' xl sc'])) (fun v _ => gs.length - (intOf v).toNat)
 case atStart => exact ⟨0, rfl, Nat.zero_le _, HM2⟩
 case round =>
   obtain ⟨c, rfl, hc, HM⟩ := hrel
   obtain ⟨⟨a0, a1, a2, a3, a4⟩, -⟩ := cells5 HM.out.one
   obtain ⟨⟨b0, b1, b2, b3, b4⟩, -⟩ := cells5 HM.out.two
   by_cases hlt : c < gs.length
   case neg =>
     have hcd : decide ((c : Int) < (gs.length : Int)) = false := decide_eq_false (by omega)
     have hcd2 : decide (c < gs.length) = false := decide_eq_false (by omega)
     go_wp2
     go_ret
     exact ⟨rfl, HM.out.bel⟩
   have hcd : decide ((c : Int) < (gs.length : Int)) = true := by simp; omega
   have hcd2 : decide (c < gs.length) = true := by simp; omega
   obtain ⟨-, -, -, b, off, ha, -, -, hat⟩ := (HG1.out wr HM.out.bel).at (by omega)
   obtain ⟨-, -, -, b', off', ha', -, -, hat'⟩ := (HG2.out wr HM.out.bel).at (by omega)
   subst ha
   subst ha'
   obtain ⟨g, hg⟩ : ∃ g, gs[c]? = some g := ⟨_, List.getElem?_eq_getElem hlt⟩
   obtain ⟨v, hv, g0, g1⟩ := hat c g hg
   obtain ⟨v', hv', g0', g1'⟩ := hat' c g hg
   obtain ⟨ea, ec, rfl, hel, hec, -⟩ := hv.len
   obtain ⟨ea', ec', rfl, hel', hec', -⟩ := hv'.len
   have HE1 := Lib.hid (fun (W : World) (hb : Below wr.heap.size wr W) => hv.below hb)
   have HE2 := Lib.hid (fun (W : World) (hb : Below wr.heap.size wr W) => hv'.below hb)
   have he63 : (g.es.length : Int) ≤ 9223372036854775807 := by unfold maxLen at hec; omega
   have hci : (c : Int) < (gs.length : Int) := by omega
   clear hat hat' hv hv' hg hel hel' hec hec'
   obtain ⟨gf, ge⟩ := g
   simp only at *
   go_upto_region 6 with fail
   go_cut [6, 7] from 24 to 104 (fun v6 v7 wx => ∃ q1 q2, v6 = .pointer (some ⟨q1, 0, none⟩) ∧ v7 = .pointer (some ⟨q2, 0, none⟩) ∧ Hid (GgM wr wx q1 q2 #[.int .i64 gf, .slice ea ge.length ec] #[.int .i64 gf, .slice ea' ge.length ec']))
   case first =>
     clear a1 a2 a3 a4 b1 b2 b3 b4
     have e0 := cell?_keep (Below.refl _ wr).drew a0
     have e1 := cell?_keep (Below.refl _ wr).drew b0
     have e2 := cell?_keep (Below.refl _ wr).drew g0
     have e3 := cell?_keep (Below.refl _ wr).drew g1
     have e4 := cell?_keep (Below.refl _ wr).drew g0'
     have e5 := cell?_keep (Below.refl _ wr).drew g1'
     go_region_held3 (fun w' => w'.cell? ⟨B, 0, none⟩ = some (.slice (some ⟨b, off, none⟩) gs.length gc) ∧ w'.cell? ⟨B2, 0, none⟩ = some (.slice (some ⟨b', off', none⟩) gs.length gc') ∧ w'.cell? ⟨b, off + c * 2, none⟩ = some (.int .i64 gf) ∧ w'.cell? ⟨b, off + c * 2 + 1, none⟩ = some (.slice ea ge.length ec) ∧ w'.cell? ⟨b', off' + c * 2, none⟩ = some (.int .i64 gf) ∧ w'.cell? ⟨b', off' + c * 2 + 1, none⟩ = some (.slice ea' ge.length ec')) (go_keep) (fail)
     all_goals (try go_wp2_with fail)
     all_goals go_meet
     · exact ⟨_, _, rfl, rfl, Lib.hid ⟨(belowA2 wr _ _).drew, heapA_old _ (heapA_new _ rfl), heapA_new _ (by rw [sizeA])⟩⟩
     · exact ⟨_, _, rfl, rfl, Lib.hid ⟨(belowA2 wr _ _).drew, heapA_new _ (by rw [sizeA]), heapA_old _ (heapA_new _ rfl)⟩⟩
   case rest =>
   obtain ⟨q1, q2, rfl, rfl, HGG⟩ := hcut
   have HM3 := Lib.hid (HM.out.on HGG.out.bel)
   clear HM a0 a1 a2 a3 a4 b0 b1 b2 b3 b4 g0 g1 g0' g1'
   obtain ⟨⟨g0, g1⟩, -⟩ := cells2 HGG.out.one
   obtain ⟨⟨g0', g1'⟩, -⟩ := cells2 HGG.out.two
   have hff : (gf != gf) = false := by simp
   have hee : ((ge.length : Int) != ge.length) = false := by simp
   go_wp2_with fail
   clear g0 g1 g0' g1'
   go_loopw [8] (fun v wr2 => ∃ d : Nat, v = .int .i64 d ∧ d ≤ ge.length ∧ Hid (SmM w wr2 B B2 #[.slice (some ⟨b, off, none⟩) gs.length gc, .int .i64 xk, .int .i64 xn, .string xb, .slice sa xl sc] #[.slice (some ⟨b', off', none⟩) gs.length gc', .int .i64 xk, .int .i64 xn, .string xb, .slice sa' xl sc']) ∧ Hid (GgM wr wr2 q1 q2 #[.int .i64 gf, .slice ea ge.length ec] #[.int .i64 gf, .slice ea' ge.length ec'])) (fun v _ => ge.length - (intOf v).toNat)
   case atStart => exact ⟨0, rfl, Nat.zero_le _, HM3, HGG⟩
   case round =>
     obtain ⟨d, rfl, hd, HMM, HGQ⟩ := hrel
     obtain ⟨⟨g0, g1⟩, -⟩ := cells2 HGQ.out.one
     obtain ⟨⟨g0', g1'⟩, -⟩ := cells2 HGQ.out.two
     by_cases hle : d < ge.length
     case neg =>
       have hdd : decide ((d : Int) < (ge.length : Int)) = false := decide_eq_false (by omega)
       have hdd2 : decide (d < ge.length) = false := decide_eq_false (by omega)
       go_wp2
       go_roundw
       case rel => exact ⟨c + 1, by go_num, by omega, HMM⟩
       case measure => simp [intOf]; omega
     have hdd : decide ((d : Int) < (ge.length : Int)) = true := by simp; omega
     have hdd2 : decide (d < ge.length) = true := by simp; omega
     have hdi : (d : Int) < (ge.length : Int) := by omega
     obtain ⟨-, -, -, be, oe, hae, -, -, hat⟩ := (HE1.out wr HGQ.out.bel).at (by omega)
     obtain ⟨-, -, -, be', oe', hae', -, -, hat'⟩ := (HE2.out wr HGQ.out.bel).at (by omega)
     subst hae
     subst hae'
     obtain ⟨ee, hee'⟩ : ∃ ee, ge[d]? = some ee := ⟨_, List.getElem?_eq_getElem hle⟩
     obtain ⟨e0, e1, e2⟩ := hat d ee hee'
     obtain ⟨e0', e1', e2'⟩ := hat' d ee hee'
     clear hat hat' hee'
     obtain ⟨na, ng, nu⟩ := ee
     simp only at *
     have hna : (na != na) = false := by simp
     have hng : (ng != ng) = false := by simp
     have hnu : (nu != nu) = false := by simp
     have HB3 := Lib.hid (fun q => HMM.out.on (below_drewN (Below.refl _ _) q))
     have HB4 := Lib.hid (fun q => HGQ.out.on (below_drewN (Below.refl _ _) q))
     go_upto_region 12 with fail
     go_quiet (fail)
     go_wp2_with fail
     go_roundw
     case rel => exact ⟨d + 1, by go_num, by omega, HB3.out _, HB4.out _⟩
     case measure => simp [intOf]; omega
def mkS (l : List UInt8) : ByteArray := ⟨l.toArray⟩
theorem bl_mkS (l : List UInt8) : bl (mkS l) = l := rfl
theorem mkS_bl (s : ByteArray) : mkS (bl s) = s := rfl
theorem mkS_size (l : List UInt8) : (mkS l).size = l.length := by unfold mkS; simp [ByteArray.size]
theorem mkS_app (a b : List UInt8) : mkS a ++ mkS b = mkS (a ++ b) := ByteArray.mk_append_mk a b
theorem mkS_ext {a b : ByteArray} (h : bl a = bl b) : a = b := by rw [← mkS_bl a, ← mkS_bl b, h]
theorem ret_str {a b : ByteArray} (h : a = b) : Ending.returned (.string a) = .returned (.string b) := by rw [h]
theorem dig_ext (d : Nat) (h : d < 10) : (⟨#[48, 49, 50, 51, 52, 53, 54, 55, 56, 57]⟩ : ByteArray).extract d (d + 1) = mkS [UInt8.ofNat (48 + d)] := by
 have : d = 0 ∨ d = 1 ∨ d = 2 ∨ d = 3 ∨ d = 4 ∨ d = 5 ∨ d = 6 ∨ d = 7 ∨ d = 8 ∨ d = 9 := by omega
 rcases this with rfl | rfl | rfl | rfl | rfl | rfl | rfl | rfl | rfl | rfl <;> rfl
def TextEnd (n : Nat) (w : World) (e : Ending) (w' : World) : Prop := e = .returned (.string (mkS (decL n))) ∧ ∃ q, w' = w.drewN q
theorem text9_any (n : Nat) (hn : n < 18446744073709551616) (w : World) : Calls Tryz.prog 105 #[.int .u64 n] w (TextEnd n w) := by
 induction n using Nat.strongRecOn generalizing w with
 | ind n ih =>
   by_cases h : n < 10
   · have HV := Lib.hid (show (⟨#[48, 49, 50, 51, 52, 53, 54, 55, 56, 57]⟩ : ByteArray).extract n (n + 1) = mkS (decL n) by rw [dig_ext n h, decL_small h])
     clear ih
     go_enter Tryz.func105, Tryz.ntmps105
     go_wp2
     go_ret
     exact ⟨ret_str HV.out, 0, rfl⟩
   · have hm : n % 10 < 10 := by omega
     have hd : n / 10 < n := by omega
     have hlen := decL_len 19 (n / 10) (by omega)
     have HV := Lib.hid (show mkS (decL (n / 10)) ++ (⟨#[48, 49, 50, 51, 52, 53, 54, 55, 56, 57]⟩ : ByteArray).extract (n % 10) (n % 10 + 1) = mkS (decL n) by
       rw [dig_ext _ hm, mkS_app, decL_big (n := n) (by omega)])
     have HI := Lib.hid (fun W => ih (n / 10) hd (by omega) W)
     have hsz : (mkS (decL (n / 10))).size ≤ 20 := by rw [mkS_size]; exact hlen
     have hdc : decide ((n : Int) < 10) = false := decide_eq_false (by omega)
     have h10 : (10 : Int) ≤ n := by omega
     clear ih hlen h
     unfold TextEnd at HI
     generalize mkS (decL (n / 10)) = T at *
     go_enter Tryz.func105, Tryz.ntmps105
     go_wp2
     go_quiet ((go_at_call 105; exact Calls.quiet_of (HI.out _)))
     go_wp2
     go_ret
     exact ⟨ret_str HV.out, _, rfl⟩
theorem zeros_ext (k : Nat) (h : k ≤ 64) : (mkS (List.replicate 64 48)).extract 0 k = mkS (List.replicate k 48) := by
 apply mkS_ext
 rw [bl_to, bl_mkS, bl_mkS, List.take_replicate, Nat.min_eq_left h]
theorem case20 (k : Nat) (h : k < 20) : k = 0 ∨ k = 1 ∨ k = 2 ∨ k = 3 ∨ k = 4 ∨ k = 5 ∨ k = 6 ∨ k = 7 ∨ k = 8 ∨ k = 9 ∨ k = 10 ∨ k = 11 ∨ k = 12 ∨ k = 13 ∨ k = 14 ∨ k = 15 ∨ k = 16 ∨ k = 17 ∨ k = 18 ∨ k = 19 := by omega
theorem mul64_any (k : Nat) (h : k < 20) (w : World) : Calls Tryz.prog 171 #[.int .u64 1, .int .u64 k] w fun e w' => e = .returned (.tuple #[.int .u64 0, .int .u64 k]) ∧ w = w' := by
 rcases case20 k h with rfl | rfl | rfl | rfl | rfl | rfl | rfl | rfl | rfl | rfl | rfl | rfl | rfl | rfl | rfl | rfl | rfl | rfl | rfl | rfl
 all_goals
   go_enter Tryz.func171, Tryz.ntmps171
   go_wp2
   go_ret2
   exact ⟨rfl, rfl⟩
theorem mul_any (k : Nat) (h : k < 20) (w : World) : Calls Tryz.prog 142 #[.int .u64 1, .int .u64 k] w fun e w' => e = .returned (.tuple #[.int .u64 0, .int .u64 k]) ∧ w = w' := by
 have HM := Lib.hid (fun W => mul64_any k h W)
 go_enter Tryz.func142, Tryz.ntmps142
 go_wp2_with (go_at_call 171; refine (HM.out _).mono ?_; rintro e w' ⟨rfl, rfl⟩)
 go_ret2
 exact ⟨rfl, rfl⟩
set_option maxRecDepth 100000 in
theorem repeat_any (k : Nat) (h : k < 20) (w : World) : Calls Tryz.prog 106 #[.string ⟨#[48]⟩, .int .i64 k] w fun e w' => e = .returned (.string (mkS (List.replicate k 48))) ∧ w = w' := by
 have HM := Lib.hid (fun W => mul_any k h W)
 obtain ⟨V, hV⟩ : ∃ V, V = mkS (List.replicate k 48) := ⟨_, rfl⟩
 rw [← hV]
 have HV := Lib.hid hV
 clear hV
 by_cases h0 : k = 0
 · subst h0
   go_enter Tryz.func106, Tryz.ntmps106
   go_wp2
   go_ret
   exact ⟨ret_str HV.out.symm, rfl⟩
 by_cases h1 : k = 1
 · subst h1
   go_enter Tryz.func106, Tryz.ntmps106
   go_wp2
   go_ret
   exact ⟨ret_str HV.out.symm, rfl⟩
 have h0d : ((k : Int) == 0) = false := by rw [beq_eq_false_iff_ne]; omega
 have h1d : ((k : Int) == 1) = false := by rw [beq_eq_false_iff_ne]; omega
 have hn : decide ((k : Int) < 0) = false := decide_eq_false (by omega)
 have hk19 : (k : Int) ≤ 19 := by omega
 have hk0 : (0 : Int) ≤ k := by omega
 have h128 : decide ((k : Int) ≤ 128) = true := decide_eq_true (by omega)
 have h64 : decide ((k : Int) ≤ 64) = true := decide_eq_true (by omega)
 have HE := Lib.hid (show (mkS (List.replicate 64 48)).extract 0 k = V by rw [HV.out]; exact zeros_ext k (by omega))
 clear h0 h1
 go_enter Tryz.func106, Tryz.ntmps106
 go_wp2_with fail
 refine (HM.out _).mono ?_
 rintro e w' ⟨rfl, rfl⟩
 go_wp2_with fail
 refine (pre_any _ 48 _ (by decide)).mono ?_
 rintro e w' ⟨rfl, rfl⟩
 rw [show hd1 _ 48 = false from rfl]
 go_wp2_with fail
 refine (pre_any _ 48 _ (by decide)).mono ?_
 rintro e w' ⟨rfl, rfl⟩
 rw [show hd1 _ 48 = false from rfl]
 go_wp2_with fail
 refine (pre_any _ 48 _ (by decide)).mono ?_
 rintro e w' ⟨rfl, rfl⟩
 rw [show hd1 _ 48 = true from rfl]
 go_wp2
 go_ret
 exact ⟨ret_str HE.out, rfl⟩
def PadEnd (n d : Int) (w : World) (e : Ending) (w' : World) : Prop := e = .returned (.tuple #[.string (mkS (padV n d).1), .int .i64 (padV n d).2]) ∧ ∃ q, w' = w.drewN q
theorem padV_bad {n d : Int} (h : n < 0 ∨ d < 1 ∨ 20 < d ∨ d < ((decL n.toNat).length : Int)) : padV n d = ([], 2) := by unfold padV; rw [if_pos h]
theorem padV_ok {N : Nat} {d : Int} (h1 : 1 ≤ d) (h2 : d ≤ 20) (h3 : ((decL N).length : Int) ≤ d) : padV N d = (padL N d.toNat, 0) := by unfold padV; rw [if_neg (by simp; omega)]; simp
theorem pad_any (n d : Int) (w : World) (hn : n < 9223372036854775808) (hn0 : -9223372036854775808 ≤ n) (hd0 : -9223372036854775808 ≤ d) (hd1 : d ≤ 9223372036854775807) :
   Calls Tryz.prog 73 #[.int .i64 n, .int .i64 d] w (PadEnd n d w) := by
 obtain ⟨V, hV⟩ : ∃ V, V = padV n d := ⟨_, rfl⟩
 unfold PadEnd
 rw [← hV]
 have HV := Lib.hid hV
 clear hV
 by_cases h1 : n < 0
 · have HE := Lib.hid (show V = ([], 2) by rw [HV.out]; exact padV_bad (.inl h1))
   clear hn hn0 hd0 hd1
   go_enter Tryz.func73, Tryz.ntmps73
   go_wp2
   go_ret2
   exact ⟨by rw [HE.out]; rfl, 0, rfl⟩
 have h1d : decide (n < 0) = false := by simpa using h1
 by_cases h2 : d < 1
 · have HE := Lib.hid (show V = ([], 2) by rw [HV.out]; exact padV_bad (.inr (.inl h2)))
   clear hn hn0 hd0 hd1 h1
   go_enter Tryz.func73, Tryz.ntmps73
   go_wp2
   go_ret2
   exact ⟨by rw [HE.out]; rfl, 0, rfl⟩
 have h2d : decide (d < 1) = false := by simpa using h2
 by_cases h3 : 20 < d
 · have HE := Lib.hid (show V = ([], 2) by rw [HV.out]; exact padV_bad (.inr (.inr (.inl h3))))
   clear hn hn0 hd0 hd1 h1 h2
   go_enter Tryz.func73, Tryz.ntmps73
   go_wp2
   go_ret2
   exact ⟨by rw [HE.out]; rfl, 0, rfl⟩
 have h3d : decide (20 < d) = false := by simpa using h3
 obtain ⟨N, rfl⟩ := Int.eq_ofNat_of_zero_le (show 0 ≤ n by omega)
 have h2' : 1 ≤ d := by omega
 have h3' : d ≤ 20 := by omega
 have HT := Lib.hid (fun W => text9_any N (by omega) W)
 unfold TextEnd at HT
 have hsz : (mkS (decL N)).size = (decL N).length := mkS_size _
 have hl1 := (decL_spec N).2.2
 have hconv : IntKind.u64.wrap (N : Int) = (N : Int) := IntWalk.u64_in _ (by omega)
 clear hn hn0 hd0 hd1 h1 h2 h3
 by_cases h4 : d < ((decL N).length : Int)
 · have HE := Lib.hid (show V = ([], 2) by rw [HV.out]; exact padV_bad (.inr (.inr (.inr (by simpa using h4)))))
   generalize (decL N).length = len at *
   generalize mkS (decL N) = T at *
   go_enter Tryz.func73, Tryz.ntmps73
   go_wp2_with (go_at_call 105; refine (HT.out _).mono ?_; rintro e w' ⟨rfl, q, rfl⟩)
   go_ret2
   exact ⟨by rw [HE.out]; rfl, q, rfl⟩
 · have h4d : decide (d < ((decL N).length : Int)) = false := by simpa using h4
   obtain ⟨k, hk⟩ := Int.eq_ofNat_of_zero_le (show 0 ≤ d - ((decL N).length : Int) by omega)
   have HR := Lib.hid (fun W => repeat_any k (by omega) W)
   have hzz : (mkS (List.replicate k 48)).size = k := by rw [mkS_size, List.length_replicate]
   have hk19 : k ≤ 19 := by omega
   have hl20 : (decL N).length ≤ 20 := by omega
   have HE := Lib.hid (show V = (bl (mkS (List.replicate k 48) ++ mkS (decL N)), 0) by
     rw [HV.out, padV_ok h2' h3' (by omega), mkS_app, bl_mkS]
     unfold padL
     rw [show d.toNat - (decL N).length = k from by omega])
   clear h4
   generalize (decL N).length = len at *
   generalize mkS (decL N) = T at *
   generalize mkS (List.replicate k 48) = Z at *
   go_enter Tryz.func73, Tryz.ntmps73
   go_wp2_with (first
     | (go_at_call 105; refine (HT.out _).mono ?_; rintro e w' ⟨rfl, q, rfl⟩)
     | (go_at_call 106; refine (HR.out _).mono ?_; rintro e w' ⟨rfl, rfl⟩))
   go_ret2
   exact ⟨by rw [HE.out]; rfl, q, rfl⟩
theorem rdigits_any (s : ByteArray) (w : World) (hs : s.size ≤ 100000) :
   Calls Tryz.prog 86 #[.string s] w (DigEnd (digitsV (bl s)) w) := by
 obtain ⟨V, hV⟩ : ∃ V, V = digitsV (bl s) := ⟨_, rfl⟩
 rw [← hV]
 have HV := Lib.hid hV
 clear hV
 by_cases h0 : s.size = 0
 · have HE := Lib.hid (show V = (0, 11) by rw [HV.out, show bl s = [] from List.eq_nil_of_length_eq_zero (by rw [bl_len]; exact h0)]; exact digitsV_nil)
   go_enter Tryz.func86, Tryz.ntmps86
   go_wp2
   go_ret2
   exact ⟨by rw [HE.out]; rfl, Below.refl _ _⟩
 have HNE := Lib.hid (show bl s ≠ [] by intro e; have := congrArg List.length e; rw [bl_len] at this; exact h0 this)
 have h0d : ((s.size : Int) == 0) = false := by rw [beq_eq_false_iff_ne]; omega
 have hgb := PlainAid.get_bt s
 clear h0
 go_enter Tryz.func86, Tryz.ntmps86
 go_wp2
 go_loop [4] (fun i => ∃ k : Nat, k ≤ s.size ∧ i = .int .i64 k ∧ Hid (((bl s).take k).all isDg = true)) (fun i => s.size - (intOf i).toNat)
 case atStart => exact ⟨0, by omega, rfl, Lib.hid rfl⟩
 case round =>
   obtain ⟨k, hk, rfl, HA⟩ := hrel
   by_cases hlt : k < s.size
   · have hx : (s[k].toNat : Int) = PlainAid.bt s k := hgb k hlt
     have HX := Lib.hid hx
     clear hx
     by_cases h1 : PlainAid.bt s k < 48
     · have HE := Lib.hid (show V = (0, 11) by rw [HV.out]; exact digitsV_form (all_false (bl_mem s k hlt) (by rw [isDg_no]; have := HX.out; omega)))
       go_wp2
       go_ret2
       exact ⟨by rw [HE.out]; rfl, Below.refl _ _⟩
     · have h1d : decide (PlainAid.bt s k < 48) = false := by simpa using h1
       by_cases h2 : 57 < PlainAid.bt s k
       · have HE := Lib.hid (show V = (0, 11) by rw [HV.out]; exact digitsV_form (all_false (bl_mem s k hlt) (by rw [isDg_no]; have := HX.out; omega)))
         clear h1
         go_wp2
         go_ret2
         exact ⟨by rw [HE.out]; rfl, Below.refl _ _⟩
       · have h2d : decide (57 < PlainAid.bt s k) = false := by simpa using h2
         have HA2 := Lib.hid (show ((bl s).take (k + 1)).all isDg = true by rw [bl_take s k hlt]; exact all_snoc _ _ HA.out (by rw [isDg_iff]; have := HX.out; omega))
         clear h1 h2
         go_wp2
         go_round
         case rel => exact ⟨k + 1, by omega, by go_num, HA2⟩
         case measure => simp [intOf]; omega
   · obtain rfl : k = s.size := by omega
     have HALL := Lib.hid (show (bl s).all isDg = true by have := HA.out; rwa [List.take_of_length_le (by rw [bl_len]; omega)] at this)
     go_wp2
     go_loop [5, 6] (fun n i => ∃ (k : Nat) (N : Int), k ≤ s.size ∧ i = .int .i64 k ∧ n = .int .i64 N ∧ 0 ≤ N ∧ N ≤ 2147483647 ∧ Hid (N = (valD ((bl s).take k) : Nat))) (fun _ i => s.size - (intOf i).toNat)
     case atStart => exact ⟨0, 0, by omega, rfl, rfl, by omega, by omega, Lib.hid rfl⟩
     case round =>
       obtain ⟨k, N, hk2, rfl, rfl, hN0, hN1, HN⟩ := hrel
       by_cases hlt2 : k < s.size
       · have hx : (s[k].toNat : Int) = PlainAid.bt s k := hgb k hlt2
         have hdg : isDg s[k] = true := List.all_eq_true.1 HALL.out _ (bl_mem s k hlt2)
         have hdv := dgV_int hdg
         have hd9 := dgV_le hdg
         have hb0 : 48 ≤ PlainAid.bt s k := by rw [← hx]; rw [isDg_iff] at hdg; omega
         have hb1 : PlainAid.bt s k ≤ 57 := by rw [← hx]; rw [isDg_iff] at hdg; omega
         have HS := Lib.hid (show 10 * N + PlainAid.bt s k - 48 = ((valD ((bl s).take (k + 1)) : Nat) : Int) by
           rw [bl_take s k hlt2, valD_snoc, HN.out, ← hx]; omega)
         have HTK := Lib.hid (show valD ((bl s).take (k + 1)) ≤ valD (bl s) by
           have := valD_append_ge ((bl s).take (k + 1)) ((bl s).drop (k + 1)); rwa [List.take_append_drop] at this)
         clear hx hdg hdv hd9
         by_cases hov : 2147483647 < 10 * N + PlainAid.bt s k - 48
         · have HE := Lib.hid (show V = (0, 5) by rw [HV.out]; exact digitsV_over HNE.out HALL.out (by have := HS.out; have := HTK.out; omega))
           go_wp2
           go_ret2
           exact ⟨by rw [HE.out]; rfl, Below.refl _ _⟩
         · have hovd : decide (2147483647 < 10 * N + PlainAid.bt s k - 48) = false := by simpa using hov
           have hov2 : 10 * N + PlainAid.bt s k - 48 ≤ 2147483647 := by omega
           clear hov
           go_wp2
           go_round
           case rel => exact ⟨k + 1, 10 * N + PlainAid.bt s k - 48, by omega, by go_num, rfl, by omega, hov2, HS⟩
           case measure => simp [intOf]; omega
       · obtain rfl : k = s.size := by omega
         have HE := Lib.hid (show V = (N, 0) by
           have h1 := HN.out
           rw [List.take_of_length_le (by rw [bl_len]; omega)] at h1
           rw [HV.out, digitsV_ok HNE.out HALL.out (by omega), h1])
         go_wp2
         go_ret2
         exact ⟨by rw [HE.out]; rfl, Below.refl _ _⟩
theorem xmay_any (e : Ent) (w : World) : Calls Tryz.prog 72 #[entA e] w fun x w' => x = .returned (.bool (entOk e)) ∧ Below w.heap.size w w' := by
 obtain ⟨a, g, u⟩ := e
 unfold entA entOk
 simp only
 by_cases h1 : 0 ≤ a
 · by_cases h2 : a ≤ 2147483647
   · by_cases h3 : 0 ≤ g
     · go_enter Tryz.func72, Tryz.ntmps72
       go_wp2
       go_ret
       exact ⟨by simp [h1, h2, h3], belowA w _⟩
     · go_enter Tryz.func72, Tryz.ntmps72
       go_wp2
       go_ret
       exact ⟨by simp; omega, belowA w _⟩
   · go_enter Tryz.func72, Tryz.ntmps72
     go_wp2
     go_ret
     exact ⟨by simp; omega, belowA w _⟩
 · go_enter Tryz.func72, Tryz.ntmps72
   go_wp2
   go_ret
   exact ⟨by simp; omega, belowA w _⟩
theorem pad_is {n d : Int} (h0 : 0 ≤ n) (h1 : 1 ≤ d) (h2 : d ≤ 20) (h3 : ((decL n.toNat).length : Int) ≤ d) : padV n d = (padL n.toNat d.toNat, 0) := by
 unfold padV
 rw [if_neg (by omega)]
theorem mkB_add (a b : List UInt8) : mkB a ++ mkB b = mkB (a ++ b) := ByteArray.mk_append_mk a b
def entR (e : Ent) : List UInt8 × Int := if entOk e = true then (entL e, 0) else ([], 2)
theorem xent_any (e : Ent) (w : World) : Calls Tryz.prog 40 #[entA e] w fun x w' => x = .returned (.tuple #[.string (mkB (entR e).1), .int .i64 (entR e).2]) ∧ Below w.heap.size w w' := by
 have HM := Lib.hid (fun (W : World) => xmay_any e W)
 have HPA := Lib.hid (fun (W : World) (h : entOk e = true) => pad_any e.at_ 10 W (by have := (entOk_iff.1 h); omega) (by have := (entOk_iff.1 h); omega) (by decide) (by decide))
 have HPG := Lib.hid (fun (W : World) (h : entOk e = true) => pad_any e.gen 5 W (by have := (entOk_iff.1 h); omega) (by have := (entOk_iff.1 h); omega) (by decide) (by decide))
 have HA := Lib.hid (fun (h : entOk e = true) => pad_is (n := e.at_) (d := 10) (by have := (entOk_iff.1 h); omega) (by decide) (by decide) (by have := (entOk_iff.1 h); have := decL_len 9 e.at_.toNat (by omega); omega))
 have HG := Lib.hid (fun (h : entOk e = true) => pad_is (n := e.gen) (d := 5) (by have := (entOk_iff.1 h); omega) (by decide) (by decide) (by have := (entOk_iff.1 h); have := decL_len 4 e.gen.toNat (by omega); omega))
 have HLA := Lib.hid (fun (h : entOk e = true) => show (padL e.at_.toNat 10).length ≤ 20 by have := (entOk_iff.1 h); have := decL_len 9 e.at_.toNat (by omega); rw [padL_len (by omega)]; omega)
 have HLG := Lib.hid (fun (h : entOk e = true) => show (padL e.gen.toNat 5).length ≤ 20 by have := (entOk_iff.1 h); have := decL_len 4 e.gen.toNat (by omega); rw [padL_len (by omega)]; omega)
 unfold PadEnd at HPA HPG
 unfold entR entL entB
 unfold entA at HM ⊢
 obtain ⟨ea, eg, eu⟩ := e
 simp only at HPA HPG HA HG HM HLA HLG ⊢
 have HB1 := Lib.hid (belowA w (.cells #[.int .i64 ea, .int .i64 eg, .bool eu] 44))
 have HX1 := Lib.hid (heapA_new (w := w) (b := w.heap.size) (.cells #[.int .i64 ea, .int .i64 eg, .bool eu] 44) rfl)
 cases hok : entOk ⟨ea, eg, eu⟩ with
 | false =>
   rw [hok] at HM
   simp only [Bool.false_eq_true, if_false]
   clear HPA HPG HA HG hok
   go_enter Tryz.func40, Tryz.ntmps40
   go_upto_region 1 with fail
   generalize w.alloc _ = W1 at *
   obtain ⟨⟨x0, x1, x2⟩, -⟩ := cells3 HX1.out
   go_wp2_with (go_at_call 72; refine (HM.out _).mono ?_; rintro e w2 ⟨rfl, hb2⟩; have HB2 := Lib.hid (HB1.out.trans (hb2.mono HB1.out.size)))
   go_ret2
   exact ⟨rfl, HB2.out⟩
 | true =>
   rw [hok] at HM
   rw [if_pos rfl]
   have HPA2 := Lib.hid (fun W => HPA.out W hok)
   have HPG2 := Lib.hid (fun W => HPG.out W hok)
   replace HLA := Lib.hid (HLA.out hok)
   replace HLG := Lib.hid (HLG.out hok)
   rw [HA.out hok] at HPA2
   rw [HG.out hok] at HPG2
   clear HPA HPG HA HG hok
   simp only at HPA2 HPG2 ⊢
   have HPL := Lib.hid (show ∀ c : UInt8, mkB ((padL ea.toNat 10 ++ (32 :: (padL eg.toNat 5 ++ [32, c, 32]))) ++ [10]) = mkB (padL ea.toNat 10) ++ mkB [32] ++ mkB (padL eg.toNat 5) ++ mkB [32, c, 32, 10] from fun c => by rw [mkB_add, mkB_add, mkB_add]; congr 1; simp)
   rw [HPL.out]
   rw [show (10 : Int).toNat = 10 from rfl] at HPA2
   rw [show (5 : Int).toNat = 5 from rfl] at HPG2
   unfold mkS at HPA2 HPG2
   rw [show (⟨(padL ea.toNat 10).toArray⟩ : ByteArray) = mkB (padL ea.toNat 10) from rfl] at HPA2
   rw [show (⟨(padL eg.toNat 5).toArray⟩ : ByteArray) = mkB (padL eg.toNat 5) from rfl] at HPG2
   have hpa : (mkB (padL ea.toNat 10)).size ≤ 20 := by rw [mkB_size]; have := HLA.out; omega
   have hpg : (mkB (padL eg.toNat 5)).size ≤ 20 := by rw [mkB_size]; have := HLG.out; omega
   generalize mkB (padL ea.toNat 10) = pa at *
   generalize mkB (padL eg.toNat 5) = pg at *
   clear HPL
   go_enter Tryz.func40, Tryz.ntmps40
   go_upto_region 1 with fail
   generalize w.alloc _ = W1 at *
   obtain ⟨⟨x0, x1, x2⟩, -⟩ := cells3 HX1.out
   go_wp2_with fail
   refine (HM.out _).mono ?_
   rintro e w2 ⟨rfl, hb2⟩
   have HB2 := Lib.hid (HB1.out.trans (hb2.mono HB1.out.size))
   have HX2 := Lib.hid (block_keep hb2 HX1.out)
   clear HX1 HB1 hb2 x0 x1 x2
   obtain ⟨⟨x0, x1, x2⟩, -⟩ := cells3 HX2.out
   cases eu
   all_goals
     go_wp2_with (first
       | (go_at_call_of 73 (Value.int .i64 10); refine (HPA2.out _).mono ?_; rintro e w3 ⟨rfl, q3, rfl⟩)
       | (go_at_call 73; refine (HPG2.out _).mono ?_; rintro e w4 ⟨rfl, q4, rfl⟩))
     go_ret2
     exact ⟨rfl, below_drewN HB2.out _⟩
set_option maxRecDepth 100000 in
theorem bcmp_any (a b : ByteArray) (w : World) : Calls Tryz.prog 149 #[.string a, .string b] w fun e w' => e = .returned (.int .i64 (Lib.compareBytes a.data.toList b.data.toList)) ∧ w = w' := by
 go_enter Tryz.func149, Tryz.ntmps149
 go_wp2
 rw [run_callFunc_extern Tryz.func175 (by kernel_rfl) (by kernel_rfl) (by kernel_rfl) (e := Extern.BytealgCompare.compare) (by kernel_rfl), Lib.run_compareString]
 simp only [Result.andThen]
 rw [Oper.upon_value]
 go_wp2
 go_ret
 exact ⟨rfl, rfl⟩
theorem scmp_any (a b : ByteArray) (w : World) : Calls Tryz.prog 109 #[.string a, .string b] w fun e w' => e = .returned (.int .i64 (Lib.compareBytes a.data.toList b.data.toList)) ∧ w = w' := by
 have HC := Lib.hid (fun W => bcmp_any a b W)
 go_enter Tryz.func109, Tryz.ntmps109
 go_wp2_with (go_at_call 149; refine (HC.out _).mono ?_; rintro e w' ⟨rfl, rfl⟩)
 go_ret
 exact ⟨rfl, rfl⟩
theorem isNaN_any (x : Int) (w : World) : Calls Tryz.prog 148 #[.int .i64 x] w fun e w' => e = .returned (.bool false) ∧ w = w' := by
 have h : (x != x) = false := by simp
 go_enter Tryz.func148, Tryz.ntmps148
 go_wp2
 go_ret
 exact ⟨rfl, rfl⟩
theorem icmp_eq (x : Int) (w : World) : Calls Tryz.prog 108 #[.int .i64 x, .int .i64 x] w fun e w' => e = .returned (.int .i64 0) ∧ w = w' := by
 have HN := Lib.hid (fun W => isNaN_any x W)
 have h : decide (x < x) = false := by simp
 go_enter Tryz.func108, Tryz.ntmps108
 go_wp2_with (go_at_call 148; refine (HN.out _).mono ?_; rintro e w' ⟨rfl, rfl⟩)
 go_ret
 exact ⟨rfl, rfl⟩
theorem compareBytes_self : ∀ l : List UInt8, Lib.compareBytes l l = 0
 | [] => rfl
 | a :: l => by
   rw [Lib.compareBytes, if_neg (UInt8.lt_irrefl a), if_neg (UInt8.lt_irrefl a)]
   exact compareBytes_self l
theorem or_zero {w : World} {b : Nat} (h0 : w.cell? ⟨b, 0, none⟩ = some (.int .i64 0)) (h1 : w.cell? ⟨b, 1, none⟩ = some (.int .i64 0)) (h2 : w.cell? ⟨b, 2, none⟩ = some (.int .i64 0)) :
   Calls Tryz.prog 107 #[.slice (some ⟨b, 0, none⟩) 3 3] w fun e w' => e = .returned (.int .i64 0) ∧ w = w' := by
 have hc : ∀ j : Nat, j < 3 → w.cell? ⟨b, 0 + j, none⟩ = some (.int .i64 0) := fun j hj => by
   match j, hj with
   | 0, _ => exact h0
   | 1, _ => exact h1
   | 2, _ => exact h2
 have HC := Lib.hid hc
 clear h0 h1 h2 hc
 go_enter Tryz.func107, Tryz.ntmps107
 go_wp2
 go_loop [8] (fun v => ∃ j : Nat, v = .int .i64 j ∧ j ≤ 3) (fun v => 3 - (intOf v).toNat)
 case atStart => exact ⟨0, rfl, by omega⟩
 case round =>
   obtain ⟨j, rfl, hj⟩ := hrel
   by_cases hl : j < 3
   · have hd : decide ((j : Int) < 3) = true := by simp; omega
     have hd2 : decide (j < 3) = true := by simp; omega
     have hcj := HC.out j hl
     rw [Nat.zero_add] at hcj
     have hji : (j : Int) < 3 := by omega
     go_wp2
     go_round
     case rel => exact ⟨j + 1, by go_num, by omega⟩
     case measure => simp [intOf]; omega
   · have hd : decide ((j : Int) < 3) = false := decide_eq_false (by omega)
     have hd2 : decide (j < 3) = false := decide_eq_false (by omega)
     go_wp2
     go_ret
     exact ⟨rfl, rfl⟩
theorem cmpF_nil (a a' : Option Addr) (c c' : Nat) (f : Value) (w : World) : Calls Tryz.prog 110 #[.slice a 0 c, .slice a' 0 c', f] w fun e w' => e = .returned (.int .i64 0) ∧ w = w' := by
 go_enter Tryz.func110, Tryz.ntmps110
 go_wp2
 go_loop [13] (fun v => v = .int .i64 0) (fun _ => 0)
 case atStart => rfl
 case round =>
   subst hrel
   go_wp2
   go_ret
   exact ⟨rfl, rfl⟩
theorem vcmp_leaf (k n : Int) (s : ByteArray) (a a' : Option Addr) (c c' : Nat) (w : World) : Calls Tryz.prog 74 #[.agg #[.int .i64 k, .int .i64 n, .string s, .slice a 0 c], .agg #[.int .i64 k, .int .i64 n, .string s, .slice a' 0 c']] w fun e w' => e = .returned (.int .i64 0) ∧ Below w.heap.size w w' := by
 have HI := Lib.hid (fun x W => icmp_eq x W)
 have HS := Lib.hid (fun W => scmp_any s s W)
 simp only [compareBytes_self] at HS
 have HF := Lib.hid (fun f W => cmpF_nil a a' c c' f W)
 have HO := Lib.hid (fun (W : World) (b : Nat) (h0 : W.cell? ⟨b, 0, none⟩ = some (.int .i64 0)) (h1 : W.cell? ⟨b, 1, none⟩ = some (.int .i64 0)) (h2 : W.cell? ⟨b, 2, none⟩ = some (.int .i64 0)) => or_zero h0 h1 h2)
 obtain ⟨B, hB⟩ : ∃ B, B = w.heap.size := ⟨_, rfl⟩
 have HB1 := Lib.hid (belowA2 w (.cells #[.int .i64 k, .int .i64 n, .string s, .slice a 0 c] 27) (.cells #[.int .i64 k, .int .i64 n, .string s, .slice a' 0 c'] 27))
 have HX1 := Lib.hid (heapA_old (w := w.alloc (.cells #[.int .i64 k, .int .i64 n, .string s, .slice a 0 c] 27)) (.cells #[.int .i64 k, .int .i64 n, .string s, .slice a' 0 c'] 27) (heapA_new (w := w) (b := B) (.cells #[.int .i64 k, .int .i64 n, .string s, .slice a 0 c] 27) hB))
 have HY1 := Lib.hid (heapA_new (w := w.alloc (.cells #[.int .i64 k, .int .i64 n, .string s, .slice a 0 c] 27)) (b := B + 1) (.cells #[.int .i64 k, .int .i64 n, .string s, .slice a' 0 c'] 27) (by rw [sizeA, hB]))
 go_enter Tryz.func74, Tryz.ntmps74
 go_upto_region 1 with fail
 try rw [← hB]
 generalize World.alloc _ _ = W1 at *
 clear hB
 generalize B + 1 = B2 at *
 go_cut [5] from 6 (fun v wx => v = .int .i64 0 ∧ Hid (Below W1.heap.size W1 wx))
 case first =>
   obtain ⟨⟨p0, p1, p2, p3⟩, -⟩ := cells4 HX1.out
   obtain ⟨⟨q0, q1, q2, q3⟩, -⟩ := cells4 HY1.out
   have HC3 := Lib.hid (cells3 (heapA_new (w := W1) (b := W1.heap.size) (.cells #[.int .i64 0, .int .i64 0, .int .i64 0] 3) rfl))
   have d0 := cell?_keep (Below.refl _ W1).drew p0
   have d1 := cell?_keep (Below.refl _ W1).drew p1
   have d2 := cell?_keep (Below.refl _ W1).drew p2
   have e0 := cell?_keep (Below.refl _ W1).drew q0
   have e1 := cell?_keep (Below.refl _ W1).drew q1
   have e2 := cell?_keep (Below.refl _ W1).drew q2
   go_region_held3 (fun w' => w'.cell? ⟨B, 0, none⟩ = some (.int .i64 k) ∧ w'.cell? ⟨B, 1, none⟩ = some (.int .i64 n) ∧ w'.cell? ⟨B, 2, none⟩ = some (.string s) ∧ w'.cell? ⟨B2, 0, none⟩ = some (.int .i64 k) ∧ w'.cell? ⟨B2, 1, none⟩ = some (.int .i64 n) ∧ w'.cell? ⟨B2, 2, none⟩ = some (.string s)) (go_keep)
     ((first
       | (go_at_call 108; refine (HI.out _ _).mono ?_; rintro e w' ⟨rfl, rfl⟩)
       | (go_at_call 109; refine (HS.out _).mono ?_; rintro e w' ⟨rfl, rfl⟩)
       | (go_at_call 107; refine (HO.out _ _ (cell?_keep (Below.refl _ _).drew HC3.out.1.1) (cell?_keep (Below.refl _ _).drew HC3.out.1.2.1) (cell?_keep (Below.refl _ _).drew HC3.out.1.2.2)).mono ?_; rintro e w' ⟨rfl, rfl⟩)))
   all_goals (try go_wp2_with fail)
   all_goals go_meet
   all_goals exact ⟨rfl, Lib.hid (belowA W1 _).drew⟩
 case rest =>
 obtain ⟨rfl, HB2⟩ := hcut
 have HX2 := Lib.hid (block_keep HB2.out HX1.out)
 have HY2 := Lib.hid (block_keep HB2.out HY1.out)
 obtain ⟨⟨p0, p1, p2, p3⟩, -⟩ := cells4 HX2.out
 obtain ⟨⟨q0, q1, q2, q3⟩, -⟩ := cells4 HY2.out
 go_wp2_with (go_at_call 110; refine (HF.out _ _).mono ?_; rintro e w' ⟨rfl, rfl⟩)
 go_ret
 exact ⟨rfl, HB1.out.trans (HB2.out.mono HB1.out.size)⟩
theorem vsame_leaf (k n : Int) (s : ByteArray) (a a' : Option Addr) (c c' : Nat) (w : World) : Calls Tryz.prog 41 #[.agg #[.int .i64 k, .int .i64 n, .string s, .slice a 0 c], .agg #[.int .i64 k, .int .i64 n, .string s, .slice a' 0 c']] w fun e w' => e = .returned (.bool true) ∧ Below w.heap.size w w' := by
 have HC := Lib.hid (fun W => vcmp_leaf k n s a a' c c' W)
 obtain ⟨B, hB⟩ : ∃ B, B = w.heap.size := ⟨_, rfl⟩
 have HB1 := Lib.hid (belowA2 w (.cells #[.int .i64 k, .int .i64 n, .string s, .slice a 0 c] 27) (.cells #[.int .i64 k, .int .i64 n, .string s, .slice a' 0 c'] 27))
 have HX1 := Lib.hid (heapA_old (w := w.alloc (.cells #[.int .i64 k, .int .i64 n, .string s, .slice a 0 c] 27)) (.cells #[.int .i64 k, .int .i64 n, .string s, .slice a' 0 c'] 27) (heapA_new (w := w) (b := B) (.cells #[.int .i64 k, .int .i64 n, .string s, .slice a 0 c] 27) hB))
 have HY1 := Lib.hid (heapA_new (w := w.alloc (.cells #[.int .i64 k, .int .i64 n, .string s, .slice a 0 c] 27)) (b := B + 1) (.cells #[.int .i64 k, .int .i64 n, .string s, .slice a' 0 c'] 27) (by rw [sizeA, hB]))
 go_enter Tryz.func41, Tryz.ntmps41
 go_upto_region 1 with fail
 try rw [← hB]
 generalize World.alloc _ _ = W1 at *
 clear hB
 generalize B + 1 = B2 at *
 obtain ⟨⟨p0, p1, p2, p3⟩, -⟩ := cells4 HX1.out
 obtain ⟨⟨q0, q1, q2, q3⟩, -⟩ := cells4 HY1.out
 go_wp2_with fail
 refine (HC.out _).mono ?_
 rintro e w2 ⟨rfl, hb2⟩
 have HB2 := Lib.hid (HB1.out.trans (hb2.mono HB1.out.size))
 clear hb2
 go_wp2_with fail
 go_ret
 exact ⟨rfl, HB2.out⟩
theorem dict_nil (w : World) : Calls Tryz.prog 42 #[.slice none 0 0] w fun e w' => e = .returned (.agg #[.int .i64 7, .int .i64 0, .string ⟨#[]⟩, .slice none 0 0]) ∧ Below w.heap.size w w' := by
 obtain ⟨B, hB⟩ : ∃ B, B = w.heap.size := ⟨_, rfl⟩
 have HB1 := Lib.hid (belowA2 w (.cells #[.int .i64 0, .int .i64 0, .string ⟨#[]⟩, .slice none 0 0] 27) (.cells #[.int .i64 7, .int .i64 0, .string ⟨#[]⟩, .slice none 0 0] 27))
 have HX1 := Lib.hid (heapA_old (w := w.alloc (.cells #[.int .i64 0, .int .i64 0, .string ⟨#[]⟩, .slice none 0 0] 27)) (.cells #[.int .i64 7, .int .i64 0, .string ⟨#[]⟩, .slice none 0 0] 27) (heapA_new (w := w) (b := B) (.cells #[.int .i64 0, .int .i64 0, .string ⟨#[]⟩, .slice none 0 0] 27) hB))
 have HY1 := Lib.hid (heapA_new (w := w.alloc (.cells #[.int .i64 0, .int .i64 0, .string ⟨#[]⟩, .slice none 0 0] 27)) (b := B + 1) (.cells #[.int .i64 7, .int .i64 0, .string ⟨#[]⟩, .slice none 0 0] 27) (by rw [sizeA, hB]))
 have HW := Lib.hid (Nat.le_of_eq hB.symm)
 go_enter Tryz.func42, Tryz.ntmps42
 go_upto_region 2 with fail
 try rw [← hB]
 generalize World.alloc _ _ = W1 at *
 clear hB
 generalize B + 1 = B2 at *
 go_wp2_with fail
 go_loop [4] (fun v => v = .int .i64 0) (fun _ => 0)
 case atStart => rfl
 case round =>
   subst hrel
   obtain ⟨⟨a0, a1, a2, a3⟩, f0, f1, f2, f3⟩ := cells4 HX1.out
   obtain ⟨⟨b0, b1, b2, b3⟩, -⟩ := cells4 HY1.out
   go_wp2_with fail
   refine bodyPost_ret (results_cell_row rfl _ _ B 27 _ (0, 0) _ rfl (by exact set4 HX1.out _ _ _ _) Tryz.underlying27 rfl (by exact infoPV)) rfl ?_
   exact ⟨rfl, below_set4 HB1.out HW.out _ _ _ _⟩
theorem infoRSec : (Tryz.prog.info? 33).map (·.size) = some 5 := by kernel_rfl
theorem of15_any (g v : Value) (k n : Int) (s : ByteArray) (ga sa : Option Addr) (gl gc sl sc : Nat) (w : World) (hg : g = .slice ga gl gc) (hv : v = .slice sa sl sc) : Calls Tryz.prog 14 #[.agg #[g, .int .i64 k, .int .i64 n, .string s, v]] w fun e w' => e = .returned (.agg #[g, .int .i64 k, .int .i64 n, .string s, v]) ∧ Below w.heap.size w w' := by
 subst hg
 subst hv
 obtain ⟨B, hB⟩ : ∃ B, B = w.heap.size := ⟨_, rfl⟩
 have HB1 := Lib.hid (belowA2 w (.cells #[.slice ga gl gc, .int .i64 k, .int .i64 n, .string s, .slice sa sl sc] 29) (.cells #[.slice none 0 0, .int .i64 0, .int .i64 0, .string ⟨#[]⟩, .slice none 0 0] 33))
 have HX1 := Lib.hid (heapA_old (w := w.alloc (.cells #[.slice ga gl gc, .int .i64 k, .int .i64 n, .string s, .slice sa sl sc] 29)) (.cells #[.slice none 0 0, .int .i64 0, .int .i64 0, .string ⟨#[]⟩, .slice none 0 0] 33) (heapA_new (w := w) (b := B) (.cells #[.slice ga gl gc, .int .i64 k, .int .i64 n, .string s, .slice sa sl sc] 29) hB))
 have HY1 := Lib.hid (heapA_new (w := w.alloc (.cells #[.slice ga gl gc, .int .i64 k, .int .i64 n, .string s, .slice sa sl sc] 29)) (b := B + 1) (.cells #[.slice none 0 0, .int .i64 0, .int .i64 0, .string ⟨#[]⟩, .slice none 0 0] 33) (by rw [sizeA, hB]))
 have HW := Lib.hid (show w.heap.size ≤ B + 1 by omega)
 go_enter Tryz.func14, Tryz.ntmps14
 go_upto_region 1 with fail
 try rw [← hB]
 generalize World.alloc _ _ = W1 at *
 clear hB
 generalize B + 1 = B2 at *
 obtain ⟨⟨p0, p1, p2, p3, p4⟩, -⟩ := cells5 HX1.out
 obtain ⟨⟨q0, q1, q2, q3, q4⟩, f0, f1, f2, f3, f4⟩ := cells5 HY1.out
 go_wp2_with fail
 refine bodyPost_ret (results_cell_row rfl _ _ B2 33 _ (0, 0) _ rfl (by exact set5 HY1.out _ _ _ _ _) Tryz.underlying33 rfl (by exact infoRSec)) rfl ?_
 exact ⟨rfl, below_set5 HB1.out HW.out _ _ _ _ _⟩
def secT1 : List UInt8 := [120, 114, 101, 102, 10, 51, 32, 49, 10, 48, 48, 48, 48, 48, 48, 48, 48, 49, 55, 32, 48, 48, 48, 48, 48, 32, 110, 32, 10, 116, 114, 97, 105, 108, 101, 114, 60, 60, 62, 62, 32]
theorem sec_ex : secV secT1 false 0 = (⟨[⟨3, [⟨17, 0, true⟩]⟩], .mk 7 0 [] []⟩, 40, 0) := by kernel_rfl
theorem ent_ex : entR ⟨17, 0, true⟩ = ([48, 48, 48, 48, 48, 48, 48, 48, 49, 55, 32, 48, 48, 48, 48, 48, 32, 110, 32, 10], 0) := by
 have h17 : decL 17 = [49, 55] := by rw [decL_big (by decide), decL_small (by decide)]; rfl
 have h0 : decL 0 = [48] := by rw [decL_small (by decide)]; rfl
 unfold entR
 rw [if_pos (by decide)]
 unfold entL entB padL
 simp only [show (17 : Int).toNat = 17 from rfl, show (0 : Int).toNat = 0 from rfl, h17, h0]
 rfl
theorem row_bsX {w : World} (bs : List UInt8) (t : TypeId) (hb : bs.length ≤ 200) : Row (w.alloc (.cells (bs.map u8C).toArray t (bs.length, bs.length + 1))) 1 (some ⟨w.heap.size, 0, none⟩) bs.length bs.length (bs.map u8C) := by
 refine ⟨by simp, Nat.le_refl _, by unfold maxLen; omega, fun h => (by cases h), fun _ => ⟨_, _, rfl, (by rw [sizeA]; omega), fun j u hj => ?_⟩⟩
 rw [cell_of_row _ _ _ _ _ _ (heapA_new _ rfl)]
 simpa using hj
theorem works15 (w : World) : Calls Tryz.prog 10 #[] w fun e w' => e = .returned (.bool true) ∧ Below w.heap.size w w' := by
 have HP := Lib.hid (fun W : World => xparse_any (row_bsX (w := W) secT1 5 (by decide)) (by decide) 0 false)
 rw [sec_ex] at HP
 unfold SecEnd at HP
 simp only at HP
 have hcv := fun (W : World) (C : Array Value) (n c : Nat) => Lib.run_convert_bytes_const (P := Tryz.prog) W 22 5 C n c Tryz.underlying22 Tryz.underlying5
 have HE := Lib.hid (fun W => xent_any ⟨17, 0, true⟩ W)
 rw [ent_ex] at HE
 unfold entA at HE
 simp only at HE
 have HD := Lib.hid (fun W => dict_nil W)
 go_enter Tryz.func10, Tryz.ntmps10
 go_wp2_with fail
 refine (HP.out w).mono ?_
 rintro e w1 ⟨gv, sl, rfl, hsc, hb1⟩
 obtain ⟨ga, gc, rfl, -, -, -⟩ := hsc.1.len
 obtain ⟨sa, sc, rfl, -, -, -⟩ := hsc.2.len
 have HF := Lib.hid (fun (W : World) (hb : Below w1.heap.size w1 W) => xfind_any (hsc.below hb) 3 (fun g hg => by rcases List.mem_singleton.1 hg with rfl; exact ⟨by decide, by decide⟩) (by decide) (by decide))
 rw [show findV ([⟨3, [⟨17, 0, true⟩]⟩] : List Grp) 3 = some ⟨17, 0, true⟩ from rfl] at HF
 have HB1 := Lib.hid ((belowA w _).trans (hb1.mono (by rw [sizeA]; omega)))
 have HS := Lib.hid (fun W => vsame_leaf 7 0 ⟨#[]⟩ sa none sc 0 W)
 unfold secA findP entA at HF
 unfold secA
 simp only [PV.kind, PV.n, PV.s, PV.l, List.length_nil, List.length_singleton, show mkB [] = ⟨#[]⟩ from rfl] at HF ⊢
 clear hsc hb1 hcv HP
 have HT2 := Lib.hid (heapA_new (w := w1) (b := w1.heap.size) (.cells #[.slice ga 1 gc, .int .i64 7, .int .i64 0, .string ⟨#[]⟩, .slice sa 0 sc] 29) rfl)
 have HA2 := Lib.hid (belowA w1 (.cells #[.slice ga 1 gc, .int .i64 7, .int .i64 0, .string ⟨#[]⟩, .slice sa 0 sc] 29))
 have HB2 := Lib.hid (HB1.out.trans (HA2.out.mono HB1.out.size))
 go_upto_region 2 with fail
 have HF2 := Lib.hid (HF.out _ HA2.out)
 clear HF HA2 HB1
 generalize w1.heap.size = T at *
 generalize World.alloc _ _ = W2 at *
 obtain ⟨⟨p0, p1, p2, p3, p4⟩, -⟩ := cells5 HT2.out
 go_wp2_with fail
 refine HF2.out.mono ?_
 rintro e w3 ⟨rfl, hb3⟩
 have hb3a := hb3.alloc hb3.size (.cells #[.int .i64 17, .int .i64 0, .bool true] 44)
 have HT4 := Lib.hid (block_keep hb3a HT2.out)
 have HQ4 := Lib.hid (heapA_new (w := w3) (b := w3.heap.size) (.cells #[.int .i64 17, .int .i64 0, .bool true] 44) rfl)
 have HB4 := Lib.hid (HB2.out.trans (hb3a.mono HB2.out.size))
 clear hb3 hb3a HT2 HB2 HF2 p0 p1 p2 p3 p4
 go_upto_region 3 with fail
 generalize w3.heap.size = Q at *
 generalize World.alloc _ _ = W4 at *
 go_wp2_with fail
 refine (HE.out _).mono ?_
 rintro e w5 ⟨rfl, hb5⟩
 have HT5 := Lib.hid (block_keep hb5 HT4.out)
 have HQ5 := Lib.hid (block_keep hb5 HQ4.out)
 have HB5 := Lib.hid (HB4.out.trans (hb5.mono HB4.out.size))
 clear hb5 HT4 HQ4 HB4 HE
 obtain ⟨⟨p0, p1, p2, p3, p4⟩, -⟩ := cells5 HT5.out
 obtain ⟨⟨q0, q1, q2⟩, -⟩ := cells3 HQ5.out
 have r0 := BelowW.cell p0
 have r1 := BelowW.cell p1
 have r2 := BelowW.cell p2
 have r3 := BelowW.cell p3
 have r4 := BelowW.cell p4
 have e0 := BelowW.cell q0
 have e1 := BelowW.cell q1
 have e2 := BelowW.cell q2
 have hst : ((mkB [48, 48, 48, 48, 48, 48, 48, 48, 49, 55, 32, 48, 48, 48, 48, 48, 32, 110, 32, 10]).toList == [48, 48, 48, 48, 48, 48, 48, 48, 49, 55, 32, 48, 48, 48, 48, 48, 32, 110, 32, 10]) = true := by rw [eq_mkB]; rfl
 clear p0 p1 p2 p3 p4 q0 q1 q2
 go_upto_region 4 with fail
 refine wp_region_below (by kernel_rfl) (by kernel_rfl) ?_
 repeat (go_big_quiet_step ((first
   | (go_at_call 42; with_reducible exact Calls.below_of (HD.out _))
   | (go_at_call 41; with_reducible exact Calls.below_of (HS.out _)))))
 refine wpQuiet_nil ?_
 rintro _ ⟨⟨w6, hb6⟩, rfl⟩
 go_wp2
 go_ret
 exact ⟨rfl, HB5.out.trans (hb6.mono HB5.out.size)⟩
theorem SecEnd.split {w w' : World} {s : Sec} {n e : Int} {en : Ending} (h : SecEnd w (s, n, e) en w') : ∃ ga gc sa sc, en = .returned (.tuple #[.agg #[.slice ga s.gs.length gc, .int .i64 s.tr.kind, .int .i64 s.tr.n, .string (mkB s.tr.s), .slice sa s.tr.l.length sc], .int .i64 n, .int .i64 e]) ∧
   IsSec w' anyF s (.slice ga s.gs.length gc) (.slice sa s.tr.l.length sc) ∧ Below w.heap.size w w' := by
 obtain ⟨gv, sl, rfl, hs, hb⟩ := h
 obtain ⟨ga, gc, rfl, -, -, -⟩ := hs.1.len
 obtain ⟨sa, sc, rfl, -, -, -⟩ := hs.2.len
 exact ⟨ga, gc, sa, sc, rfl, hs.keep (Stays.refl _ _) (fun _ _ => trivial), hb⟩
def PlEndX (w : World) (e : Ending) (w' : World) : Prop := e = .returned (.bool true) ∧ Below w.heap.size w w'
def NxtEnd (w : World) (V : Tk × Int × Int × Int) (e : Ending) (w' : World) : Prop := e = .returned (.tuple #[.agg (tokN V.1 V.2.1 V.2.2.1), .int .i64 V.2.2.2]) ∧ Below w.heap.size w w'
theorem dnext_any {w : World} {a : Option Addr} {cap : Nat} {bs : List UInt8} (hr : Row w 1 a bs.length cap (bs.map u8C)) (hn : bs.length ≤ 400000) (k : Int) (last : Bool) :
   Calls Tryz.prog 47 #[.slice a bs.length cap, .int .i64 k, .bool last] w (NxtEnd w (nxtV bs last k)) := by
 have HN := Lib.hid (fun (W : World) (h : Below w.heap.size w W) => rnext_any (hr.mono h) hn k last)
 unfold NxtEnd
 rw [nxt_1, nxt_2, nxt_3, nxt_4]
 generalize nextV bs k last = V at *
 obtain ⟨x, f, t, er⟩ := V
 unfold NextEnd tokN at HN
 unfold tokN nxE
 simp only at HN ⊢
 clear hr
 generalize x.kind = a0 at *
 generalize x.vk = a1 at *
 generalize x.vn = a2 at *
 generalize mkB x.vs = s1 at *
 generalize mkB x.s = s2 at *
 obtain ⟨E, hE⟩ : ∃ E, E = (if er = 0 ∧ a0 = 0 then (10 : Int) else er) := ⟨_, rfl⟩
 rw [← hE]
 have HE := Lib.hid hE
 clear hE
 obtain ⟨B, hB⟩ : ∃ B, B = w.heap.size := ⟨_, rfl⟩
 have HB1 := Lib.hid (belowA w (.cells #[.int .i64 0, .int .i64 0, .int .i64 0, .int .i64 0, .int .i64 0, .string ⟨#[]⟩, .slice none 0 0, .string ⟨#[]⟩] 111))
 have HZ1 := Lib.hid (heapA_new (w := w) (b := B) (.cells #[.int .i64 0, .int .i64 0, .int .i64 0, .int .i64 0, .int .i64 0, .string ⟨#[]⟩, .slice none 0 0, .string ⟨#[]⟩] 111) hB)
 have HBB := Lib.hid (Nat.le_of_eq hB.symm)
 go_enter Tryz.func47, Tryz.ntmps47
 go_upto_region 1 with fail
 rw [← hB]
 clear hB
 generalize w.alloc _ = W1 at *
 go_wp2_with fail
 refine (HN.out _ HB1.out).mono ?_
 rintro e w2 ⟨rfl, hb2⟩
 have hb2a := hb2.alloc hb2.size (.cells #[.int .i64 a0, .int .i64 f, .int .i64 t, .int .i64 a1, .int .i64 a2, .string s1, .slice none 0 0, .string s2] 111)
 have HT2 := Lib.hid (heapA_new (w := w2) (b := w2.heap.size) (.cells #[.int .i64 a0, .int .i64 f, .int .i64 t, .int .i64 a1, .int .i64 a2, .string s1, .slice none 0 0, .string s2] 111) rfl)
 have HZ2 := Lib.hid (block_keep hb2a HZ1.out)
 have HB2 := Lib.hid (HB1.out.trans (hb2a.mono HB1.out.size))
 clear hb2 hb2a HN HZ1
 go_upto_region 2 with fail
 obtain ⟨r2, hr2⟩ : ∃ r2, r2 = w2.heap.size := ⟨_, rfl⟩
 rw [← hr2] at HT2 ⊢
 clear hr2
 generalize w2.alloc _ = W2 at *
 obtain ⟨⟨t0, t1, t2, t3, t4, t5, t6, t7⟩, -⟩ := cells8 HT2.out
 obtain ⟨⟨r0, r1, r2', r3, r4, r5, r6, r7⟩, rf0, rf1, rf2, rf3, rf4, rf5, rf6, rf7⟩ := cells8 HZ2.out
 by_cases her : er = 0
 · subst her
   by_cases hk0 : a0 = 0
   · subst hk0
     obtain rfl : E = 10 := by rw [HE.out, if_pos ⟨rfl, rfl⟩]
     go_wp2
     refine bodyPost_ret (results_val rfl _ _ B 111 _ (0, 0) _ rfl (by exact set8 HZ2.out _ _ _ _ _ _ _ _) Tryz.underlying111 rfl (by exact infoRTok) _ rfl) rfl ?_
     exact ⟨rfl, below_set8 HB2.out HBB.out _ _ _ _ _ _ _ _⟩
   · have hk1 : (a0 == 0) = false := by rw [beq_eq_false_iff_ne]; exact hk0
     obtain rfl : E = 0 := by rw [HE.out, if_neg (fun h => hk0 h.2)]
     go_wp2
     refine bodyPost_ret (results_val rfl _ _ B 111 _ (0, 0) _ rfl (by exact set8 HZ2.out _ _ _ _ _ _ _ _) Tryz.underlying111 rfl (by exact infoRTok) _ rfl) rfl ?_
     exact ⟨rfl, below_set8 HB2.out HBB.out _ _ _ _ _ _ _ _⟩
 · have e1 : (er == 0) = false := by rw [beq_eq_false_iff_ne]; exact her
   obtain rfl : er = E := by rw [HE.out, if_neg (fun h => her h.1)]
   go_wp2
   refine bodyPost_ret (results_val rfl _ _ B 111 _ (0, 0) _ rfl (by exact set8 HZ2.out _ _ _ _ _ _ _ _) Tryz.underlying111 rfl (by exact infoRTok) _ rfl) rfl ?_
   exact ⟨rfl, below_set8 HB2.out HBB.out _ _ _ _ _ _ _ _⟩
def DEntEnd (w : World) (V : Ent × Nat × Int) (e : Ending) (w' : World) : Prop := e = .returned (.tuple #[entA V.1, .int .i64 V.2.1, .int .i64 V.2.2]) ∧ Below w.heap.size w w'
end Go.Proofs.YtfafdeemfeaedaaGreat
