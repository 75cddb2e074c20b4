/-
  Our texts PsD to LawPStays, in one.
-/
import Derived.Test.YtmejhjgdofncfaaPkP20
import Derived.Deep.AppendLies
import Derived.Deep.RegionLaw
import Derived.KernelRfl
import Derived.Lib.SlBytesConst
/-
  The walk of parse.Value. (Printed by a program: see NOTES.)
-/
namespace Go.Proofs.Ytmejhjgdofncfaa
open Go.RowKit

set_option maxRecDepth 100000 in
set_option maxHeartbeats 8000000 in
theorem value_any {w : World} {a : Option Addr} {cap : Nat} {bs : List UInt8} (hr : Row w 1 a bs.length cap (bs.map u8C)) (hn : bs.length ≤ 100000) (at0 : Int) (last : Bool) (V : PV × Int × Int) (hV : valO bs last (bs.length + 2) [] at0 = some V) :
    Calls Try.prog 6 #[.slice a bs.length cap, .int .i64 at0, .bool last] w (ValEnd w V) := by
  obtain ⟨r, hrr⟩ : ∃ r, r = w.heap.size := ⟨_, rfl⟩
  have hs0 : IsStk w ((w.alloc (.cells #[.int .i64 0, .int .i64 0, .string ⟨#[]⟩, .slice none 0 0] 27)).alloc (.cells #[.slice a bs.length cap, .int .i64 at0, .bool last, .slice none 0 0] 38)) (fun _ => False) (fun b => b = r) (r + 1) a cap bs last [] at0 [] (.slice none 0 0) :=
    ⟨heapA_new _ (by rw [sizeA, hrr]), by omega, by omega, World.ownsRow_nil _ _ _ _, fun b hb => (by cases hb), rfl, fun b hb => hb.elim, fun b hb => by rw [sizeA, sizeA]; omega, belowA2 w _ _, hr, hn, by simp⟩
  have HAT := Lib.hid (show VAt w ((w.alloc (.cells #[.int .i64 0, .int .i64 0, .string ⟨#[]⟩, .slice none 0 0] 27)).alloc (.cells #[.slice a bs.length cap, .int .i64 at0, .bool last, .slice none 0 0] 38)) (fun _ => False) r (r + 1) a cap bs last V (bs.length + 2) [] at0 from
    ⟨⟨_, _, hs0⟩, heapA_old _ (heapA_new _ hrr), hV, fun v hv => (by cases hv), .inl rfl⟩)
  have HRR := Lib.hid hrr
  clear hs0 hV hr hn hrr
  go_enter Try.func6, Try.ntmps6
  go_wp2
  refine wp_scope_ghost 0 (ValI w r (r + 1) a cap bs last at0 V) rfl ?first ?pass
  case first =>
    intro hpass
    have HPASS := Lib.hid hpass
    clear hpass
    go_wp2
    rw [← HRR.out]
    refine wp_label ?_
    rename_i K hK
    exact hK _ _ (HPASS.out _ _ _ ⟨_, [], at0, _, _, _, _, _, _, _, _, _, _, _, _, _, _, _, _, _, _, _, _, _, _, _, _, _, _, _, _, _, _, _, _, _, _, _, _, _, _, _, _, _, _, _, _, _, _, _, _, _, _, _, _, HAT, rfl⟩)
  case pass =>
    rintro n act W ⟨F, st, at_, u10, u11, u12, u13, u14, u15, u16, u17, u18, u19, u20, u21, u22, u23, u24, u25, u26, u27, u28, u29, u30, u31, u32, u33, u34, u35, u36, u37, u38, u39, u40, u41, u42, u43, u44, u45, u46, u47, u48, u49, u50, u51, u52, u53, u54, u55, u56, u57, u58, u59, u60, u61, HA, rfl⟩
    obtain ⟨p, hp⟩ : ∃ p, p = r + 1 := ⟨_, rfl⟩
    rw [← hp] at HA ⊢
    have HP := Lib.hid hp
    clear hp HAT
    obtain ⟨gs, osl, hs⟩ := HA.out.stk
    have HS := Lib.hid hs
    have HNX := Lib.hid (pnext_any hs)
    have HFU := Lib.hid HA.out.fuel
    have HRES := Lib.hid HA.out.res
    have hrl : r < W.heap.size := lt_of_heap HA.out.res
    have hpr : p ≠ r := hs.gp
    have HLEN := Lib.hid HA.out.len
    have HSM := Lib.hid HA.out.small
    have HRNG := Lib.hid HA.out.rng
    have HHR := Lib.hid (show w.heap.size ≤ r by rw [HRR.out]; exact Nat.le_refl _)
    have hfu := HFU.out
    cases n with
    | zero => cases hfu
    | succ n =>
    unfold valO at hfu
    simp only at hfu
    obtain ⟨T, hT⟩ : ∃ T, T = nextV bs at_ last := ⟨_, rfl⟩
    rw [← hT] at hfu HNX
    have HT := Lib.hid hT
    obtain ⟨x, tf, tt, er⟩ := T
    simp only at hfu HNX
    clear hs hT HFU HA
    by_cases her : er = 0
    case neg =>
      have hv := hfu
      rw [if_pos her] at hv
      have HV := Lib.hid (Option.some.inj hv).symm
      have e1 : (er == 0) = false := by rw [beq_eq_false_iff_ne]; exact her
      have e2 : (er != 0) = true := by simp only [bne, e1, Bool.not_false]
      clear hfu hv her
      unfold tokN at HNX
      go_wp2_with fail
      refine HNX.out.mono ?_
      rintro e w1 ⟨rfl, hs1, hk1⟩
      have HR1 := Lib.hid ((hk1.alloc (.cells (tokN x tf tt) 40)).obj HRES.out (Ne.symm hpr))
      have HB1 := Lib.hid (hs1.bel.alloc hs1.bel.size (.cells (tokN x tf tt) 40))
      unfold tokN at HR1 HB1
      obtain ⟨⟨k0, k1, k2, k3⟩, m0, m1, m2, m3⟩ := cells4 HR1.out
      clear hs1 hk1
      go_upto_region 3 with fail
      generalize w1.alloc _ = W2 at *
      go_wp2
      try simp only [Exit.jump]
      refine bodyPost_ret (results_val3 rfl _ _ r 27 _ (0, 0) _ rfl (by exact set4 HR1.out _ _ _ _) Try.underlying27 rfl (by exact infoPV) _ _ rfl rfl) rfl ?_
      rw [HV.out]
      exact ⟨.slice none 0 0, rfl, IsV.leaf _ _ _ rfl, below_set4 HB1.out HHR.out _ _ _ _⟩
    subst her
    have hv := hfu
    rw [if_neg (by simp)] at hv
    have hrng : 0 ≤ at_ ∧ at_ ≤ bs.length := by
      have h := HT.out
      by_cases ho : at_ < 0 ∨ (bs.length : Int) < at_
      · unfold nextV at h
        rw [if_pos ho] at h
        have h2 := congrArg (fun z : Tk × Int × Int × Int => z.2.2.2) h
        simp at h2
      · omega
    have hst := fun w1 (h1 : IsStk w w1 F (fun b => b = r) p a cap bs last st tt gs osl) => step_any h1 x tf tt HSM.out
    have HST := Lib.hid hst
    have hat := fun h => nextV_far (bs := bs) (k := at_) (last := last) hrng.1 hrng.2 (by rw [← HT.out]) h
    rw [← HT.out] at hat
    have hto := nextV_to (bs := bs) (k := at_) last hrng.1 hrng.2
    rw [← HT.out] at hto
    simp only at hat hto
    have hsa := stepV_at (bs := bs) (last := last) (k := tt) (by omega) hto.2 st x
    have hsk := fun h => stepV_kind (bs := bs) (last := last) (k := tt) (st := st) (t := x) h
    have hsl := stepV_len (bs := bs) (last := last) (st := st) (k := tt) (t := x) (N := at_) hrng.1 HLEN.out
    obtain ⟨R, hRR⟩ : ∃ R, R = stepV bs last st tt x := ⟨_, rfl⟩
    rw [← hRR] at hsa hsk hsl hv
    have HST2 := Lib.hid (show ∀ w1, IsStk w w1 F (fun b => b = r) p a cap bs last st tt gs osl → Calls Try.prog 10 #[.pointer (some ⟨p, 0, none⟩), .agg (tokN x tf tt)] w1 (PStep w w1 F (fun b => b = r) p a cap bs last R) from fun w1 h1 => by rw [hRR]; exact hst w1 h1)
    obtain ⟨o, st2, at2, er2⟩ := R
    simp only at hsa hsk hsl hv
    have HV := Lib.hid hv
    have HSL := Lib.hid hsl
    have HSA := Lib.hid hsa
    have HSK := Lib.hid (fun h => hat (hsk h))
    have HTO := Lib.hid hto
    have HR0 := Lib.hid hrng
    clear hst HST hat hto hsa hsk hsl hRR hv hfu hrng HT
    unfold tokN at HNX HST2
    go_wp2_with fail
    refine HNX.out.mono ?_
    rintro e w1 ⟨rfl, hs1, hk1⟩
    have HR1 := Lib.hid (hk1.obj HRES.out (Ne.symm hpr))
    have HS1 := Lib.hid hs1
    clear hs1 hk1 HNX
    go_wp2_with fail
    refine (HST2.out _ (HS1.out.alloc _)).mono ?_
    rintro e w3 ⟨F', sa, sn, sc, X, rfl, hX, hN⟩
    have HX := Lib.hid hX
    have HN := Lib.hid hN
    have HR3 := Lib.hid (stays_obj hN.sg (heapA_old (.cells #[.int .i64 x.kind, .int .i64 tf, .int .i64 tt, .int .i64 x.vk, .int .i64 x.vn, .string (mkB x.vs), .slice none 0 0, .string (mkB x.s)] 40) HR1.out) rfl)
    have HB3 := Lib.hid (show Below w.heap.size w w3 from (let ⟨_, _, h⟩ := hN.stk; h.bel))
    clear hX hN HST2 HS1 HR1
    unfold pvA
    by_cases her2 : er2 = 0
    case neg =>
      have hv := HV.out
      rw [if_pos her2] at hv
      have HVV := Lib.hid (Option.some.inj hv).symm
      have e1 : (er2 == 0) = false := by rw [beq_eq_false_iff_ne]; exact her2
      have e2 : (er2 != 0) = true := by simp only [bne, e1, Bool.not_false]
      clear hv her2
      simp only
      generalize o.isSome = io at *
      go_upto_region 6 with fail
      have HR4 := Lib.hid (heapA_old (.cells #[.int .i64 X.kind, .int .i64 X.n, .string (mkB X.s), .slice sa sn sc] 27) HR3.out)
      have HB4 := Lib.hid (HB3.out.alloc HB3.out.size (.cells #[.int .i64 X.kind, .int .i64 X.n, .string (mkB X.s), .slice sa sn sc] 27))
      generalize w3.alloc _ = W4 at *
      obtain ⟨⟨k0, k1, k2, k3⟩, m0, m1, m2, m3⟩ := cells4 HR4.out
      go_wp2
      refine bodyPost_ret (results_val3 rfl _ _ r 27 _ (0, 0) _ rfl (by exact set4 HR4.out _ _ _ _) Try.underlying27 rfl (by exact infoPV) _ _ rfl rfl) rfl ?_
      rw [HVV.out]
      exact ⟨.slice none 0 0, rfl, IsV.leaf _ _ _ rfl, below_set4 HB4.out HHR.out _ _ _ _⟩
    subst her2
    have hv := HV.out
    rw [if_neg (by simp)] at hv
    have hlt : at_ < tt := HSK.out rfl
    have hrng := HR0.out
    have hsa := HSA.out
    have hsl := HSL.out
    cases o with
    | none =>
      simp only at hv
      have HVA := Lib.hid (show ∀ o : Obj, VAt w (w3.alloc o) F' r p a cap bs last V n st2 at2 from fun o =>
        ⟨(let ⟨gs2, osl2, h⟩ := HN.out.stk; ⟨gs2, osl2, h.alloc o⟩), heapA_old o HR3.out, hv, fun v hv => by have := hsl v hv; omega, .inr ⟨by omega, hsa.2⟩⟩)
      clear hv hlt hsa hsl HN HX hrng
      simp only [Option.isSome_none]
      go_wp2
      go_step3
      exact ⟨rfl, n, Nat.lt_succ_self _, F', st2, at2, _, _, _, _, _, _, _, _, _, _, _, _, _, _, _, _, _, _, _, _, _, _, _, _, _, _, _, _, _, _, _, _, _, _, _, _, _, _, _, _, _, _, _, _, _, _, _, _, _, _, _, _, Lib.hid (HVA.out _), rfl⟩
    | some x0 =>
      simp only [Option.isSome_some]
      obtain ⟨rfl, hv0⟩ := HX.out x0 rfl
      have HV0 := Lib.hid hv0
      obtain ⟨gs2, osl2, hs2⟩ := HN.out.stk
      have HS2 := Lib.hid hs2
      simp only at hv
      go_upto_region 9 with fail
      obtain ⟨v4, hv4⟩ : ∃ v4, v4 = w3.heap.size := ⟨_, rfl⟩
      have hb4 := belowA w3 (.cells #[.int .i64 X.kind, .int .i64 X.n, .string (mkB X.s), .slice sa sn sc] 27)
      have hk4 := heapA_new (w := w3) (b := v4) (.cells #[.int .i64 X.kind, .int .i64 X.n, .string (mkB X.s), .slice sa sn sc] 27) hv4
      have HS4 := Lib.hid (hs2.mono hb4)
      have HG4 := Lib.hid (hs2.res (G' := fun b => b = r ∨ b = v4) hb4 (fun b hb => hb.imp id fun e => by rw [e, hv4, sizeA]; omega))
      have HV4 := Lib.hid (hv0.below hb4)
      have HR4 := Lib.hid (block_keep hb4 HR3.out)
      have HB4 := Lib.hid (HB3.out.trans (hb4.mono HB3.out.size))
      have HK4 := Lib.hid hk4
      have HV3 := Lib.hid hv4
      have hv4r : v4 ≠ r := by have := lt_of_heap HR3.out; omega
      have hv4p : v4 ≠ p := by have := hs2.lt; omega
      rw [← hv4]
      clear hv0 hs2 HX HN HS2 HV0 HR3 HB3 hb4 hk4
      generalize w3.alloc _ = W4 at *
      clear hv4
      have HTOP := Lib.hid (top_any HS4.out)
      go_wp2_with fail
      refine HTOP.out.mono ?_
      rintro e w5 ⟨rfl, q, rfl⟩
      have HS5 := Lib.hid (HS4.out.drewN q)
      have HG5 := Lib.hid (HG4.out.drewN q)
      have HV5 := Lib.hid (HV4.out.below (below_drewN (Below.refl _ _) q))
      have HR5 := Lib.hid (show (W4.drewN q).heap[r]? = _ from HR4.out)
      have HB5 := Lib.hid (below_drewN HB4.out q)
      have HK5 := Lib.hid (show (W4.drewN q).heap[v4]? = _ from HK4.out)
      clear HS4 HG4 HV4 HR4 HB4 HK4 HTOP
      generalize W4.drewN q = W5 at *
      obtain ⟨⟨k0, k1, k2, k3⟩, m0, m1, m2, m3⟩ := cells4 HR5.out
      obtain ⟨⟨d0, d1, d2, d3⟩, -⟩ := cells4 HK5.out
      cases st2 with
      | nil =>
        have hg : gs2 = [] := List.eq_nil_of_length_eq_zero (by rw [HS5.out.lvs.len]; rfl)
        subst hg
        have HVV := Lib.hid (Option.some.inj hv).symm
        obtain ⟨⟨c0, c1, c2, c3⟩, -⟩ := HS5.out.cells
        clear hv hlt hsa hsl hrng
        unfold topP
        go_wp2
        go_region
        all_goals
          go_wp2
          refine bodyPost_ret (results_val3 rfl _ _ r 27 _ (0, 0) _ rfl (by exact set4 HR5.out _ _ _ _) Try.underlying27 rfl (by exact infoPV) _ _ rfl rfl) rfl ?_
          rw [HVV.out]
          exact ⟨_, rfl, (IsV.setr HV5.out HS5.out _ _ _ _).drew, (below_set4 HB5.out HHR.out _ _ _ _).drew⟩
      | cons top rest =>
        obtain ⟨g, t, ta, tc, cs, rfl, ht1, ht2, hgB, hgG, hgl, hO, hVs, hown⟩ := HG5.out.lastL
        obtain ⟨tn, htn⟩ : ∃ tn, tn = top.l.length := ⟨_, rfl⟩
        rw [← htn] at ht1 hO hgl hown
        have htn2 : tn ≤ 100000 := by
          have h1 := hsl top List.mem_cons_self
          have h2 := HS5.out.small
          omega
        have hgc : W5.cell? ⟨g, 1, none⟩ = some (.slice ta tn tc) := by rw [cell_of_row W5 g 1 _ _ _ hgl]; rfl
        have hgf : W5.frozen? ⟨g, 1, none⟩ = false := frozen_of_row W5 g 1 _ _ hgl
        have hv4l : v4 < W5.heap.size := lt_of_heap HK5.out
        have hgll : g < W5.heap.size := lt_of_heap hgl
        have hgt : (Value.slice ta tn tc).ownBlock ≠ some g := fun e => by obtain ⟨ds, hc⟩ := owns_type hO e; exact type_ne hc hgl (by decide) rfl
        have hvt : (Value.slice ta tn tc).ownBlock ≠ some v4 := fun e => (hown v4 e).2 (.inr rfl)
        have HC0 : Hid (S5v W5 v4 (.int .i64 X.kind) (.int .i64 X.n) (.string (mkB X.s)) (.slice sa sn sc)) := Lib.hid ⟨d0, d1, d2, d3⟩
        have HO := Lib.hid hO
        have HGL := Lib.hid hgl
        have HVS := Lib.hid hVs
        have HTN := Lib.hid htn
        have HBA := Lib.hid (HS5.out.bel.size)
        have HGT := Lib.hid hgt
        have HVT := Lib.hid hvt
        have HVG := Lib.hid (show v4 ≠ g from fun e => hgG (.inr e.symm))
        clear k0 k1 k2 k3 m0 m1 m2 m3 hO hgl hVs htn hown
        unfold topP
        go_upto_region 11 with fail
        have i1 : (0 : Int) ≤ (tn : Int) := by omega
        have i2 : (tn : Int) ≤ 100000 := by omega
        have i3 : (tn : Int) < (tn : Int) + 1 := by omega
        have i4 : (tn : Int) < ((tn + 1 : Nat) : Int) := by omega
        have i5 : tn < tn + 1 := by omega
        have i6 : (tn : Int).toNat = tn := by omega
        obtain ⟨iB, hiB, hzB, hsB, hbB⟩ := info_parts EPV.info
        go_region_law (first | (refine step_append_lies _ (by rfl) _ _ _ (by rfl) w.heap.size 27 iB _ 4 56 EPV.und hiB hzB hsB hbB rfl (by omega) (.slice ta tn tc) tn cs (by rfl) ((HO.out.alloc _).drew) ⟨W5.heap.size, 0, none⟩ 1 1 [.int .i64 0, .int .i64 0, .string ⟨#[]⟩, .slice none 0 0] (by rfl) (by rfl) (World.news_of_block (cs := #[.int .i64 0, .int .i64 0, .string ⟨#[]⟩, .slice none 0 0]) (t := 27) (fr := (0, 0)) (heap_alloc_new W5 _)) (by simp [Value.oneCell']) (by omega) (by unfold maxLen; omega) (by omega) (by simp; have := HBA.out; omega) (W5.heap.size + 1) (by simp) ?_; intro g7 cap7 w7 hO7 hgrow hat hlt7; have HGV : Hid (g ≠ g7 ∧ v4 ≠ g7) := (by rcases hat with e | e; exact Lib.hid ⟨fun e2 => hgt (e2 ▸ e), fun e2 => hvt (e2 ▸ e)⟩; exact Lib.hid ⟨by omega, by omega⟩); have hs7 := (HC0.out.alloc (.cells #[.int .i64 0, .int .i64 0, .string ⟨#[]⟩, .slice none 0 0] 27)).drew.grown hgrow hvt; obtain ⟨s0, s1, s2, s3⟩ := hs7; obtain ⟨⟨z0, z1, z2, z3⟩, zf⟩ := owns_lastC hO7; have hgl7 := Lib.hid ((hgrow.block g (show g < (W5.alloc _).heap.size by rw [sizeA]; omega) (fun e => hgt e.symm)).trans (heapA_old (.cells #[.int .i64 0, .int .i64 0, .string ⟨#[]⟩, .slice none 0 0] 27) HGL.out)); have hgf7 := frozen_of_row w7 g 1 _ _ hgl7.out; have hgne : g ≠ g7 := HGV.out.1; have zf0 := zf (tn * 4); have zf1 := zf (tn * 4 + 1); have zf2 := zf (tn * 4 + 2); have zf3 := zf (tn * 4 + 3); have hc7 : w7.cell? ⟨g, 1, none⟩ = some (.slice ta tn tc) := (by rw [cell_of_row w7 g 1 _ _ _ hgl7.out]; rfl); have HG7 := Lib.hid hgrow; have HO7 := Lib.hid hO7; have HAT := Lib.hid hat; clear zf hgrow hO7 hat hlt7))
        all_goals
          first
            | rw [setCell_comm4 w7 hgne]
            | skip
          have HVA := Lib.hid (VAt.put HG5.out HR5.out HGL.out HVS.out HV5.out HTN.out HG7.out HO7.out HAT.out hv (fun v hv => by have := hsl v hv; omega) ⟨by omega, hsa.2⟩)
          clear hv hlt hsa hsl hrng HG5 HR5 HGL HVS HV5 HTN HG7 HO7 HAT HO
          go_wp2
          go_step3
          exact ⟨rfl, n, Nat.lt_succ_self _, F', _, at2, _, _, _, _, _, _, _, _, _, _, _, _, _, _, _, _, _, _, _, _, _, _, _, _, _, _, _, _, _, _, _, _, _, _, _, _, _, _, _, _, _, _, _, _, _, _, _, _, _, _, _, _, HVA, rfl⟩
end Go.Proofs.Ytmejhjgdofncfaa
/-
  What law 12 probes its parser with.
-/
namespace Go.Proofs.Ytmejhjgdofncfaa
open Go.RowKit

theorem valO_next {bs : List UInt8} {last : Bool} {g : Nat} {st st2 : List Lv} {at_ f t at2 : Int} {x : Tk} (h : nextV bs at_ last = (x, f, t, 0)) (h2 : stepV bs last st t x = (none, st2, at2, 0)) : valO bs last (g + 1) st at_ = valO bs last g st2 at2 := by
  rw [valO]; simp only [h, h2]; rfl
theorem valO_put {bs : List UInt8} {last : Bool} {g : Nat} {st rest : List Lv} {top : Lv} {at_ f t at2 : Int} {x : Tk} {X : PV} (h : nextV bs at_ last = (x, f, t, 0)) (h2 : stepV bs last st t x = (some X, top :: rest, at2, 0)) : valO bs last (g + 1) st at_ = valO bs last g ({ top with l := top.l ++ [X] } :: rest) at2 := by
  rw [valO]; simp only [h, h2]; rfl
theorem valO_done {bs : List UInt8} {last : Bool} {g : Nat} {st : List Lv} {at_ f t at2 : Int} {x : Tk} {X : PV} (h : nextV bs at_ last = (x, f, t, 0)) (h2 : stepV bs last st t x = (some X, [], at2, 0)) : valO bs last (g + 1) st at_ = some (X, at2, 0) := by
  rw [valO]; simp only [h, h2]; rfl
theorem valO_fail {bs : List UInt8} {last : Bool} {g : Nat} {st st2 : List Lv} {at_ f t at2 e : Int} {x : Tk} {o : Option PV} (h : nextV bs at_ last = (x, f, t, 0)) (h2 : stepV bs last st t x = (o, st2, at2, e)) (he : e ≠ 0) : valO bs last (g + 1) st at_ = some (PV.none, 0, e) := by
  rw [valO]; simp only [h, h2, he, ne_eq, not_true_eq_false, if_false, not_false_eq_true, if_true]
def pv1 : PV := .mk 6 0 [] [.mk 8 1 [] [], .mk 2 3 [] []]
theorem val_ex1 : valO [91, 49, 32, 48, 32, 82, 32, 51, 93, 32] false 12 [] 0 = some (pv1, 9, 0) :=
  (valO_next (x := { kind := 2 }) (f := 0) (t := 1) (st2 := [{ dict := false, l := [] }]) (at2 := 1) (by kernel_rfl) (by kernel_rfl)).trans
    ((valO_put (x := { kind := 1, vk := 2, vn := 1 }) (f := 1) (t := 2) (X := .mk 8 1 [] []) (top := { dict := false, l := [] }) (rest := []) (at2 := 6) (by kernel_rfl) (by kernel_rfl)).trans
    ((valO_put (x := { kind := 1, vk := 2, vn := 3 }) (f := 7) (t := 8) (X := .mk 2 3 [] []) (top := { dict := false, l := [.mk 8 1 [] []] }) (rest := []) (at2 := 8) (by kernel_rfl) (by kernel_rfl)).trans
    (valO_done (x := { kind := 3 }) (f := 8) (t := 9) (X := pv1) (at2 := 9) (by kernel_rfl) (by kernel_rfl))))
theorem val_ex2 : valO [91, 49, 32, 50, 32, 82, 32, 51, 93] true 11 [] 0 = some (PV.none, 0, 26) :=
  (valO_next (x := { kind := 2 }) (f := 0) (t := 1) (st2 := [{ dict := false, l := [] }]) (at2 := 1) (by kernel_rfl) (by kernel_rfl)).trans
    (valO_fail (x := { kind := 1, vk := 2, vn := 1 }) (f := 1) (t := 2) (o := none) (st2 := [{ dict := false, l := [] }]) (at2 := 2) (e := 26) (by kernel_rfl) (by kernel_rfl) (by decide))
end Go.Proofs.Ytmejhjgdofncfaa
/-
  law12.works is walked.
-/
namespace Go.Proofs.Ytmejhjgdofncfaa
open Go.RowKit

theorem row_bs {w : World} (bs : List UInt8) (t : TypeId) (hb : bs.length ≤ 100) : Row (w.alloc (.cells (bs.map u8C).toArray t (bs.length, bs.length + 1))) 1 (some ⟨w.heap.size, 0, none⟩) bs.length bs.length (bs.map u8C) := by
  refine ⟨by simp, Nat.le_refl _, by unfold maxLen; omega, fun h => (by cases h), fun _ => ⟨_, _, rfl, (by rw [sizeA]; omega), fun j u hj => ?_⟩⟩
  rw [cell_of_row _ _ _ _ _ _ (heapA_new _ rfl)]
  simpa using hj
theorem pvA_1 (sl : Value) : pvA pv1 sl = .agg #[.int .i64 6, .int .i64 0, .string ⟨#[]⟩, sl] := rfl
theorem pvA_0 (sl : Value) : pvA PV.none sl = .agg #[.int .i64 0, .int .i64 0, .string ⟨#[]⟩, sl] := rfl

set_option maxRecDepth 8000 in
set_option maxHeartbeats 8000000 in
theorem works_any (w : World) : Calls Try.prog 5 #[] w fun e w' => e = .returned (.bool true) ∧ Below w.heap.size w w' := by
  have HN1 := Lib.hid (fun W : World => value_any (row_bs (w := W) [91, 49, 32, 48, 32, 82, 32, 51, 93, 32] 5 (by decide)) (by decide) 0 false _ val_ex1)
  have HN2 := Lib.hid (fun W : World => value_any (row_bs (w := W) [91, 49, 32, 50, 32, 82, 32, 51, 93] 5 (by decide)) (by decide) 0 true _ val_ex2)
  have hcv := fun (W : World) (C : Array Value) (n c : Nat) => Lib.run_convert_bytes_const (P := Try.prog) W 22 5 C n c Try.underlying22 Try.underlying5
  go_enter Try.func5, Try.ntmps5
  go_wp2_with fail
  refine (HN1.out w).mono ?_
  rintro e w1 ⟨sl, rfl, hV, hb1⟩
  simp only [pvA_1]
  have HB1 := Lib.hid ((belowA w _).trans (hb1.mono (by rw [sizeA]; omega)))
  obtain ⟨sa, sc, rfl, -, -, -⟩ := hV.len
  obtain ⟨-, hs1, hs2, b, off, rfl, hbl, -, hget⟩ := hV.at (by decide)
  obtain ⟨sx, -, hc8, -⟩ := hget 0 _ rfl
  have hl2 : pv1.l.length = 2 := rfl
  rw [hl2] at hs1 ⊢
  clear hget hV hl2
  have hcv2 := fun (o : Obj) (C : Array Value) (n c : Nat) => hcv (w1.alloc o) C n c
  simp only [sizeA] at hcv2
  have HN3 := Lib.hid (fun o : Obj => HN2.out (w1.alloc o))
  simp only [sizeA] at HN3
  have HC8 := Lib.hid hc8
  have HK1 := Lib.hid hb1
  clear hb1 hcv hc8 HN1 HN2
  go_wp2_with fail
  refine (HN3.out _).mono ?_
  rintro e w2 ⟨sl2, rfl, hV2, hb2⟩
  simp only [pvA_0]
  have hb2' := (belowA2 w1 _ _).trans (hb2.mono (by rw [sizeA, sizeA]; omega))
  have HB2 := Lib.hid (HB1.out.trans (hb2'.mono HB1.out.size))
  have hbk := block_keep (w' := w2) hb2 (heapA_old _ (heapA_new (w := w1) (.cells #[.int .i64 6, .int .i64 0, .string ⟨#[]⟩, .slice (some ⟨b, off, none⟩) 2 sc] 27) rfl))
  have hc8 : w2.cell? ⟨b, off, none⟩ = some (.int .i64 8) := (World.cell?_of_block (w := w1) (hb2'.block b hbl)).trans (by have h := HC8.out; rw [Nat.zero_mul, Nat.add_zero] at h; exact h)
  obtain ⟨⟨k0, k1, k2, k3⟩, -⟩ := cells4 (heapA_old (.cells #[.int .i64 0, .int .i64 0, .string ⟨#[]⟩, sl2] 27) hbk)
  have hc9 := cell_alloc (.cells #[.int .i64 0, .int .i64 0, .string ⟨#[]⟩, sl2] 27) hc8
  have hc10 : (w2.alloc (.cells #[.int .i64 0, .int .i64 0, .string ⟨#[]⟩, sl2] 27)).cell? ⟨b, off + 0 * 4, none⟩ = some (.int .i64 8) := by rw [Nat.zero_mul, Nat.add_zero]; exact hc9
  have HW := Lib.hid (HB2.out.alloc HB2.out.size (.cells #[.int .i64 0, .int .i64 0, .string ⟨#[]⟩, sl2] 27))
  obtain ⟨sa2, sc2, rfl, -, -, -⟩ := hV2.len
  clear hb2 hb2' hbk hcv2 HC8 HK1 hV2 HN3
  go_wp2
  go_ret
  exact ⟨rfl, HW.out⟩
end Go.Proofs.Ytmejhjgdofncfaa
/-
  The law ParseStays, walked.
-/
namespace Go.Proofs.Ytmejhjgdofncfaa
open Go.RowKit

def PlEnd (w : World) (e : Ending) (w' : World) : Prop := e = .returned (.bool true) ∧ Below w.heap.size w w'
theorem Row.take1 {α : Type} {enc : α → Value} {w : World} {a : Option Addr} {n cap : Nat} {l : List α} (h : Row w 1 a n cap (l.map enc)) (q : Nat) (hq : q ≤ n) : Row w 1 a (l.take q).length cap ((l.take q).map enc) := by
  have hl := h.len1
  obtain ⟨h1, h2, h3, h4, h5⟩ := h
  have e : (l.take q).length = q := by rw [List.length_take]; omega
  rw [e]
  refine ⟨by simp; omega, by omega, h3, h4, fun h0 => ?_⟩
  obtain ⟨b, off, ha, hb, hc⟩ := h5 (by omega)
  refine ⟨b, off, ha, hb, fun j u hj => hc j u ?_⟩
  rw [List.getElem?_map] at hj ⊢
  obtain ⟨x, hx, hxu⟩ := Option.map_eq_some_iff.1 hj
  rw [List.getElem?_take] at hx
  split at hx
  · rw [hx]; exact congrArg some hxu
  · cases hx
/-- What Value leaves, its slice in sight. -/
theorem ValEnd.split {w w' : World} {X : PV} {n e : Int} {en : Ending} (h : ValEnd w (X, n, e) en w') : ∃ sa sc, en = .returned (.tuple #[.agg #[.int .i64 X.kind, .int .i64 X.n, .string (mkB X.s), .slice sa X.l.length sc], .int .i64 n, .int .i64 e]) ∧ IsV w' anyF X (.slice sa X.l.length sc) ∧ Below w.heap.size w w' := by
  obtain ⟨sl, rfl, hV, hb⟩ := h
  obtain ⟨sa, sc, rfl, -, -, -⟩ := hV.len
  exact ⟨sa, sc, rfl, hV, hb⟩

set_option maxRecDepth 8000 in
set_option maxHeartbeats 8000000 in
theorem law_pstays {a : Option Addr} {cap : Nat} {bs : List UInt8} (M : Nat) (last : Bool) (w : World) (hr : Row w 1 a bs.length cap (bs.map u8C)) (hM : M ≤ 65535) :
    Calls Try.prog 3 #[.slice a bs.length cap, .int .u16 M, .bool last] w (PlEnd w) := by
  have hi := hr.i64
  have HW := Lib.hid (fun W => works_any W)
  by_cases hbig : 400 < bs.length
  · have hb2 : decide (400 < bs.length) = true := decide_eq_true hbig
    have hb3 : decide ((400 : Int) < bs.length) = true := decide_eq_true (by omega)
    clear hr hbig
    go_enter Try.func3, Try.ntmps3
    go_wp2_with (go_at_call 5; refine (HW.out _).mono ?_; rintro e w' ⟨rfl, hb⟩)
    go_ret
    exact ⟨rfl, hb⟩
  obtain ⟨q, hq⟩ : ∃ q, q = M % (bs.length + 1) := ⟨_, rfl⟩
  have hql : q ≤ bs.length := by
    have := Nat.mod_lt M (show bs.length + 1 > 0 by omega)
    omega
  have hqe : (M : Int) % ((bs.length : Int) + 1) = (q : Int) := by rw [hq]; push_cast; rfl
  have hb2 : decide (400 < bs.length) = false := decide_eq_false hbig
  have hb3 : decide ((400 : Int) < bs.length) = false := decide_eq_false (by omega)
  have hl4 : bs.length ≤ 400 := by omega
  have hM0 : (0 : Int) ≤ (M : Int) := by omega
  have hM1 : (M : Int) ≤ 65535 := by omega
  clear hbig hq
  have hqc : q ≤ cap := by have := hr.2.1; omega
  have hcc := hr.i64c
  have hlq : (bs.take q).length = q := by rw [List.length_take]; omega
  obtain ⟨V, hV⟩ := valO_some (bs.take q) false (q + 2) [] 0 (by omega) (by omega) (by omega)
  have HT := Lib.hid (hr.take1 q hql)
  have HN1 := Lib.hid (fun (W : World) (h : Below w.heap.size w W) => value_any (HT.out.mono h) (by omega) 0 false V (by rw [hlq]; exact hV))
  rw [hlq] at HN1
  have hst := valO_stays last hql _ _ _ V (by omega) (by omega) hV
  have hnil : a = none → cap = 0 := hr.2.2.2.1
  obtain ⟨X, n, er⟩ := V
  simp only at hst
  by_cases h6 : er = 6
  · subst h6
    clear hst hr HT hV
    go_enter Try.func3, Try.ntmps3
    go_wp2_with fail
    refine (HN1.out _ (Below.refl _ _)).mono ?_
    rintro e w1 h1
    obtain ⟨sa, sc, rfl, hx, hb1⟩ := h1.split
    clear h1
    have HB2 := Lib.hid hb1
    clear hb1 hx
    go_wp2_with (go_at_call 5; refine (HW.out _).mono ?_; rintro e w' ⟨rfl, hb⟩)
    go_ret
    exact ⟨rfl, (HB2.out.alloc HB2.out.size _).trans (hb.mono (by rw [sizeA]; have := HB2.out.size; omega))⟩
  obtain ⟨g1, g2⟩ := hst h6
  replace g1 := valO_more g1 (bs.length - q)
  rw [show q + 2 + (bs.length - q) = bs.length + 2 by omega] at g1
  have HN2 := Lib.hid (fun (W : World) (h : Below w.heap.size w W) => value_any (hr.mono h) (by omega) 0 last (X, n, er) g1)
  have HN3 := Lib.hid (fun (W : World) (h : Below w.heap.size w W) => value_any (HT.out.mono h) (by omega) 0 true (X, n, er) (by rw [hlq]; exact g2))
  rw [hlq] at HN3
  have e6 : (er == 6) = false := by rw [beq_eq_false_iff_ne]; exact h6
  have HS := Lib.hid (fun (W : World) (s1 s2 : Value) (h1 : IsV W anyF X s1) (h2 : IsV W anyF X s2) => same_any h1 h2)
  simp only [compare_self, pvA] at HS
  clear hr HT hV hst g1 g2 h6 hlq
  go_enter Try.func3, Try.ntmps3
  go_wp2_with fail
  refine (HN1.out _ (Below.refl _ _)).mono ?_
  rintro e w1 h1
  obtain ⟨sa1, sc1, rfl, hx1, hb1⟩ := h1.split
  have HX1 := Lib.hid (hx1.below (belowA w1 (.cells #[.int .i64 X.kind, .int .i64 X.n, .string (mkB X.s), .slice sa1 X.l.length sc1] 27)))
  have HB1 := Lib.hid (hb1.alloc hb1.size (.cells #[.int .i64 X.kind, .int .i64 X.n, .string (mkB X.s), .slice sa1 X.l.length sc1] 27))
  have HT1 := Lib.hid (heapA_new (w := w1) (.cells #[.int .i64 X.kind, .int .i64 X.n, .string (mkB X.s), .slice sa1 X.l.length sc1] 27) rfl)
  clear h1 hx1 hb1 HN1
  go_wp2_with fail
  have HN2b := Lib.hid (HN2.out _ HB1.out)
  refine HN2b.out.mono ?_
  rintro e w2 h2
  obtain ⟨sa2, sc2, rfl, hx2, hb2⟩ := h2.split
  have hb2' := hb2.alloc hb2.size (.cells #[.int .i64 X.kind, .int .i64 X.n, .string (mkB X.s), .slice sa2 X.l.length sc2] 27)
  have HX1b := Lib.hid (HX1.out.below hb2')
  have HT1b := Lib.hid (block_keep hb2' HT1.out)
  have HX2 := Lib.hid (hx2.below (belowA w2 (.cells #[.int .i64 X.kind, .int .i64 X.n, .string (mkB X.s), .slice sa2 X.l.length sc2] 27)))
  have HB2 := Lib.hid (HB1.out.trans (hb2'.mono HB1.out.size))
  have HT2 := Lib.hid (heapA_new (w := w2) (.cells #[.int .i64 X.kind, .int .i64 X.n, .string (mkB X.s), .slice sa2 X.l.length sc2] 27) rfl)
  clear h2 hx2 hb2 hb2' HN2 HN2b HX1 HT1 HB1
  go_wp2_with fail
  have HN3b := Lib.hid (HN3.out _ HB2.out)
  refine HN3b.out.mono ?_
  rintro e w3 h3
  obtain ⟨sa3, sc3, rfl, hx3, hb3⟩ := h3.split
  have hb3' := hb3.alloc hb3.size (.cells #[.int .i64 X.kind, .int .i64 X.n, .string (mkB X.s), .slice sa3 X.l.length sc3] 27)
  have HX1c := Lib.hid (HX1b.out.below hb3')
  have HT1c := Lib.hid (block_keep hb3' HT1b.out)
  have HX2c := Lib.hid (HX2.out.below hb3')
  have HT2c := Lib.hid (block_keep hb3' HT2.out)
  have HX3 := Lib.hid (hx3.below (belowA w3 (.cells #[.int .i64 X.kind, .int .i64 X.n, .string (mkB X.s), .slice sa3 X.l.length sc3] 27)))
  have HB3 := Lib.hid (HB2.out.trans (hb3'.mono HB2.out.size))
  have HT3 := Lib.hid (heapA_new (w := w3) (.cells #[.int .i64 X.kind, .int .i64 X.n, .string (mkB X.s), .slice sa3 X.l.length sc3] 27) rfl)
  clear h3 hx3 hb3 hb3' HN3 HN3b HX1b HX2 HT1b HT2 HB2
  go_upto_region 9 with fail
  generalize w3.alloc _ = W4 at *
  generalize w1.heap.size = r1 at *
  generalize w2.heap.size = r2 at *
  generalize w3.heap.size = r3 at *
  have HSA := Lib.hid (HS.out W4 _ _ HX1c.out HX2c.out)
  have HSB := Lib.hid (fun (W : World) (h : Below W4.heap.size W4 W) => HS.out W _ _ (HX1c.out.below h) (HX3.out.below h))
  clear HS HX1c HX2c HX3
  generalize X.kind = x0 at *
  generalize X.n = x1 at *
  generalize mkB X.s = x2 at *
  generalize X.l.length = xl at *
  obtain ⟨⟨k0, k1, k2, k3⟩, -⟩ := cells4 HT1c.out
  obtain ⟨⟨g0, g1, g2, g3⟩, -⟩ := cells4 HT2c.out
  go_wp2_with fail
  refine HSA.out.mono ?_
  rintro e w5 ⟨rfl, hb5⟩
  clear k0 k1 k2 k3 g0 g1 g2 g3
  obtain ⟨⟨k0, k1, k2, k3⟩, -⟩ := cells4 (block_keep hb5 HT1c.out)
  obtain ⟨⟨m0, m1, m2, m3⟩, -⟩ := cells4 (block_keep hb5 HT3.out)
  have HB5 := Lib.hid (HB3.out.trans (hb5.mono HB3.out.size))
  have HSC := Lib.hid (HSB.out w5 hb5)
  clear HSA HSB HB3 hb5 HT1c HT2c HT3
  go_wp2_with fail
  refine HSC.out.mono ?_
  rintro e w6 ⟨rfl, hb6⟩
  have HB6 := Lib.hid (HB5.out.trans (hb6.mono HB5.out.size))
  clear hb6 HSC HB5 k0 k1 k2 k3 m0 m1 m2 m3
  go_wp2_with (go_at_call 5; refine (HW.out _).mono ?_; rintro e w' ⟨rfl, hb⟩)
  go_ret
  exact ⟨rfl, HB6.out.trans (hb.mono HB6.out.size)⟩
end Go.Proofs.Ytmejhjgdofncfaa
